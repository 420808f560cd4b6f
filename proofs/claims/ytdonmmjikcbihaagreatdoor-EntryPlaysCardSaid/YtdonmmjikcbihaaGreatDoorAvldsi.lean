/- Package avl at [string, int]: the iterators. -/
import Derived.Test.YtdonmmjikcbihaaGreatDoorAvlcsi
namespace Go.Proofs.YtdonmmjikcbihaaGreatDoor
open Go.RowKit Go.Proofs Go.Vc
attribute [local irreducible] Calls CallsIn Code.wp Code.wpIn
/-- what is handed to yield -/
def encsi (x : ByteArray × Int) : Array Value := #[.string x.1, .int .i64 x.2]
set_option maxHeartbeats 2000000 in
theorem give_si (xs : List (Array Value)) (B l : Nat) (J X : Nat → World → Prop) (hJ : ∀ k W W', J k W → Bk B W W' → J k W')
    (hY : ∀ k (hk : k < xs.length) W, J k W → Yd Tryz.prog l xs[k] W fun v W' => KeepsFrom B W W' ∧ ((v = .bool true ∧ J (k + 1) W') ∨ (v = .bool false ∧ X (k + 1) W')))
    (t : T ByteArray Int) : (∀ k W, J k W → At Ssi W t) → ∀ k0, (∀ i (h : i < t.toList.length), xs[k0 + i]? = some (encsi t.toList[i])) → ∀ W, J k0 W →
    Calls Tryz.prog 71 #[.pointer t.ptr, .pointer none, .func (.yield l) #[] #[]] W (GiveP J X (k0 + t.toList.length) xs.length) := by
  induction t with
  | nil =>
    intro _ k0 _ W h
    simp only [T.ptr_nil]
    have H := Lib.hid h
    clear h hJ hY
    go_enter Tryz.func71, Tryz.ntmps71
    go_wp2_with fail
    go_ret
    exact .inl ⟨rfl, H.out⟩
  | node b k v tl tr ihl ihr =>
    intro hA k0 hseg W h
    have hc : ∀ k0 W, J k0 W → (∀ i, W.cell? ⟨b, i, none⟩ = (#[.string k, .int .i64 v, .pointer tl.ptr, .pointer tr.ptr, .int .i64 ((1 + max tl.ht tr.ht : Nat) : Int)] : Array Value)[i]?) := fun k0 W h => have hb := (hA k0 W h).1; blk_cell hb
    have hlen : (T.node b k v tl tr).toList.length = tl.toList.length + 1 + tr.toList.length := by simp [T.toList]; omega
    have hx : xs[k0 + tl.toList.length]? = some (encsi (k, v)) := by
      have := hseg tl.toList.length (by rw [hlen]; omega)
      rw [this]; simp [T.toList]
    have IL := Lib.hid (ihl (fun k W h => (hA k W h).2.1) k0 (fun i hi => by
      have := hseg i (by rw [hlen]; omega)
      rw [this]; simp only [T.toList]; rw [List.getElem_append_left hi]))
    have IR := Lib.hid (ihr (fun k W h => (hA k W h).2.2.1) (k0 + tl.toList.length + 1) (fun i hi => by
      have := hseg (tl.toList.length + 1 + i) (by rw [hlen]; omega)
      rw [show k0 + tl.toList.length + 1 + i = k0 + (tl.toList.length + 1 + i) from by omega, this]
      simp only [T.toList]
      rw [List.getElem_append_right (by omega)]
      simp [show tl.toList.length + 1 + i - tl.toList.length = i + 1 from by omega]))
    obtain ⟨hlt, hxe⟩ := List.getElem?_eq_some_iff.1 hx
    have HY := Lib.hid (fun W h => hxe ▸ hY (k0 + tl.toList.length) hlt W h)
    have HJ := Lib.hid hJ
    have HC := Lib.hid hc
    have HL := Lib.hid (And.intro hlen hlt)
    have hc0 := hc k0 W h
    have H := Lib.hid h
    simp only [T.ptr_node]
    clear ihl ihr hseg hA hY hJ hc hx hlt hxe hlen h
    go_enter Tryz.func71, Tryz.ntmps71
    go_wp2_with fail
    refine wp_drawE (way [0, 1, 2, 3, 4, 5, 6, 7, 8, 9, 10, 11]) (by kernel_rfl) (by kernel_rfl) (fun w1 hh hd hf hS => ?_)
    have H1 := Lib.hid (HJ.out _ _ _ H.out (Bk.of_heap hh hS.ost))
    have hc1 := HC.out _ _ H1.out
    clear hh hd hf hc0
    simp only [way]
    go_wp2_with (first | (refine' hl_q rfl rfl rfl (fun _ => ?_) ?_; rotate_left; (go_simp <;> (try go_bits) <;> rfl); (try simp only [Act.put, List.setIfInBounds_toArray, List.set_cons_zero, List.set_cons_succ])) | (refine' hl_rS rfl rfl rfl hS ?_ ?_; rotate_left; (intro w9 hS9; (first | have hc9 := Ext.cells hS9 | have hc9 := Keeps.cells hS9); (go_simp <;> rfl)); (try simp only [Act.put, List.setIfInBounds_toArray, List.set_cons_zero, List.set_cons_succ])) | (refine' hl_r rfl rfl rfl ?_ ?_; rotate_left; (rintro w9 (rfl | hS9); (go_simp <;> rfl); (first | have hc9 := Ext.cells hS9 | have hc9 := Keeps.cells hS9 | (try dsimp only at hS9)); (go_simp <;> rfl)); (try simp only [Act.put, List.setIfInBounds_toArray, List.set_cons_zero, List.set_cons_succ])) | (refine' hl_s rfl rfl ?_; (try simp only [Act.put, List.setIfInBounds_toArray, List.set_cons_zero, List.set_cons_succ])) | (refine hl_e rfl rfl rfl (fun K hK => ?_)) | (with_reducible refine And.intro (fun hn => ?_) ?_; (first | exact hS | exact Keeps.alloc hS _ | exact absurd hn (by rw [show needS _ _ = false from by kernel_rfl]; exact Bool.false_ne_true))) | (refine hl_done ?_) | gi_step)
    refine wp_draw (way [0, 1, 2, 3, 4, 5, 6, 7, 8, 9, 10, 11, 12, 13, 14, 15, 16, 17, 18, 19, 20, 21, 22, 23, 24, 25, 26, 27]) (fun w' => (∀ i, w'.cell? ⟨b, i, none⟩ = (#[.string k, .int .i64 v, .pointer tl.ptr, .pointer tr.ptr, .int .i64 ((1 + max tl.ht tr.ht : Nat) : Int)] : Array Value)[i]?)) (by kernel_rfl) (by kernel_rfl) (drew_as fun w2 ho2 hh2 hd2 hf2 => ?_)
    have H2 := Lib.hid (HJ.out _ _ _ H1.out (Bk.of_heap hh2 ho2))
    have hc2 := HC.out _ _ H2.out
    clear ho2 hh2 hd2 hf2 hc1 hS
    simp only [way]
    go_wp2_with (first | (refine' hl_q rfl rfl rfl (fun _ => ?_) ?_; rotate_left; (go_simp <;> (try go_bits) <;> rfl); (try simp only [Act.put, List.setIfInBounds_toArray, List.set_cons_zero, List.set_cons_succ])) | (refine' hl_rS rfl rfl rfl hS ?_ ?_; rotate_left; (intro w9 hS9; (first | have hc9 := Ext.cells hS9 | have hc9 := Keeps.cells hS9); (go_simp <;> rfl)); (try simp only [Act.put, List.setIfInBounds_toArray, List.set_cons_zero, List.set_cons_succ])) | (refine' hl_r rfl rfl rfl ?_ ?_; rotate_left; (rintro w9 (rfl | hS9); (go_simp <;> rfl); (first | have hc9 := Ext.cells hS9 | have hc9 := Keeps.cells hS9 | (try dsimp only at hS9)); (go_simp <;> rfl)); (try simp only [Act.put, List.setIfInBounds_toArray, List.set_cons_zero, List.set_cons_succ])) | (refine' hl_s rfl rfl ?_; (try simp only [Act.put, List.setIfInBounds_toArray, List.set_cons_zero, List.set_cons_succ])) | (refine hl_e rfl rfl rfl (fun K hK => ?_)) | (with_reducible refine And.intro (fun hn => ?_) ?_; (first | exact hS | exact Keeps.alloc hS _ | exact absurd hn (by rw [show needS _ _ = false from by kernel_rfl]; exact Bool.false_ne_true))) | (refine hl_done ?_) | gi_step)
    refine callsIn_wide.2 ((IL.out _ H2.out).mono ?_)
    rintro e9 w3 (⟨rfl, h3⟩ | ⟨rfl, h3⟩)
    · have hc3 := HC.out _ _ h3
      obtain ⟨fn, tmps, assign, body, hy, hR⟩ := HY.out _ h3
      simp only [encsi] at hy
      have HR := Lib.hid hR
      clear hR hc2 h3
      go_wp2_with (first | (refine' hl_q rfl rfl rfl (fun _ => ?_) ?_; rotate_left; (go_simp <;> (try go_bits) <;> rfl); (try simp only [Act.put, List.setIfInBounds_toArray, List.set_cons_zero, List.set_cons_succ])) | (refine' hl_rS rfl rfl rfl hS ?_ ?_; rotate_left; (intro w9 hS9; (first | have hc9 := Ext.cells hS9 | have hc9 := Keeps.cells hS9); (go_simp <;> rfl)); (try simp only [Act.put, List.setIfInBounds_toArray, List.set_cons_zero, List.set_cons_succ])) | (refine' hl_r rfl rfl rfl ?_ ?_; rotate_left; (rintro w9 (rfl | hS9); (go_simp <;> rfl); (first | have hc9 := Ext.cells hS9 | have hc9 := Keeps.cells hS9 | (try dsimp only at hS9)); (go_simp <;> rfl)); (try simp only [Act.put, List.setIfInBounds_toArray, List.set_cons_zero, List.set_cons_succ])) | (refine' hl_s rfl rfl ?_; (try simp only [Act.put, List.setIfInBounds_toArray, List.set_cons_zero, List.set_cons_succ])) | (refine hl_e rfl rfl rfl (fun K hK => ?_)) | (with_reducible refine And.intro (fun hn => ?_) ?_; (first | exact hS | exact Keeps.alloc hS _ | exact absurd hn (by rw [show needS _ _ = false from by kernel_rfl]; exact Bool.false_ne_true))) | (refine hl_done ?_) | gi_step)
      refine HR.out.mono ?_
      rintro e9 w4 ⟨v4, rfl, hkf, (⟨rfl, h4⟩ | ⟨rfl, h4⟩)⟩
      · have hc4 := HC.out _ _ h4
        have H4 := Lib.hid h4
        clear hy h4 hkf hc3
        go_wp2_with (first | (refine' hl_q rfl rfl rfl (fun _ => ?_) ?_; rotate_left; (go_simp <;> (try go_bits) <;> rfl); (try simp only [Act.put, List.setIfInBounds_toArray, List.set_cons_zero, List.set_cons_succ])) | (refine' hl_rS rfl rfl rfl hS ?_ ?_; rotate_left; (intro w9 hS9; (first | have hc9 := Ext.cells hS9 | have hc9 := Keeps.cells hS9); (go_simp <;> rfl)); (try simp only [Act.put, List.setIfInBounds_toArray, List.set_cons_zero, List.set_cons_succ])) | (refine' hl_r rfl rfl rfl ?_ ?_; rotate_left; (rintro w9 (rfl | hS9); (go_simp <;> rfl); (first | have hc9 := Ext.cells hS9 | have hc9 := Keeps.cells hS9 | (try dsimp only at hS9)); (go_simp <;> rfl)); (try simp only [Act.put, List.setIfInBounds_toArray, List.set_cons_zero, List.set_cons_succ])) | (refine' hl_s rfl rfl ?_; (try simp only [Act.put, List.setIfInBounds_toArray, List.set_cons_zero, List.set_cons_succ])) | (refine hl_e rfl rfl rfl (fun K hK => ?_)) | (with_reducible refine And.intro (fun hn => ?_) ?_; (first | exact hS | exact Keeps.alloc hS _ | exact absurd hn (by rw [show needS _ _ = false from by kernel_rfl]; exact Bool.false_ne_true))) | (refine hl_done ?_) | gi_step)
        refine callsIn_wide.2 ((IR.out _ H4.out).mono ?_)
        rintro e9 w5 (⟨rfl, h5⟩ | ⟨rfl, h5⟩)
        · have H5 := Lib.hid h5
          clear h5
          go_wp2_with (first | (refine' hl_q rfl rfl rfl (fun _ => ?_) ?_; rotate_left; (go_simp <;> (try go_bits) <;> rfl); (try simp only [Act.put, List.setIfInBounds_toArray, List.set_cons_zero, List.set_cons_succ])) | (refine' hl_rS rfl rfl rfl hS ?_ ?_; rotate_left; (intro w9 hS9; (first | have hc9 := Ext.cells hS9 | have hc9 := Keeps.cells hS9); (go_simp <;> rfl)); (try simp only [Act.put, List.setIfInBounds_toArray, List.set_cons_zero, List.set_cons_succ])) | (refine' hl_r rfl rfl rfl ?_ ?_; rotate_left; (rintro w9 (rfl | hS9); (go_simp <;> rfl); (first | have hc9 := Ext.cells hS9 | have hc9 := Keeps.cells hS9 | (try dsimp only at hS9)); (go_simp <;> rfl)); (try simp only [Act.put, List.setIfInBounds_toArray, List.set_cons_zero, List.set_cons_succ])) | (refine' hl_s rfl rfl ?_; (try simp only [Act.put, List.setIfInBounds_toArray, List.set_cons_zero, List.set_cons_succ])) | (refine hl_e rfl rfl rfl (fun K hK => ?_)) | (with_reducible refine And.intro (fun hn => ?_) ?_; (first | exact hS | exact Keeps.alloc hS _ | exact absurd hn (by rw [show needS _ _ = false from by kernel_rfl]; exact Bool.false_ne_true))) | (refine hl_done ?_) | gi_step)
          go_ret
          exact .inl ⟨rfl, by rw [HL.out.1, show k0 + (tl.toList.length + 1 + tr.toList.length) = k0 + tl.toList.length + 1 + tr.toList.length from by omega]; exact H5.out⟩
        · have H5 := Lib.hid h5
          clear h5
          go_wp2_with (first | (refine' hl_q rfl rfl rfl (fun _ => ?_) ?_; rotate_left; (go_simp <;> (try go_bits) <;> rfl); (try simp only [Act.put, List.setIfInBounds_toArray, List.set_cons_zero, List.set_cons_succ])) | (refine' hl_rS rfl rfl rfl hS ?_ ?_; rotate_left; (intro w9 hS9; (first | have hc9 := Ext.cells hS9 | have hc9 := Keeps.cells hS9); (go_simp <;> rfl)); (try simp only [Act.put, List.setIfInBounds_toArray, List.set_cons_zero, List.set_cons_succ])) | (refine' hl_r rfl rfl rfl ?_ ?_; rotate_left; (rintro w9 (rfl | hS9); (go_simp <;> rfl); (first | have hc9 := Ext.cells hS9 | have hc9 := Keeps.cells hS9 | (try dsimp only at hS9)); (go_simp <;> rfl)); (try simp only [Act.put, List.setIfInBounds_toArray, List.set_cons_zero, List.set_cons_succ])) | (refine' hl_s rfl rfl ?_; (try simp only [Act.put, List.setIfInBounds_toArray, List.set_cons_zero, List.set_cons_succ])) | (refine hl_e rfl rfl rfl (fun K hK => ?_)) | (with_reducible refine And.intro (fun hn => ?_) ?_; (first | exact hS | exact Keeps.alloc hS _ | exact absurd hn (by rw [show needS _ _ = false from by kernel_rfl]; exact Bool.false_ne_true))) | (refine hl_done ?_) | gi_step)
          go_ret
          exact .inr ⟨rfl, H5.out⟩
      · have H4 := Lib.hid h4
        clear hy h4 hkf hc3
        go_wp2_with (first | (refine' hl_q rfl rfl rfl (fun _ => ?_) ?_; rotate_left; (go_simp <;> (try go_bits) <;> rfl); (try simp only [Act.put, List.setIfInBounds_toArray, List.set_cons_zero, List.set_cons_succ])) | (refine' hl_rS rfl rfl rfl hS ?_ ?_; rotate_left; (intro w9 hS9; (first | have hc9 := Ext.cells hS9 | have hc9 := Keeps.cells hS9); (go_simp <;> rfl)); (try simp only [Act.put, List.setIfInBounds_toArray, List.set_cons_zero, List.set_cons_succ])) | (refine' hl_r rfl rfl rfl ?_ ?_; rotate_left; (rintro w9 (rfl | hS9); (go_simp <;> rfl); (first | have hc9 := Ext.cells hS9 | have hc9 := Keeps.cells hS9 | (try dsimp only at hS9)); (go_simp <;> rfl)); (try simp only [Act.put, List.setIfInBounds_toArray, List.set_cons_zero, List.set_cons_succ])) | (refine' hl_s rfl rfl ?_; (try simp only [Act.put, List.setIfInBounds_toArray, List.set_cons_zero, List.set_cons_succ])) | (refine hl_e rfl rfl rfl (fun K hK => ?_)) | (with_reducible refine And.intro (fun hn => ?_) ?_; (first | exact hS | exact Keeps.alloc hS _ | exact absurd hn (by rw [show needS _ _ = false from by kernel_rfl]; exact Bool.false_ne_true))) | (refine hl_done ?_) | gi_step)
        go_ret
        exact .inr ⟨rfl, _, HL.out.2, H4.out⟩
    · have H3 := Lib.hid h3
      clear h3
      go_wp2_with (first | (refine' hl_q rfl rfl rfl (fun _ => ?_) ?_; rotate_left; (go_simp <;> (try go_bits) <;> rfl); (try simp only [Act.put, List.setIfInBounds_toArray, List.set_cons_zero, List.set_cons_succ])) | (refine' hl_rS rfl rfl rfl hS ?_ ?_; rotate_left; (intro w9 hS9; (first | have hc9 := Ext.cells hS9 | have hc9 := Keeps.cells hS9); (go_simp <;> rfl)); (try simp only [Act.put, List.setIfInBounds_toArray, List.set_cons_zero, List.set_cons_succ])) | (refine' hl_r rfl rfl rfl ?_ ?_; rotate_left; (rintro w9 (rfl | hS9); (go_simp <;> rfl); (first | have hc9 := Ext.cells hS9 | have hc9 := Keeps.cells hS9 | (try dsimp only at hS9)); (go_simp <;> rfl)); (try simp only [Act.put, List.setIfInBounds_toArray, List.set_cons_zero, List.set_cons_succ])) | (refine' hl_s rfl rfl ?_; (try simp only [Act.put, List.setIfInBounds_toArray, List.set_cons_zero, List.set_cons_succ])) | (refine hl_e rfl rfl rfl (fun K hK => ?_)) | (with_reducible refine And.intro (fun hn => ?_) ?_; (first | exact hS | exact Keeps.alloc hS _ | exact absurd hn (by rw [show needS _ _ = false from by kernel_rfl]; exact Bool.false_ne_true))) | (refine hl_done ?_) | gi_step)
      go_ret
      exact .inr ⟨rfl, H3.out⟩
set_option maxHeartbeats 2000000 in
theorem givefrom_si (xs : List (Array Value)) (B l fb : Nat) (fk : ByteArray) (J X : Nat → World → Prop) (hJ : ∀ k W W', J k W → Bk B W W' → J k W')
    (hY : ∀ k (hk : k < xs.length) W, J k W → Yd Tryz.prog l xs[k] W fun v W' => KeepsFrom B W W' ∧ ((v = .bool true ∧ J (k + 1) W') ∨ (v = .bool false ∧ X (k + 1) W')))
    (hfb : ∀ k W, J k W → W.cell? ⟨fb, 0, none⟩ = some (.string fk))
    (t : T ByteArray Int) : (∀ k W, J k W → At Ssi W t) → ∀ k0, (∀ i (h : i < (t.since cmpS fk).length), xs[k0 + i]? = some (encsi (t.since cmpS fk)[i])) → ∀ W, J k0 W →
    Calls Tryz.prog 71 #[.pointer t.ptr, .pointer (some ⟨fb, 0, none⟩), .func (.yield l) #[] #[]] W (GiveP J X (k0 + (t.since cmpS fk).length) xs.length) := by
  induction t with
  | nil =>
    intro _ k0 _ W h
    simp only [T.ptr_nil]
    have H := Lib.hid h
    clear h hJ hY hfb
    go_enter Tryz.func71, Tryz.ntmps71
    go_wp2_with fail
    go_ret
    exact .inl ⟨rfl, H.out⟩
  | node b k v tl tr ihl ihr =>
    intro hA k0 hseg W h
    have hc : ∀ k0 W, J k0 W → (∀ i, W.cell? ⟨b, i, none⟩ = (#[.string k, .int .i64 v, .pointer tl.ptr, .pointer tr.ptr, .int .i64 ((1 + max tl.ht tr.ht : Nat) : Int)] : Array Value)[i]?) := fun k0 W h => have hb := (hA k0 W h).1; blk_cell hb
    have hcf := hfb k0 W h
    have hc0 := hc k0 W h
    cases hk : cmpS k fk with
    | lt =>
      obtain ⟨f1, f2, f3⟩ := cmpS_lt' hk
      have hp : (T.node b k v tl tr).since cmpS fk = tr.since cmpS fk := by rw [T.since, hk]
      rw [hp] at hseg ⊢
      have IR := Lib.hid (ihr (fun k W h => (hA k W h).2.2.1) k0 hseg)
      have HJ := Lib.hid hJ
      have HC := Lib.hid hc
      have H := Lib.hid h
      simp only [T.ptr_node]
      have HF := Lib.hid hfb
      clear ihl ihr hseg hA hY hJ hc h hk hp hfb
      go_enter Tryz.func71, Tryz.ntmps71
      go_wp2_with fail
      refine wp_drawE (way [0, 1, 2, 3, 4, 5, 6, 7, 8, 9, 10, 11]) (by kernel_rfl) (by kernel_rfl) (fun w1 hh hd hf hS => ?_)
      have H1 := Lib.hid (HJ.out _ _ _ H.out (Bk.of_heap hh hS.ost))
      have hc1 := HC.out _ _ H1.out
      have hcf1 := HF.out _ _ H1.out
      have hE := Lib.hid hS
      clear hh hd hf
      simp only [way]
      go_wp2_with (first | (refine' hl_q rfl rfl rfl (fun _ => ?_) ?_; rotate_left; (go_simp <;> (try go_bits) <;> rfl); (try simp only [Act.put, List.setIfInBounds_toArray, List.set_cons_zero, List.set_cons_succ])) | (refine' hl_rS rfl rfl rfl hS ?_ ?_; rotate_left; (intro w9 hS9; (first | have hc9 := Ext.cells hS9 | have hc9 := Keeps.cells hS9); (go_simp <;> rfl)); (try simp only [Act.put, List.setIfInBounds_toArray, List.set_cons_zero, List.set_cons_succ])) | (refine' hl_r rfl rfl rfl ?_ ?_; rotate_left; (rintro w9 (rfl | hS9); (go_simp <;> rfl); (first | have hc9 := Ext.cells hS9 | have hc9 := Keeps.cells hS9 | (try dsimp only at hS9)); (go_simp <;> rfl)); (try simp only [Act.put, List.setIfInBounds_toArray, List.set_cons_zero, List.set_cons_succ])) | (refine' hl_s rfl rfl ?_; (try simp only [Act.put, List.setIfInBounds_toArray, List.set_cons_zero, List.set_cons_succ])) | (refine hl_e rfl rfl rfl (fun K hK => ?_)) | (with_reducible refine And.intro (fun hn => ?_) ?_; (first | exact hS | exact Keeps.alloc hS _ | exact absurd hn (by rw [show needS _ _ = false from by kernel_rfl]; exact Bool.false_ne_true))) | (refine hl_done ?_) | gi_step)
      refine (IR.out _ H1.out).mono ?_
      rintro e9 w5 (⟨rfl, h5⟩ | ⟨rfl, h5⟩)
      · have H5 := Lib.hid h5
        clear h5
        go_wp2_with fail
        go_ret
        exact .inl ⟨rfl, H5.out⟩
      · have H5 := Lib.hid h5
        clear h5
        go_wp2_with fail
        go_ret
        exact .inr ⟨rfl, H5.out⟩
    | eq =>
      obtain ⟨f1, f2, f3⟩ := cmpS_eq' hk
      have hp : (T.node b k v tl tr).since cmpS fk = tl.since cmpS fk ++ (k, v) :: tr.toList := by rw [T.since, hk]
      rw [hp] at hseg ⊢
      have hlen : (tl.since cmpS fk ++ (k, v) :: tr.toList).length = (tl.since cmpS fk).length + 1 + tr.toList.length := by simp; omega
      have hx : xs[k0 + (tl.since cmpS fk).length]? = some (encsi (k, v)) := by
        have := hseg (tl.since cmpS fk).length (by rw [hlen]; omega)
        rw [this]; simp
      have IL := Lib.hid (ihl (fun k W h => (hA k W h).2.1) k0 (fun i hi => by
        have := hseg i (by rw [hlen]; omega)
        rw [this]; rw [List.getElem_append_left hi]))
      have IR := Lib.hid (give_si xs B l J X hJ hY tr (fun k W h => (hA k W h).2.2.1) (k0 + (tl.since cmpS fk).length + 1) (fun i hi => by
        have := hseg ((tl.since cmpS fk).length + 1 + i) (by rw [hlen]; omega)
        rw [show k0 + (tl.since cmpS fk).length + 1 + i = k0 + ((tl.since cmpS fk).length + 1 + i) from by omega, this]
        rw [List.getElem_append_right (by omega)]
        simp [show (tl.since cmpS fk).length + 1 + i - (tl.since cmpS fk).length = i + 1 from by omega]))
      obtain ⟨hlt, hxe⟩ := List.getElem?_eq_some_iff.1 hx
      have HY := Lib.hid (fun W h => hxe ▸ hY (k0 + (tl.since cmpS fk).length) hlt W h)
      have HJ := Lib.hid hJ
      have HC := Lib.hid hc
      have HL := Lib.hid (And.intro hlen hlt)
      have H := Lib.hid h
      have HF := Lib.hid hfb
      simp only [T.ptr_node]
      clear ihl ihr hseg hA hY hJ hc hx hlt hxe hlen h hk hp hfb
      go_enter Tryz.func71, Tryz.ntmps71
      go_wp2_with fail
      refine wp_drawE (way [0, 1, 2, 3, 4, 5, 6, 7, 8, 9, 10, 11]) (by kernel_rfl) (by kernel_rfl) (fun w1 hh hd hf hS => ?_)
      have H1 := Lib.hid (HJ.out _ _ _ H.out (Bk.of_heap hh hS.ost))
      have hc1 := HC.out _ _ H1.out
      have hcf1 := HF.out _ _ H1.out
      clear hh hd hf
      simp only [way]
      go_wp2_with (first | (refine' hl_q rfl rfl rfl (fun _ => ?_) ?_; rotate_left; (go_simp <;> (try go_bits) <;> rfl); (try simp only [Act.put, List.setIfInBounds_toArray, List.set_cons_zero, List.set_cons_succ])) | (refine' hl_rS rfl rfl rfl hS ?_ ?_; rotate_left; (intro w9 hS9; (first | have hc9 := Ext.cells hS9 | have hc9 := Keeps.cells hS9); (go_simp <;> rfl)); (try simp only [Act.put, List.setIfInBounds_toArray, List.set_cons_zero, List.set_cons_succ])) | (refine' hl_r rfl rfl rfl ?_ ?_; rotate_left; (rintro w9 (rfl | hS9); (go_simp <;> rfl); (first | have hc9 := Ext.cells hS9 | have hc9 := Keeps.cells hS9 | (try dsimp only at hS9)); (go_simp <;> rfl)); (try simp only [Act.put, List.setIfInBounds_toArray, List.set_cons_zero, List.set_cons_succ])) | (refine' hl_s rfl rfl ?_; (try simp only [Act.put, List.setIfInBounds_toArray, List.set_cons_zero, List.set_cons_succ])) | (refine hl_e rfl rfl rfl (fun K hK => ?_)) | (with_reducible refine And.intro (fun hn => ?_) ?_; (first | exact hS | exact Keeps.alloc hS _ | exact absurd hn (by rw [show needS _ _ = false from by kernel_rfl]; exact Bool.false_ne_true))) | (refine hl_done ?_) | gi_step)
      refine wp_draw (way [0, 1, 2, 3, 4, 5, 6, 7, 8, 9, 10, 11, 12, 13, 14, 15, 16, 17, 18, 19, 20, 21, 22, 23, 24, 25, 26, 27]) (fun w' => (∀ i, w'.cell? ⟨b, i, none⟩ = (#[.string k, .int .i64 v, .pointer tl.ptr, .pointer tr.ptr, .int .i64 ((1 + max tl.ht tr.ht : Nat) : Int)] : Array Value)[i]?)) (by kernel_rfl) (by kernel_rfl) (drew_as fun w2 ho2 hh2 hd2 hf2 => ?_)
      have H2 := Lib.hid (HJ.out _ _ _ H1.out (Bk.of_heap hh2 ho2))
      have hc2 := HC.out _ _ H2.out
      clear ho2 hh2 hd2 hf2 hc1 hS hc0 hcf hcf1
      simp only [way]
      go_wp2_with (first | (refine' hl_q rfl rfl rfl (fun _ => ?_) ?_; rotate_left; (go_simp <;> (try go_bits) <;> rfl); (try simp only [Act.put, List.setIfInBounds_toArray, List.set_cons_zero, List.set_cons_succ])) | (refine' hl_rS rfl rfl rfl hS ?_ ?_; rotate_left; (intro w9 hS9; (first | have hc9 := Ext.cells hS9 | have hc9 := Keeps.cells hS9); (go_simp <;> rfl)); (try simp only [Act.put, List.setIfInBounds_toArray, List.set_cons_zero, List.set_cons_succ])) | (refine' hl_r rfl rfl rfl ?_ ?_; rotate_left; (rintro w9 (rfl | hS9); (go_simp <;> rfl); (first | have hc9 := Ext.cells hS9 | have hc9 := Keeps.cells hS9 | (try dsimp only at hS9)); (go_simp <;> rfl)); (try simp only [Act.put, List.setIfInBounds_toArray, List.set_cons_zero, List.set_cons_succ])) | (refine' hl_s rfl rfl ?_; (try simp only [Act.put, List.setIfInBounds_toArray, List.set_cons_zero, List.set_cons_succ])) | (refine hl_e rfl rfl rfl (fun K hK => ?_)) | (with_reducible refine And.intro (fun hn => ?_) ?_; (first | exact hS | exact Keeps.alloc hS _ | exact absurd hn (by rw [show needS _ _ = false from by kernel_rfl]; exact Bool.false_ne_true))) | (refine hl_done ?_) | gi_step)
      refine callsIn_wide.2 ((IL.out _ H2.out).mono ?_)
      rintro e9 w3 (⟨rfl, h3⟩ | ⟨rfl, h3⟩)
      · have hc3 := HC.out _ _ h3
        obtain ⟨fn, tmps, assign, body, hy, hR⟩ := HY.out _ h3
        simp only [encsi] at hy
        have HR := Lib.hid hR
        clear hR hc2 h3
        go_wp2_with (first | (refine' hl_q rfl rfl rfl (fun _ => ?_) ?_; rotate_left; (go_simp <;> (try go_bits) <;> rfl); (try simp only [Act.put, List.setIfInBounds_toArray, List.set_cons_zero, List.set_cons_succ])) | (refine' hl_rS rfl rfl rfl hS ?_ ?_; rotate_left; (intro w9 hS9; (first | have hc9 := Ext.cells hS9 | have hc9 := Keeps.cells hS9); (go_simp <;> rfl)); (try simp only [Act.put, List.setIfInBounds_toArray, List.set_cons_zero, List.set_cons_succ])) | (refine' hl_r rfl rfl rfl ?_ ?_; rotate_left; (rintro w9 (rfl | hS9); (go_simp <;> rfl); (first | have hc9 := Ext.cells hS9 | have hc9 := Keeps.cells hS9 | (try dsimp only at hS9)); (go_simp <;> rfl)); (try simp only [Act.put, List.setIfInBounds_toArray, List.set_cons_zero, List.set_cons_succ])) | (refine' hl_s rfl rfl ?_; (try simp only [Act.put, List.setIfInBounds_toArray, List.set_cons_zero, List.set_cons_succ])) | (refine hl_e rfl rfl rfl (fun K hK => ?_)) | (with_reducible refine And.intro (fun hn => ?_) ?_; (first | exact hS | exact Keeps.alloc hS _ | exact absurd hn (by rw [show needS _ _ = false from by kernel_rfl]; exact Bool.false_ne_true))) | (refine hl_done ?_) | gi_step)
        refine HR.out.mono ?_
        rintro e9 w4 ⟨v4, rfl, hkf, (⟨rfl, h4⟩ | ⟨rfl, h4⟩)⟩
        · have hc4 := HC.out _ _ h4
          have H4 := Lib.hid h4
          clear hy h4 hkf hc3
          go_wp2_with (first | (refine' hl_q rfl rfl rfl (fun _ => ?_) ?_; rotate_left; (go_simp <;> (try go_bits) <;> rfl); (try simp only [Act.put, List.setIfInBounds_toArray, List.set_cons_zero, List.set_cons_succ])) | (refine' hl_rS rfl rfl rfl hS ?_ ?_; rotate_left; (intro w9 hS9; (first | have hc9 := Ext.cells hS9 | have hc9 := Keeps.cells hS9); (go_simp <;> rfl)); (try simp only [Act.put, List.setIfInBounds_toArray, List.set_cons_zero, List.set_cons_succ])) | (refine' hl_r rfl rfl rfl ?_ ?_; rotate_left; (rintro w9 (rfl | hS9); (go_simp <;> rfl); (first | have hc9 := Ext.cells hS9 | have hc9 := Keeps.cells hS9 | (try dsimp only at hS9)); (go_simp <;> rfl)); (try simp only [Act.put, List.setIfInBounds_toArray, List.set_cons_zero, List.set_cons_succ])) | (refine' hl_s rfl rfl ?_; (try simp only [Act.put, List.setIfInBounds_toArray, List.set_cons_zero, List.set_cons_succ])) | (refine hl_e rfl rfl rfl (fun K hK => ?_)) | (with_reducible refine And.intro (fun hn => ?_) ?_; (first | exact hS | exact Keeps.alloc hS _ | exact absurd hn (by rw [show needS _ _ = false from by kernel_rfl]; exact Bool.false_ne_true))) | (refine hl_done ?_) | gi_step)
          refine callsIn_wide.2 ((IR.out _ H4.out).mono ?_)
          rintro e9 w5 (⟨rfl, h5⟩ | ⟨rfl, h5⟩)
          · have H5 := Lib.hid h5
            clear h5
            go_wp2_with (first | (refine' hl_q rfl rfl rfl (fun _ => ?_) ?_; rotate_left; (go_simp <;> (try go_bits) <;> rfl); (try simp only [Act.put, List.setIfInBounds_toArray, List.set_cons_zero, List.set_cons_succ])) | (refine' hl_rS rfl rfl rfl hS ?_ ?_; rotate_left; (intro w9 hS9; (first | have hc9 := Ext.cells hS9 | have hc9 := Keeps.cells hS9); (go_simp <;> rfl)); (try simp only [Act.put, List.setIfInBounds_toArray, List.set_cons_zero, List.set_cons_succ])) | (refine' hl_r rfl rfl rfl ?_ ?_; rotate_left; (rintro w9 (rfl | hS9); (go_simp <;> rfl); (first | have hc9 := Ext.cells hS9 | have hc9 := Keeps.cells hS9 | (try dsimp only at hS9)); (go_simp <;> rfl)); (try simp only [Act.put, List.setIfInBounds_toArray, List.set_cons_zero, List.set_cons_succ])) | (refine' hl_s rfl rfl ?_; (try simp only [Act.put, List.setIfInBounds_toArray, List.set_cons_zero, List.set_cons_succ])) | (refine hl_e rfl rfl rfl (fun K hK => ?_)) | (with_reducible refine And.intro (fun hn => ?_) ?_; (first | exact hS | exact Keeps.alloc hS _ | exact absurd hn (by rw [show needS _ _ = false from by kernel_rfl]; exact Bool.false_ne_true))) | (refine hl_done ?_) | gi_step)
            go_ret
            exact .inl ⟨rfl, by rw [HL.out.1, show k0 + ((tl.since cmpS fk).length + 1 + tr.toList.length) = k0 + (tl.since cmpS fk).length + 1 + tr.toList.length from by omega]; exact H5.out⟩
          · have H5 := Lib.hid h5
            clear h5
            go_wp2_with (first | (refine' hl_q rfl rfl rfl (fun _ => ?_) ?_; rotate_left; (go_simp <;> (try go_bits) <;> rfl); (try simp only [Act.put, List.setIfInBounds_toArray, List.set_cons_zero, List.set_cons_succ])) | (refine' hl_rS rfl rfl rfl hS ?_ ?_; rotate_left; (intro w9 hS9; (first | have hc9 := Ext.cells hS9 | have hc9 := Keeps.cells hS9); (go_simp <;> rfl)); (try simp only [Act.put, List.setIfInBounds_toArray, List.set_cons_zero, List.set_cons_succ])) | (refine' hl_r rfl rfl rfl ?_ ?_; rotate_left; (rintro w9 (rfl | hS9); (go_simp <;> rfl); (first | have hc9 := Ext.cells hS9 | have hc9 := Keeps.cells hS9 | (try dsimp only at hS9)); (go_simp <;> rfl)); (try simp only [Act.put, List.setIfInBounds_toArray, List.set_cons_zero, List.set_cons_succ])) | (refine' hl_s rfl rfl ?_; (try simp only [Act.put, List.setIfInBounds_toArray, List.set_cons_zero, List.set_cons_succ])) | (refine hl_e rfl rfl rfl (fun K hK => ?_)) | (with_reducible refine And.intro (fun hn => ?_) ?_; (first | exact hS | exact Keeps.alloc hS _ | exact absurd hn (by rw [show needS _ _ = false from by kernel_rfl]; exact Bool.false_ne_true))) | (refine hl_done ?_) | gi_step)
            go_ret
            exact .inr ⟨rfl, H5.out⟩
        · have H4 := Lib.hid h4
          clear hy h4 hkf hc3
          go_wp2_with (first | (refine' hl_q rfl rfl rfl (fun _ => ?_) ?_; rotate_left; (go_simp <;> (try go_bits) <;> rfl); (try simp only [Act.put, List.setIfInBounds_toArray, List.set_cons_zero, List.set_cons_succ])) | (refine' hl_rS rfl rfl rfl hS ?_ ?_; rotate_left; (intro w9 hS9; (first | have hc9 := Ext.cells hS9 | have hc9 := Keeps.cells hS9); (go_simp <;> rfl)); (try simp only [Act.put, List.setIfInBounds_toArray, List.set_cons_zero, List.set_cons_succ])) | (refine' hl_r rfl rfl rfl ?_ ?_; rotate_left; (rintro w9 (rfl | hS9); (go_simp <;> rfl); (first | have hc9 := Ext.cells hS9 | have hc9 := Keeps.cells hS9 | (try dsimp only at hS9)); (go_simp <;> rfl)); (try simp only [Act.put, List.setIfInBounds_toArray, List.set_cons_zero, List.set_cons_succ])) | (refine' hl_s rfl rfl ?_; (try simp only [Act.put, List.setIfInBounds_toArray, List.set_cons_zero, List.set_cons_succ])) | (refine hl_e rfl rfl rfl (fun K hK => ?_)) | (with_reducible refine And.intro (fun hn => ?_) ?_; (first | exact hS | exact Keeps.alloc hS _ | exact absurd hn (by rw [show needS _ _ = false from by kernel_rfl]; exact Bool.false_ne_true))) | (refine hl_done ?_) | gi_step)
          go_ret
          exact .inr ⟨rfl, _, HL.out.2, H4.out⟩
      · have H3 := Lib.hid h3
        clear h3
        go_wp2_with (first | (refine' hl_q rfl rfl rfl (fun _ => ?_) ?_; rotate_left; (go_simp <;> (try go_bits) <;> rfl); (try simp only [Act.put, List.setIfInBounds_toArray, List.set_cons_zero, List.set_cons_succ])) | (refine' hl_rS rfl rfl rfl hS ?_ ?_; rotate_left; (intro w9 hS9; (first | have hc9 := Ext.cells hS9 | have hc9 := Keeps.cells hS9); (go_simp <;> rfl)); (try simp only [Act.put, List.setIfInBounds_toArray, List.set_cons_zero, List.set_cons_succ])) | (refine' hl_r rfl rfl rfl ?_ ?_; rotate_left; (rintro w9 (rfl | hS9); (go_simp <;> rfl); (first | have hc9 := Ext.cells hS9 | have hc9 := Keeps.cells hS9 | (try dsimp only at hS9)); (go_simp <;> rfl)); (try simp only [Act.put, List.setIfInBounds_toArray, List.set_cons_zero, List.set_cons_succ])) | (refine' hl_s rfl rfl ?_; (try simp only [Act.put, List.setIfInBounds_toArray, List.set_cons_zero, List.set_cons_succ])) | (refine hl_e rfl rfl rfl (fun K hK => ?_)) | (with_reducible refine And.intro (fun hn => ?_) ?_; (first | exact hS | exact Keeps.alloc hS _ | exact absurd hn (by rw [show needS _ _ = false from by kernel_rfl]; exact Bool.false_ne_true))) | (refine hl_done ?_) | gi_step)
        go_ret
        exact .inr ⟨rfl, H3.out⟩
    | gt =>
      obtain ⟨f1, f2, f3⟩ := cmpS_gt' hk
      have hp : (T.node b k v tl tr).since cmpS fk = tl.since cmpS fk ++ (k, v) :: tr.toList := by rw [T.since, hk]
      rw [hp] at hseg ⊢
      have hlen : (tl.since cmpS fk ++ (k, v) :: tr.toList).length = (tl.since cmpS fk).length + 1 + tr.toList.length := by simp; omega
      have hx : xs[k0 + (tl.since cmpS fk).length]? = some (encsi (k, v)) := by
        have := hseg (tl.since cmpS fk).length (by rw [hlen]; omega)
        rw [this]; simp
      have IL := Lib.hid (ihl (fun k W h => (hA k W h).2.1) k0 (fun i hi => by
        have := hseg i (by rw [hlen]; omega)
        rw [this]; rw [List.getElem_append_left hi]))
      have IR := Lib.hid (give_si xs B l J X hJ hY tr (fun k W h => (hA k W h).2.2.1) (k0 + (tl.since cmpS fk).length + 1) (fun i hi => by
        have := hseg ((tl.since cmpS fk).length + 1 + i) (by rw [hlen]; omega)
        rw [show k0 + (tl.since cmpS fk).length + 1 + i = k0 + ((tl.since cmpS fk).length + 1 + i) from by omega, this]
        rw [List.getElem_append_right (by omega)]
        simp [show (tl.since cmpS fk).length + 1 + i - (tl.since cmpS fk).length = i + 1 from by omega]))
      obtain ⟨hlt, hxe⟩ := List.getElem?_eq_some_iff.1 hx
      have HY := Lib.hid (fun W h => hxe ▸ hY (k0 + (tl.since cmpS fk).length) hlt W h)
      have HJ := Lib.hid hJ
      have HC := Lib.hid hc
      have HL := Lib.hid (And.intro hlen hlt)
      have H := Lib.hid h
      have HF := Lib.hid hfb
      simp only [T.ptr_node]
      clear ihl ihr hseg hA hY hJ hc hx hlt hxe hlen h hk hp hfb
      go_enter Tryz.func71, Tryz.ntmps71
      go_wp2_with fail
      refine wp_drawE (way [0, 1, 2, 3, 4, 5, 6, 7, 8, 9, 10, 11]) (by kernel_rfl) (by kernel_rfl) (fun w1 hh hd hf hS => ?_)
      have H1 := Lib.hid (HJ.out _ _ _ H.out (Bk.of_heap hh hS.ost))
      have hc1 := HC.out _ _ H1.out
      have hcf1 := HF.out _ _ H1.out
      clear hh hd hf
      simp only [way]
      go_wp2_with (first | (refine' hl_q rfl rfl rfl (fun _ => ?_) ?_; rotate_left; (go_simp <;> (try go_bits) <;> rfl); (try simp only [Act.put, List.setIfInBounds_toArray, List.set_cons_zero, List.set_cons_succ])) | (refine' hl_rS rfl rfl rfl hS ?_ ?_; rotate_left; (intro w9 hS9; (first | have hc9 := Ext.cells hS9 | have hc9 := Keeps.cells hS9); (go_simp <;> rfl)); (try simp only [Act.put, List.setIfInBounds_toArray, List.set_cons_zero, List.set_cons_succ])) | (refine' hl_r rfl rfl rfl ?_ ?_; rotate_left; (rintro w9 (rfl | hS9); (go_simp <;> rfl); (first | have hc9 := Ext.cells hS9 | have hc9 := Keeps.cells hS9 | (try dsimp only at hS9)); (go_simp <;> rfl)); (try simp only [Act.put, List.setIfInBounds_toArray, List.set_cons_zero, List.set_cons_succ])) | (refine' hl_s rfl rfl ?_; (try simp only [Act.put, List.setIfInBounds_toArray, List.set_cons_zero, List.set_cons_succ])) | (refine hl_e rfl rfl rfl (fun K hK => ?_)) | (with_reducible refine And.intro (fun hn => ?_) ?_; (first | exact hS | exact Keeps.alloc hS _ | exact absurd hn (by rw [show needS _ _ = false from by kernel_rfl]; exact Bool.false_ne_true))) | (refine hl_done ?_) | gi_step)
      refine wp_draw (way [0, 1, 2, 3, 4, 5, 6, 7, 8, 9, 10, 11, 12, 13, 14, 15, 16, 17, 18, 19, 20, 21, 22, 23, 24, 25, 26, 27]) (fun w' => (∀ i, w'.cell? ⟨b, i, none⟩ = (#[.string k, .int .i64 v, .pointer tl.ptr, .pointer tr.ptr, .int .i64 ((1 + max tl.ht tr.ht : Nat) : Int)] : Array Value)[i]?)) (by kernel_rfl) (by kernel_rfl) (drew_as fun w2 ho2 hh2 hd2 hf2 => ?_)
      have H2 := Lib.hid (HJ.out _ _ _ H1.out (Bk.of_heap hh2 ho2))
      have hc2 := HC.out _ _ H2.out
      clear ho2 hh2 hd2 hf2 hc1 hS hc0 hcf hcf1
      simp only [way]
      go_wp2_with (first | (refine' hl_q rfl rfl rfl (fun _ => ?_) ?_; rotate_left; (go_simp <;> (try go_bits) <;> rfl); (try simp only [Act.put, List.setIfInBounds_toArray, List.set_cons_zero, List.set_cons_succ])) | (refine' hl_rS rfl rfl rfl hS ?_ ?_; rotate_left; (intro w9 hS9; (first | have hc9 := Ext.cells hS9 | have hc9 := Keeps.cells hS9); (go_simp <;> rfl)); (try simp only [Act.put, List.setIfInBounds_toArray, List.set_cons_zero, List.set_cons_succ])) | (refine' hl_r rfl rfl rfl ?_ ?_; rotate_left; (rintro w9 (rfl | hS9); (go_simp <;> rfl); (first | have hc9 := Ext.cells hS9 | have hc9 := Keeps.cells hS9 | (try dsimp only at hS9)); (go_simp <;> rfl)); (try simp only [Act.put, List.setIfInBounds_toArray, List.set_cons_zero, List.set_cons_succ])) | (refine' hl_s rfl rfl ?_; (try simp only [Act.put, List.setIfInBounds_toArray, List.set_cons_zero, List.set_cons_succ])) | (refine hl_e rfl rfl rfl (fun K hK => ?_)) | (with_reducible refine And.intro (fun hn => ?_) ?_; (first | exact hS | exact Keeps.alloc hS _ | exact absurd hn (by rw [show needS _ _ = false from by kernel_rfl]; exact Bool.false_ne_true))) | (refine hl_done ?_) | gi_step)
      refine callsIn_wide.2 ((IL.out _ H2.out).mono ?_)
      rintro e9 w3 (⟨rfl, h3⟩ | ⟨rfl, h3⟩)
      · have hc3 := HC.out _ _ h3
        obtain ⟨fn, tmps, assign, body, hy, hR⟩ := HY.out _ h3
        simp only [encsi] at hy
        have HR := Lib.hid hR
        clear hR hc2 h3
        go_wp2_with (first | (refine' hl_q rfl rfl rfl (fun _ => ?_) ?_; rotate_left; (go_simp <;> (try go_bits) <;> rfl); (try simp only [Act.put, List.setIfInBounds_toArray, List.set_cons_zero, List.set_cons_succ])) | (refine' hl_rS rfl rfl rfl hS ?_ ?_; rotate_left; (intro w9 hS9; (first | have hc9 := Ext.cells hS9 | have hc9 := Keeps.cells hS9); (go_simp <;> rfl)); (try simp only [Act.put, List.setIfInBounds_toArray, List.set_cons_zero, List.set_cons_succ])) | (refine' hl_r rfl rfl rfl ?_ ?_; rotate_left; (rintro w9 (rfl | hS9); (go_simp <;> rfl); (first | have hc9 := Ext.cells hS9 | have hc9 := Keeps.cells hS9 | (try dsimp only at hS9)); (go_simp <;> rfl)); (try simp only [Act.put, List.setIfInBounds_toArray, List.set_cons_zero, List.set_cons_succ])) | (refine' hl_s rfl rfl ?_; (try simp only [Act.put, List.setIfInBounds_toArray, List.set_cons_zero, List.set_cons_succ])) | (refine hl_e rfl rfl rfl (fun K hK => ?_)) | (with_reducible refine And.intro (fun hn => ?_) ?_; (first | exact hS | exact Keeps.alloc hS _ | exact absurd hn (by rw [show needS _ _ = false from by kernel_rfl]; exact Bool.false_ne_true))) | (refine hl_done ?_) | gi_step)
        refine HR.out.mono ?_
        rintro e9 w4 ⟨v4, rfl, hkf, (⟨rfl, h4⟩ | ⟨rfl, h4⟩)⟩
        · have hc4 := HC.out _ _ h4
          have H4 := Lib.hid h4
          clear hy h4 hkf hc3
          go_wp2_with (first | (refine' hl_q rfl rfl rfl (fun _ => ?_) ?_; rotate_left; (go_simp <;> (try go_bits) <;> rfl); (try simp only [Act.put, List.setIfInBounds_toArray, List.set_cons_zero, List.set_cons_succ])) | (refine' hl_rS rfl rfl rfl hS ?_ ?_; rotate_left; (intro w9 hS9; (first | have hc9 := Ext.cells hS9 | have hc9 := Keeps.cells hS9); (go_simp <;> rfl)); (try simp only [Act.put, List.setIfInBounds_toArray, List.set_cons_zero, List.set_cons_succ])) | (refine' hl_r rfl rfl rfl ?_ ?_; rotate_left; (rintro w9 (rfl | hS9); (go_simp <;> rfl); (first | have hc9 := Ext.cells hS9 | have hc9 := Keeps.cells hS9 | (try dsimp only at hS9)); (go_simp <;> rfl)); (try simp only [Act.put, List.setIfInBounds_toArray, List.set_cons_zero, List.set_cons_succ])) | (refine' hl_s rfl rfl ?_; (try simp only [Act.put, List.setIfInBounds_toArray, List.set_cons_zero, List.set_cons_succ])) | (refine hl_e rfl rfl rfl (fun K hK => ?_)) | (with_reducible refine And.intro (fun hn => ?_) ?_; (first | exact hS | exact Keeps.alloc hS _ | exact absurd hn (by rw [show needS _ _ = false from by kernel_rfl]; exact Bool.false_ne_true))) | (refine hl_done ?_) | gi_step)
          refine callsIn_wide.2 ((IR.out _ H4.out).mono ?_)
          rintro e9 w5 (⟨rfl, h5⟩ | ⟨rfl, h5⟩)
          · have H5 := Lib.hid h5
            clear h5
            go_wp2_with (first | (refine' hl_q rfl rfl rfl (fun _ => ?_) ?_; rotate_left; (go_simp <;> (try go_bits) <;> rfl); (try simp only [Act.put, List.setIfInBounds_toArray, List.set_cons_zero, List.set_cons_succ])) | (refine' hl_rS rfl rfl rfl hS ?_ ?_; rotate_left; (intro w9 hS9; (first | have hc9 := Ext.cells hS9 | have hc9 := Keeps.cells hS9); (go_simp <;> rfl)); (try simp only [Act.put, List.setIfInBounds_toArray, List.set_cons_zero, List.set_cons_succ])) | (refine' hl_r rfl rfl rfl ?_ ?_; rotate_left; (rintro w9 (rfl | hS9); (go_simp <;> rfl); (first | have hc9 := Ext.cells hS9 | have hc9 := Keeps.cells hS9 | (try dsimp only at hS9)); (go_simp <;> rfl)); (try simp only [Act.put, List.setIfInBounds_toArray, List.set_cons_zero, List.set_cons_succ])) | (refine' hl_s rfl rfl ?_; (try simp only [Act.put, List.setIfInBounds_toArray, List.set_cons_zero, List.set_cons_succ])) | (refine hl_e rfl rfl rfl (fun K hK => ?_)) | (with_reducible refine And.intro (fun hn => ?_) ?_; (first | exact hS | exact Keeps.alloc hS _ | exact absurd hn (by rw [show needS _ _ = false from by kernel_rfl]; exact Bool.false_ne_true))) | (refine hl_done ?_) | gi_step)
            go_ret
            exact .inl ⟨rfl, by rw [HL.out.1, show k0 + ((tl.since cmpS fk).length + 1 + tr.toList.length) = k0 + (tl.since cmpS fk).length + 1 + tr.toList.length from by omega]; exact H5.out⟩
          · have H5 := Lib.hid h5
            clear h5
            go_wp2_with (first | (refine' hl_q rfl rfl rfl (fun _ => ?_) ?_; rotate_left; (go_simp <;> (try go_bits) <;> rfl); (try simp only [Act.put, List.setIfInBounds_toArray, List.set_cons_zero, List.set_cons_succ])) | (refine' hl_rS rfl rfl rfl hS ?_ ?_; rotate_left; (intro w9 hS9; (first | have hc9 := Ext.cells hS9 | have hc9 := Keeps.cells hS9); (go_simp <;> rfl)); (try simp only [Act.put, List.setIfInBounds_toArray, List.set_cons_zero, List.set_cons_succ])) | (refine' hl_r rfl rfl rfl ?_ ?_; rotate_left; (rintro w9 (rfl | hS9); (go_simp <;> rfl); (first | have hc9 := Ext.cells hS9 | have hc9 := Keeps.cells hS9 | (try dsimp only at hS9)); (go_simp <;> rfl)); (try simp only [Act.put, List.setIfInBounds_toArray, List.set_cons_zero, List.set_cons_succ])) | (refine' hl_s rfl rfl ?_; (try simp only [Act.put, List.setIfInBounds_toArray, List.set_cons_zero, List.set_cons_succ])) | (refine hl_e rfl rfl rfl (fun K hK => ?_)) | (with_reducible refine And.intro (fun hn => ?_) ?_; (first | exact hS | exact Keeps.alloc hS _ | exact absurd hn (by rw [show needS _ _ = false from by kernel_rfl]; exact Bool.false_ne_true))) | (refine hl_done ?_) | gi_step)
            go_ret
            exact .inr ⟨rfl, H5.out⟩
        · have H4 := Lib.hid h4
          clear hy h4 hkf hc3
          go_wp2_with (first | (refine' hl_q rfl rfl rfl (fun _ => ?_) ?_; rotate_left; (go_simp <;> (try go_bits) <;> rfl); (try simp only [Act.put, List.setIfInBounds_toArray, List.set_cons_zero, List.set_cons_succ])) | (refine' hl_rS rfl rfl rfl hS ?_ ?_; rotate_left; (intro w9 hS9; (first | have hc9 := Ext.cells hS9 | have hc9 := Keeps.cells hS9); (go_simp <;> rfl)); (try simp only [Act.put, List.setIfInBounds_toArray, List.set_cons_zero, List.set_cons_succ])) | (refine' hl_r rfl rfl rfl ?_ ?_; rotate_left; (rintro w9 (rfl | hS9); (go_simp <;> rfl); (first | have hc9 := Ext.cells hS9 | have hc9 := Keeps.cells hS9 | (try dsimp only at hS9)); (go_simp <;> rfl)); (try simp only [Act.put, List.setIfInBounds_toArray, List.set_cons_zero, List.set_cons_succ])) | (refine' hl_s rfl rfl ?_; (try simp only [Act.put, List.setIfInBounds_toArray, List.set_cons_zero, List.set_cons_succ])) | (refine hl_e rfl rfl rfl (fun K hK => ?_)) | (with_reducible refine And.intro (fun hn => ?_) ?_; (first | exact hS | exact Keeps.alloc hS _ | exact absurd hn (by rw [show needS _ _ = false from by kernel_rfl]; exact Bool.false_ne_true))) | (refine hl_done ?_) | gi_step)
          go_ret
          exact .inr ⟨rfl, _, HL.out.2, H4.out⟩
      · have H3 := Lib.hid h3
        clear h3
        go_wp2_with (first | (refine' hl_q rfl rfl rfl (fun _ => ?_) ?_; rotate_left; (go_simp <;> (try go_bits) <;> rfl); (try simp only [Act.put, List.setIfInBounds_toArray, List.set_cons_zero, List.set_cons_succ])) | (refine' hl_rS rfl rfl rfl hS ?_ ?_; rotate_left; (intro w9 hS9; (first | have hc9 := Ext.cells hS9 | have hc9 := Keeps.cells hS9); (go_simp <;> rfl)); (try simp only [Act.put, List.setIfInBounds_toArray, List.set_cons_zero, List.set_cons_succ])) | (refine' hl_r rfl rfl rfl ?_ ?_; rotate_left; (rintro w9 (rfl | hS9); (go_simp <;> rfl); (first | have hc9 := Ext.cells hS9 | have hc9 := Keeps.cells hS9 | (try dsimp only at hS9)); (go_simp <;> rfl)); (try simp only [Act.put, List.setIfInBounds_toArray, List.set_cons_zero, List.set_cons_succ])) | (refine' hl_s rfl rfl ?_; (try simp only [Act.put, List.setIfInBounds_toArray, List.set_cons_zero, List.set_cons_succ])) | (refine hl_e rfl rfl rfl (fun K hK => ?_)) | (with_reducible refine And.intro (fun hn => ?_) ?_; (first | exact hS | exact Keeps.alloc hS _ | exact absurd hn (by rw [show needS _ _ = false from by kernel_rfl]; exact Bool.false_ne_true))) | (refine hl_done ?_) | gi_step)
        go_ret
        exact .inr ⟨rfl, H3.out⟩

theorem seqfrom_si (t : T ByteArray Int) (fk : ByteArray) (B0 B1 b o : Nat) : Seq Tryz.prog 72 #[.pointer (some ⟨B0, 0, none⟩), .pointer (some ⟨B1, 0, none⟩)] ((t.since cmpS fk).map encsi)
    (fun W => W.cell? ⟨B0, 0, none⟩ = some (.pointer (some ⟨b, o, none⟩)) ∧ W.cell? ⟨B1, 0, none⟩ = some (.string fk) ∧ W.cell? ⟨b, o, none⟩ = some (.pointer t.ptr) ∧ At Ssi W t) := by
  intro B l J X W hB hJ hX hP hY h0
  obtain ⟨h1, h2, h3, h4⟩ := hP 0 W h0
  have hG := givefrom_si _ B l B1 fk J X hJ hY (fun k W h => (hP k W h).2.1) t (fun k W h => (hP k W h).2.2.2) 0 (fun i h => by simp [h]) W h0
  have HG := Lib.hid hG
  clear hG hY hP hJ hX h0 h4 h2
  go_enter Tryz.func72, Tryz.ntmps72
  go_wp2_with fail
  refine (top_si t _ b o h3).mono ?_
  rintro e9 w9 ⟨rfl, rfl⟩
  go_wp2_with fail
  refine HG.out.mono ?_
  rintro e9 w5 (⟨rfl, h5⟩ | ⟨rfl, h5⟩)
  · have H5 := Lib.hid h5
    clear h5
    go_wp2_with fail
    go_end0
    exact ⟨⟨_, rfl⟩, .inl (by have := H5.out; rwa [Nat.zero_add, ← List.length_map (f := encsi)] at this)⟩
  · have H5 := Lib.hid h5
    clear h5
    go_wp2_with fail
    go_end0
    exact ⟨⟨_, rfl⟩, .inr H5.out⟩
theorem from_si (w : World) (p : Option Addr) (fk : ByteArray) : Calls Tryz.prog 48 #[.pointer p, .string fk] w fun e w' =>
    e = .returned (.func (.func 72) #[] #[.pointer (some ⟨w.heap.size, 0, none⟩), .pointer (some ⟨w.heap.size + 1, 0, none⟩)]) ∧ w' = (w.alloc (.cells #[.pointer p] 88)).alloc (.cells #[.string fk] 9) := by
  go_enter Tryz.func48, Tryz.ntmps48
  go_wp2_with fail
  go_ret
  exact ⟨rfl, rfl⟩
theorem seqall_si (t : T ByteArray Int) (B0 b o : Nat) : Seq Tryz.prog 70 #[.pointer (some ⟨B0, 0, none⟩)] (t.toList.map encsi)
    (fun W => W.cell? ⟨B0, 0, none⟩ = some (.pointer (some ⟨b, o, none⟩)) ∧ W.cell? ⟨b, o, none⟩ = some (.pointer t.ptr) ∧ At Ssi W t) := by
  intro B l J X W hB hJ hX hP hY h0
  obtain ⟨h1, h3, h4⟩ := hP 0 W h0
  have hG := give_si _ B l J X hJ hY t (fun k W h => (hP k W h).2.2) 0 (fun i h => by simp [h]) W h0
  have HG := Lib.hid hG
  clear hG hY hP hJ hX h0 h4
  go_enter Tryz.func70, Tryz.ntmps70
  go_wp2_with fail
  refine (top_si t _ b o h3).mono ?_
  rintro e9 w9 ⟨rfl, rfl⟩
  go_wp2_with fail
  refine HG.out.mono ?_
  rintro e9 w5 (⟨rfl, h5⟩ | ⟨rfl, h5⟩)
  · have H5 := Lib.hid h5
    clear h5
    go_wp2_with fail
    go_end0
    exact ⟨⟨_, rfl⟩, .inl (by have := H5.out; rwa [Nat.zero_add, ← List.length_map (f := encsi)] at this)⟩
  · have H5 := Lib.hid h5
    clear h5
    go_wp2_with fail
    go_end0
    exact ⟨⟨_, rfl⟩, .inr H5.out⟩
theorem seqnil_si (B0 : Nat) : Seq Tryz.prog 70 #[.pointer (some ⟨B0, 0, none⟩)] [] (fun W => W.cell? ⟨B0, 0, none⟩ = some (.pointer none)) := by
  intro B l J X W hB hJ hX hP hY h0
  have h1 := hP 0 W h0
  have hG := give_si [] B l J X hJ hY .nil (fun _ _ _ => trivial) 0 (fun i h => by simp [T.toList] at h) W h0
  have HG := Lib.hid hG
  clear hG hY hP hJ hX h0
  go_enter Tryz.func70, Tryz.ntmps70
  go_wp2_with fail
  refine (topnil_si _).mono ?_
  rintro e9 w9 ⟨rfl, rfl⟩
  go_wp2_with fail
  refine HG.out.mono ?_
  rintro e9 w5 (⟨rfl, h5⟩ | ⟨rfl, h5⟩)
  · have H5 := Lib.hid h5
    clear h5
    go_wp2_with fail
    go_end0
    exact ⟨⟨_, rfl⟩, .inl H5.out⟩
  · have H5 := Lib.hid h5
    clear h5
    go_wp2_with fail
    go_end0
    exact ⟨⟨_, rfl⟩, .inr H5.out⟩
theorem all_si (w : World) (p : Option Addr) : Calls Tryz.prog 47 #[.pointer p] w fun e w' =>
    e = .returned (.func (.func 70) #[] #[.pointer (some ⟨w.heap.size, 0, none⟩)]) ∧ w' = w.alloc (.cells #[.pointer p] 88) := by
  go_enter Tryz.func47, Tryz.ntmps47
  go_wp2_with fail
  go_ret
  exact ⟨rfl, rfl⟩
end Go.Proofs.YtdonmmjikcbihaaGreatDoor
