/- The document's answers for entry: Apply. -/
import Derived.Test.YtdonmmjikcbihaaGreatDoorRef28
namespace Go.Proofs.YtdonmmjikcbihaaGreatDoor
open Go.RowKit Go.Proofs Go.Vc
attribute [local irreducible] Calls CallsIn Code.wp Code.wpIn
theorem rOut_cons {L L' : List Spn} {x : Spn} (l : List Spn) (h : takeOut L x = some L') : rOut L (x :: l) = rOut L' l := by simp only [rOut]; rw [h]
theorem rOut_none {L : List Spn} {x : Spn} (l : List Spn) (h : takeOut L x = none) : rOut L (x :: l) = none := by simp only [rOut]; rw [h]
theorem rIn_snoc (L l : List Spn) (x : Spn) : rIn L (l ++ [x]) = addIn (rIn L l) x := by unfold rIn; rw [List.foldl_append]; rfl
theorem takeOut_len {L L' : List Spn} {x : Spn} (h : takeOut L x = some L') : L'.length ≤ L.length := by
  unfold takeOut at h
  split at h
  · split at h
    · injection h with h; rw [← h]; exact List.length_eraseP_le
    · cases h
  · injection h with h; rw [h]; exact Nat.le_refl _
theorem rIn_len (L : List Spn) : ∀ l : List Spn, (rIn L l).length ≤ L.length + l.length := by
  intro l
  induction l generalizing L with
  | nil => exact Nat.le_refl _
  | cons x l ih =>
    have h1 := ih (addIn L x)
    have h2 : (addIn L x).length ≤ L.length + 1 := by unfold addIn; split <;> simp
    show (rIn (addIn L x) l).length ≤ _
    rw [List.length_cons]; omega
theorem erase_add {p : Spn → Bool} (y : Spn) : ∀ l : List Spn, (l.any p = true ∨ p y = false) → (l ++ [y]).eraseP p = l.eraseP p ++ [y]
  | [], h => by
    have hy : p y = false := by simpa using h
    rw [List.nil_append, List.eraseP_cons_of_neg (by rw [hy]; simp)]; rfl
  | a :: l, h => by
    by_cases ha : p a = true
    · rw [List.cons_append, List.eraseP_cons_of_pos ha, List.eraseP_cons_of_pos ha]
    · rw [List.cons_append, List.eraseP_cons_of_neg ha, List.eraseP_cons_of_neg ha, erase_add y l (by rw [List.any_cons] at h; simpa [ha] using h)]; rfl
theorem erase_hit {p : Spn → Bool} {y : Spn} (hy : p y = true) : ∀ l : List Spn, l.any p = false → (l ++ [y]).eraseP p = l.eraseP p
  | [], _ => by rw [List.nil_append, List.eraseP_cons_of_pos hy]; rfl
  | a :: l, h => by
    rw [List.any_cons, Bool.or_eq_false_iff] at h
    rw [List.cons_append, List.eraseP_cons_of_neg (by rw [h.1]; simp), List.eraseP_cons_of_neg (by rw [h.1]; simp), erase_hit hy l h.2]
/-- what the document's Apply leaves -/
def RApPost (ty : TypeId) (b : Nat) (vL : Value) (L out inn : List Spn) (w : World) (e : Ending) (w' : World) : Prop :=
  e = .returned (.bool (rApply L out inn).2) ∧ (∃ vL', w'.heap[b]? = some (.cells #[vL'] ty (0, 0)) ∧ SpnsAt w' vL' (rApply L out inn).1 ∧ (vL' = vL ∨ ∀ g, slBlock vL' = some g → w.heap.size ≤ g)) ∧ Keeps (fun i => i = b) w w'
set_option maxHeartbeats 2000000 in
set_option maxRecDepth 20000 in
theorem rapply_i (ty : TypeId) (b : Nat) (vL vo vi : Value) (L out inn : List Spn) (w : World) (hb : w.heap[b]? = some (.cells #[vL] ty (0, 0))) (hL : SpnsAt w vL L) (ho : SpnsAt w vo out) (hi : SpnsAt w vi inn)
    (hbL : slBlock vL ≠ some b) (hfo : ∀ x ∈ out, x.Fits ∧ Shrt x) (hfi : ∀ x ∈ inn, x.Fits ∧ Shrt x) (hlL : L.length ≤ 10000) (hlo : out.length ≤ 100) (hli : inn.length ≤ 100) :
    Calls Tryz.prog 10 #[.pointer (some ⟨b, 0, none⟩), .agg #[vo, vi]] w (RApPost ty b vL L out inn w) := by
  have ho' := ho
  have hi' := hi
  obtain ⟨ao, capo, rfl, hno, h0o, hju⟩ := ho'
  obtain ⟨ai, capi, rfl, hni, h0i, hjv⟩ := hi'
  obtain ⟨no, hnl⟩ : ∃ n, n = out.length := ⟨_, rfl⟩
  obtain ⟨ni, hnl2⟩ : ∃ n, n = inn.length := ⟨_, rfl⟩
  rw [← hnl] at ho
  rw [← hnl2] at hi
  rw [← hnl, ← hnl2]
  have HNL := Lib.hid (And.intro hnl hnl2)
  have hno2 : (no : Int) ≤ 100 := by omega
  have hni2 : (ni : Int) ≤ 100 := by omega
  clear hno h0o hni h0i hnl hnl2 hju hjv
  obtain ⟨wa, hwa⟩ : ∃ wa, wa = w.alloc (.cells #[.slice ao no capo, .slice ai ni capi] 36) := ⟨_, rfl⟩
  have hE : Ext w wa := by rw [hwa]; exact (Keeps.refl _ w).alloc _
  have hNw : wa.heap[w.heap.size]? = some (.cells #[.slice ao no capo, .slice ai ni capi] 36 (0, 0)) := by rw [hwa]; exact World.alloc_heap_new w _
  obtain ⟨c, hc0⟩ : ∃ c, c = w.heap.size := ⟨_, rfl⟩
  rw [← hc0] at hNw
  have HO := Lib.hid (show ∀ wr, Ext wa wr → SpnsAt wr (.slice ao no capo) out from fun wr k => (ho.ext hE).ext k)
  have HI := Lib.hid (show ∀ wr, Ext wa wr → SpnsAt wr (.slice ai ni capi) inn from fun wr k => (hi.ext hE).ext k)
  have HF := Lib.hid (And.intro hfo (And.intro hfi (And.intro hlo (And.intro hli hlL))))
  have HC := Lib.hid (show ∀ wr, Ext wa wr → wr.heap[c]? = some (.cells #[.slice ao no capo, .slice ai ni capi] 36 (0, 0)) ∧ wr.heap[b]? = some (.cells #[vL] ty (0, 0)) from fun wr k => ⟨(Ext.same k (lt_of_heap hNw)).trans hNw, (Ext.same (hE.trans k) (lt_of_heap hb)).trans hb⟩)
  have HLL := Lib.hid (And.intro (hL.ext hE) (And.intro hE hbL))
  have HCW := Lib.hid hc0
  have hcw := blk_cell hNw
  clear hE ho hi hfo hfi hlo hli hNw hb hL hlL hbL
  obtain ⟨ro, hro⟩ : ∃ r, r = out.all may := ⟨_, rfl⟩
  obtain ⟨ri, hri⟩ : ∃ r, r = inn.all may := ⟨_, rfl⟩
  have HR := Lib.hid (And.intro hro hri)
  have HQ0 := Lib.hid (show ∀ wr r, Ext wa wr → (rApply L out inn) = (L, r) → RApPost ty b vL L out inn w (.returned (.bool r)) wr from fun wr r k hr => by
    unfold RApPost
    rw [hr]
    exact ⟨rfl, ⟨vL, (HC.out wr k).2, HLL.out.1.ext k, .inl rfl⟩, (HLL.out.2.1.trans k).mono fun _ _ hf => hf.elim⟩)
  go_enter Tryz.func10, Tryz.ntmps10
  go_wp2_with fail
  rw [← hwa, ← hc0]
  clear hwa hc0
  refine (rmayl_i (.slice ao no capo) out _ (HO.out wa (Keeps.refl _ wa)) HF.out.1).mono ?_
  rintro e9 w1 ⟨rfl, hE1⟩
  rw [← hro]
  have HE1 := Lib.hid hE1
  have hc1 := blk_cell (HC.out w1 hE1).1
  clear hE1 hro
  cases ro
  · go_wp2_with fail
    go_ret
    exact HQ0.out _ _ HE1.out (by unfold rApply; rw [← HR.out.1, Bool.false_and]; rfl)
  go_wp2_with fail
  refine (rmayl_i (.slice ai ni capi) inn _ (HI.out w1 HE1.out) HF.out.2.1).mono ?_
  rintro e9 w2 ⟨rfl, hE2⟩
  rw [← hri]
  have HE2 := Lib.hid (HE1.out.trans hE2)
  have hc2 := blk_cell (HC.out w2 HE2.out).1
  clear hE2 hri hc1 hcw
  cases ri
  · go_wp2_with fail
    go_ret
    exact HQ0.out _ _ HE2.out (by unfold rApply; rw [← HR.out.2, Bool.and_false]; rfl)
  have HVA := Lib.hid (show rApply L out inn = (match rOut L out with | some L' => (rIn L' inn, true) | none => (L, false)) from by unfold rApply; rw [← HR.out.1, ← HR.out.2]; rfl)
  have hb2 := blk_cell (HC.out w2 HE2.out).2
  go_wp2_with fail
  go_loopg [5, 6] no (fun k p5 p6 wr => ∃ (j : Nat) (Lj : List Spn), p6 = .int .i64 j ∧ j + k = no ∧ Ext wa wr ∧ SpnsAt wr p5 Lj ∧ Lj.length ≤ L.length ∧ rOut L out = rOut Lj (out.drop j))
  case atStart => exact ⟨0, L, rfl, Nat.zero_add _, HE2.out, HLL.out.1.ext HE2.out, Nat.le_refl _, by simp⟩
  case round =>
    obtain ⟨j, Lj, rfl, hj, hE, hSj, hlen, hro⟩ := hrel
    have hSj' := hSj
    obtain ⟨aj, capj, rfl, hnj, _, hjk⟩ := hSj'
    obtain ⟨nj, hnjl⟩ : ∃ n, n = Lj.length := ⟨_, rfl⟩
    rw [← hnjl] at hSj hnj
    rw [← hnjl]
    clear hjk
    have hcr := blk_cell (HC.out wr hE).1
    have hbr := blk_cell (HC.out wr hE).2
    by_cases hjn : (j : Int) < no
    · have hjl : j < out.length := by rw [← HNL.out.1]; omega
      obtain ⟨g, o, rfl, hc9⟩ := (HO.out wr hE).at hjl
      have hy := hc9 j hjl
      obtain ⟨x, hxl⟩ : ∃ x, x = out[j] := ⟨_, rfl⟩
      rw [← hxl] at hy
      have HX := Lib.hid (And.intro (show ∀ wr, Ext wa wr → C9 wr g (o + j * 9) x from fun wr k => by
        have h9 := (HO.out wr k).at hjl
        obtain ⟨g', o', e', h9⟩ := h9
        injection e' with e'
        injection e' with e1 e2 _
        subst e1; subst e2
        rw [hxl]; exact h9 j hjl) (show out.drop j = x :: out.drop (j + 1) from by rw [hxl]; exact List.drop_eq_getElem_cons hjl))
      unfold C9 at hy
      have HJ := Lib.hid (And.intro hE (And.intro hSj (And.intro hnjl (And.intro hlen hro))))
      clear hc9 hxl hE hSj hnjl hlen hro
      by_cases hp : x.pa = 0
      · have hp3 : (x.pa != 0) = false := by simpa using hp
        have HP := Lib.hid hp
        clear hp
        go_wp2_with fail
        obtain ⟨w0, hw0⟩ : ∃ w0, w0 = wr := ⟨_, rfl⟩
        subst hw0
        obtain ⟨gk0, hgk0⟩ : ∃ g, g = gk := ⟨_, rfl⟩
        subst hgk0
        go_loopg [7, 8, 9] nj (fun k p7 p8 p9 wq => ∃ (i : Nat), p9 = .int .i64 i ∧ i + k = nj ∧ Ext w0 wq ∧ spnE.Own w0.heap.size p7 ((Lj.take i).eraseP fun y => alike y x) wq ∧ p8 = .bool ((Lj.take i).any fun y => alike y x))
        case atStart => exact ⟨0, rfl, Nat.zero_add _, Keeps.refl _ _, Ek.Own.nil spnE _ _, rfl⟩
        case round =>
          obtain ⟨i, rfl, hi, hEq, hown, rfl⟩ := hrel
          obtain ⟨gone, hgo⟩ : ∃ gn, gn = (Lj.take i).any fun y => alike y x := ⟨_, rfl⟩
          rw [← hgo]
          have hEw := HJ.out.1.trans hEq
          by_cases hij : (i : Int) < nj
          · have hil : i < Lj.length := by rw [← HJ.out.2.2.1]; omega
            obtain ⟨g2, o2, rfl, hc92⟩ := (HJ.out.2.1.ext hEq).at hil
            have hz := hc92 i hil
            obtain ⟨y, hyl⟩ : ∃ y, y = Lj[i] := ⟨_, rfl⟩
            rw [← hyl] at hz
            have hx := HX.out.1 wr hEw
            have hcq := blk_cell (HC.out wr hEw).1
            have HZ := Lib.hid (And.intro hz (And.intro hx (And.intro (HC.out wr hEw).1 (And.intro hEw (And.intro hEq (And.intro hown (And.intro hgo (show Lj.take (i + 1) = Lj.take i ++ [y] from by rw [hyl]; exact (List.take_append_getElem hil).symm))))))))
            unfold C9 at hz hx
            clear hc92 hyl hEw hEq hown hgo hy hcr hbr
            have hcap : i < 100000 := by have := HF.out.2.2.2.2; have := HJ.out.2.2.2.1; omega
            cases gone
            · go_wp2_with fail
              refine wp_drawE (way [0, 1, 2, 3, 4, 5, 6, 7, 8, 9, 10, 11, 12, 13]) (by kernel_rfl) (by kernel_rfl) (fun w1 hh hd hf hS => ?_)
              have hz1 := HZ.out.1.keeps hS (fun hf => hf)
              have hx1 := HZ.out.2.1.keeps hS (fun hf => hf)
              have hc1 := blk_cell ((Ext.same hS (lt_of_heap HZ.out.2.2.1)).trans HZ.out.2.2.1)
              unfold C9 at hz1 hx1
              simp only [way]
              go_wp2_with (first | (refine' hl_q rfl rfl rfl (fun _ => ?_) ?_; rotate_left; (go_simp <;> (try go_bits) <;> rfl); (try simp only [Act.put, List.setIfInBounds_toArray, List.set_cons_zero, List.set_cons_succ])) | (refine' hl_rS rfl rfl rfl hS ?_ ?_; rotate_left; (intro w9 hS9; (first | have hc9 := Ext.cells hS9 | have hc9 := Keeps.cells hS9); (go_simp <;> rfl)); (try simp only [Act.put, List.setIfInBounds_toArray, List.set_cons_zero, List.set_cons_succ])) | (refine' hl_r rfl rfl rfl ?_ ?_; rotate_left; (rintro w9 (rfl | hS9); (go_simp <;> rfl); (first | have hc9 := Ext.cells hS9 | have hc9 := Keeps.cells hS9 | (try dsimp only at hS9)); (go_simp <;> rfl)); (try simp only [Act.put, List.setIfInBounds_toArray, List.set_cons_zero, List.set_cons_succ])) | (refine' hl_s rfl rfl ?_; (try simp only [Act.put, List.setIfInBounds_toArray, List.set_cons_zero, List.set_cons_succ])) | (refine hl_e rfl rfl rfl (fun K hK => ?_)) | (with_reducible refine And.intro (fun hn => ?_) ?_; (first | exact hS | exact Keeps.alloc hS _ | exact absurd hn (by rw [show needS _ _ = false from by kernel_rfl]; exact Bool.false_ne_true))) | (refine hl_done ?_) | gi_step)
              refine callsIn_wide.2 ((one_i y x _).mono ?_)
              rintro e9 w3 ⟨rfl, hE3⟩
              have hS3 := hS.trans hE3
              clear hS hE3
              have hS := hS3
              clear hS3 hz1 hx1 hc1 hh hd hf
              have hz3 := HZ.out.1.keeps hS (fun hf => hf)
              unfold C9 at hz3
              have HE3 := Lib.hid (HZ.out.2.2.2.2.1.trans hS)
              have HOW := Lib.hid (HZ.out.2.2.2.2.2.1.ext spnE hS)
              cases hal : alike y x
              · have HAL := Lib.hid hal
                clear hal
                go_wp2_with (first | (at_builtin; (refine Ek.app' spnE rfl _ _ rfl w0.heap.size u7 ((Lj.take i).eraseP fun y => alike y x) [y] rfl (HOW.out.ext spnE ((Keeps.refl _ _).alloc _)) (Ek.reads_new spnE _ y _ _ rfl) ?c1 ?c2 ?_)) | (refine' hl_q rfl rfl rfl (fun _ => ?_) ?_; rotate_left; (go_simp <;> (try go_bits) <;> rfl); (try simp only [Act.put, List.setIfInBounds_toArray, List.set_cons_zero, List.set_cons_succ])) | (refine' hl_rS rfl rfl rfl hS ?_ ?_; rotate_left; (intro w9 hS9; (first | have hc9 := Ext.cells hS9 | have hc9 := Keeps.cells hS9); (go_simp <;> rfl)); (try simp only [Act.put, List.setIfInBounds_toArray, List.set_cons_zero, List.set_cons_succ])) | (refine' hl_r rfl rfl rfl ?_ ?_; rotate_left; (rintro w9 (rfl | hS9); (go_simp <;> rfl); (first | have hc9 := Ext.cells hS9 | have hc9 := Keeps.cells hS9 | (try dsimp only at hS9)); (go_simp <;> rfl)); (try simp only [Act.put, List.setIfInBounds_toArray, List.set_cons_zero, List.set_cons_succ])) | (refine' hl_s rfl rfl ?_; (try simp only [Act.put, List.setIfInBounds_toArray, List.set_cons_zero, List.set_cons_succ])) | (refine hl_e rfl rfl rfl (fun K hK => ?_)) | (with_reducible refine And.intro (fun hn => ?_) ?_; (first | exact hS | exact Keeps.alloc hS _ | exact absurd hn (by rw [show needS _ _ = false from by kernel_rfl]; exact Bool.false_ne_true))) | (refine hl_done ?_) | gi_step)
                case c1 =>
                  have h1 : ((Lj.take i).eraseP fun y => alike y x).length ≤ (Lj.take i).length := List.length_eraseP_le
                  rw [List.length_take] at h1
                  simp only [List.length_singleton]; omega
                case c2 =>
                  exact Nat.le_trans HE3.out.size ((Keeps.refl Non w3).alloc _).size
                intro v8 w8 hown8 hgr8 _ _
                have H8 := Lib.hid (And.intro hown8 (HOW.out.grow spnE HE3.out (Nat.le_refl _) (⟨Nat.le_trans ((Keeps.refl Non w3).alloc (.cells (spnC y) 48)).size hgr8.size, fun i hi hf => (hgr8.same i (Nat.lt_of_lt_of_le hi ((Keeps.refl Non w3).alloc (.cells (spnC y) 48)).size) hf).trans (Ext.same ((Keeps.refl Non w3).alloc (.cells (spnC y) 48)) hi), (((Keeps.refl Non w3).alloc (.cells (spnC y) 48)).ost).trans hgr8.ost⟩)))
                clear hown8 hgr8
                go_wp2_with fail
                go_roundg (gk - 1)
                case measure => omega
                case rel => exact ⟨i + 1, by simp, by omega, H8.out.2, by rw [HZ.out.2.2.2.2.2.2.2, erase_add y _ (.inr HAL.out)]; exact H8.out.1, by rw [HZ.out.2.2.2.2.2.2.2, List.any_append, ← HZ.out.2.2.2.2.2.2.1]; simp [HAL.out]⟩
              · have HAL := Lib.hid hal
                clear hal
                go_wp2_with (first | (refine' hl_q rfl rfl rfl (fun _ => ?_) ?_; rotate_left; (go_simp <;> (try go_bits) <;> rfl); (try simp only [Act.put, List.setIfInBounds_toArray, List.set_cons_zero, List.set_cons_succ])) | (refine' hl_rS rfl rfl rfl hS ?_ ?_; rotate_left; (intro w9 hS9; (first | have hc9 := Ext.cells hS9 | have hc9 := Keeps.cells hS9); (go_simp <;> rfl)); (try simp only [Act.put, List.setIfInBounds_toArray, List.set_cons_zero, List.set_cons_succ])) | (refine' hl_r rfl rfl rfl ?_ ?_; rotate_left; (rintro w9 (rfl | hS9); (go_simp <;> rfl); (first | have hc9 := Ext.cells hS9 | have hc9 := Keeps.cells hS9 | (try dsimp only at hS9)); (go_simp <;> rfl)); (try simp only [Act.put, List.setIfInBounds_toArray, List.set_cons_zero, List.set_cons_succ])) | (refine' hl_s rfl rfl ?_; (try simp only [Act.put, List.setIfInBounds_toArray, List.set_cons_zero, List.set_cons_succ])) | (refine hl_e rfl rfl rfl (fun K hK => ?_)) | (with_reducible refine And.intro (fun hn => ?_) ?_; (first | exact hS | exact Keeps.alloc hS _ | exact absurd hn (by rw [show needS _ _ = false from by kernel_rfl]; exact Bool.false_ne_true))) | (refine hl_done ?_) | gi_step)
                go_roundg (gk - 1)
                case measure => omega
                case rel => exact ⟨i + 1, by simp, by omega, HE3.out, by rw [HZ.out.2.2.2.2.2.2.2, erase_hit (p := fun y => alike y x) HAL.out _ HZ.out.2.2.2.2.2.2.1.symm]; exact HOW.out, by rw [HZ.out.2.2.2.2.2.2.2, List.any_append]; simp [HAL.out]⟩
            · go_wp2_with fail
              refine wp_drawE (way [0, 1, 2, 3, 4, 5, 6, 7, 8, 9, 10, 11, 12, 13]) (by kernel_rfl) (by kernel_rfl) (fun w1 hh hd hf hS => ?_)
              have HE3 := Lib.hid (HZ.out.2.2.2.2.1.trans hS)
              have HOW := Lib.hid (HZ.out.2.2.2.2.2.1.ext spnE hS)
              have hz1 := HZ.out.1.keeps hS (fun hf => hf)
              unfold C9 at hz1
              clear hh hd hf
              simp only [way]
              go_wp2_with (first | (at_builtin; refine Ek.app' spnE rfl _ _ rfl w0.heap.size u7 ((Lj.take i).eraseP fun y => alike y x) [y] rfl (HOW.out.ext spnE ((Keeps.refl _ _).alloc _)) (Ek.reads_new spnE _ y _ _ rfl) ?c1 ?c2 ?_) | (refine' hl_q rfl rfl rfl (fun _ => ?_) ?_; rotate_left; (go_simp <;> (try go_bits) <;> rfl); (try simp only [Act.put, List.setIfInBounds_toArray, List.set_cons_zero, List.set_cons_succ])) | (refine' hl_rS rfl rfl rfl hS ?_ ?_; rotate_left; (intro w9 hS9; (first | have hc9 := Ext.cells hS9 | have hc9 := Keeps.cells hS9); (go_simp <;> rfl)); (try simp only [Act.put, List.setIfInBounds_toArray, List.set_cons_zero, List.set_cons_succ])) | (refine' hl_r rfl rfl rfl ?_ ?_; rotate_left; (rintro w9 (rfl | hS9); (go_simp <;> rfl); (first | have hc9 := Ext.cells hS9 | have hc9 := Keeps.cells hS9 | (try dsimp only at hS9)); (go_simp <;> rfl)); (try simp only [Act.put, List.setIfInBounds_toArray, List.set_cons_zero, List.set_cons_succ])) | (refine' hl_s rfl rfl ?_; (try simp only [Act.put, List.setIfInBounds_toArray, List.set_cons_zero, List.set_cons_succ])) | (refine hl_e rfl rfl rfl (fun K hK => ?_)) | (with_reducible refine And.intro (fun hn => ?_) ?_; (first | exact hS | exact Keeps.alloc hS _ | exact absurd hn (by rw [show needS _ _ = false from by kernel_rfl]; exact Bool.false_ne_true))) | (refine hl_done ?_) | gi_step)
              case c1 =>
                have h1 : ((Lj.take i).eraseP fun y => alike y x).length ≤ (Lj.take i).length := List.length_eraseP_le
                rw [List.length_take] at h1
                simp only [List.length_singleton]; omega
              case c2 =>
                exact Nat.le_trans HE3.out.size ((Keeps.refl Non w1).alloc _).size
              intro v8 w8 hown8 hgr8 _ _
              have H8 := Lib.hid (And.intro hown8 (HOW.out.grow spnE HE3.out (Nat.le_refl _) (⟨Nat.le_trans ((Keeps.refl Non w1).alloc (.cells (spnC y) 48)).size hgr8.size, fun i hi hf => (hgr8.same i (Nat.lt_of_lt_of_le hi ((Keeps.refl Non w1).alloc (.cells (spnC y) 48)).size) hf).trans (Ext.same ((Keeps.refl Non w1).alloc (.cells (spnC y) 48)) hi), (((Keeps.refl Non w1).alloc (.cells (spnC y) 48)).ost).trans hgr8.ost⟩)))
              clear hown8 hgr8
              go_wp2_with fail
              go_roundg (gk - 1)
              case measure => omega
              case rel => exact ⟨i + 1, by simp, by omega, H8.out.2, by rw [HZ.out.2.2.2.2.2.2.2, erase_add y _ (.inl HZ.out.2.2.2.2.2.2.1.symm)]; exact H8.out.1, by rw [HZ.out.2.2.2.2.2.2.2, List.any_append, ← HZ.out.2.2.2.2.2.2.1]; rfl⟩
          · have hie : i = Lj.length := by rw [← HJ.out.2.2.1]; omega
            have htake : Lj.take i = Lj := by rw [hie, List.take_length]
            rw [htake] at hown hgo
            have HOW := Lib.hid (And.intro hown (And.intro hEw hEq))
            clear hown htake hEw hEq hy hcr hbr
            cases gone
            · have HN := Lib.hid (show rApply L out inn = (L, false) from by
                rw [HVA.out, HJ.out.2.2.2.2, HX.out.2, rOut_none]
                unfold takeOut; rw [if_pos HP.out, if_neg (by rw [← hgo]; simp)])
              clear hgo
              go_wp2_with fail
              go_ret
              exact HQ0.out _ _ HOW.out.2.1 HN.out
            · have hto : takeOut Lj x = some (Lj.eraseP fun y => alike y x) := by unfold takeOut; rw [if_pos HP.out, if_pos hgo.symm]
              have HN := Lib.hid (And.intro (show rOut L out = rOut (Lj.eraseP fun y => alike y x) (out.drop (j + 1)) from by rw [HJ.out.2.2.2.2, HX.out.2, rOut_cons _ hto]) (Nat.le_trans (takeOut_len hto) HJ.out.2.2.2.1))
              clear hgo hto
              go_wp2_with fail
              go_roundg (gk0 - 1)
              case measure => omega
              case rel => exact ⟨j + 1, _, by simp, by omega, HOW.out.2.1, spns_of_own HOW.out.1 (by have := HN.out.2; have := HF.out.2.2.2.2; omega), HN.out.2, HN.out.1⟩
      · have hp3 : (x.pa != 0) = true := by simpa using hp
        have HN := Lib.hid (show rOut L out = rOut Lj (out.drop (j + 1)) from by rw [HJ.out.2.2.2.2, HX.out.2, rOut_cons]; unfold takeOut; rw [if_neg hp])
        clear hp
        go_wp2_with fail
        go_roundg (gk - 1)
        case measure => omega
        case rel => exact ⟨j + 1, Lj, by simp, by omega, HJ.out.1, by have := HJ.out.2.1; exact this, HJ.out.2.2.2.1, HN.out⟩
    · have hje : j = out.length := by rw [← HNL.out.1]; omega
      have HN := Lib.hid (show rApply L out inn = (rIn Lj inn, true) from by rw [HVA.out, hro, hje, List.drop_length]; rfl)
      have HJ := Lib.hid (And.intro hE (And.intro hSj (And.intro hnjl hlen)))
      clear hro hE hSj hnjl hlen hc2 hb2 hje
      go_wp2_with (at_builtin; refine Ek.app' spnE rfl _ _ rfl wr.heap.size (.slice none 0 0) [] Lj rfl (Ek.Own.nil spnE _ _) (reads_of_spns HJ.out.2.1) ?c1 ?c2 ?_)
      case c1 => have := HF.out.2.2.2.2; have := HJ.out.2.2.2; simp; omega
      intro v8 w8 hown8 hgr8 _ _
      have H8 := Lib.hid (And.intro (show spnE.Own wr.heap.size v8 (rIn Lj (inn.take 0)) w8 from hown8) (And.intro ((Ek.Own.nil spnE wr.heap.size wr).grow spnE (HJ.out.1) (HJ.out.1.size) hgr8) hgr8.size))
      clear hown8 hgr8 hcr hbr
      have hc8 := blk_cell (HC.out w8 H8.out.2.1).1
      obtain ⟨w0, hw0⟩ : ∃ w0, w0 = wr := ⟨_, rfl⟩
      subst hw0
      go_wp2_with fail
      go_loopg [10, 11] ni (fun k p10 p11 wr => ∃ (i : Nat), p11 = .int .i64 i ∧ i + k = ni ∧ Ext wa wr ∧ w0.heap.size ≤ wr.heap.size ∧ spnE.Own w0.heap.size p10 (rIn Lj (inn.take i)) wr)
      case atStart => exact ⟨0, rfl, Nat.zero_add _, H8.out.2.1, H8.out.2.2, H8.out.1⟩
      case round =>
        obtain ⟨i, rfl, hi, hEw, hsz, hown⟩ := hrel
        have hcr := blk_cell (HC.out wr hEw).1
        have hbw := (HC.out wr hEw).2
        by_cases hij : (i : Int) < ni
        · have hil : i < inn.length := by rw [← HNL.out.2]; omega
          obtain ⟨g2, o2, rfl, hc92⟩ := (HI.out wr hEw).at hil
          have hz := hc92 i hil
          obtain ⟨y, hyl⟩ : ∃ y, y = inn[i] := ⟨_, rfl⟩
          rw [← hyl] at hz
          have htk : inn.take (i + 1) = inn.take i ++ [y] := by rw [hyl]; exact (List.take_append_getElem hil).symm
          have hrl := rIn_len Lj (inn.take i)
          rw [List.length_take] at hrl
          have HZ := Lib.hid (And.intro hEw (And.intro hsz (And.intro hown (And.intro htk hrl))))
          unfold C9 at hz
          clear hc92 hyl hEw hsz hown htk hrl hbw
          by_cases hp : y.pa = 0
          · have hp3 : (y.pa == 0) = true := by simpa using hp
            have HP := Lib.hid hp
            clear hp
            go_wp2_with (at_builtin; refine Ek.app' spnE rfl _ _ rfl w0.heap.size u10 (rIn Lj (inn.take i)) [y] rfl (HZ.out.2.2.1.ext spnE ((Keeps.refl _ _).alloc _)) (Ek.reads_new spnE _ y _ _ rfl) ?d1 ?d2 ?_)
            case d1 => have := HZ.out.2.2.2.2; have := HF.out.2.2.2.2; have := HJ.out.2.2.2; simp only [List.length_singleton]; omega
            case d2 => exact Nat.le_trans HZ.out.2.1 ((Keeps.refl Non wr).alloc _).size
            intro v9 w9 hown9 hgr9 _ _
            have hEa := (Keeps.refl Non wr).alloc (.cells (spnC y) 48)
            have hgr : Keeps (fun b => u10.ownBlock = some b) wr w9 := ⟨Nat.le_trans hEa.size hgr9.size, fun i hi hf => (hgr9.same i (Nat.lt_of_lt_of_le hi hEa.size) hf).trans (Ext.same hEa hi), (hEa.ost).trans hgr9.ost⟩
            have H9 := Lib.hid (And.intro hown9 (And.intro (HZ.out.2.2.1.grow spnE HZ.out.1 HJ.out.1.size hgr) (Nat.le_trans HZ.out.2.1 hgr.size)))
            clear hown9 hgr9 hEa hgr
            go_wp2_with fail
            go_roundg (gk - 1)
            case measure => omega
            case rel => exact ⟨i + 1, by simp, by omega, H9.out.2.1, H9.out.2.2, by rw [HZ.out.2.2.2.1, rIn_snoc]; unfold addIn; rw [if_pos HP.out]; exact H9.out.1⟩
          · have hp3 : (y.pa == 0) = false := by simpa using hp
            have HP := Lib.hid hp
            clear hp
            go_wp2_with fail
            go_roundg (gk - 1)
            case measure => omega
            case rel => exact ⟨i + 1, by simp, by omega, HZ.out.1, HZ.out.2.1, by rw [HZ.out.2.2.2.1, rIn_snoc]; unfold addIn; rw [if_neg HP.out]; exact HZ.out.2.2.1⟩
        · have hie : i = inn.length := by rw [← HNL.out.2]; omega
          rw [hie, List.take_length] at hown
          have hzb := blk_free hbw
          have hcb := blk_cell hbw
          have hlb := lt_of_heap hbw
          have hrl := rIn_len Lj inn
          obtain ⟨a10, c10, rfl, _, _⟩ := hown.slice spnE
          have HZ := Lib.hid (And.intro hEw (And.intro hsz (And.intro hown (And.intro hbw hrl))))
          clear hEw hsz hown hbw hrl hie
          go_wp2_with fail
          go_ret
          have o9 : Only [b] wr (wr.setCell ⟨b, 0, none⟩ (.slice a10 (rIn Lj inn).length c10)) := (Only.refl [b] wr).setCell (by simp) _
          have hbn : ∀ g, (Value.slice a10 (rIn Lj inn).length c10).ownBlock = some g → g ≠ b := fun g hg e => by
            have h1 := (HZ.out.2.2.1.lt spnE hg).1
            have h2 := lt_of_heap (HC.out wa (Keeps.refl _ _)).2
            have h3 := HJ.out.1.size
            omega
          refine ⟨by rw [HN.out]; rfl, ⟨_, heap_set HZ.out.2.2.2.1 0 _, ?_, .inr fun g hg => ?_⟩, ?_⟩
          · rw [HN.out]
            show SpnsAt _ _ (rIn Lj inn)
            exact spns_of_own (HZ.out.2.2.1.keeps spnE o9.keeps (fun g hg hf => by rw [List.mem_singleton] at hf; exact hbn g hg hf)) (by have := HZ.out.2.2.2.2; have := HF.out.2.2.2; have := HJ.out.2.2.2; omega)
          · have hg' : (Value.slice a10 (rIn Lj inn).length c10).ownBlock = some g := by
              cases a10 <;> first | (cases hg; done) | exact hg
            have h1 := (HZ.out.2.2.1.lt spnE hg').1
            exact Nat.le_trans HLL.out.2.1.size (Nat.le_trans HJ.out.1.size h1)
          · exact ((HLL.out.2.1.trans HZ.out.1).mono fun _ _ hf => hf.elim).trans (o9.keeps.mono fun i _ hi => by simpa using hi)
end Go.Proofs.YtdonmmjikcbihaaGreatDoor
