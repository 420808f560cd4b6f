/- Package entry: keys, counting. -/
import Derived.Test.YtdonmmjikcbihaaGreatDoorEntP
import Derived.Test.YtdonmmjikcbihaaGreatDoorSlf
import Derived.Test.YtdonmmjikcbihaaGreatDoorAvesi
namespace Go.Proofs.YtdonmmjikcbihaaGreatDoor
open Go.RowKit Go.Proofs Go.Vc
attribute [local irreducible] Calls CallsIn Code.wp Code.wpIn
theorem named_size {s : ByteArray} (h : named s = true) : s.size ≤ 24 := by
  unfold named at h
  simp only [Bool.and_eq_true, decide_eq_true_eq] at h
  exact h.2
theorem first_i (s o : ByteArray) (hs : s.size ≤ 1000) (ho : o.size ≤ 1000) (w : World) : Calls Tryz.prog 38 #[.string s, .string o] w fun e w' => e = .returned (.string (efirst s o)) ∧ w' = w := by
  go_enter Tryz.func38, Tryz.ntmps38
  go_wp2_with fail
  go_ret
  exact ⟨rfl, rfl⟩
theorem efirst_size (s o : ByteArray) : (efirst s o).size = s.size + o.size + 2 := by
  unfold efirst
  simp only [ByteArray.size_append]
  have : nul.size = 1 := rfl
  omega
theorem key_i (x : Spn) (hx : Goodk (trip x)) (w : World) : Calls Tryz.prog 43 #[spnV x] w fun e w' => e = .returned (.string (ekey x)) ∧ Ext w w' := by
  have hs : x.sv.size ≤ 1000 := by have := named_size hx.1; show (trip x).1.size ≤ _; omega
  have ho : x.op.size ≤ 1000 := by have := named_size hx.2.1; show (trip x).2.1.size ≤ _; omega
  have HX := Lib.hid (show I64 x.tr from hx.2.2)
  have hsz : (efirst x.sv x.op).size ≤ 2002 := by rw [efirst_size]; omega
  clear hx
  obtain ⟨wa, hwa⟩ : ∃ wa, wa = w.alloc (.cells (spnC x) 48) := ⟨_, rfl⟩
  have hE : Ext w wa := by rw [hwa]; exact (Keeps.refl _ w).alloc _
  have hN : wa.heap[w.heap.size]? = some (.cells (spnC x) 48 (0, 0)) := by rw [hwa]; exact World.alloc_heap_new w _
  obtain ⟨c, hc0⟩ : ∃ c, c = w.heap.size := ⟨_, rfl⟩
  rw [← hc0] at hN
  have HE := Lib.hid (And.intro hE hN)
  clear hE hN
  go_enter Tryz.func43, Tryz.ntmps43
  go_wp2_with fail
  rw [← hwa, ← hc0]
  clear hwa hc0
  refine wp_drawE (way [0, 1, 2, 3, 5, 6, 4, 7, 8, 9]) (by kernel_rfl) (by kernel_rfl) (fun w1 hh hd hf hS => ?_)
  have hcx := blk_cell ((Ext.same hS (lt_of_heap HE.out.2)).trans HE.out.2)
  have hca := blk_cell HE.out.2
  simp only [way]
  go_wp2_with (first | (refine' hl_q rfl rfl rfl (fun _ => ?_) ?_; rotate_left; (go_simp <;> (try go_bits) <;> rfl); (try simp only [Act.put, List.setIfInBounds_toArray, List.set_cons_zero, List.set_cons_succ])) | (refine' hl_rS rfl rfl rfl hS ?_ ?_; rotate_left; (intro w9 hS9; (first | have hc9 := Ext.cells hS9 | have hc9 := Keeps.cells hS9); (go_simp <;> rfl)); (try simp only [Act.put, List.setIfInBounds_toArray, List.set_cons_zero, List.set_cons_succ])) | (refine' hl_r rfl rfl rfl ?_ ?_; rotate_left; (rintro w9 (rfl | hS9); (go_simp <;> rfl); (first | have hc9 := Ext.cells hS9 | have hc9 := Keeps.cells hS9 | (try dsimp only at hS9)); (go_simp <;> rfl)); (try simp only [Act.put, List.setIfInBounds_toArray, List.set_cons_zero, List.set_cons_succ])) | (refine' hl_s rfl rfl ?_; (try simp only [Act.put, List.setIfInBounds_toArray, List.set_cons_zero, List.set_cons_succ])) | (refine hl_e rfl rfl rfl (fun K hK => ?_)) | (with_reducible refine And.intro (fun hn => ?_) ?_; (first | exact hS | exact Keeps.alloc hS _ | exact absurd hn (by rw [show needS _ _ = false from by kernel_rfl]; exact Bool.false_ne_true))) | (refine hl_done ?_) | gi_step)
  refine callsIn_wide.2 ((first_i x.sv x.op hs ho _).mono ?_)
  rintro e9 w2 ⟨rfl, rfl⟩
  go_wp2_with (first | (refine' hl_q rfl rfl rfl (fun _ => ?_) ?_; rotate_left; (go_simp <;> (try go_bits) <;> rfl); (try simp only [Act.put, List.setIfInBounds_toArray, List.set_cons_zero, List.set_cons_succ])) | (refine' hl_rS rfl rfl rfl hS ?_ ?_; rotate_left; (intro w9 hS9; (first | have hc9 := Ext.cells hS9 | have hc9 := Keeps.cells hS9); (go_simp <;> rfl)); (try simp only [Act.put, List.setIfInBounds_toArray, List.set_cons_zero, List.set_cons_succ])) | (refine' hl_r rfl rfl rfl ?_ ?_; rotate_left; (rintro w9 (rfl | hS9); (go_simp <;> rfl); (first | have hc9 := Ext.cells hS9 | have hc9 := Keeps.cells hS9 | (try dsimp only at hS9)); (go_simp <;> rfl)); (try simp only [Act.put, List.setIfInBounds_toArray, List.set_cons_zero, List.set_cons_succ])) | (refine' hl_s rfl rfl ?_; (try simp only [Act.put, List.setIfInBounds_toArray, List.set_cons_zero, List.set_cons_succ])) | (refine hl_e rfl rfl rfl (fun K hK => ?_)) | (with_reducible refine And.intro (fun hn => ?_) ?_; (first | exact hS | exact Keeps.alloc hS _ | exact absurd hn (by rw [show needS _ _ = false from by kernel_rfl]; exact Bool.false_ne_true))) | (refine hl_done ?_) | gi_step)
  refine callsIn_wide.2 ((of_i x.tr 0 HX.out (by omega) _).mono ?_)
  rintro e9 w3 ⟨rfl, hE3⟩
  have hsn : (num x.tr ++ num 0).size = 16 := by rw [ByteArray.size_append, num_size, num_size]
  have hS3 := hS.trans hE3
  clear hS
  have hS := hS3
  clear hS3 hE3
  have hadd : ¬ 9223372036854775807 < (efirst x.sv x.op).size + 16 := by omega
  go_wp2_with (first | (refine' hl_q rfl rfl rfl (fun _ => ?_) ?_; rotate_left; (go_simp <;> (try go_bits) <;> rfl); (try simp only [Act.put, List.setIfInBounds_toArray, List.set_cons_zero, List.set_cons_succ])) | (refine' hl_rS rfl rfl rfl hS ?_ ?_; rotate_left; (intro w9 hS9; (first | have hc9 := Ext.cells hS9 | have hc9 := Keeps.cells hS9); (go_simp <;> rfl)); (try simp only [Act.put, List.setIfInBounds_toArray, List.set_cons_zero, List.set_cons_succ])) | (refine' hl_r rfl rfl rfl ?_ ?_; rotate_left; (rintro w9 (rfl | hS9); (go_simp <;> rfl); (first | have hc9 := Ext.cells hS9 | have hc9 := Keeps.cells hS9 | (try dsimp only at hS9)); (go_simp <;> rfl)); (try simp only [Act.put, List.setIfInBounds_toArray, List.set_cons_zero, List.set_cons_succ])) | (refine' hl_s rfl rfl ?_; (try simp only [Act.put, List.setIfInBounds_toArray, List.set_cons_zero, List.set_cons_succ])) | (refine hl_e rfl rfl rfl (fun K hK => ?_)) | (with_reducible refine And.intro (fun hn => ?_) ?_; (first | exact hS | exact Keeps.alloc hS _ | exact absurd hn (by rw [show needS _ _ = false from by kernel_rfl]; exact Bool.false_ne_true))) | (refine hl_done ?_) | gi_step)
  go_ret
  exact ⟨rfl, HE.out.1.trans hS⟩
theorem esplit_i (s o : ByteArray) (t : Int) (hs : s.size ≤ 1000) (ho : o.size ≤ 1000) (ht : I64 t) (w : World) : Calls Tryz.prog 28 #[.string (tkey (s, o, t))] w fun e w' => e = .returned (.tuple #[.string (efirst s o), .int .i64 t]) ∧ Ext w w' := by
  have HT := Lib.hid ht
  obtain ⟨a, ha⟩ : ∃ a, a = efirst s o := ⟨_, rfl⟩
  have hsz : a.size ≤ 2002 := by rw [ha, efirst_size]; omega
  obtain ⟨b, hb⟩ : ∃ b, b = num t ++ num 0 := ⟨_, rfl⟩
  have hbz : b.size = 16 := by rw [hb, ByteArray.size_append, num_size, num_size]
  have hk : tkey (s, o, t) = a ++ b := by rw [ha, hb]; rfl
  rw [hk, ← ha]
  have HB := Lib.hid (And.intro ha hb)
  have hks : (a ++ b).size = a.size + 16 := by rw [ByteArray.size_append, hbz]
  have hhi : (a ++ b).extract a.size (a.size + 16) = b := ByteArray.extract_append_eq_right rfl (by rw [hbz])
  have hlo : (a ++ b).extract 0 a.size = a := ByteArray.extract_append_eq_left rfl
  clear ht hs ho hk ha hb
  obtain ⟨k, hk⟩ : ∃ k, k = a ++ b := ⟨_, rfl⟩
  rw [← hk] at hks hhi hlo ⊢
  clear hk
  go_enter Tryz.func28, Tryz.ntmps28
  go_wp2_with fail
  rw [HB.out.2]
  refine (split_i t 0 HT.out (by omega) _).mono ?_
  rintro e9 w1 ⟨rfl, hE⟩
  have HE := Lib.hid hE
  clear hE
  go_wp2_with fail
  go_ret2
  exact ⟨rfl, HE.out⟩
theorem bad_i (x : Spn) (hx : x.Fits) (w : World) : Calls Tryz.prog 40 (#[spnV x] ++ #[]) w fun e w' => e = .returned (.bool (!may x)) ∧ Ext w w' := by
  have hE : Ext w (w.alloc (.cells (spnC x) 48)) := (Keeps.refl _ w).alloc _
  have HE := Lib.hid hE
  have HX := Lib.hid hx
  clear hE hx
  show Calls _ _ #[spnV x] _ _
  go_enter Tryz.func40, Tryz.ntmps40
  go_wp2_with fail
  refine (may_i x HX.out _).mono ?_
  rintro e9 w1 ⟨rfl, hE1⟩
  have HE1 := Lib.hid (HE.out.trans hE1)
  clear hE1
  cases hm : may x
  · rw [mayE_f hm]
    go_wp2_with fail
    go_ret
    exact ⟨by rw [hm]; rfl, HE1.out⟩
  · rw [mayE_t hm]
    go_wp2_with fail
    go_ret
    exact ⟨by rw [hm]; rfl, HE1.out⟩
theorem any_not_all (l : List Spn) : (!l.any fun x => !may x) = l.all may := by
  induction l with
  | nil => rfl
  | cons x l ih => rw [List.any_cons, List.all_cons, ← ih]; cases may x <;> simp
theorem emay_i (v : Value) (l : List Spn) (w : World) (h : SpnsAt w v l) (hf : ∀ x ∈ l, x.Fits) : Calls Tryz.prog 23 #[v] w fun e w' => e = .returned (.bool (l.all may)) ∧ Ext w w' := by
  have H := Lib.hid (containsfunc_bad 0 (fun x => !may x) v l w h (fun x hx w' _ => bad_i x (hf x hx) w'))
  have HM := Lib.hid (any_not_all l)
  clear h hf
  go_enter Tryz.func23, Tryz.ntmps23
  go_wp2_with fail
  refine H.out.mono ?_
  rintro e9 w1 ⟨rfl, hE1⟩
  have HE := Lib.hid hE1
  clear hE1
  go_wp2_with fail
  go_ret
  exact ⟨by rw [← HM.out]; rfl, HE.out⟩
/-- what change leaves -/
def ChgPost (ty : TypeId) (b : Nat) (m : List (ByteArray × Int)) (S : Nat → Prop) (x : Spn) (d : Int) (w : World) (e : Ending) (w' : World) : Prop :=
  e = .returned (.bool (chg m x d).2) ∧ (∃ S', LMapsi ty b 0 (chg m x d).1 S' w' ∧ ∀ i, S' i → S i ∨ w.heap.size ≤ i) ∧ Keeps S w w'
theorem get_val (o : Option Int) : getvsi o = .int .i64 (o.getD 0) := by cases o <;> rfl
theorem change_i (ty : TypeId) (b : Nat) (m : List (ByteArray × Int)) (S : Nat → Prop) (x : Spn) (d : Int) (w : World) (h : LMapsi ty b 0 m S w) (hx : Goodk (trip x)) (hd : d = 1 ∨ d = -1) (hl : m.length ≤ 100000)
    (hv : -1000000 ≤ (findL cmpS (ekey x) m).getD 0 ∧ (findL cmpS (ekey x) m).getD 0 ≤ 1000000) : Calls Tryz.prog 24 #[.pointer (some ⟨b, 0, none⟩), spnV x, .int .i64 d] w (ChgPost ty b m S x d w) := by
  obtain ⟨wa, hwa⟩ : ∃ wa, wa = w.alloc (.cells (spnC x) 48) := ⟨_, rfl⟩
  have hE : Ext w wa := by rw [hwa]; exact (Keeps.refl _ w).alloc _
  have hN : wa.heap[w.heap.size]? = some (.cells (spnC x) 48 (0, 0)) := by rw [hwa]; exact World.alloc_heap_new w _
  obtain ⟨c, hc0⟩ : ∃ c, c = w.heap.size := ⟨_, rfl⟩
  rw [← hc0] at hN
  have hsz : w.heap.size ≤ wa.heap.size := hE.size
  have hbl : b < w.heap.size := h.lt h.own
  have HE := Lib.hid (And.intro hE (And.intro hN (And.intro (h.ext hE) (And.intro hl hsz))))
  obtain ⟨n, hn⟩ : ∃ n, n = (findL cmpS (ekey x) m).getD 0 := ⟨_, rfl⟩
  rw [← hn] at hv
  have HN := Lib.hid hn
  have HX := Lib.hid hx
  have hd2 : -1 ≤ d ∧ d ≤ 1 := by omega
  clear hE h hl hd hn hx hsz
  have hcw := blk_cell hN
  clear hN
  go_enter Tryz.func24, Tryz.ntmps24
  by_cases hp : x.pa = 0
  · have HP := Lib.hid (show chg m x d = if n + d < 0 then (m, false) else if n + d = 0 then (dropL cmpS (ekey x) m, true) else (putL cmpS (ekey x) (n + d) m, true) from by rw [HN.out]; unfold chg; rw [if_pos hp])
    have hp3 : (x.pa == 0) = true := by simpa using hp
    have HPA := Lib.hid hp
    clear hp
    go_wp2_with fail
    rw [← hwa, ← hc0]
    have HC := Lib.hid hc0
    clear hwa hc0 hp3
    refine wp_drawE (way [0, 1, 2, 3, 4, 5, 6, 7, 8, 9, 10]) (by kernel_rfl) (by kernel_rfl) (fun w1 hh hd1 hf hS => ?_)
    have hc1 := blk_cell ((Ext.same hS (lt_of_heap HE.out.2.1)).trans HE.out.2.1)
    simp only [way]
    go_wp2_with (first | (refine' hl_q rfl rfl rfl (fun _ => ?_) ?_; rotate_left; (go_simp <;> (try go_bits) <;> rfl); (try simp only [Act.put, List.setIfInBounds_toArray, List.set_cons_zero, List.set_cons_succ])) | (refine' hl_rS rfl rfl rfl hS ?_ ?_; rotate_left; (intro w9 hS9; (first | have hc9 := Ext.cells hS9 | have hc9 := Keeps.cells hS9); (go_simp <;> rfl)); (try simp only [Act.put, List.setIfInBounds_toArray, List.set_cons_zero, List.set_cons_succ])) | (refine' hl_r rfl rfl rfl ?_ ?_; rotate_left; (rintro w9 (rfl | hS9); (go_simp <;> rfl); (first | have hc9 := Ext.cells hS9 | have hc9 := Keeps.cells hS9 | (try dsimp only at hS9)); (go_simp <;> rfl)); (try simp only [Act.put, List.setIfInBounds_toArray, List.set_cons_zero, List.set_cons_succ])) | (refine' hl_s rfl rfl ?_; (try simp only [Act.put, List.setIfInBounds_toArray, List.set_cons_zero, List.set_cons_succ])) | (refine hl_e rfl rfl rfl (fun K hK => ?_)) | (with_reducible refine And.intro (fun hn => ?_) ?_; (first | exact hS | exact Keeps.alloc hS _ | exact absurd hn (by rw [show needS _ _ = false from by kernel_rfl]; exact Bool.false_ne_true))) | (refine hl_done ?_) | gi_step)
    refine callsIn_wide.2 ((key_i x HX.out _).mono ?_)
    rintro e9 w2 ⟨rfl, hE2⟩
    have hS2 := hS.trans hE2
    clear hS hE2
    have hS := hS2
    clear hS2
    go_wp2_with (first | (refine' hl_q rfl rfl rfl (fun _ => ?_) ?_; rotate_left; (go_simp <;> (try go_bits) <;> rfl); (try simp only [Act.put, List.setIfInBounds_toArray, List.set_cons_zero, List.set_cons_succ])) | (refine' hl_rS rfl rfl rfl hS ?_ ?_; rotate_left; (intro w9 hS9; (first | have hc9 := Ext.cells hS9 | have hc9 := Keeps.cells hS9); (go_simp <;> rfl)); (try simp only [Act.put, List.setIfInBounds_toArray, List.set_cons_zero, List.set_cons_succ])) | (refine' hl_r rfl rfl rfl ?_ ?_; rotate_left; (rintro w9 (rfl | hS9); (go_simp <;> rfl); (first | have hc9 := Ext.cells hS9 | have hc9 := Keeps.cells hS9 | (try dsimp only at hS9)); (go_simp <;> rfl)); (try simp only [Act.put, List.setIfInBounds_toArray, List.set_cons_zero, List.set_cons_succ])) | (refine' hl_s rfl rfl ?_; (try simp only [Act.put, List.setIfInBounds_toArray, List.set_cons_zero, List.set_cons_succ])) | (refine hl_e rfl rfl rfl (fun K hK => ?_)) | (with_reducible refine And.intro (fun hn => ?_) ?_; (first | exact hS | exact Keeps.alloc hS _ | exact absurd hn (by rw [show needS _ _ = false from by kernel_rfl]; exact Bool.false_ne_true))) | (refine hl_done ?_) | gi_step)
    refine callsIn_wide.2 ((lget_si (ekey x) (HE.out.2.2.1.ext hS)).mono ?_)
    rintro e9 w3 ⟨rfl, hE3⟩
    rw [get_val, ← HN.out]
    have hS3 := hS.trans hE3
    clear hS hE3
    have hS := hS3
    clear hS3
    have hc3 := blk_cell ((Ext.same hS (lt_of_heap HE.out.2.1)).trans HE.out.2.1)
    go_wp2_with (first | (refine' hl_q rfl rfl rfl (fun _ => ?_) ?_; rotate_left; (go_simp <;> (try go_bits) <;> rfl); (try simp only [Act.put, List.setIfInBounds_toArray, List.set_cons_zero, List.set_cons_succ])) | (refine' hl_rS rfl rfl rfl hS ?_ ?_; rotate_left; (intro w9 hS9; (first | have hc9 := Ext.cells hS9 | have hc9 := Keeps.cells hS9); (go_simp <;> rfl)); (try simp only [Act.put, List.setIfInBounds_toArray, List.set_cons_zero, List.set_cons_succ])) | (refine' hl_r rfl rfl rfl ?_ ?_; rotate_left; (rintro w9 (rfl | hS9); (go_simp <;> rfl); (first | have hc9 := Ext.cells hS9 | have hc9 := Keeps.cells hS9 | (try dsimp only at hS9)); (go_simp <;> rfl)); (try simp only [Act.put, List.setIfInBounds_toArray, List.set_cons_zero, List.set_cons_succ])) | (refine' hl_s rfl rfl ?_; (try simp only [Act.put, List.setIfInBounds_toArray, List.set_cons_zero, List.set_cons_succ])) | (refine hl_e rfl rfl rfl (fun K hK => ?_)) | (with_reducible refine And.intro (fun hn => ?_) ?_; (first | exact hS | exact Keeps.alloc hS _ | exact absurd hn (by rw [show needS _ _ = false from by kernel_rfl]; exact Bool.false_ne_true))) | (refine hl_done ?_) | gi_step)
    · rename_i hneg
      go_ret
      unfold ChgPost
      rw [HP.out, if_pos hneg]
      exact ⟨rfl, ⟨S, HE.out.2.2.1.ext hS, fun i hi => .inl hi⟩, (HE.out.1.trans hS).mono fun _ _ hf => hf.elim⟩
    · rename_i hneg hzero
      have HZ := Lib.hid (And.intro hneg hzero)
      clear hneg hzero hh hd1 hf hc1
      refine wp_drawE (way [0, 1, 2, 3, 4, 5]) (by kernel_rfl) (by kernel_rfl) (fun w4 hh hd1 hf hS4 => ?_)
      have hE4 := hS.trans hS4
      clear hS
      have hS := hS4
      clear hS4
      have hc4 := blk_cell ((Ext.same hE4 (lt_of_heap HE.out.2.1)).trans HE.out.2.1)
      simp only [way]
      go_wp2_with (first | (refine' hl_q rfl rfl rfl (fun _ => ?_) ?_; rotate_left; (go_simp <;> (try go_bits) <;> rfl); (try simp only [Act.put, List.setIfInBounds_toArray, List.set_cons_zero, List.set_cons_succ])) | (refine' hl_rS rfl rfl rfl hS ?_ ?_; rotate_left; (intro w9 hS9; (first | have hc9 := Ext.cells hS9 | have hc9 := Keeps.cells hS9); (go_simp <;> rfl)); (try simp only [Act.put, List.setIfInBounds_toArray, List.set_cons_zero, List.set_cons_succ])) | (refine' hl_r rfl rfl rfl ?_ ?_; rotate_left; (rintro w9 (rfl | hS9); (go_simp <;> rfl); (first | have hc9 := Ext.cells hS9 | have hc9 := Keeps.cells hS9 | (try dsimp only at hS9)); (go_simp <;> rfl)); (try simp only [Act.put, List.setIfInBounds_toArray, List.set_cons_zero, List.set_cons_succ])) | (refine' hl_s rfl rfl ?_; (try simp only [Act.put, List.setIfInBounds_toArray, List.set_cons_zero, List.set_cons_succ])) | (refine hl_e rfl rfl rfl (fun K hK => ?_)) | (with_reducible refine And.intro (fun hn => ?_) ?_; (first | exact hS | exact Keeps.alloc hS _ | exact absurd hn (by rw [show needS _ _ = false from by kernel_rfl]; exact Bool.false_ne_true))) | (refine hl_done ?_) | gi_step)
      refine callsIn_wide.2 ((key_i x HX.out _).mono ?_)
      rintro e9 w5 ⟨rfl, hE5⟩
      have hS5 := hS.trans hE5
      have HE5 := Lib.hid (hE4.trans hE5)
      clear hS hE5 hE4
      have hS := hS5
      clear hS5
      go_wp2_with (first | (refine' hl_q rfl rfl rfl (fun _ => ?_) ?_; rotate_left; (go_simp <;> (try go_bits) <;> rfl); (try simp only [Act.put, List.setIfInBounds_toArray, List.set_cons_zero, List.set_cons_succ])) | (refine' hl_rS rfl rfl rfl hS ?_ ?_; rotate_left; (intro w9 hS9; (first | have hc9 := Ext.cells hS9 | have hc9 := Keeps.cells hS9); (go_simp <;> rfl)); (try simp only [Act.put, List.setIfInBounds_toArray, List.set_cons_zero, List.set_cons_succ])) | (refine' hl_r rfl rfl rfl ?_ ?_; rotate_left; (rintro w9 (rfl | hS9); (go_simp <;> rfl); (first | have hc9 := Ext.cells hS9 | have hc9 := Keeps.cells hS9 | (try dsimp only at hS9)); (go_simp <;> rfl)); (try simp only [Act.put, List.setIfInBounds_toArray, List.set_cons_zero, List.set_cons_succ])) | (refine' hl_s rfl rfl ?_; (try simp only [Act.put, List.setIfInBounds_toArray, List.set_cons_zero, List.set_cons_succ])) | (refine hl_e rfl rfl rfl (fun K hK => ?_)) | (with_reducible refine And.intro (fun hn => ?_) ?_; (first | exact hS | exact Keeps.alloc hS _ | exact absurd hn (by rw [show needS _ _ = false from by kernel_rfl]; exact Bool.false_ne_true))) | (refine hl_done ?_) | gi_step)
      refine callsIn_wide.2 ((ldrop_si (ekey x) (HE.out.2.2.1.ext HE5.out) (by have := HE.out.2.2.2.1; omega)).mono ?_)
      rintro e9 w6 ⟨rfl, ⟨S', hM6, hS6⟩, hK6⟩
      have H6 := Lib.hid (show ChgPost ty b m S x d w (.returned (.bool true)) w6 from by
        unfold ChgPost
        rw [HP.out, if_neg (Int.not_lt.2 HZ.out.1), if_pos (by simpa using HZ.out.2)]
        exact ⟨rfl, ⟨S', hM6, fun i hi => .inl (hS6 i hi)⟩, ((HE.out.1.trans HE5.out).mono fun _ _ hf => hf.elim).trans hK6⟩)
      clear hM6 hS6 hK6 hS
      go_wp2_with (first | (refine' hl_q rfl rfl rfl (fun _ => ?_) ?_; rotate_left; (go_simp <;> (try go_bits) <;> rfl); (try simp only [Act.put, List.setIfInBounds_toArray, List.set_cons_zero, List.set_cons_succ])) | (refine' hl_rS rfl rfl rfl hS ?_ ?_; rotate_left; (intro w9 hS9; (first | have hc9 := Ext.cells hS9 | have hc9 := Keeps.cells hS9); (go_simp <;> rfl)); (try simp only [Act.put, List.setIfInBounds_toArray, List.set_cons_zero, List.set_cons_succ])) | (refine' hl_r rfl rfl rfl ?_ ?_; rotate_left; (rintro w9 (rfl | hS9); (go_simp <;> rfl); (first | have hc9 := Ext.cells hS9 | have hc9 := Keeps.cells hS9 | (try dsimp only at hS9)); (go_simp <;> rfl)); (try simp only [Act.put, List.setIfInBounds_toArray, List.set_cons_zero, List.set_cons_succ])) | (refine' hl_s rfl rfl ?_; (try simp only [Act.put, List.setIfInBounds_toArray, List.set_cons_zero, List.set_cons_succ])) | (refine hl_e rfl rfl rfl (fun K hK => ?_)) | (with_reducible refine And.intro (fun hn => ?_) ?_; (first | exact hS | exact Keeps.alloc hS _ | exact absurd hn (by rw [show needS _ _ = false from by kernel_rfl]; exact Bool.false_ne_true))) | (refine hl_done ?_) | gi_step)
      go_ret
      exact H6.out
    · rename_i hneg hzero
      have HZ := Lib.hid (And.intro hneg hzero)
      clear hneg hzero hh hd1 hf hc1
      refine wp_drawE (way [0, 1, 2, 3, 5, 4, 6]) (by kernel_rfl) (by kernel_rfl) (fun w4 hh hd1 hf hS4 => ?_)
      have hE4 := hS.trans hS4
      clear hS
      have hS := hS4
      clear hS4
      have hc4 := blk_cell ((Ext.same hE4 (lt_of_heap HE.out.2.1)).trans HE.out.2.1)
      simp only [way]
      go_wp2_with (first | (refine' hl_q rfl rfl rfl (fun _ => ?_) ?_; rotate_left; (go_simp <;> (try go_bits) <;> rfl); (try simp only [Act.put, List.setIfInBounds_toArray, List.set_cons_zero, List.set_cons_succ])) | (refine' hl_rS rfl rfl rfl hS ?_ ?_; rotate_left; (intro w9 hS9; (first | have hc9 := Ext.cells hS9 | have hc9 := Keeps.cells hS9); (go_simp <;> rfl)); (try simp only [Act.put, List.setIfInBounds_toArray, List.set_cons_zero, List.set_cons_succ])) | (refine' hl_r rfl rfl rfl ?_ ?_; rotate_left; (rintro w9 (rfl | hS9); (go_simp <;> rfl); (first | have hc9 := Ext.cells hS9 | have hc9 := Keeps.cells hS9 | (try dsimp only at hS9)); (go_simp <;> rfl)); (try simp only [Act.put, List.setIfInBounds_toArray, List.set_cons_zero, List.set_cons_succ])) | (refine' hl_s rfl rfl ?_; (try simp only [Act.put, List.setIfInBounds_toArray, List.set_cons_zero, List.set_cons_succ])) | (refine hl_e rfl rfl rfl (fun K hK => ?_)) | (with_reducible refine And.intro (fun hn => ?_) ?_; (first | exact hS | exact Keeps.alloc hS _ | exact absurd hn (by rw [show needS _ _ = false from by kernel_rfl]; exact Bool.false_ne_true))) | (refine hl_done ?_) | gi_step)
      refine callsIn_wide.2 ((key_i x HX.out _).mono ?_)
      rintro e9 w5 ⟨rfl, hE5⟩
      have hS5 := hS.trans hE5
      have HE5 := Lib.hid (hE4.trans hE5)
      clear hS hE5 hE4
      have hS := hS5
      clear hS5
      go_wp2_with (first | (refine' hl_q rfl rfl rfl (fun _ => ?_) ?_; rotate_left; (go_simp <;> (try go_bits) <;> rfl); (try simp only [Act.put, List.setIfInBounds_toArray, List.set_cons_zero, List.set_cons_succ])) | (refine' hl_rS rfl rfl rfl hS ?_ ?_; rotate_left; (intro w9 hS9; (first | have hc9 := Ext.cells hS9 | have hc9 := Keeps.cells hS9); (go_simp <;> rfl)); (try simp only [Act.put, List.setIfInBounds_toArray, List.set_cons_zero, List.set_cons_succ])) | (refine' hl_r rfl rfl rfl ?_ ?_; rotate_left; (rintro w9 (rfl | hS9); (go_simp <;> rfl); (first | have hc9 := Ext.cells hS9 | have hc9 := Keeps.cells hS9 | (try dsimp only at hS9)); (go_simp <;> rfl)); (try simp only [Act.put, List.setIfInBounds_toArray, List.set_cons_zero, List.set_cons_succ])) | (refine' hl_s rfl rfl ?_; (try simp only [Act.put, List.setIfInBounds_toArray, List.set_cons_zero, List.set_cons_succ])) | (refine hl_e rfl rfl rfl (fun K hK => ?_)) | (with_reducible refine And.intro (fun hn => ?_) ?_; (first | exact hS | exact Keeps.alloc hS _ | exact absurd hn (by rw [show needS _ _ = false from by kernel_rfl]; exact Bool.false_ne_true))) | (refine hl_done ?_) | gi_step)
      refine callsIn_wide.2 ((lput_si (ekey x) (n + d) (HE.out.2.2.1.ext HE5.out) (by have := HE.out.2.2.2.1; omega)).mono ?_)
      rintro e9 w6 ⟨rfl, ⟨S', hM6, hS6⟩, hK6⟩
      have H6 := Lib.hid (show ChgPost ty b m S x d w (.returned (.bool true)) w6 from by
        unfold ChgPost
        rw [HP.out, if_neg (Int.not_lt.2 HZ.out.1), if_neg (by simpa using HZ.out.2)]
        exact ⟨rfl, ⟨S', hM6, fun i hi => (hS6 i hi).imp id (fun h => Nat.le_trans (Nat.le_trans HE.out.2.2.2.2 HE5.out.size) h)⟩, ((HE.out.1.trans HE5.out).mono fun _ _ hf => hf.elim).trans hK6⟩)
      clear hM6 hS6 hK6 hS
      go_wp2_with (first | (refine' hl_q rfl rfl rfl (fun _ => ?_) ?_; rotate_left; (go_simp <;> (try go_bits) <;> rfl); (try simp only [Act.put, List.setIfInBounds_toArray, List.set_cons_zero, List.set_cons_succ])) | (refine' hl_rS rfl rfl rfl hS ?_ ?_; rotate_left; (intro w9 hS9; (first | have hc9 := Ext.cells hS9 | have hc9 := Keeps.cells hS9); (go_simp <;> rfl)); (try simp only [Act.put, List.setIfInBounds_toArray, List.set_cons_zero, List.set_cons_succ])) | (refine' hl_r rfl rfl rfl ?_ ?_; rotate_left; (rintro w9 (rfl | hS9); (go_simp <;> rfl); (first | have hc9 := Ext.cells hS9 | have hc9 := Keeps.cells hS9 | (try dsimp only at hS9)); (go_simp <;> rfl)); (try simp only [Act.put, List.setIfInBounds_toArray, List.set_cons_zero, List.set_cons_succ])) | (refine' hl_s rfl rfl ?_; (try simp only [Act.put, List.setIfInBounds_toArray, List.set_cons_zero, List.set_cons_succ])) | (refine hl_e rfl rfl rfl (fun K hK => ?_)) | (with_reducible refine And.intro (fun hn => ?_) ?_; (first | exact hS | exact Keeps.alloc hS _ | exact absurd hn (by rw [show needS _ _ = false from by kernel_rfl]; exact Bool.false_ne_true))) | (refine hl_done ?_) | gi_step)
      go_ret
      exact H6.out
  · have HP := Lib.hid (show chg m x d = (m, true) from by unfold chg; rw [if_neg hp])
    have hp2 : ¬ x.pa = 0 := hp
    have hp3 : (x.pa == 0) = false := by simpa using hp
    go_wp2_with fail
    go_ret
    refine ⟨by rw [HP.out]; rfl, ⟨S, by rw [HP.out, hwa] at *; exact HE.out.2.2.1, fun i hi => .inl hi⟩, by rw [← hwa]; exact HE.out.1.mono fun _ _ hf => hf.elim⟩
end Go.Proofs.YtdonmmjikcbihaaGreatDoor
