/- What the law's fixed call answers. -/
import Derived.Test.YtdonmmjikcbihaaGreatDoorEntV
import Derived.Test.YtdonmmjikcbihaaGreatDoorAwkP
namespace Go.Proofs.YtdonmmjikcbihaaGreatDoor
open Go.RowKit Go.Proofs Go.Vc
attribute [local irreducible] Calls CallsIn Code.wp Code.wpIn
theorem of28_i (t i : Int) (o : ByteArray) (w : World) : Calls Tryz.prog 22 #[.int .i64 t, .int .i64 i, .string o] w fun e w' => e = .returned (spnV ⟨t, i, 0, 0, webB, o, 0, 0, false⟩) ∧ Ext w w' := by
  go_enter Tryz.func22, Tryz.ntmps22
  go_wp2_with fail
  refine bodyPost_ret (v := spnV ⟨t, i, 0, 0, webB, o, 0, 0, false⟩) (by simp [results, Tryz.results22, go_sem, webB]) rfl ⟨rfl, ?_⟩
  (repeat' (first | with_reducible refine Keeps.alloc ?_ _ | (with_reducible refine Keeps.setCell ?_ ?_ _; rotate_left; (simp; done)) | exact Keeps.refl _ _))
theorem ext_keeps {F : Nat → Prop} {w w' w'' : World} (h : Ext w w') (k : Keeps F w' w'') (hF : ∀ i, F i → w.heap.size ≤ i) : Ext w w'' :=
  ⟨Nat.le_trans h.size k.size, fun i hi _ => (k.same i (Nat.lt_of_lt_of_le hi h.size) (fun hf => absurd (hF i hf) (by omega))).trans (Ext.same h hi), (h.ost).trans k.ost⟩
set_option maxHeartbeats 4000000 in
set_option maxRecDepth 20000 in
theorem awake_i (w : World) (mx : Int) (hm : w.cell? ⟨0, 0, none⟩ = some (.int .i64 mx)) : Calls Tryz.prog 7 #[] w fun e w' => e = .returned (.bool true) ∧ Ext w w' := by
  have HM := Lib.hid (show ∀ wr, Ext w wr → wr.cell? ⟨0, 0, none⟩ = some (.int .i64 mx) from fun wr k => (Ext.cells k 0 0 (by rw [hm]; rfl)).trans hm)
  have h0w : 0 < w.heap.size := World.block_lt_of_cell? _ _ hm
  clear hm
  go_enter Tryz.func7, Tryz.ntmps7
  go_wp2_with fail
  refine (of28_i 2 1 getB _).mono ?_
  rintro e9 w1 ⟨rfl, hE1⟩
  have HE1 := Lib.hid hE1
  clear hE1
  go_wp2_with fail
  refine (of28_i 1 1 getB _).mono ?_
  rintro e9 w2 ⟨rfl, hE2⟩
  have HE2 := Lib.hid (HE1.out.trans hE2)
  clear hE2
  go_wp2_with fail
  refine (of28_i 1 2 getB _).mono ?_
  rintro e9 w3 ⟨rfl, hE3⟩
  have HE3 := Lib.hid (HE2.out.trans hE3)
  clear hE3
  go_wp2_with fail
  refine (of28_i 1 3 putB _).mono ?_
  rintro e9 w4 ⟨rfl, hE4⟩
  have HE4 := Lib.hid (HE3.out.trans hE4)
  clear hE4
  go_wp2_with fail
  obtain ⟨wl, hwl⟩ : ∃ wl, wl = w4.alloc (.cells #[.int .i64 2, .int .i64 1, .int .i64 0, .int .i64 0, .string webB, .string getB, .int .i64 0, .int .i64 0, .bool false, .int .i64 1, .int .i64 1, .int .i64 0, .int .i64 0, .string webB, .string getB, .int .i64 0, .int .i64 0, .bool false, .int .i64 1, .int .i64 2, .int .i64 0, .int .i64 0, .string webB, .string getB, .int .i64 0, .int .i64 0, .bool false, .int .i64 1, .int .i64 3, .int .i64 0, .int .i64 0, .string webB, .string putB, .int .i64 0, .int .i64 0, .bool false] 48) := ⟨_, rfl⟩
  have hrd : spnE.Reads wl (.slice (some ⟨w4.heap.size, 0, none⟩) 4 4) spA := by rw [hwl]; exact Ek.reads_row spnE w4 spA _ _ 4 4 rfl (by decide) rfl
  have hEl : Ext w wl := by rw [hwl]; exact HE4.out.alloc _
  obtain ⟨p, hp⟩ : ∃ p, p = w4.heap.size := ⟨_, rfl⟩
  rw [← hp] at hrd ⊢
  rw [← hwl]
  have HL := Lib.hid (And.intro hrd hEl)
  clear hwl hp hrd hEl HE1 HE2 HE3 HE4
  refine (eof0_i (.slice (some ⟨p, 0, none⟩) 4 4) spA _ mx (spns_of_reads HL.out.1 rfl (by decide)) (by decide) spA_fits (by decide) (HM.out _ HL.out.2)).mono ?_
  rintro e9 w5 ⟨v5, rfl, hv5, hE5⟩
  rw [awkOf] at hv5
  obtain ⟨a5, c5, rfl, _⟩ := hv5.form
  have hrd5 := HL.out.1.ext spnE hE5
  have hp5 : p < w5.heap.size := Ek.Reads.cell_mem (hrd5.elem spnE 0 0 (by decide) (by decide))
  have HK := Lib.hid (show ∀ wr, Ext w5 wr → SpnsAt wr (.slice (some ⟨p, 0, none⟩) 4 4) spA ∧ SpnsAt wr (.slice (some ⟨p, 9, none⟩) 1 3) [sp2] ∧ SpnsAt wr (.slice (some ⟨p, 0, none⟩) 1 4) [sp1] ∧ EntsAt wr (.slice a5 2 c5) [⟨webB, getB, [1, 2]⟩, ⟨webB, putB, [1]⟩] ∧ Ext w wr from fun wr k =>
    ⟨spns_of_reads (hrd5.ext spnE k) rfl (by decide),
     spns_of_reads (v := .slice (some ⟨p, 9, none⟩) 1 3) (l := [sp2]) (Ek.Reads.part spnE (hrd5.ext spnE k) 1 1 3 (by decide) (by decide) (some ⟨p, 9, none⟩) (fun e => nomatch e) (fun g o s e => ⟨0, by injection e with e; injection e with e1 e2 e3; rw [← e1, ← e3], by injection e with e; injection e with e1 e2 e3; rw [← e2]; rfl⟩)) rfl (by decide),
     spns_of_reads (v := .slice (some ⟨p, 0, none⟩) 1 4) (l := [sp1]) (Ek.Reads.part spnE (hrd5.ext spnE k) 0 1 4 (by decide) (by decide) (some ⟨p, 0, none⟩) (fun e => nomatch e) (fun g o s e => ⟨0, by injection e with e; injection e with e1 e2 e3; rw [← e1, ← e3], by injection e with e; injection e with e1 e2 e3; rw [← e2]; rfl⟩)) rfl (by decide),
     hv5.ext k, HL.out.2.trans (hE5.trans k)⟩)
  have HP := Lib.hid hp5
  clear hv5 hE5 hrd5 hp5 HL
  obtain ⟨wv, hwv⟩ : ∃ wv, wv = w5.alloc (.cells #[.pointer none, .int .i64 0] 28) := ⟨_, rfl⟩
  have hEv : Ext w5 wv := by rw [hwv]; exact (Keeps.refl _ w5).alloc _
  have hV : VIs 28 w5.heap.size 0 [] (fun i => i = w5.heap.size) wv := by rw [hwv]; exact VIs.new w5 _
  obtain ⟨b, hb⟩ : ∃ b, b = w5.heap.size := ⟨_, rfl⟩
  rw [← hb] at hV
  have HV := Lib.hid (And.intro hEv (And.intro hV hb))
  clear hEv hV
  go_wp2_with fail
  rw [← hwv, ← hb]
  clear hwv hb
  refine wp_drawE (way [0, 1, 3, 4, 5, 2, 6, 7, 8]) (by kernel_rfl) (by kernel_rfl) (fun w6 hh hd hf hS => ?_)
  have H6 := Lib.hid (And.intro (HV.out.1.trans hS) (HV.out.2.1.ext hS))
  clear hh hd hf
  simp only [way]
  go_wp2_with (first | (refine' hl_q rfl rfl rfl (fun _ => ?_) ?_; rotate_left; (go_simp <;> (try go_bits) <;> rfl); (try simp only [Act.put, List.setIfInBounds_toArray, List.set_cons_zero, List.set_cons_succ])) | (refine' hl_rS rfl rfl rfl hS ?_ ?_; rotate_left; (intro w9 hS9; (first | have hc9 := Ext.cells hS9 | have hc9 := Keeps.cells hS9); (go_simp <;> rfl)); (try simp only [Act.put, List.setIfInBounds_toArray, List.set_cons_zero, List.set_cons_succ])) | (refine' hl_r rfl rfl rfl ?_ ?_; rotate_left; (rintro w9 (rfl | hS9); (go_simp <;> rfl); (first | have hc9 := Ext.cells hS9 | have hc9 := Keeps.cells hS9 | (try dsimp only at hS9)); (go_simp <;> rfl)); (try simp only [Act.put, List.setIfInBounds_toArray, List.set_cons_zero, List.set_cons_succ])) | (refine' hl_s rfl rfl ?_; (try simp only [Act.put, List.setIfInBounds_toArray, List.set_cons_zero, List.set_cons_succ])) | (refine hl_e rfl rfl rfl (fun K hK => ?_)) | (with_reducible refine And.intro (fun hn => ?_) ?_; (first | exact hS | exact Keeps.alloc hS _ | exact absurd hn (by rw [show needS _ _ = false from by kernel_rfl]; exact Bool.false_ne_true))) | (refine hl_done ?_) | gi_step)
  have hnil : ∀ wr, SpnsAt wr (.slice none 0 0) [] := fun wr => ⟨none, 0, rfl, ⟨by decide, by decide⟩, fun _ => rfl, fun _ _ _ h => nomatch h⟩
  have HNI := Lib.hid hnil
  clear hnil
  refine callsIn_wide.2 ((H6.out.2.apply (by decide) (vo := .slice none 0 0) (vi := .slice (some ⟨p, 0, none⟩) 4 4) (out := []) (inn := spA) (HNI.out _) (HK.out _ H6.out.1).1 (fun _ g hg => nomatch hg) (fun _ g hg hs => by injection hg with hg; have := HP.out; have := HV.out.2.2; subst hg; dsimp only at hs; omega) (fun _ h => nomatch h) spA_fits (by decide) (by decide)).mono ?_)
  rintro e9 w7 ⟨rfl, ⟨S7, hV7, hs7⟩, hk7⟩
  rw [awk1] at hV7
  rw [awk1]
  have hb7 : ∀ i, S7 i → w5.heap.size ≤ i := fun i hi => by
    rcases hs7 i hi with h | h
    · rw [h, HV.out.2.2]; exact Nat.le_refl _
    · exact Nat.le_trans H6.out.1.size h
  have H7 := Lib.hid (And.intro (ext_keeps H6.out.1 hk7 (fun i hi => by rw [hi, HV.out.2.2]; exact Nat.le_refl _)) (And.intro hV7 hb7))
  clear hV7 hs7 hk7 hb7 hS
  go_wp2_with (first | (refine' hl_q rfl rfl rfl (fun _ => ?_) ?_; rotate_left; (go_simp <;> (try go_bits) <;> rfl); (try simp only [Act.put, List.setIfInBounds_toArray, List.set_cons_zero, List.set_cons_succ])) | (refine' hl_rS rfl rfl rfl hS ?_ ?_; rotate_left; (intro w9 hS9; (first | have hc9 := Ext.cells hS9 | have hc9 := Keeps.cells hS9); (go_simp <;> rfl)); (try simp only [Act.put, List.setIfInBounds_toArray, List.set_cons_zero, List.set_cons_succ])) | (refine' hl_r rfl rfl rfl ?_ ?_; rotate_left; (rintro w9 (rfl | hS9); (go_simp <;> rfl); (first | have hc9 := Ext.cells hS9 | have hc9 := Keeps.cells hS9 | (try dsimp only at hS9)); (go_simp <;> rfl)); (try simp only [Act.put, List.setIfInBounds_toArray, List.set_cons_zero, List.set_cons_succ])) | (refine' hl_s rfl rfl ?_; (try simp only [Act.put, List.setIfInBounds_toArray, List.set_cons_zero, List.set_cons_succ])) | (refine hl_e rfl rfl rfl (fun K hK => ?_)) | (with_reducible refine And.intro (fun hn => ?_) ?_; (first | exact hS | exact Keeps.alloc hS _ | exact absurd hn (by rw [show needS _ _ = false from by kernel_rfl]; exact Bool.false_ne_true))) | (refine hl_done ?_) | gi_step)
  refine callsIn_wide.2 ((H7.out.2.1.apply (by decide) (vo := .slice (some ⟨p, 9, none⟩) 1 3) (vi := .slice none 0 0) (out := [sp2]) (inn := []) (HK.out _ H7.out.1).2.1 (HNI.out _) (fun _ g hg hs => by injection hg with hg; have := HP.out; have := H7.out.2.2 _ hs; subst hg; dsimp only at this; omega) (fun _ g hg => nomatch hg) (fun x hx => spA_fits x (by rw [List.mem_singleton] at hx; subst hx; simp [spA])) (fun _ h => nomatch h) (by decide) (by decide)).mono ?_)
  rintro e9 w8 ⟨rfl, ⟨S8, hV8, hs8⟩, hk8⟩
  rw [awk2] at hV8
  rw [awk2]
  have hb8 : ∀ i, S8 i → w5.heap.size ≤ i := fun i hi => by
    rcases hs8 i hi with h | h
    · exact H7.out.2.2 i h
    · exact Nat.le_trans H7.out.1.size h
  have H8 := Lib.hid (And.intro (ext_keeps H7.out.1 hk8 H7.out.2.2) (And.intro hV8 hb8))
  clear hV8 hs8 hk8 hb8
  go_wp2_with (first | (refine' hl_q rfl rfl rfl (fun _ => ?_) ?_; rotate_left; (go_simp <;> (try go_bits) <;> rfl); (try simp only [Act.put, List.setIfInBounds_toArray, List.set_cons_zero, List.set_cons_succ])) | (refine' hl_rS rfl rfl rfl hS ?_ ?_; rotate_left; (intro w9 hS9; (first | have hc9 := Ext.cells hS9 | have hc9 := Keeps.cells hS9); (go_simp <;> rfl)); (try simp only [Act.put, List.setIfInBounds_toArray, List.set_cons_zero, List.set_cons_succ])) | (refine' hl_r rfl rfl rfl ?_ ?_; rotate_left; (rintro w9 (rfl | hS9); (go_simp <;> rfl); (first | have hc9 := Ext.cells hS9 | have hc9 := Keeps.cells hS9 | (try dsimp only at hS9)); (go_simp <;> rfl)); (try simp only [Act.put, List.setIfInBounds_toArray, List.set_cons_zero, List.set_cons_succ])) | (refine' hl_s rfl rfl ?_; (try simp only [Act.put, List.setIfInBounds_toArray, List.set_cons_zero, List.set_cons_succ])) | (refine hl_e rfl rfl rfl (fun K hK => ?_)) | (with_reducible refine And.intro (fun hn => ?_) ?_; (first | exact hS | exact Keeps.alloc hS _ | exact absurd hn (by rw [show needS _ _ = false from by kernel_rfl]; exact Bool.false_ne_true))) | (refine hl_done ?_) | gi_step)
  refine (H8.out.2.1.apply (by decide) (vo := .slice (some ⟨p, 0, none⟩) 1 4) (vi := .slice none 0 0) (out := [sp1]) (inn := []) (HK.out _ H8.out.1).2.2.1 (HNI.out _) (fun _ g hg hs => by injection hg with hg; have := HP.out; have := H8.out.2.2 _ hs; subst hg; dsimp only at this; omega) (fun _ g hg => nomatch hg) (fun x hx => spA_fits x (by rw [List.mem_singleton] at hx; subst hx; simp [spA])) (fun _ h => nomatch h) (by decide) (by decide)).mono ?_
  rintro e9 w9 ⟨rfl, ⟨S9, hV9, hs9⟩, hk9⟩
  rw [awk3] at hV9
  rw [awk3]
  have hb9 : ∀ i, S9 i → w5.heap.size ≤ i := fun i hi => by
    rcases hs9 i hi with h | h
    · exact H8.out.2.2 i h
    · exact Nat.le_trans H8.out.1.size h
  have H9 := Lib.hid (And.intro (ext_keeps H8.out.1 hk9 H8.out.2.2) (And.intro hV9 hb9))
  clear hV9 hs9 hk9 hb9
  go_wp2_with fail
  refine (H9.out.2.1.all (by decide) (HM.out _ (HK.out _ H9.out.1).2.2.2.2)).mono ?_
  rintro e9 w10 ⟨v10, rfl, hv10, hE10⟩
  rw [awk4] at hv10
  obtain ⟨a10, c10, rfl, _⟩ := hv10.form
  have H10 := Lib.hid (And.intro (H9.out.1.trans hE10) (And.intro (H9.out.2.1.ext hE10) (And.intro hv10 hE10)))
  clear hv10 hE10
  obtain ⟨g5, o5, rfl, ⟨s1, s2, s3⟩, _, _, hs5, hr5⟩ := (HK.out _ H10.out.1).2.2.2.1.at (j := 0) (by decide)
  dsimp only [slV] at hs5 hr5
  have HR5 := Lib.hid hr5
  clear hr5
  go_wp2_with fail
  refine (sameints_i _ _ [1, 2] [1, 2] _ (HR5.out.ext intE ((Keeps.refl _ _).alloc _)) (Ek.reads_row intE _ [1, 2] _ _ 2 2 rfl (by decide) rfl)).mono ?_
  rintro e9 w11 ⟨rfl, hE11⟩
  have hE11' : Ext w10 w11 := ((Keeps.refl _ _).alloc _).trans hE11
  have H11 := Lib.hid (And.intro hE11' (H10.out.2.2.1.ext hE11'))
  clear hE11 hE11' hs5
  obtain ⟨g6, o6, rfl, ⟨t1, t2, t3⟩, _, hop6, hs6, hr6⟩ := H11.out.2.at (j := 0) (by decide)
  dsimp only [slV] at hs6 hr6
  have hop6' : w11.cell? ⟨g6, o6 + 0 * 3 + 1, none⟩ = some (.string getB) := hop6
  have HR6 := Lib.hid hr6
  have hgt : getB.toList = [103, 101, 116] := by rw [toList_data]; rfl
  clear hr6 hop6
  go_wp2_with fail
  refine (sameints_i _ _ [1] [1] _ (HR6.out.ext intE ((Keeps.refl _ _).alloc _)) (Ek.reads_row intE _ [1] _ _ 1 1 rfl (by decide) rfl)).mono ?_
  rintro e9 w12 ⟨rfl, hE12⟩
  have hE12' : Ext w11 w12 := ((Keeps.refl _ _).alloc _).trans hE12
  have H12 := Lib.hid (And.intro (H10.out.1.trans (H11.out.1.trans hE12')) (H10.out.2.1.ext (H11.out.1.trans hE12')))
  clear hE12 hE12' hs6 hop6' hgt
  go_wp2_with fail
  refine (H12.out.2.apply (by decide) (vo := .slice (some ⟨p, 0, none⟩) 1 4) (vi := .slice none 0 0) (out := [sp1]) (inn := []) (HK.out _ H12.out.1).2.2.1 (HNI.out _) (fun _ g hg hs => by injection hg with hg; have := HP.out; have := H9.out.2.2 _ hs; subst hg; dsimp only at this; omega) (fun _ g hg => nomatch hg) (fun x hx => spA_fits x (by rw [List.mem_singleton] at hx; subst hx; simp [spA])) (fun _ h => nomatch h) (by decide) (by decide)).mono ?_
  rintro e9 w13 ⟨rfl, _, hk13⟩
  rw [awk5]
  have H13 := Lib.hid (HK.out _ (ext_keeps H12.out.1 hk13 H9.out.2.2)).2.2.2.2
  clear hk13
  go_wp2_with fail
  go_ret
  exact ⟨rfl, H13.out⟩
end Go.Proofs.YtdonmmjikcbihaaGreatDoor
