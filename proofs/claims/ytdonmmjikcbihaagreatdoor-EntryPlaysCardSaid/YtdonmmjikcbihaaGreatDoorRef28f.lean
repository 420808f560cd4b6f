/- The document's answers for entry: are entries the same? -/
import Derived.Test.YtdonmmjikcbihaaGreatDoorRef28d
namespace Go.Proofs.YtdonmmjikcbihaaGreatDoor
open Go.RowKit Go.Proofs Go.Vc
attribute [local irreducible] Calls CallsIn Code.wp Code.wpIn
theorem EntsAt.form {w : World} {v : Value} {E : List Ent} (h : EntsAt w v E) : ∃ a cap, v = .slice a E.length cap ∧ (E.length : Int) ≤ 9223372036854775807 := by
  obtain ⟨l, ⟨a, cap, rfl, hn, _⟩, hl, _⟩ := h
  exact ⟨a, cap, by rw [hl], by rw [← hl]; exact hn⟩
theorem EntsAt.at {w : World} {a : Option Addr} {n cap : Nat} {E : List Ent} (h : EntsAt w (.slice a n cap) E) {j : Nat} (hj : j < E.length) :
    ∃ g o, a = some ⟨g, o, none⟩ ∧ ∃ sl : Sl, w.cell? ⟨g, o + j * 3, none⟩ = some (.string E[j].sv) ∧ w.cell? ⟨g, o + j * 3 + 1, none⟩ = some (.string E[j].op) ∧ w.cell? ⟨g, o + j * 3 + 2, none⟩ = some (slV sl) ∧ intE.Reads w (slV sl) E[j].tr := by
  obtain ⟨l, hr, hl, hn, ht⟩ := h
  have hjl : j < l.length := by rw [hl]; exact hj
  obtain ⟨g, o, rfl, hc⟩ := hr.at hjl
  have h0 := hc j hjl 0 (by decide)
  have h1 := hc j hjl 1 (by decide)
  have h2 := hc j hjl 2 (by decide)
  have hnm := hn j hjl hj
  refine ⟨g, o, rfl, l[j].2.2, ?_, ?_, ?_, ht j hjl hj⟩
  · rw [← hnm.1]; simpa [entE] using h0
  · rw [← hnm.2]; simpa [entE, Nat.add_assoc] using h1
  · simpa [entE, Nat.add_assoc] using h2
theorem ent_ext {e f : Ent} (h1 : e.sv = f.sv) (h2 : e.op = f.op) (h3 : e.tr = f.tr) : e = f := by cases e; cases f; simp only at *; subst_vars; rfl
set_option maxHeartbeats 2000000 in
set_option maxRecDepth 20000 in
theorem rsame_i (v u : Value) (E F : List Ent) (w : World) (hv : EntsAt w v E) (hu : EntsAt w u F) : Calls Tryz.prog 11 #[v, u] w fun e w' => e = .returned (.bool (decide (E = F))) ∧ Ext w w' := by
  obtain ⟨a, cap, rfl, hn⟩ := hv.form
  obtain ⟨a2, cap2, rfl, hn2⟩ := hu.form
  obtain ⟨n, hnl⟩ : ∃ n, n = E.length := ⟨_, rfl⟩
  obtain ⟨n2, hnl2⟩ : ∃ n, n = F.length := ⟨_, rfl⟩
  rw [← hnl] at hv hn ⊢
  rw [← hnl2] at hu hn2 ⊢
  have HS := Lib.hid (And.intro (show ∀ wr, Ext w wr → EntsAt wr (.slice a n cap) E from fun wr k => hv.ext k) (show ∀ wr, Ext w wr → EntsAt wr (.slice a2 n2 cap2) F from fun wr k => hu.ext k))
  have HNL := Lib.hid (And.intro hnl hnl2)
  clear hv hu hnl hnl2
  by_cases hlen : n = n2
  · subst hlen
    go_enter Tryz.func11, Tryz.ntmps11
    go_wp2_with fail
    go_loopg [5] n (fun k p wr => ∃ j : Nat, p = .int .i64 j ∧ j + k = n ∧ Ext w wr ∧ E.take j = F.take j)
    case atStart => exact ⟨0, rfl, Nat.zero_add _, Keeps.refl _ _, rfl⟩
    case round =>
      obtain ⟨j, rfl, hj, hE, hall⟩ := hrel
      by_cases hjn : (j : Int) < n
      · have hjl : j < E.length := by rw [← HNL.out.1]; omega
        have hjm : j < F.length := by rw [← HNL.out.2]; omega
        obtain ⟨g, o, rfl, sl, hc1, hc2, hc3, hc4⟩ := (HS.out.1 wr hE).at hjl
        obtain ⟨g2, o2, rfl, sl2, hd1, hd2, hd3, hd4⟩ := (HS.out.2 wr hE).at hjm
        obtain ⟨y, hyl⟩ : ∃ y, y = E[j] := ⟨_, rfl⟩
        obtain ⟨z, hzl⟩ : ∃ z, z = F[j] := ⟨_, rfl⟩
        rw [← hyl] at hc1 hc2 hc4
        rw [← hzl] at hd1 hd2 hd4
        obtain ⟨s1, s2, s3⟩ := sl
        obtain ⟨t1, t2, t3⟩ := sl2
        dsimp only [slV] at hc3 hc4 hd3 hd4
        have HE := Lib.hid (And.intro hE (And.intro hall (And.intro hyl (And.intro hzl (And.intro hc4 hd4)))))
        have hbad : y ≠ z → decide (E = F) = false := fun hyz => by
          rw [decide_eq_false_iff_not]
          rintro rfl
          exact hyz (hyl.trans hzl.symm)
        have HBD := Lib.hid hbad
        clear hE hall hyl hzl hc4 hd4 hbad
        have h1 := bless_eq y.sv z.sv
        have h2 := bless_eq y.op z.op
        by_cases c1 : y.sv = z.sv
        · rw [decide_eq_true c1] at h1
          have C1 := Lib.hid c1
          clear c1
          by_cases c2 : y.op = z.op
          · rw [decide_eq_true c2] at h2
            have C2 := Lib.hid c2
            clear c2
            go_wp2_with fail
            refine wp_drawE (way [0, 1, 2, 3, 4, 5, 6, 7, 8, 9, 10, 11, 12, 13, 14, 15, 16, 17, 18, 19, 20, 21, 22, 23, 24, 25, 26, 27, 28, 29, 30, 31, 32, 33, 34, 35, 36, 37]) (by kernel_rfl) (by kernel_rfl) (fun w1 hh hd hf hS => ?_)
            have HE1 := Lib.hid (And.intro (HE.out.1.trans hS) (And.intro (HE.out.2.2.2.2.1.ext intE hS) (HE.out.2.2.2.2.2.ext intE hS)))
            simp only [way]
            go_wp2_with (first | (refine' hl_q rfl rfl rfl (fun _ => ?_) ?_; rotate_left; (go_simp <;> (try go_bits) <;> rfl); (try simp only [Act.put, List.setIfInBounds_toArray, List.set_cons_zero, List.set_cons_succ])) | (refine' hl_rS rfl rfl rfl hS ?_ ?_; rotate_left; (intro w9 hS9; (first | have hc9 := Ext.cells hS9 | have hc9 := Keeps.cells hS9); (go_simp <;> rfl)); (try simp only [Act.put, List.setIfInBounds_toArray, List.set_cons_zero, List.set_cons_succ])) | (refine' hl_r rfl rfl rfl ?_ ?_; rotate_left; (rintro w9 (rfl | hS9); (go_simp <;> rfl); (first | have hc9 := Ext.cells hS9 | have hc9 := Keeps.cells hS9 | (try dsimp only at hS9)); (go_simp <;> rfl)); (try simp only [Act.put, List.setIfInBounds_toArray, List.set_cons_zero, List.set_cons_succ])) | (refine' hl_s rfl rfl ?_; (try simp only [Act.put, List.setIfInBounds_toArray, List.set_cons_zero, List.set_cons_succ])) | (refine hl_e rfl rfl rfl (fun K hK => ?_)) | (with_reducible refine And.intro (fun hn => ?_) ?_; (first | exact hS | exact Keeps.alloc hS _ | exact absurd hn (by rw [show needS _ _ = false from by kernel_rfl]; exact Bool.false_ne_true))) | (refine hl_done ?_) | gi_step)
            refine callsIn_wide.2 ((sameints_i _ _ y.tr z.tr _ HE1.out.2.1 HE1.out.2.2).mono ?_)
            rintro e9 w3 ⟨rfl, hE3⟩
            have hS3 := hS.trans hE3
            have HE3 := Lib.hid (HE1.out.1.trans hE3)
            clear hS hE3
            have hS := hS3
            clear hS3 hh hd hf
            by_cases c3 : y.tr = z.tr
            · rw [decide_eq_true c3]
              have HYZ := Lib.hid (ent_ext C1.out C2.out c3)
              clear c3
              go_wp2_with (first | (refine' hl_q rfl rfl rfl (fun _ => ?_) ?_; rotate_left; (go_simp <;> (try go_bits) <;> rfl); (try simp only [Act.put, List.setIfInBounds_toArray, List.set_cons_zero, List.set_cons_succ])) | (refine' hl_rS rfl rfl rfl hS ?_ ?_; rotate_left; (intro w9 hS9; (first | have hc9 := Ext.cells hS9 | have hc9 := Keeps.cells hS9); (go_simp <;> rfl)); (try simp only [Act.put, List.setIfInBounds_toArray, List.set_cons_zero, List.set_cons_succ])) | (refine' hl_r rfl rfl rfl ?_ ?_; rotate_left; (rintro w9 (rfl | hS9); (go_simp <;> rfl); (first | have hc9 := Ext.cells hS9 | have hc9 := Keeps.cells hS9 | (try dsimp only at hS9)); (go_simp <;> rfl)); (try simp only [Act.put, List.setIfInBounds_toArray, List.set_cons_zero, List.set_cons_succ])) | (refine' hl_s rfl rfl ?_; (try simp only [Act.put, List.setIfInBounds_toArray, List.set_cons_zero, List.set_cons_succ])) | (refine hl_e rfl rfl rfl (fun K hK => ?_)) | (with_reducible refine And.intro (fun hn => ?_) ?_; (first | exact hS | exact Keeps.alloc hS _ | exact absurd hn (by rw [show needS _ _ = false from by kernel_rfl]; exact Bool.false_ne_true))) | (refine hl_done ?_) | gi_step)
              go_roundg (gk - 1)
              case measure => omega
              case rel => exact ⟨j + 1, by simp, by omega, HE3.out, by rw [← List.take_append_getElem hjl, ← List.take_append_getElem hjm, HE.out.2.1, ← HE.out.2.2.1, ← HE.out.2.2.2.1, HYZ.out]⟩
            · rw [decide_eq_false c3]
              have HF := Lib.hid (HBD.out fun h => c3 (by rw [h]))
              clear c3
              go_wp2_with (first | (refine' hl_q rfl rfl rfl (fun _ => ?_) ?_; rotate_left; (go_simp <;> (try go_bits) <;> rfl); (try simp only [Act.put, List.setIfInBounds_toArray, List.set_cons_zero, List.set_cons_succ])) | (refine' hl_rS rfl rfl rfl hS ?_ ?_; rotate_left; (intro w9 hS9; (first | have hc9 := Ext.cells hS9 | have hc9 := Keeps.cells hS9); (go_simp <;> rfl)); (try simp only [Act.put, List.setIfInBounds_toArray, List.set_cons_zero, List.set_cons_succ])) | (refine' hl_r rfl rfl rfl ?_ ?_; rotate_left; (rintro w9 (rfl | hS9); (go_simp <;> rfl); (first | have hc9 := Ext.cells hS9 | have hc9 := Keeps.cells hS9 | (try dsimp only at hS9)); (go_simp <;> rfl)); (try simp only [Act.put, List.setIfInBounds_toArray, List.set_cons_zero, List.set_cons_succ])) | (refine' hl_s rfl rfl ?_; (try simp only [Act.put, List.setIfInBounds_toArray, List.set_cons_zero, List.set_cons_succ])) | (refine hl_e rfl rfl rfl (fun K hK => ?_)) | (with_reducible refine And.intro (fun hn => ?_) ?_; (first | exact hS | exact Keeps.alloc hS _ | exact absurd hn (by rw [show needS _ _ = false from by kernel_rfl]; exact Bool.false_ne_true))) | (refine hl_done ?_) | gi_step)
              go_ret
              exact ⟨by rw [HF.out]; rfl, HE3.out⟩
          · rw [decide_eq_false c2] at h2
            have HF := Lib.hid (HBD.out fun h => c2 (by rw [h]))
            clear c2
            go_wp2_with fail
            refine wp_drawE (way [0, 1, 2, 3, 4, 5, 6, 7, 8, 9, 10, 11, 12, 13, 14, 15, 16, 17, 18, 19, 20, 21, 22, 23, 24, 25, 26, 27, 28, 29, 30, 31, 32, 33, 34, 35, 36, 37]) (by kernel_rfl) (by kernel_rfl) (fun w1 hh hd hf hS => ?_)
            have HE1 := Lib.hid (HE.out.1.trans hS)
            simp only [way]
            go_wp2_with (first | (refine' hl_q rfl rfl rfl (fun _ => ?_) ?_; rotate_left; (go_simp <;> (try go_bits) <;> rfl); (try simp only [Act.put, List.setIfInBounds_toArray, List.set_cons_zero, List.set_cons_succ])) | (refine' hl_rS rfl rfl rfl hS ?_ ?_; rotate_left; (intro w9 hS9; (first | have hc9 := Ext.cells hS9 | have hc9 := Keeps.cells hS9); (go_simp <;> rfl)); (try simp only [Act.put, List.setIfInBounds_toArray, List.set_cons_zero, List.set_cons_succ])) | (refine' hl_r rfl rfl rfl ?_ ?_; rotate_left; (rintro w9 (rfl | hS9); (go_simp <;> rfl); (first | have hc9 := Ext.cells hS9 | have hc9 := Keeps.cells hS9 | (try dsimp only at hS9)); (go_simp <;> rfl)); (try simp only [Act.put, List.setIfInBounds_toArray, List.set_cons_zero, List.set_cons_succ])) | (refine' hl_s rfl rfl ?_; (try simp only [Act.put, List.setIfInBounds_toArray, List.set_cons_zero, List.set_cons_succ])) | (refine hl_e rfl rfl rfl (fun K hK => ?_)) | (with_reducible refine And.intro (fun hn => ?_) ?_; (first | exact hS | exact Keeps.alloc hS _ | exact absurd hn (by rw [show needS _ _ = false from by kernel_rfl]; exact Bool.false_ne_true))) | (refine hl_done ?_) | gi_step)
            go_ret
            exact ⟨by rw [HF.out]; rfl, HE1.out⟩
        · rw [decide_eq_false c1] at h1
          have HF := Lib.hid (HBD.out fun h => c1 (by rw [h]))
          clear c1 h2
          go_wp2_with fail
          refine wp_drawE (way [0, 1, 2, 3, 4, 5, 6, 7, 8, 9, 10, 11, 12, 13, 14, 15, 16, 17, 18, 19, 20, 21, 22, 23, 24, 25, 26, 27, 28, 29, 30, 31, 32, 33, 34, 35, 36, 37]) (by kernel_rfl) (by kernel_rfl) (fun w1 hh hd hf hS => ?_)
          have HE1 := Lib.hid (HE.out.1.trans hS)
          simp only [way]
          go_wp2_with (first | (refine' hl_q rfl rfl rfl (fun _ => ?_) ?_; rotate_left; (go_simp <;> (try go_bits) <;> rfl); (try simp only [Act.put, List.setIfInBounds_toArray, List.set_cons_zero, List.set_cons_succ])) | (refine' hl_rS rfl rfl rfl hS ?_ ?_; rotate_left; (intro w9 hS9; (first | have hc9 := Ext.cells hS9 | have hc9 := Keeps.cells hS9); (go_simp <;> rfl)); (try simp only [Act.put, List.setIfInBounds_toArray, List.set_cons_zero, List.set_cons_succ])) | (refine' hl_r rfl rfl rfl ?_ ?_; rotate_left; (rintro w9 (rfl | hS9); (go_simp <;> rfl); (first | have hc9 := Ext.cells hS9 | have hc9 := Keeps.cells hS9 | (try dsimp only at hS9)); (go_simp <;> rfl)); (try simp only [Act.put, List.setIfInBounds_toArray, List.set_cons_zero, List.set_cons_succ])) | (refine' hl_s rfl rfl ?_; (try simp only [Act.put, List.setIfInBounds_toArray, List.set_cons_zero, List.set_cons_succ])) | (refine hl_e rfl rfl rfl (fun K hK => ?_)) | (with_reducible refine And.intro (fun hn => ?_) ?_; (first | exact hS | exact Keeps.alloc hS _ | exact absurd hn (by rw [show needS _ _ = false from by kernel_rfl]; exact Bool.false_ne_true))) | (refine hl_done ?_) | gi_step)
          go_ret
          exact ⟨by rw [HF.out]; rfl, HE1.out⟩
      · have HE := Lib.hid (And.intro hE hall)
        clear hE hall
        go_wp2_with fail
        go_ret
        have e : decide (E = F) = true := by
          rw [decide_eq_true_iff]
          have h := HE.out.2
          have e1 : j = E.length := by rw [← HNL.out.1]; omega
          have e2 : j = F.length := by rw [← HNL.out.2]; omega
          conv at h => lhs; rw [e1]
          conv at h => rhs; rw [e2]
          rw [List.take_length, List.take_length] at h; exact h
        exact ⟨by rw [e]; rfl, HE.out.1⟩
  · have hne : ((n : Int) == n2) = false := by rw [beq_eq_false_iff_ne]; omega
    have HL := Lib.hid hlen
    clear hlen
    go_enter Tryz.func11, Tryz.ntmps11
    go_wp2_with fail
    all_goals try (exfalso; have := HL.out; omega)
    go_ret
    have e : decide (E = F) = false := by
      rw [decide_eq_false_iff_not]
      rintro rfl
      exact HL.out (HNL.out.1.trans HNL.out.2.symm)
    exact ⟨by rw [e]; rfl, Keeps.refl _ _⟩
end Go.Proofs.YtdonmmjikcbihaaGreatDoor
