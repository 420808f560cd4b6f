/- The document's answers for entry. -/
import Derived.Test.YtdonmmjikcbihaaGreatDoorRef9
import Derived.Test.YtdonmmjikcbihaaGreatDoorEntR
import Derived.Deep.LoopGhost
namespace Go.Proofs.YtdonmmjikcbihaaGreatDoor
open Go.RowKit Go.Proofs Go.Vc
attribute [local irreducible] Calls CallsIn Code.wp Code.wpIn
theorem one_i (x y : Spn) (w : World) : Calls Tryz.prog 26 #[spnV x, spnV y] w fun e w' => e = .returned (.bool (alike x y)) ∧ Ext w w' := by
  obtain ⟨wa, hwa⟩ : ∃ wa, wa = (w.alloc (.cells (spnC x) 48)).alloc (.cells (spnC y) 48) := ⟨_, rfl⟩
  have HE := Lib.hid (show Ext w wa from by rw [hwa]; exact ((Keeps.refl _ w).alloc _).alloc _)
  have hb : ∀ a b : ByteArray, (a.toList == b.toList) = decide (a = b) := fun a b => by
    by_cases h : a = b
    · rw [h]; simp
    · rw [decide_eq_false h, beq_eq_false_iff_ne]; exact fun e => h (bytes_ext e)
  have h1 := hb x.sv y.sv
  have h2 := hb x.op y.op
  clear hb
  have HA := Lib.hid (show alike x y = (decide (x.sv = y.sv) && (decide (x.op = y.op) && decide (x.tr = y.tr))) from by
    unfold alike trip
    simp only [Prod.mk.injEq, Bool.decide_and])
  cases c1 : decide (x.sv = y.sv)
  · rw [c1] at h1 HA
    clear c1
    go_enter Tryz.func26, Tryz.ntmps26
    go_wp2_with fail
    go_ret
    exact ⟨by rw [HA.out]; rfl, by rw [← hwa]; exact HE.out⟩
  · rw [c1] at h1 HA
    clear c1
    cases c2 : decide (x.op = y.op)
    · rw [c2] at h2 HA
      clear c2
      go_enter Tryz.func26, Tryz.ntmps26
      go_wp2_with fail
      go_ret
      exact ⟨by rw [HA.out]; rfl, by rw [← hwa]; exact HE.out⟩
    · rw [c2] at h2 HA
      clear c2
      by_cases c3 : x.tr = y.tr
      · have hb3 : (x.tr == y.tr) = true := by rw [c3]; simp
        have HC := Lib.hid (decide_eq_true c3)
        clear c3
        go_enter Tryz.func26, Tryz.ntmps26
        go_wp2_with fail
        go_ret
        exact ⟨by rw [HA.out, HC.out]; rfl, by rw [← hwa]; exact HE.out⟩
      · have hb3 : (x.tr == y.tr) = false := by rw [beq_eq_false_iff_ne]; exact c3
        have HC := Lib.hid (decide_eq_false c3)
        clear c3
        go_enter Tryz.func26, Tryz.ntmps26
        go_wp2_with fail
        go_ret
        exact ⟨by rw [HA.out, HC.out]; rfl, by rw [← hwa]; exact HE.out⟩
/-- short names -/
def Shrt (x : Spn) : Prop := x.sv.size ≤ 1000000 ∧ x.op.size ≤ 1000000
set_option maxRecDepth 20000 in
theorem rmayl_i (v : Value) (l : List Spn) (w : World) (h : SpnsAt w v l) (hf : ∀ x ∈ l, x.Fits ∧ Shrt x) : Calls Tryz.prog 25 #[v] w fun e w' => e = .returned (.bool (l.all may)) ∧ Ext w w' := by
  have h' := h
  obtain ⟨a, cap, rfl, hn, h0, hju⟩ := h'
  obtain ⟨n, hnl⟩ : ∃ n, n = l.length := ⟨_, rfl⟩
  rw [← hnl] at h hn ⊢
  have HS := Lib.hid (And.intro (show ∀ wr, Ext w wr → SpnsAt wr (.slice a n cap) l from fun wr k => h.ext k) hf)
  have HNL := Lib.hid hnl
  clear h h0 hju hnl hf
  go_enter Tryz.func25, Tryz.ntmps25
  go_wp2_with fail
  go_loopg [3] n (fun k p wr => ∃ j : Nat, p = .int .i64 j ∧ j + k = n ∧ Ext w wr ∧ (l.take j).all may = true)
  case atStart => exact ⟨0, rfl, Nat.zero_add _, Keeps.refl _ _, rfl⟩
  case round =>
    obtain ⟨j, rfl, hj, hE, hall⟩ := hrel
    have HA := Lib.hid (And.intro hall hE)
    clear hall
    by_cases hc1 : (j : Int) < n
    · have hjl : j < l.length := by rw [← HNL.out]; omega
      obtain ⟨g, o, rfl, hc9⟩ := (HS.out.1 wr hE).at hjl
      have hy := hc9 j hjl
      obtain ⟨y, hyl⟩ : ∃ y, y = l[j] := ⟨_, rfl⟩
      rw [← hyl] at hy
      unfold C9 at hy
      have HT := Lib.hid (And.intro (show l.take (j + 1) = l.take j ++ [y] from by rw [hyl]; exact (List.take_append_getElem hjl).symm) (show y ∈ l from by rw [hyl]; exact List.getElem_mem hjl))
      clear hc9 hyl hE
      go_wp2_with fail
      refine (rmay_i y (HS.out.2 y HT.out.2).1 (HS.out.2 y HT.out.2).2.1 (HS.out.2 y HT.out.2).2.2 _).mono ?_
      rintro e9 w2 ⟨rfl, hE2⟩
      have HE2 := Lib.hid (HA.out.2.trans hE2)
      clear hE2 hy
      cases hs : may y
      · have HF := Lib.hid (show l.all may = false from by rw [List.all_eq_false]; exact ⟨y, HT.out.2, by rw [hs]; simp⟩)
        rw [mayE_f hs]
        clear hs
        go_wp2_with fail
        go_ret
        exact ⟨by rw [HF.out]; rfl, HE2.out⟩
      · have HF := Lib.hid (show (l.take (j + 1)).all may = true from by rw [HT.out.1, List.all_append, HA.out.1]; simp [hs])
        rw [mayE_t hs]
        clear hs
        go_wp2_with fail
        go_roundg (gk - 1)
        case measure => omega
        case rel => exact ⟨j + 1, by simp, by omega, HE2.out, HF.out⟩
    · have HF := Lib.hid (show l.all may = true from by
        have h2 := HA.out.1
        have : j = l.length := by rw [← HNL.out]; omega
        rw [this, List.take_length] at h2; exact h2)
      have HE := Lib.hid hE
      clear hE
      go_wp2_with fail
      go_ret
      exact ⟨by rw [HF.out]; rfl, HE.out⟩
end Go.Proofs.YtdonmmjikcbihaaGreatDoor
