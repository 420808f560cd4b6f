/- Slices of spans: searching by a function. -/
import Derived.Test.YtdonmmjikcbihaaGreatDoorSls
namespace Go.Proofs.YtdonmmjikcbihaaGreatDoor
open Go.RowKit Go.Proofs Go.Vc
attribute [local irreducible] Calls CallsIn Code.wp Code.wpIn
set_option maxRecDepth 20000 in
theorem indexfunc_bad (cb : Nat) (p : Spn → Bool) (v : Value) (l : List Spn) (w : World) (h : SpnsAt w v l)
    (hp : ∀ x ∈ l, ∀ w', Ext w w' → Calls Tryz.prog 40 (#[spnV x] ++ #[]) w' fun e w'' => e = .returned (.bool (p x)) ∧ Ext w' w'') :
    Calls Tryz.prog 63 #[v, .func (.func 40) #[] #[]] w fun e w' => e = .returned (.int .i64 (indexOf p l)) ∧ Ext w w' := by
  obtain ⟨a, cap, rfl, hn, h0, hcs⟩ := h
  have hln : ∀ j : Nat, j < l.length → a ≠ none := fun j hj ha => by rw [h0 ha] at hj; exact absurd hj (Nat.not_lt_zero _)
  have hcell : ∀ (wr : World), Ext w wr → ∀ g o s, a = some ⟨g, o, s⟩ → (l ≠ [] → s = none) ∧ ∀ i (h : i < l.length), C9 wr g (o + i * 9) l[i] := fun wr hr g o s ha => ⟨(hcs g o s ha).1, fun i hi => ((hcs g o s ha).2 i hi).keeps hr fun hf => hf⟩
  have HB := Lib.hid (And.intro hcell (And.intro hln hp))
  obtain ⟨n, hnl⟩ : ∃ n, n = l.length := ⟨_, rfl⟩
  rw [← hnl] at hn ⊢
  have HNL := Lib.hid hnl
  clear hcell hln hcs h0 hnl hp
  go_enter Tryz.func63, Tryz.ntmps63
  go_wp2_with fail
  go_loopg [8] n (fun k q wr => ∃ j : Nat, q = .int .i64 j ∧ j + k = n ∧ Ext w wr ∧ ∀ i (hi : i < l.length), i < j → p l[i] = false)
  case atStart => exact ⟨0, rfl, Nat.zero_add _, Keeps.refl _ _, fun i _ hi => absurd hi (Nat.not_lt_zero _)⟩
  case round =>
    obtain ⟨j, rfl, hj, hE2, hall⟩ := hrel
    have HA := Lib.hid hall
    clear hall
    by_cases hjn : (j : Int) < n
    · have hjl : j < l.length := by rw [← HNL.out]; omega
      obtain ⟨⟨g, o, s⟩, rfl⟩ := Option.ne_none_iff_exists'.1 (HB.out.2.1 j hjl)
      obtain ⟨hs0, hc9⟩ := HB.out.1 wr hE2 g o s rfl
      obtain rfl := hs0 (ne_nil_of_lt hjl)
      have hy := hc9 j hjl
      obtain ⟨y, hyl⟩ : ∃ y, y = l[j] := ⟨_, rfl⟩
      rw [← hyl] at hy
      unfold C9 at hy
      have HE2 := Lib.hid (And.intro hE2 hyl)
      have HP := Lib.hid (HB.out.2.2 y (by rw [hyl]; exact List.getElem_mem hjl) wr hE2)
      clear hE2 hc9 hyl
      go_wp2_with fail
      refine HP.out.mono ?_
      rintro e9 w3 ⟨rfl, hE3⟩
      have HE3 := Lib.hid (HE2.out.1.trans hE3)
      clear hE3 hy
      cases hpy : p y
      · go_wp2_with fail
        go_roundg (gk - 1)
        case measure => omega
        case rel =>
          refine ⟨j + 1, by simp, by omega, HE3.out, fun i hi hij => ?_⟩
          by_cases hije : i = j
          · subst hije; rw [← HE2.out.2]; exact hpy
          · exact HA.out i hi (by omega)
      · have HM := Lib.hid (indexOf_hit (p := p) hjl (by rw [← HE2.out.2]; exact hpy) (fun i hi => HA.out i (Nat.lt_trans hi hjl) hi))
        go_wp2_with fail
        go_ret
        exact ⟨by rw [HM.out]; rfl, HE3.out⟩
    · have HM := Lib.hid (indexOf_miss (p := p) (l := l) (fun i hi => HA.out i hi (by rw [← HNL.out] at hi; omega)))
      have HE2 := Lib.hid hE2
      clear hE2
      go_wp2_with fail
      go_ret
      exact ⟨by rw [HM.out]; rfl, HE2.out⟩
theorem containsfunc_bad (cb : Nat) (p : Spn → Bool) (v : Value) (l : List Spn) (w : World) (h : SpnsAt w v l)
    (hp : ∀ x ∈ l, ∀ w', Ext w w' → Calls Tryz.prog 40 (#[spnV x] ++ #[]) w' fun e w'' => e = .returned (.bool (p x)) ∧ Ext w' w'') :
    Calls Tryz.prog 39 #[v, .func (.func 40) #[] #[]] w fun e w' => e = .returned (.bool (l.any p)) ∧ Ext w w' := by
  have H := Lib.hid (indexfunc_bad cb p v l w h hp)
  have HM := Lib.hid (indexOf_nonneg p l)
  clear h hp
  go_enter Tryz.func39, Tryz.ntmps39
  go_wp2_with fail
  refine H.out.mono ?_
  rintro e9 w1 ⟨rfl, hE1⟩
  have HE := Lib.hid hE1
  clear hE1
  go_wp2_with fail
  go_ret
  exact ⟨by rw [← HM.out]; rfl, HE.out⟩
set_option maxRecDepth 20000 in
theorem indexfunc_live (cb : Nat) (p : Spn → Bool) (v : Value) (l : List Spn) (w : World) (h : SpnsAt w v l)
    (hp : ∀ x ∈ l, ∀ w', Ext w w' → Calls Tryz.prog 79 (#[spnV x] ++ #[]) w' fun e w'' => e = .returned (.bool (p x)) ∧ Ext w' w'') :
    Calls Tryz.prog 63 #[v, .func (.func 79) #[] #[]] w fun e w' => e = .returned (.int .i64 (indexOf p l)) ∧ Ext w w' := by
  obtain ⟨a, cap, rfl, hn, h0, hcs⟩ := h
  have hln : ∀ j : Nat, j < l.length → a ≠ none := fun j hj ha => by rw [h0 ha] at hj; exact absurd hj (Nat.not_lt_zero _)
  have hcell : ∀ (wr : World), Ext w wr → ∀ g o s, a = some ⟨g, o, s⟩ → (l ≠ [] → s = none) ∧ ∀ i (h : i < l.length), C9 wr g (o + i * 9) l[i] := fun wr hr g o s ha => ⟨(hcs g o s ha).1, fun i hi => ((hcs g o s ha).2 i hi).keeps hr fun hf => hf⟩
  have HB := Lib.hid (And.intro hcell (And.intro hln hp))
  obtain ⟨n, hnl⟩ : ∃ n, n = l.length := ⟨_, rfl⟩
  rw [← hnl] at hn ⊢
  have HNL := Lib.hid hnl
  clear hcell hln hcs h0 hnl hp
  go_enter Tryz.func63, Tryz.ntmps63
  go_wp2_with fail
  go_loopg [8] n (fun k q wr => ∃ j : Nat, q = .int .i64 j ∧ j + k = n ∧ Ext w wr ∧ ∀ i (hi : i < l.length), i < j → p l[i] = false)
  case atStart => exact ⟨0, rfl, Nat.zero_add _, Keeps.refl _ _, fun i _ hi => absurd hi (Nat.not_lt_zero _)⟩
  case round =>
    obtain ⟨j, rfl, hj, hE2, hall⟩ := hrel
    have HA := Lib.hid hall
    clear hall
    by_cases hjn : (j : Int) < n
    · have hjl : j < l.length := by rw [← HNL.out]; omega
      obtain ⟨⟨g, o, s⟩, rfl⟩ := Option.ne_none_iff_exists'.1 (HB.out.2.1 j hjl)
      obtain ⟨hs0, hc9⟩ := HB.out.1 wr hE2 g o s rfl
      obtain rfl := hs0 (ne_nil_of_lt hjl)
      have hy := hc9 j hjl
      obtain ⟨y, hyl⟩ : ∃ y, y = l[j] := ⟨_, rfl⟩
      rw [← hyl] at hy
      unfold C9 at hy
      have HE2 := Lib.hid (And.intro hE2 hyl)
      have HP := Lib.hid (HB.out.2.2 y (by rw [hyl]; exact List.getElem_mem hjl) wr hE2)
      clear hE2 hc9 hyl
      go_wp2_with fail
      refine HP.out.mono ?_
      rintro e9 w3 ⟨rfl, hE3⟩
      have HE3 := Lib.hid (HE2.out.1.trans hE3)
      clear hE3 hy
      cases hpy : p y
      · go_wp2_with fail
        go_roundg (gk - 1)
        case measure => omega
        case rel =>
          refine ⟨j + 1, by simp, by omega, HE3.out, fun i hi hij => ?_⟩
          by_cases hije : i = j
          · subst hije; rw [← HE2.out.2]; exact hpy
          · exact HA.out i hi (by omega)
      · have HM := Lib.hid (indexOf_hit (p := p) hjl (by rw [← HE2.out.2]; exact hpy) (fun i hi => HA.out i (Nat.lt_trans hi hjl) hi))
        go_wp2_with fail
        go_ret
        exact ⟨by rw [HM.out]; rfl, HE3.out⟩
    · have HM := Lib.hid (indexOf_miss (p := p) (l := l) (fun i hi => HA.out i hi (by rw [← HNL.out] at hi; omega)))
      have HE2 := Lib.hid hE2
      clear hE2
      go_wp2_with fail
      go_ret
      exact ⟨by rw [HM.out]; rfl, HE2.out⟩
theorem containsfunc_live (cb : Nat) (p : Spn → Bool) (v : Value) (l : List Spn) (w : World) (h : SpnsAt w v l)
    (hp : ∀ x ∈ l, ∀ w', Ext w w' → Calls Tryz.prog 79 (#[spnV x] ++ #[]) w' fun e w'' => e = .returned (.bool (p x)) ∧ Ext w' w'') :
    Calls Tryz.prog 39 #[v, .func (.func 79) #[] #[]] w fun e w' => e = .returned (.bool (l.any p)) ∧ Ext w w' := by
  have H := Lib.hid (indexfunc_live cb p v l w h hp)
  have HM := Lib.hid (indexOf_nonneg p l)
  clear h hp
  go_enter Tryz.func39, Tryz.ntmps39
  go_wp2_with fail
  refine H.out.mono ?_
  rintro e9 w1 ⟨rfl, hE1⟩
  have HE := Lib.hid hE1
  clear hE1
  go_wp2_with fail
  go_ret
  exact ⟨by rw [← HM.out]; rfl, HE.out⟩
end Go.Proofs.YtdonmmjikcbihaaGreatDoor
