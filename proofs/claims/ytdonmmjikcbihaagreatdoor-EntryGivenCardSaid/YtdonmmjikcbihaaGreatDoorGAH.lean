/- EntryGiven: for every list of records, every two names and every number that can be read the law answers true and leaves the list as it was. The two tables of unicode/utf8 that the row lists are tied by the given tie; nothing else is assumed. -/
import Derived.Test.YtdonmmjikcbihaaGreatDoorTie
import Derived.Test.YtdonmmjikcbihaaGreatDoorCards
import Derived.SevenTiedAt
import Derived.PinnedBridge
import Derived.Test.YtdonmmjikcbihaaGreatDoorGAG
namespace Go.Proofs.YtdonmmjikcbihaaGreatDoor
open Go.RowKit Go.Proofs Go.Vc Go.ChangeShapes Go.WideShapes Go.ChangeAt
theorem c54 : Tryz.prog.cellsOf 54 = 2 := by kernel_rfl
set_option maxRecDepth 100000 in
/-- two strings read -/
theorem open_two {H : Type} {enc : TypeId × Value → H} {W : World} {r : Reach} {base : Nat} {v : Value} {d : DataW H} {ps : List MemPlace} (hv : Value.okWide Tryz.prog W r base 54 v) (h : DataW.Trod enc Tryz.prog W 0 (fun _ => true) true 54 v d ps) :
    ∃ x y, v = .agg #[.string x, .string y] := by
  have hv' := hv
  simp only [Value.okWide, Tryz.underlying54] at hv'
  obtain ⟨cs, rfl, hsz, _⟩ := hv'
  obtain ⟨fuel, hf⟩ := h
  obtain ⟨xs, m, _, _, hlen, hxl, hel⟩ := DataW.trod_array Tryz.underlying54 hf
  rw [c54] at hlen
  have hc : (Value.agg cs).cells.toList = cs.toList := rfl
  rw [hc] at hlen hel
  obtain ⟨c⟩ := cs
  match c, hlen, xs, hxl, hel with
  | [c0, c1], _, [x0, x1], _, hel =>
    have f0 : DataW.trod enc Tryz.prog W 0 (fun _ => true) true m 9 (([c0, c1].drop (0 * Tryz.prog.cellsOf 9)).take (Tryz.prog.cellsOf 9)) = some x0 := hel 0 (by decide)
    have f1 : DataW.trod enc Tryz.prog W 0 (fun _ => true) true m 9 (([c0, c1].drop (1 * Tryz.prog.cellsOf 9)).take (Tryz.prog.cellsOf 9)) = some x1 := hel 1 (by decide)
    rw [c9] at f0 f1
    obtain ⟨a0, e0, _, _⟩ := DataW.trod_string Tryz.underlying9 f0
    obtain ⟨a1, e1, _, _⟩ := DataW.trod_string Tryz.underlying9 f1
    simp at e0 e1
    subst e0 e1
    exact ⟨a0, a1, rfl⟩
set_option maxRecDepth 100000 in
theorem egiven_lifted (os : Os) (started : os.Started) (H : Type) (enc : TypeId × Value → H) :
    ReturnsInHanded {} Tryz.checked os 6 .any (fun w args => (Rows.entryGivenSpec.pre enc Tryz.prog Tryz.f6 [] false w args ∧ laidMetH Tryz.prog Rows.entryGivenRow.laid w) ∧ sizedMet enc Tryz.prog Tryz.f6 (OpenSpec.ofChange Rows.entryGivenSpec) false w args)
      (Rows.entryGivenSpec.post enc Tryz.prog Tryz.f6 false true false false) := by
  refine returnsInHanded_of_change_and_shaped (C := Tryz.checked) (X := fun w _ => laidMetH Tryz.prog Rows.entryGivenRow.laid w) ownKnob_none started (by kernel_rfl) Tryz.func6
    (ChangeSpec.witness_shaped (enc := enc) (C := Tryz.checked) (os := os) (X := fun w _ => laidMetH Tryz.prog Rows.entryGivenRow.laid w) false (World.laidAll Tryz.prog os Rows.entryGivenRow.laid) #[.slice none 0 0, .agg #[.string ⟨#[]⟩, .string ⟨#[]⟩], .int .u8 0] 8 (World.laidAll_os _ _ _)
      (World.shaped_of_ZipB (by kernel_rfl) (by kernel_rfl)) (by kernel_rfl) (by kernel_rfl) (by kernel_rfl)
      (by rw [MakeChecks.laidMetH_plain _ _ _ (by kernel_rfl)]; exact laidMet_laidAll _ (by kernel_rfl) (by kernel_rfl))) ?_
  intro W base args ds gs before hval0 hW hsh
  have hval : ∀ (j : Nat) t v, Tryz.f6.params[j]? = some t → args[j]? = some v → Value.okWide Tryz.prog W .any base t v := hval0
  have hW' := hW
  obtain ⟨p, q, hA0, hV, rfl, _, _⟩ := hW
  have hA : DataW.TrodAll enc Tryz.prog W 0 (fun _ => true) true Tryz.f6.params.toList args.toList ds p := hA0
  rw [Tryz.params6] at hA hval
  obtain ⟨v0, v1, v2, d0, d1, d2, q0, q1, q2, rfl, rfl, rfl, h0, h1, h2⟩ := trodAll_three hA
  obtain ⟨rfl, rfl⟩ := trodVars_none hV
  simp only [List.append_nil] at hW'
  obtain ⟨a0, len, cap, rfl⟩ := okWide_slice Tryz.underlying31 (hval 0 _ v0 rfl rfl)
  have h0' := h0
  obtain ⟨fuel, hf⟩ := h0'
  obtain ⟨s, D, hcs, hD, hfit⟩ := open_spns hf
  have hs : slV s = .slice a0 len cap := by simpa [Value.cells] using hcs.symm
  rw [hs] at hD
  obtain ⟨x, y, rfl⟩ := open_two (hval 1 _ v1 rfl rfl) h1
  obtain ⟨n, rfl⟩ := okWide_int Tryz.underlying5 (hval 2 _ v2 rfl rfl)
  have h2' := h2
  obtain ⟨fuel2, hf2⟩ := h2'
  obtain ⟨n', e2, _, hwf⟩ := DataW.trod_int Tryz.underlying5 hf2
  have hn' : n = n' := by simpa [Value.cells] using e2
  subst hn'
  have hn : 0 ≤ n ∧ n < 256 := by
    simp [Lit.wf, IntKind.min, IntKind.max, IntKind.signed, IntKind.bits] at hwf
    omega
  obtain ⟨mx, hmx⟩ := maxlen_of hsh
  refine (egiven_i (.slice a0 len cap) D x y n hn W mx hD hfit hmx).mono fun e W' ⟨he, hE⟩ => ?_
  subst he
  have hB := hE.below
  have g0 := Below.trod laidOut (by kernel_rfl) (of_decide_eq_true (by kernel_rfl)) h0 hB (fun x hx => hW'.lt x (by simp [hx]))
  have g1 := Below.trod laidOut (by kernel_rfl) (of_decide_eq_true (by kernel_rfl)) h1 hB (fun x hx => hW'.lt x (by simp [hx]))
  have g2 := Below.trod laidOut (by kernel_rfl) (of_decide_eq_true (by kernel_rfl)) h2 hB (fun x hx => hW'.lt x (by simp [hx]))
  exact ⟨_, rfl, ChangeSpec.post_alike (W'' := { W' with tape := W.tape }) ⟨_, _, _, [], _, [], hW', trodAll_mk1 (shut_bool Tryz.underlying4 _), trodAll_mk3 g0 g1 g2, rfl, hB.frame _, fun h => by cases h⟩ ⟨rfl, rfl, rfl⟩⟩
theorem entryGiven_holds : Rows.EntryGivenSaid :=
  OpenClaim.holds_of_wide 6 Tryz.f6 rfl rfl rfl rfl rfl rfl rfl ⟨rfl, rfl, rfl, rfl, rfl⟩ rfl rfl rfl rfl rfl (by kernel_rfl) Tryz.func6 (by kernel_rfl)
    (of_decide_eq_true (by kernel_rfl)) (by unfold Func.isWrapper; first | (rw [if_pos (by decide +kernel)]; kernel_rfl) | (rw [if_neg (by decide +kernel)]; exact ⟨rfl, rfl⟩))
    (fun os started H enc _ => egiven_lifted os started H enc)
theorem entryGiven_card : Rows.EntryGivenCardSaid :=
  Claim7.holds_tied_plain_at .later [] [.data, .pinned] true Rows.entryGivenCard.stood.harness false entryGiven_holds (fun _ h => by cases h) (by kernel_rfl) (fun _ h => by cases h) entryGiven_row_tie rfl ⟨rfl, rfl⟩ (by kernel_rfl) rfl
    (fun f fn hf hfn => by
      obtain rfl : f = 6 := Option.some.inj ((show Tryz.prog.funcNamed "gossamer/gossamerlaw28.EntryGiven" = some 6 by kernel_rfl).symm.trans hf) |>.symm
      obtain rfl : fn = Tryz.f6 := (Option.some.inj (Tryz.func6.symm.trans hfn)).symm
      exact ⟨by kernel_rfl, fun j t ht => by
        rw [Tryz.params6] at ht
        have hm : t ∈ [31, 54, 5] := by simpa using Array.mem_of_getElem? ht
        have hall : ([31, 54, 5].all fun u => !Tryz.prog.wantsStandIn u) = true := by kernel_rfl
        exact (show Tryz.prog.wantsStandIn t = false by simpa using List.all_eq_true.1 hall t hm)⟩)
    (by kernel_rfl)
#print axioms entryGiven_card
end Go.Proofs.YtdonmmjikcbihaaGreatDoor
