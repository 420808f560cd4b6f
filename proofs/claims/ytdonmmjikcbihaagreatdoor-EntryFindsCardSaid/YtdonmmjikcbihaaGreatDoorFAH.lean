/- EntryFinds: for every list of lists of records that can be read the law answers true and leaves them as they were. The two tables of unicode/utf8 that the row lists are tied by the given tie; nothing else is assumed. -/
import Derived.Test.YtdonmmjikcbihaaGreatDoorTie
import Derived.Test.YtdonmmjikcbihaaGreatDoorCards
import Derived.SevenTiedAt
import Derived.PinnedBridge
import Derived.Test.YtdonmmjikcbihaaGreatDoorFAG
namespace Go.Proofs.YtdonmmjikcbihaaGreatDoor
open Go.RowKit Go.Proofs Go.Vc Go.ChangeShapes Go.WideShapes Go.ChangeAt
set_option maxRecDepth 100000 in
theorem efinds_lifted (os : Os) (started : os.Started) (H : Type) (enc : TypeId × Value → H) :
    ReturnsInHanded {} Tryz.checked os 5 .any (fun w args => (Rows.entryFindsSpec.pre enc Tryz.prog Tryz.f5 [] false w args ∧ laidMetH Tryz.prog Rows.entryFindsRow.laid w) ∧ sizedMet enc Tryz.prog Tryz.f5 (OpenSpec.ofChange Rows.entryFindsSpec) false w args)
      (Rows.entryFindsSpec.post enc Tryz.prog Tryz.f5 false true false false) := by
  refine returnsInHanded_of_change_and_shaped (C := Tryz.checked) (X := fun w _ => laidMetH Tryz.prog Rows.entryFindsRow.laid w) ownKnob_none started (by kernel_rfl) Tryz.func5
    (ChangeSpec.witness_shaped (enc := enc) (C := Tryz.checked) (os := os) (X := fun w _ => laidMetH Tryz.prog Rows.entryFindsRow.laid w) false (World.laidAll Tryz.prog os Rows.entryFindsRow.laid) #[.slice none 0 0] 8 (World.laidAll_os _ _ _)
      (World.shaped_of_ZipB (by kernel_rfl) (by kernel_rfl)) (by kernel_rfl) (by kernel_rfl) (by kernel_rfl)
      (by rw [MakeChecks.laidMetH_plain _ _ _ (by kernel_rfl)]; exact laidMet_laidAll _ (by kernel_rfl) (by kernel_rfl))) ?_
  intro W base args ds gs before hval0 hW hsh
  have hval : ∀ (j : Nat) t v, Tryz.f5.params[j]? = some t → args[j]? = some v → Value.okWide Tryz.prog W .any base t v := hval0
  have hW' := hW
  obtain ⟨p, q, hA0, hV, rfl, _, _⟩ := hW
  have hA : DataW.TrodAll enc Tryz.prog W 0 (fun _ => true) true Tryz.f5.params.toList args.toList ds p := hA0
  rw [Tryz.params5] at hA hval
  obtain ⟨v0, d0, rfl, rfl, h0⟩ := trodAll_one hA
  obtain ⟨rfl, rfl⟩ := trodVars_none hV
  simp only [List.append_nil] at hW'
  obtain ⟨a0, len, cap, rfl⟩ := okWide_slice Tryz.underlying50 (hval 0 _ v0 rfl rfl)
  have h0' := h0
  obtain ⟨fuel, hf⟩ := h0'
  obtain ⟨s, D, hcs, hD, hfit⟩ := open_spss hf
  have hs : slV s = .slice a0 len cap := by simpa [Value.cells] using hcs.symm
  rw [hs] at hD
  obtain ⟨mx, hmx⟩ := maxlen_of hsh
  refine (efinds_i (.slice a0 len cap) D W mx hD hfit hmx).mono fun e W' ⟨he, hE⟩ => ?_
  subst he
  have hB := hE.below
  have h1 := Below.trod laidOut (by kernel_rfl) (of_decide_eq_true (by kernel_rfl)) h0 hB (fun x hx => hW'.lt x hx)
  exact ⟨_, rfl, ChangeSpec.post_alike (W'' := { W' with tape := W.tape }) ⟨_, _, _, [], p, [], hW', trodAll_mk1 (shut_bool Tryz.underlying4 _), trodAll_mk1 h1, rfl, hB.frame _, fun h => by cases h⟩ ⟨rfl, rfl, rfl⟩⟩
theorem entryFinds_holds : Rows.EntryFindsSaid :=
  OpenClaim.holds_of_wide 5 Tryz.f5 rfl rfl rfl rfl rfl rfl rfl ⟨rfl, rfl, rfl, rfl, rfl⟩ rfl rfl rfl rfl rfl (by kernel_rfl) Tryz.func5 (by kernel_rfl)
    (of_decide_eq_true (by kernel_rfl)) (by unfold Func.isWrapper; first | (rw [if_pos (by decide +kernel)]; kernel_rfl) | (rw [if_neg (by decide +kernel)]; exact ⟨rfl, rfl⟩))
    (fun os started H enc _ => efinds_lifted os started H enc)
theorem entryFinds_card : Rows.EntryFindsCardSaid :=
  Claim7.holds_tied_plain_at .later [] [.data, .pinned] true Rows.entryFindsCard.stood.harness false entryFinds_holds (fun _ h => by cases h) (by kernel_rfl) (fun _ h => by cases h) entryFinds_row_tie rfl ⟨rfl, rfl⟩ (by kernel_rfl) rfl
    (fun f fn hf hfn => by
      obtain rfl : f = 5 := Option.some.inj ((show Tryz.prog.funcNamed "gossamer/gossamerlaw28.EntryFinds" = some 5 by kernel_rfl).symm.trans hf) |>.symm
      obtain rfl : fn = Tryz.f5 := (Option.some.inj (Tryz.func5.symm.trans hfn)).symm
      exact ⟨by kernel_rfl, fun j t ht => by
        rw [Tryz.params5] at ht
        have hm : t ∈ [50] := by simpa using Array.mem_of_getElem? ht
        have hall : ([50].all fun u => !Tryz.prog.wantsStandIn u) = true := by kernel_rfl
        exact (show Tryz.prog.wantsStandIn t = false by simpa using List.all_eq_true.1 hall t hm)⟩)
    (by kernel_rfl)
#print axioms entryFinds_card
end Go.Proofs.YtdonmmjikcbihaaGreatDoor
