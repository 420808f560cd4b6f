/- Package entry: a view that is nil. -/
import Derived.Test.YtdonmmjikcbihaaGreatDoorEnt3
namespace Go.Proofs.YtdonmmjikcbihaaGreatDoor
open Go.RowKit Go.Proofs Go.Vc
attribute [local go_sem] Oper.semAt_some
attribute [local irreducible] Calls CallsIn Code.wp Code.wpIn
theorem vapplynil_i (vo vi : Value) (out inn : List Spn) (w : World) (ho : SpnsAt w vo out) (hi : SpnsAt w vi inn) (hlo : out.length ≤ 100) (hli : inn.length ≤ 100) :
    Calls Tryz.prog 9 #[.pointer none, .agg #[vo, vi]] w fun e w' => e = .returned (.bool ((out.length : Int) + inn.length == 0)) ∧ Ext w w' := by
  obtain ⟨ao, capo, rfl, _, _, _⟩ := ho
  obtain ⟨ai, capi, rfl, _, _, _⟩ := hi
  obtain ⟨no, hno⟩ : ∃ n, n = out.length := ⟨_, rfl⟩
  obtain ⟨ni, hni⟩ : ∃ n, n = inn.length := ⟨_, rfl⟩
  rw [← hno, ← hni]
  have hno2 : (no : Int) ≤ 100 := by omega
  have hni2 : (ni : Int) ≤ 100 := by omega
  clear hno hni hlo hli
  have HE := Lib.hid (show Ext w (w.alloc (.cells #[.slice ao no capo, .slice ai ni capi] 36)) from (Keeps.refl _ w).alloc _)
  go_enter Tryz.func9, Tryz.ntmps9
  go_wp2_with fail
  go_ret
  exact ⟨rfl, HE.out⟩
theorem evallnil_i (w : World) : Calls Tryz.prog 12 #[.pointer none] w fun e w' => e = .returned (.slice none 0 0) ∧ Ext w w' := by
  refine calls_of_marks Tryz.func12 rfl ?_
  simp only [Tryz.ntmps12, List.size_toArray, List.length_cons, List.length_nil, Nat.reduceAdd, Nat.reduceSub, Array.replicate_succ,
     Array.replicate_zero, List.push_toArray, List.append_toArray, List.nil_append, List.cons_append]
  gi_wp2_with fail
  refine callsIn_wide.2 ((efromnil_i _ _).mono ?_)
  rintro e9 w1 ⟨rfl, hw1⟩
  gi_wp2_with fail
  have hE1 : Ext w w1 := by rw [hw1]; exact (((Keeps.refl _ w).alloc _).alloc _).alloc _
  have hsz : ∀ (w : World) o, (w.alloc o).heap.size = w.heap.size + 1 := fun w o => by show (w.heap.push _).size = _; rw [Array.size_push]
  have h2 : w1.heap[w.heap.size + 2]? = some (.cells #[.pointer none] 88 (0, 0)) := by
    have := World.alloc_heap_new ((w.alloc (.cells #[.slice none 0 0] 38)).alloc (.cells #[.string ⟨#[]⟩] 9)) (.cells #[.pointer none] 88)
    rw [hsz, hsz] at this
    rw [hw1]; exact this
  have h0 : w1.heap[w.heap.size]? = some (.cells #[.slice none 0 0] 38 (0, 0)) := by
    have := World.alloc_heap_new w (.cells #[.slice none 0 0] 38)
    rw [hw1]
    exact (Ext.same (((Keeps.refl Non _).alloc _).alloc _) (lt_of_heap this)).trans this
  rw [← hw1]
  obtain ⟨n, hn⟩ : ∃ n, n = w.heap.size := ⟨_, rfl⟩
  rw [← hn] at h0 h2 ⊢
  clear hw1 hsz
  refine range_loop (gf := 70) (lb := #[.pointer (some ⟨n + 2, 0, none⟩)]) (xs := []) (by simp [Act.eval]) (enters_of Tryz.func70 (by kernel_rfl) rfl) (fun x hx => nomatch hx) (seqnil_si (n + 2))
    (fun k W => W.heap[n]? = some (.cells #[.slice none 0 0] 38 (0, 0)) ∧ W.heap[n + 2]? = some (.cells #[.pointer none] 88 (0, 0)) ∧ Ext w W)
    (fun _ _ _ => False) ?_ (fun _ _ _ _ h => h.elim) ?_ ?_ ?_ ?_ (fun _ _ _ _ _ _ h => h.elim)
  · rintro k W W' ⟨i0, i2, i5⟩ hbk
    exact ⟨hbk.same _ _ i0 (.inr rfl), hbk.same _ _ i2 (.inr rfl), ext_bk i5 hbk hE1.size⟩
  · rintro k W ⟨i0, i2, i5⟩
    rw [blk_cell i2]; rfl
  · exact ⟨h0, h2, hE1⟩
  · rintro lp k hk
    exact absurd hk (Nat.not_lt_zero _)
  · rintro D W hD ⟨i0, i2, i5⟩ hDh
    have hcv := blk_cell i0
    have hDw : w.heap.size ≤ D := Nat.le_trans hE1.size hD
    have HP := Lib.hid (ext_bk i5 (Bk.putObj (o' := .deferred none) hDh rfl hDw) (Nat.le_refl _))
    have HD := Lib.hid hDh
    clear hn hE1 h0 h2 i0 i2 i5 hDh
    simp only [Exit.inBlock, Exit.then]
    gi_wp2_with fail
    refine leave_ret (v := .slice none 0 0) HD.out ?_ ⟨rfl, HP.out⟩
    simp [results, Tryz.results12, go_sem]
end Go.Proofs.YtdonmmjikcbihaaGreatDoor
