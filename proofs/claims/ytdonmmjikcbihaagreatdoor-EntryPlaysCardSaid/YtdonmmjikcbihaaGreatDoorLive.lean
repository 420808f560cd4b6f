/- Package store: the records that are alive. -/
import Derived.Test.YtdonmmjikcbihaaGreatDoorSlf
import Derived.Test.YtdonmmjikcbihaaGreatDoorEks
import Derived.Lib.LazyBuf
namespace Go.Proofs.YtdonmmjikcbihaaGreatDoor
open Go.RowKit Go.Proofs Go.Vc
attribute [local irreducible] Calls CallsIn Code.wp Code.wpIn
theorem live1_i (x : Spn) (w : World) : Calls Tryz.prog 79 (#[spnV x] ++ #[]) w fun e w' => e = .returned (.bool x.gone) ∧ Ext w w' := by
  show Calls _ _ #[spnV x] _ _
  go_enter Tryz.func79, Tryz.ntmps79
  go_wp2_with fail
  go_ret
  exact ⟨rfl, (Keeps.refl _ w).alloc _⟩
theorem own_empty (B : Nat) (w : World) (h : B ≤ w.heap.size) : spnE.Own B (.slice (some ⟨w.heap.size, 0, none⟩) 0 0) [] (w.alloc (.cells #[] 48)) :=
  ⟨rfl, .inr ⟨w.heap.size, 0, #[], rfl, h, World.alloc_heap_new w _, Nat.le_refl _, by decide, rfl, rfl⟩⟩
theorem eql_nil (a : Option Addr) (n c : Nat) (w : World) : (binOp .eql 31 (.slice a n c) (.slice none 0 0)).run Tryz.prog w = .ok (.bool a.isNone) w :=
  run_eql_slice_nil w _ _ a n c spnE.ht
attribute [local go_sem high] eql_nil
def ClonePost (l : List Spn) (w : World) (e : Ending) (w' : World) : Prop := ∃ v, e = .returned v ∧ spnE.Own w.heap.size v l w' ∧ Ext w w'
set_option maxRecDepth 20000 in
theorem clone_i (v : Value) (l : List Spn) (w : World) (h : SpnsAt w v l) (hl : l.length ≤ 1000000) : Calls Tryz.prog 78 #[v] w (ClonePost l w) := by
  have h' := h
  obtain ⟨a, cap, rfl, hn, h0, hju⟩ := h'
  cases a with
  | none =>
    have hl0 := h0 rfl
    subst hl0
    have HF := Lib.hid (show ClonePost [] w (.returned (.slice none 0 0)) w from ⟨_, rfl, Ek.Own.nil spnE _ _, Keeps.refl _ _⟩)
    clear h h0 hju hl
    go_enter Tryz.func78, Tryz.ntmps78
    go_wp2_with fail
    go_ret
    exact HF.out
  | some ad =>
    have hE : Ext w (w.alloc (.cells #[] 48)) := (Keeps.refl _ w).alloc _
    have H := Lib.hid (And.intro (reads_of_spns (h.ext hE)) (And.intro hE hl))
    clear h h0 hju hl hE
    go_enter Tryz.func78, Tryz.ntmps78
    go_wp2_with (at_builtin; refine Ek.app' spnE rfl _ _ rfl w.heap.size (.slice (some ⟨w.heap.size, 0, none⟩) 0 0) [] l rfl (own_empty _ w (Nat.le_refl _)) H.out.1 (by rw [List.length_nil, Nat.zero_add]; exact H.out.2.2) H.out.2.1.size ?_)
    intro v5 w5 hown5 hgr5 _ _
    have H5 := Lib.hid (show ClonePost l w (.returned v5) w5 from ⟨_, rfl, hown5, (own_empty w.heap.size w (Nat.le_refl _)).grow spnE H.out.2.1 (Nat.le_refl _) hgr5⟩)
    clear hown5 hgr5
    go_wp2_with fail
    go_ret
    exact H5.out
/-- where nothing is gone DeleteFunc gives back what it got -/
theorem delete0_i (v : Value) (l : List Spn) (w : World) (h : SpnsAt w v l) (hg : ∀ x ∈ l, x.gone = false) : Calls Tryz.prog 77 #[v, .func (.func 79) #[] #[]] w fun e w' => e = .returned v ∧ Ext w w' := by
  have HI := Lib.hid (indexfunc_live 0 (fun x => x.gone) v l w h (fun x _ w' _ => live1_i x w'))
  have hm : indexOf (fun x => x.gone) l = -1 := indexOf_miss fun i hi => hg _ (List.getElem_mem hi)
  obtain ⟨a, cap, rfl, hn, h0, hju⟩ := h
  obtain ⟨n, hnl⟩ : ∃ n, n = l.length := ⟨_, rfl⟩
  rw [← hnl] at HI ⊢
  clear hn h0 hju hnl hg
  go_enter Tryz.func77, Tryz.ntmps77
  go_wp2_with fail
  refine HI.out.mono ?_
  rintro e9 w1 ⟨rfl, hE1⟩
  rw [hm]
  have HE := Lib.hid hE1
  clear hE1 hm
  go_wp2_with fail
  go_ret
  exact ⟨rfl, HE.out⟩
theorem living0_i (v : Value) (l : List Spn) (w : World) (h : SpnsAt w v l) (hl : l.length ≤ 1000000) (hg : ∀ x ∈ l, x.gone = false) : Calls Tryz.prog 51 #[v] w (ClonePost l w) := by
  have H := Lib.hid (clone_i v l w h hl)
  have HG := Lib.hid (And.intro hg hl)
  clear h hl hg
  go_enter Tryz.func51, Tryz.ntmps51
  go_wp2_with fail
  refine H.out.mono ?_
  rintro e9 w1 ⟨v1, rfl, hown, hE⟩
  have HE := Lib.hid (And.intro hown hE)
  clear hown hE
  go_wp2_with fail
  refine (delete0_i v1 l _ (spns_of_own HE.out.1 HG.out.2) HG.out.1).mono ?_
  rintro e9 w2 ⟨rfl, hE2⟩
  have H2 := Lib.hid (show ClonePost l w (.returned v1) w2 from ⟨v1, rfl, HE.out.1.ext spnE hE2, HE.out.2.trans hE2⟩)
  clear hE2
  go_wp2_with fail
  go_ret
  exact H2.out
def AlivePost (l m : List Spn) (w : World) (e : Ending) (w' : World) : Prop := ∃ v u, e = .returned (.agg #[v, u]) ∧ spnE.Own w.heap.size v l w' ∧ spnE.Own w.heap.size u m w' ∧ Ext w w'
theorem alive0_i (v u : Value) (l m : List Spn) (w : World) (h : SpnsAt w v l) (k : SpnsAt w u m) (hl : l.length ≤ 1000000) (hm : m.length ≤ 1000000) (hg : ∀ x ∈ l, x.gone = false) (hk : ∀ x ∈ m, x.gone = false) : Calls Tryz.prog 31 #[.agg #[v, u]] w (AlivePost l m w) := by
  obtain ⟨wa, hwa⟩ : ∃ wa, wa = (w.alloc (.cells #[v, u] 36)).alloc (.cells #[.slice none 0 0, .slice none 0 0] 36) := ⟨_, rfl⟩
  have hE1 : Ext w (w.alloc (.cells #[v, u] 36)) := (Keeps.refl _ w).alloc _
  have hE : Ext w wa := by rw [hwa]; exact hE1.alloc _
  have hN0 : (w.alloc (.cells #[v, u] 36)).heap[w.heap.size]? = some (.cells #[v, u] 36 (0, 0)) := World.alloc_heap_new w _
  have hN : wa.heap[w.heap.size]? = some (.cells #[v, u] 36 (0, 0)) := by
    rw [hwa]; exact (Ext.same ((Keeps.refl Non _).alloc _) (lt_of_heap hN0)).trans hN0
  have hR : wa.heap[w.heap.size + 1]? = some (.cells #[.slice none 0 0, .slice none 0 0] 36 (0, 0)) := by
    have := World.alloc_heap_new (w.alloc (.cells #[v, u] 36)) (.cells #[.slice none 0 0, .slice none 0 0] 36)
    rw [World.size_alloc] at this; rw [hwa]; exact this
  obtain ⟨c, hc⟩ : ∃ c, c = w.heap.size := ⟨_, rfl⟩
  rw [← hc] at hN hR
  have H := Lib.hid (And.intro (h.ext hE) (And.intro (k.ext hE) (And.intro hE (And.intro hN hR))))
  have HL := Lib.hid (And.intro hl (And.intro hm (And.intro hg hk)))
  have hcw := blk_cell hN
  clear h k hE hE1 hN0 hN hR hl hm hg hk
  go_enter Tryz.func31, Tryz.ntmps31
  go_wp2_with fail
  rw [← hwa, ← hc]
  have HCC := Lib.hid hc
  clear hwa hc
  refine wp_drawE (way [0, 1, 3, 4, 2, 5, 6, 7]) (by kernel_rfl) (by kernel_rfl) (fun w1 hh hd hf hS => ?_)
  have hc1 := blk_cell ((Ext.same hS (lt_of_heap H.out.2.2.2.1)).trans H.out.2.2.2.1)
  clear hh hd hf
  simp only [way]
  go_wp2_with (first | (refine' hl_q rfl rfl rfl (fun _ => ?_) ?_; rotate_left; (go_simp <;> (try go_bits) <;> rfl); (try simp only [Act.put, List.setIfInBounds_toArray, List.set_cons_zero, List.set_cons_succ])) | (refine' hl_rS rfl rfl rfl hS ?_ ?_; rotate_left; (intro w9 hS9; (first | have hc9 := Ext.cells hS9 | have hc9 := Keeps.cells hS9); (go_simp <;> rfl)); (try simp only [Act.put, List.setIfInBounds_toArray, List.set_cons_zero, List.set_cons_succ])) | (refine' hl_r rfl rfl rfl ?_ ?_; rotate_left; (rintro w9 (rfl | hS9); (go_simp <;> rfl); (first | have hc9 := Ext.cells hS9 | have hc9 := Keeps.cells hS9 | (try dsimp only at hS9)); (go_simp <;> rfl)); (try simp only [Act.put, List.setIfInBounds_toArray, List.set_cons_zero, List.set_cons_succ])) | (refine' hl_s rfl rfl ?_; (try simp only [Act.put, List.setIfInBounds_toArray, List.set_cons_zero, List.set_cons_succ])) | (refine hl_e rfl rfl rfl (fun K hK => ?_)) | (with_reducible refine And.intro (fun hn => ?_) ?_; (first | exact hS | exact Keeps.alloc hS _ | exact absurd hn (by rw [show needS _ _ = false from by kernel_rfl]; exact Bool.false_ne_true))) | (refine hl_done ?_) | gi_step)
  refine callsIn_wide.2 ((living0_i v l _ (H.out.1.ext hS) HL.out.1 HL.out.2.2.1).mono ?_)
  rintro e9 w2 ⟨v2, rfl, hown2, hE2⟩
  have hS2 := hS.trans hE2
  have hsz1 := hS.size
  clear hS
  have hS := hS2
  clear hS2
  have hc2 := blk_cell ((Ext.same hS (lt_of_heap H.out.2.2.2.1)).trans H.out.2.2.2.1)
  have H2 := Lib.hid (And.intro hown2 hsz1)
  clear hown2 hE2 hsz1 hc1
  go_wp2_with (first | (refine' hl_q rfl rfl rfl (fun _ => ?_) ?_; rotate_left; (go_simp <;> (try go_bits) <;> rfl); (try simp only [Act.put, List.setIfInBounds_toArray, List.set_cons_zero, List.set_cons_succ])) | (refine' hl_rS rfl rfl rfl hS ?_ ?_; rotate_left; (intro w9 hS9; (first | have hc9 := Ext.cells hS9 | have hc9 := Keeps.cells hS9); (go_simp <;> rfl)); (try simp only [Act.put, List.setIfInBounds_toArray, List.set_cons_zero, List.set_cons_succ])) | (refine' hl_r rfl rfl rfl ?_ ?_; rotate_left; (rintro w9 (rfl | hS9); (go_simp <;> rfl); (first | have hc9 := Ext.cells hS9 | have hc9 := Keeps.cells hS9 | (try dsimp only at hS9)); (go_simp <;> rfl)); (try simp only [Act.put, List.setIfInBounds_toArray, List.set_cons_zero, List.set_cons_succ])) | (refine' hl_s rfl rfl ?_; (try simp only [Act.put, List.setIfInBounds_toArray, List.set_cons_zero, List.set_cons_succ])) | (refine hl_e rfl rfl rfl (fun K hK => ?_)) | (with_reducible refine And.intro (fun hn => ?_) ?_; (first | exact hS | exact Keeps.alloc hS _ | exact absurd hn (by rw [show needS _ _ = false from by kernel_rfl]; exact Bool.false_ne_true))) | (refine hl_done ?_) | gi_step)
  refine callsIn_wide.2 ((living0_i u m _ (H.out.2.1.ext hS) HL.out.2.1 HL.out.2.2.2).mono ?_)
  rintro e9 w3 ⟨u3, rfl, hown3, hE3⟩
  have hS3 := hS.trans hE3
  have hsz2 := hS.size
  clear hS
  have hS := hS3
  clear hS3
  have hN3 := (Ext.same hS (lt_of_heap H.out.2.2.2.2)).trans H.out.2.2.2.2
  have hr3 := blk_cell hN3
  have hz3 := blk_free hN3
  have hl3 := lt_of_heap hN3
  obtain ⟨a2, c2, rfl, _, _⟩ := H2.out.1.slice spnE
  obtain ⟨a3, c3, rfl, _, _⟩ := hown3.slice spnE
  have H3 := Lib.hid (And.intro (H2.out.1.ext spnE hE3) (And.intro hown3 (And.intro hsz2 (And.intro (H.out.2.2.1.trans hS) hN3))))
  clear hown3 hE3 hsz2 hc2 hN3
  go_wp2_with (first | (refine' hl_q rfl rfl rfl (fun _ => ?_) ?_; rotate_left; (go_simp <;> (try go_bits) <;> rfl); (try simp only [Act.put, List.setIfInBounds_toArray, List.set_cons_zero, List.set_cons_succ])) | (refine' hl_rS rfl rfl rfl hS ?_ ?_; rotate_left; (intro w9 hS9; (first | have hc9 := Ext.cells hS9 | have hc9 := Keeps.cells hS9); (go_simp <;> rfl)); (try simp only [Act.put, List.setIfInBounds_toArray, List.set_cons_zero, List.set_cons_succ])) | (refine' hl_r rfl rfl rfl ?_ ?_; rotate_left; (rintro w9 (rfl | hS9); (go_simp <;> rfl); (first | have hc9 := Ext.cells hS9 | have hc9 := Keeps.cells hS9 | (try dsimp only at hS9)); (go_simp <;> rfl)); (try simp only [Act.put, List.setIfInBounds_toArray, List.set_cons_zero, List.set_cons_succ])) | (refine' hl_s rfl rfl ?_; (try simp only [Act.put, List.setIfInBounds_toArray, List.set_cons_zero, List.set_cons_succ])) | (refine hl_e rfl rfl rfl (fun K hK => ?_)) | (with_reducible refine And.intro (fun hn => ?_) ?_; (first | exact hS | exact Keeps.alloc hS _ | exact absurd hn (by rw [show needS _ _ = false from by kernel_rfl]; exact Bool.false_ne_true))) | (refine hl_done ?_) | gi_step)
  obtain ⟨w4, hw4⟩ : ∃ w4, w4 = (w3.setCell ⟨c + 1, 0, none⟩ (.slice a2 l.length c2)).setCell ⟨c + 1, 1, none⟩ (.slice a3 m.length c3) := ⟨_, rfl⟩
  rw [← hw4]
  have hN4 : w4.heap[c + 1]? = some (.cells #[.slice a2 l.length c2, .slice a3 m.length c3] 36 (0, 0)) := by
    rw [hw4]; exact heap_set (heap_set H3.out.2.2.2.2 0 _) 1 _
  have o4 : Only [c + 1] w3 w4 := by rw [hw4]; exact ((Only.refl [c + 1] w3).setCell (by simp) _).setCell (by simp) _
  have hc4 := blk_cell hN4
  have hl4 := lt_of_heap hN4
  have hwc : w.heap.size = c := HCC.out.symm
  have hsz : c + 2 ≤ wa.heap.size := by have := lt_of_heap H.out.2.2.2.2; omega
  have hs12 := H2.out.2
  have hs3 := H3.out.2.2.1
  refine bodyPost_ret (v := .agg #[.slice a2 l.length c2, .slice a3 m.length c3]) (by simp [results, Tryz.results31, go_sem, hc4, hl4]) rfl ?_
  refine ⟨_, _, rfl, ?_, ?_, ?_⟩
  · exact (H3.out.1.keeps spnE o4.keeps (fun g hg hm => by rw [List.mem_singleton] at hm; have := (H3.out.1.lt spnE hg).1; omega)).mono spnE (by omega)
  · exact (H3.out.2.1.keeps spnE o4.keeps (fun g hg hm => by rw [List.mem_singleton] at hm; have := (H3.out.2.1.lt spnE hg).1; omega)).mono spnE (by omega)
  · exact ⟨Nat.le_trans H3.out.2.2.2.1.size (Nat.le_of_eq o4.size.symm), fun i hi _ => (o4.same i (fun hm => by rw [List.mem_singleton] at hm; omega)).trans (Ext.same H3.out.2.2.2.1 hi), (H3.out.2.2.2.1.ost).trans o4.ost⟩
end Go.Proofs.YtdonmmjikcbihaaGreatDoor
