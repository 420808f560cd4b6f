/- Package delta: the records of a map; sets. -/
import Derived.Test.YtdonmmjikcbihaaGreatDoorDelta2
import Derived.Test.YtdonmmjikcbihaaGreatDoorEks
namespace Go.Proofs.YtdonmmjikcbihaaGreatDoor
open Go.RowKit Go.Proofs Go.Vc
attribute [local go_sem] Oper.semAt_some
attribute [local irreducible] Calls CallsIn Code.wp Code.wpIn
theorem row_bk {w w' : World} {B C : Nat} {e : TypeId} {size n : Nat} {v : Value} {xs : List Value} (h : w.ownsRow B e size v n xs) (k : Bk C w w') : w'.ownsRow B e size v n xs := by
  refine ⟨h.1, ?_⟩
  rcases h.2 with h0 | ⟨g, cap, cur, rfl, hb, hg, r⟩
  · exact .inl h0
  · exact .inr ⟨g, cap, cur, rfl, hb, k.same g _ hg (.inr rfl), r⟩
/-- cells of spans, one behind the other -/
def spnCells (l : List Spn) : List Value := l.flatMap fun x => (spnC x).toList
/-- an own row of spans -/
def OwnSpns (B : Nat) (v : Value) (l : List Spn) (w : World) : Prop := w.ownsRow B 48 9 v l.length (spnCells l)
def ValPost (m : List (ByteArray × Spn)) (w : World) (e : Ending) (w' : World) : Prop := ∃ v, e = .returned v ∧ OwnSpns w.heap.size v (m.map (·.2)) w' ∧ Ext w w'
set_option maxRecDepth 20000 in
theorem values_i (b : Nat) (B : Nat) (m : List (ByteArray × Spn)) (w : World) (h : SMap B b m w) (hm : m.length ≤ 1000000) : Calls Tryz.prog 52 #[.pointer (some ⟨b, 0, none⟩)] w (ValPost m w) := by
  refine calls_of_marks Tryz.func52 rfl ?_
  simp only [Tryz.ntmps52, List.size_toArray, List.length_cons, List.length_nil, Nat.reduceAdd, Nat.reduceSub, Array.replicate_succ,
     Array.replicate_zero, List.push_toArray, List.append_toArray, List.nil_append, List.cons_append]
  gi_wp2_with fail
  refine callsIn_wide.2 ((all_ss _ _).mono ?_)
  rintro e9 w1 ⟨rfl, hw1⟩
  gi_wp2_with fail
  obtain ⟨c0, t, hM, htl, hbB, hblk⟩ := h
  have hA : (w.alloc (.cells #[.slice none 0 0] 31)).heap[w.heap.size]? = some (.cells #[.slice none 0 0] 31 (0, 0)) := World.alloc_heap_new w _
  have hsz : (w.alloc (.cells #[.slice none 0 0] 31)).heap.size = w.heap.size + 1 := by show (w.heap.push _).size = _; rw [Array.size_push]
  have hEa : Ext w (w.alloc (.cells #[.slice none 0 0] 31)) := (Keeps.refl _ w).alloc _
  have hEb : Ext (w.alloc (.cells #[.slice none 0 0] 31)) w1 := by rw [hw1]; exact (Keeps.refl _ _).alloc _
  have h1 : w1.heap[w.heap.size]? = some (.cells #[.slice none 0 0] 31 (0, 0)) := (Ext.same hEb (lt_of_heap hA)).trans hA
  have h2 : w1.heap[w.heap.size + 1]? = some (.cells #[.pointer (some ⟨b, 0, none⟩)] 75 (0, 0)) := by rw [hw1, ← hsz]; exact World.alloc_heap_new _ _
  have hs1 : w1.heap.size = w.heap.size + 2 := by rw [hw1]; show (Array.push _ _).size = _; rw [Array.size_push, hsz]
  rw [← hw1]
  clear hw1
  refine range_loop (gf := 89) (lb := #[.pointer (some ⟨w.heap.size + 1, 0, none⟩)]) (xs := t.toList.map encss) (by simp [Act.eval]) (enters_of Tryz.func89 (by kernel_rfl) rfl) (by intro x hx; simp [encss] at hx; obtain ⟨_, _, _, rfl⟩ := hx; rfl) (seqall_ss t (w.heap.size + 1) b 0)
    (fun k W => ∃ v, W.heap[w.heap.size]? = some (.cells #[v] 31 (0, 0)) ∧ OwnSpns w.heap.size v ((m.take k).map (·.2)) W ∧ v.ownBlock ≠ some w.heap.size ∧ W.heap[w.heap.size + 1]? = some (.cells #[.pointer (some ⟨b, 0, none⟩)] 75 (0, 0)) ∧ Ext w W)
    (fun _ _ _ => False) ?_ (fun _ _ _ _ h => h.elim) ?_ ?_ ?_ ?_ (fun _ _ _ _ _ _ h => h.elim)
  · rintro k W W' ⟨v, hv1, hv2, hv3, hv4, hv5⟩ hbk
    exact ⟨v, hbk.same _ _ hv1 (.inr rfl), row_bk hv2 hbk, hv3, hbk.same _ _ hv4 (.inr rfl), ext_bk hv5 hbk (by omega)⟩
  · rintro k W ⟨v, hv1, hv2, hv3, hv4, hv5⟩
    exact ⟨by rw [blk_cell hv4]; rfl, (hM.ext hv5).cellR, (hM.ext hv5).tree⟩
  · exact ⟨_, h1, World.ownsRow_nil _ _ _ _, by simp [Value.ownBlock], h2, hEa.trans hEb⟩
  · rintro l k hk W ⟨v, hv1, hv2, hv3, hv4, hv5⟩ hWs
    unfold roundStart
    have hkl : k < t.toList.length := by simpa using hk
    obtain ⟨⟨qk, q⟩, hq⟩ : ∃ q, q = t.toList[k] := ⟨_, rfl⟩
    have hxk : (t.toList.map encss)[k] = encss (qk, q) := by rw [hq]; simp
    rw [hxk]
    simp only [encss, List.zip_toArray, List.zip_cons_cons, List.zip_nil_right, List.foldl_toArray, List.foldl_cons, List.foldl_nil, List.setIfInBounds_toArray, List.set_cons_zero, List.set_cons_succ]
    have HV := Lib.hid (And.intro hv1 (And.intro hv2 (And.intro hv3 (And.intro hv4 hv5))))
    clear hv1 hv2 hv3 hv4 hv5
    gi_wp2_with fail
    have hE8 : Ext W (W.alloc (.cells (spnC q) 48)) := (Keeps.refl _ W).alloc _
    have hN8 : (W.alloc (.cells (spnC q) 48)).heap[W.heap.size]? = some (.cells (spnC q) 48 (0, 0)) := World.alloc_heap_new W _
    refine ⟨KeepsFrom.of_ext hE8, fun W2 hbk hsz2 => ?_⟩
    have hN9 := hbk.same _ _ hN8 (.inr rfl)
    have hE9 : Ext w W2 := ext_bk (HV.out.2.2.2.2.trans hE8) hbk (by omega)
    have hR9 : OwnSpns w.heap.size v ((m.take k).map (·.2)) W2 := row_bk (row_ext HV.out.2.1 hE8) hbk
    have hv19 : W2.heap[w.heap.size]? = some (.cells #[v] 31 (0, 0)) := hbk.same _ _ ((Ext.same hE8 (lt_of_heap HV.out.1)).trans HV.out.1) (.inr rfl)
    have hv49 : W2.heap[w.heap.size + 1]? = some (.cells #[.pointer (some ⟨b, 0, none⟩)] 75 (0, 0)) := hbk.same _ _ ((Ext.same hE8 (lt_of_heap HV.out.2.2.2.1)).trans HV.out.2.2.2.1) (.inr rfl)
    have hcv := blk_cell hv19
    have hcx := blk_cell hN9
    have hzv := blk_free hv19
    have H9 := Lib.hid (And.intro hE9 (And.intro hR9 (And.intro hv19 (And.intro hv49 hN9))))
    clear hE8 hN8 hbk hN9 hE9 hR9 hv19 hv49 hsz2
    have HS1 := Lib.hid (And.intro hs1 hWs)
    have hlt9 : W.heap.size < W2.heap.size := lt_of_heap H9.out.2.2.2.2
    clear hA hsz hEa hEb h1 h2 hs1 hM hbB hblk hWs
    obtain ⟨i0, hi, hz0, hz1, hz2⟩ := info_parts (show (Tryz.prog.info? 48).map (fun i => (i.zero, i.size, i.bytes)) = some (some (.agg #[.int .i64 0, .int .i64 0, .int .i64 0, .int .i64 0, .string ⟨#[]⟩, .string ⟨#[]⟩, .int .i64 0, .int .i64 0, .bool false]), 9, 88) from by kernel_rfl)
    have HI := Lib.hid (And.intro hi (And.intro hz0 (And.intro hz1 hz2)))
    clear hi hz0 hz1 hz2
    have hlk : ((m.take k).map (·.2)).length = k := by rw [List.length_map, List.length_take, ← htl]; omega
    have hkm : k < m.length := by rw [← htl]; exact hkl
    have hnx : (m.take (k + 1)).map (·.2) = (m.take k).map (·.2) ++ [q] := by
      have e : m[k] = (qk, q) := by rw [hq]; simp only [← htl]
      rw [← List.take_append_getElem hkm, List.map_append, e]; rfl
    obtain ⟨L, hL⟩ : ∃ L, L = (m.take k).map (·.2) := ⟨_, rfl⟩
    rw [← hL] at hlk hnx H9
    obtain ⟨C, hC⟩ : ∃ C, C = spnCells L := ⟨_, rfl⟩
    have hrw : W2.ownsRow w.heap.size 48 9 v k C := by have := H9.out.2.1; unfold OwnSpns at this; rw [hlk, ← hC] at this; exact this
    have HK := Lib.hid (And.intro hlk (And.intro hkm (And.intro hnx (And.intro hC hrw))))
    clear hlk hkm hnx hL hC hrw hq hxk hkl hk htl
    gi_wp2_with (gi_at_builtin; refine wpListIn_append_own _ rfl _ _ 31 rfl w.heap.size 48 i0 (.agg #[.int .i64 0, .int .i64 0, .int .i64 0, .int .i64 0, .string ⟨#[]⟩, .string ⟨#[]⟩, .int .i64 0, .int .i64 0, .bool false]) 9 88 (by kernel_rfl) HI.out.1 HI.out.2.1 HI.out.2.2.1 HI.out.2.2.2 rfl (by decide) v _ _ rfl (HK.out.2.2.2.2.alloc _) ⟨W2.heap.size, 0, none⟩ 1 1 (spnC q).toList rfl rfl ?c1 ?c2 ?c3 ?c4 ?c5 ?_)
    case c2 => simp [Value.oneCell']
    case c3 => unfold maxLen; have := HK.out.2.1; omega
    case c4 => have := HK.out.2.1; omega
    case c5 => have h1 := H9.out.1.size; show w.heap.size ≤ (W2.heap.push _).size; rw [Array.size_push]; omega
    intro v' w' hown' hgrow _
    have hEal : Ext W2 (W2.alloc (.cells (spnC q) 48)) := (Keeps.refl _ W2).alloc _
    have hg : ∀ i, i < W2.heap.size → v.ownBlock ≠ some i → w'.heap[i]? = W2.heap[i]? := fun i hi hv => (hgrow.block i (Nat.lt_of_lt_of_le hi hEal.size) (fun e => hv e.symm)).trans (Ext.same hEal hi)
    have hb1 := (hg _ (lt_of_heap H9.out.2.2.1) HV.out.2.2.1).trans H9.out.2.2.1
    have hcb := blk_cell hb1
    have hzb := blk_free hb1
    have hsz' : W2.heap.size ≤ w'.heap.size := Nat.le_trans hEal.size hgrow.size
    have HG := Lib.hid (And.intro hown' (And.intro hg (And.intro hb1 hsz')))
    have HOS := Lib.hid (hEal.ost.trans ⟨hgrow.os, hgrow.output⟩)
    clear hown' hgrow hEal hg hb1 hcv hcx hzv hsz' hlt9
    obtain ⟨g', cap', rfl⟩ := row_form HG.out.1 (by omega)
    gi_wp2_with fail
    have ho1 : Only [w.heap.size] w' (w'.setCell ⟨w.heap.size, 0, none⟩ (.slice (some ⟨g', 0, none⟩) (k + 1) cap')) := (Only.refl [w.heap.size] w').setCell (by simp) _
    have hnb : g' ≠ w.heap.size := by
      rintro rfl
      obtain ⟨c, fz, hc⟩ := Lib.ownsRow_kind HG.out.1 _ rfl
      rw [HG.out.2.2.1] at hc
      injection hc with hc; injection hc with _ hc
      exact absurd hc (by decide)
    refine ⟨⟨by rw [ho1.size]; exact HG.out.2.2.2, fun i o hi hio hoc => ?_⟩, _, heap_set HG.out.2.2.1 0 _, ?_, by simp [Value.ownBlock]; exact hnb, ?_, ?_⟩
    · have hne : v.ownBlock ≠ some i := fun e => by
        obtain ⟨c, fz, hc⟩ := Lib.ownsRow_kind HK.out.2.2.2.2 i e
        rw [hio] at hc; injection hc with hc; rw [hc] at hoc; cases hoc
      exact (ho1.same i (fun hm => by rw [List.mem_singleton] at hm; have := HS1.out.1; omega)).trans ((HG.out.2.1 i (lt_of_heap hio) hne).trans hio)
    · have hr : w'.ownsRow w.heap.size 48 9 (.slice (some ⟨g', 0, none⟩) (k + 1) cap') ((m.take (k + 1)).map (·.2)).length (spnCells ((m.take (k + 1)).map (·.2))) := by
        rw [HK.out.2.2.1, List.length_append, HK.out.1]
        have e : spnCells (L ++ [q]) = C ++ (spnC q).toList := by rw [HK.out.2.2.2.1]; unfold spnCells; rw [List.flatMap_append]; simp
        rw [e]; exact HG.out.1
      exact row_keeps hr ho1.keeps (fun g hg hm => by rw [List.mem_singleton] at hm; simp only [Value.ownBlock, Option.some.injEq] at hg; omega)
    · exact (ho1.same _ (by simp)).trans ((HG.out.2.1 _ (lt_of_heap H9.out.2.2.2.1) (fun e => by
        obtain ⟨c, fz, hc⟩ := Lib.ownsRow_kind HK.out.2.2.2.2 _ e
        rw [H9.out.2.2.2.1] at hc; injection hc with hc; injection hc with _ hc; exact absurd hc (by decide))).trans H9.out.2.2.2.1)
    · refine ⟨Nat.le_trans H9.out.1.size (by rw [ho1.size]; exact HG.out.2.2.2), fun i hi _ => ?_, (H9.out.1.ost.trans HOS.out).trans ho1.ost⟩
      exact (ho1.same i (fun hm => by rw [List.mem_singleton] at hm; omega)).trans ((HG.out.2.1 i (Nat.lt_of_lt_of_le hi H9.out.1.size) (fun e => absurd (HK.out.2.2.2.2.lt i e).1 (by omega))).trans (Ext.same H9.out.1 hi))
  · rintro D W hD ⟨v, hv1, hv2, hv3, hv4, hv5⟩ hDh
    have hcv := blk_cell hv1
    have hDw : w.heap.size ≤ D := by omega
    have HP := Lib.hid (show ValPost m w (.returned v) (W.putObj D (.deferred none)) from by
      have hbk : Bk w.heap.size W (W.putObj D (.deferred none)) := Bk.putObj hDh rfl hDw
      refine ⟨v, rfl, row_bk ?_ hbk, ext_bk hv5 hbk (Nat.le_refl _)⟩
      have e : m.take (t.toList.map encss).length = m := by rw [List.length_map, htl, List.take_length]
      rw [e] at hv2; exact hv2)
    have HD := Lib.hid hDh
    clear hA hsz hEa hEb h1 h2 hs1 hM hbB hblk hv1 hv2 hv3 hv4 hv5 htl hDh
    simp only [Exit.inBlock, Exit.then]
    gi_wp2_with fail
    refine leave_ret (v := v) HD.out ?_ HP.out
    simp [results, Tryz.results52, go_sem]
theorem own_spns {B : Nat} {v : Value} {l : List Spn} {w : World} (h : OwnSpns B v l w) : spnE.Own B v l w := h
/-- the set of records -/
def setL (l : List Spn) : List Spn := (newestL l).map (·.2)
theorem setL_len (l : List Spn) : (setL l).length ≤ l.length := by unfold setL; rw [List.length_map]; exact newestL_len l
def SetPost (l : List Spn) (w : World) (e : Ending) (w' : World) : Prop := ∃ v, e = .returned v ∧ spnE.Own w.heap.size v (setL l) w' ∧ Ext w w'
theorem dset_i (v : Value) (l : List Spn) (w : World) (h : SpnsAt w v l) (hl : l.length ≤ 1000000) (hf : ∀ x ∈ l, x.Fits) : Calls Tryz.prog 32 #[v] w (SetPost l w) := by
  have H := Lib.hid (newest_i v l w h hl hf)
  have HL := Lib.hid (Nat.le_trans (newestL_len l) hl)
  clear h hl hf
  go_enter Tryz.func32, Tryz.ntmps32
  go_wp2_with fail
  refine H.out.mono ?_
  rintro e9 w1 ⟨b, rfl, hm, hE⟩
  have HE := Lib.hid (And.intro hm hE)
  clear hm hE
  go_wp2_with fail
  refine (values_i b _ _ _ HE.out.1 HL.out).mono ?_
  rintro e9 w2 ⟨v2, rfl, ho, hE2⟩
  have H2 := Lib.hid (show SetPost l w (.returned v2) w2 from ⟨v2, rfl, (own_spns ho).mono spnE HE.out.2.size, HE.out.2.trans hE2⟩)
  clear ho hE2
  go_wp2_with fail
  go_ret
  exact H2.out
end Go.Proofs.YtdonmmjikcbihaaGreatDoor
