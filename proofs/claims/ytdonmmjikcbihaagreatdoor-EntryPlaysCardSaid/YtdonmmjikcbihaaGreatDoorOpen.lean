/- What comes in, opened: slices of spans, of deltas. -/
import Derived.Test.YtdonmmjikcbihaaGreatDoorEPlays
import Derived.ProofKit
import Derived.LaidMore
import Derived.OpenShut
import Derived.Deep.Slices
import Derived.Shelf.Vars
namespace Go.Proofs.YtdonmmjikcbihaaGreatDoor
open Go.RowKit Go.Proofs Go.Vc Go.ChangeShapes Go.WideShapes
/-- a slice of elements that are read one by one -/
theorem reads_of_fn {P : Program} {α : Type} (E : Ek P α) {w : World} {a : Addr} {len cap : Nat} (hc : len ≤ cap) (hm : cap ≤ maxLen) (f : Nat → α) (h : ∀ i, i < len → w.cells? 0 (a.add (i * E.size)) E.size = some (E.enc (f i))) :
    E.Reads w (.slice (some a) len cap) ((List.range len).map f) := by
  have hl : ((List.range len).map f).length = len := by simp
  have hcell : ∀ i k, i < len → k < E.size → ∃ g o, a = ⟨g, o, none⟩ ∧ w.cell? ⟨g, o + (i * E.size + k), none⟩ = (E.enc (f i))[k]? := fun i k hi hk => by
    obtain ⟨_, hlen, hg⟩ := World.cells?_some (h i hi)
    have h0 := hg k hk
    rw [Deep.add_add] at h0
    have hlk : k < (E.enc (f i)).length := by rw [E.len]; exact hk
    have h00 := (World.cells?_some (h 0 (by omega))).2.2 0 E.pos
    rw [Deep.add_add, Nat.zero_mul, Nat.zero_add] at h00
    have hl0 : 0 < (E.enc (f 0)).length := by rw [E.len]; exact E.pos
    rw [List.getElem?_eq_getElem hl0] at h00
    have hs := World.cell?_spot h00
    obtain ⟨g, o, s⟩ := a
    have hs' : s = none := by simpa [Addr.add] using hs
    subst hs'
    refine ⟨g, o, rfl, ?_⟩
    rw [Addr.add_lit] at h0
    exact h0
  refine ⟨some a, cap, by rw [hl], by rw [hl]; unfold maxLen at hm; omega, (fun e => nomatch e), fun g o s e => ?_⟩
  injection e with e
  refine ⟨fun hne => ?_, fun j u hj => ?_⟩
  · have : 0 < len := by rcases Nat.eq_zero_or_pos len with h0 | h0; · rw [h0] at hne; exact absurd rfl hne
                         · exact h0
    obtain ⟨g', o', e', _⟩ := hcell 0 0 this E.pos
    rw [e'] at e; injection e with _ _ e; exact e.symm
  · have hjl : j < len * E.size := by
      rcases Nat.lt_or_ge j (len * E.size) with h1 | h1
      · exact h1
      · rw [List.getElem?_eq_none (by rw [E.cells_len, hl]; exact h1)] at hj; cases hj
    have hi : j / E.size < len := (Nat.div_lt_iff_lt_mul E.pos).2 hjl
    have hk : j % E.size < E.size := Nat.mod_lt _ E.pos
    have hjr : j = j / E.size * E.size + j % E.size := by rw [Nat.mul_comm]; exact (Nat.div_add_mod j E.size).symm
    obtain ⟨g', o', e', hcl⟩ := hcell _ _ hi hk
    rw [e'] at e; injection e with e1 e2 e3
    subst e1; subst e2
    have hat := E.cells_at ((List.range len).map f) (j / E.size) (j % E.size) (by rw [hl]; exact hi) hk
    rw [← hjr, hj] at hat
    rw [← hjr] at hcl
    rw [hcl, hat]
    simp
section
variable {H : Type} {enc : TypeId × Value → H} {w : World}
theorem c3 : Tryz.prog.cellsOf 3 = 1 := by kernel_rfl
theorem c9 : Tryz.prog.cellsOf 9 = 1 := by kernel_rfl
theorem c4 : Tryz.prog.cellsOf 4 = 1 := by kernel_rfl
theorem cSpn : Tryz.prog.cellsOf 48 = 9 := by kernel_rfl
theorem cSps : Tryz.prog.cellsOf 31 = 1 := by kernel_rfl
theorem cDlt : Tryz.prog.cellsOf 36 = 2 := by kernel_rfl
theorem wf64 {n : Int} (h : (Lit.int .i64 n).wf = true) : I64 n := by
  simpa [Lit.wf, IntKind.min, IntKind.max, IntKind.signed, IntKind.bits] using h
set_option maxRecDepth 100000 in
/-- one span read -/
theorem open_spn {fuel : Nat} {cs : List Value} {x : DataW H × List MemPlace} (h : DataW.trod enc Tryz.prog w 0 (fun _ => true) true fuel 48 cs = some x) : ∃ y : Spn, cs = (spnC y).toList ∧ y.Fits := by
  obtain ⟨xs, n, _, _, hl, hlen, hf⟩ := DataW.trod_struct Tryz.underlying48 h
  rw [cSpn] at hl
  match cs, hl, xs, hlen, hf with
  | [c0, c1, c2, c3', c4', c5, c6, c7, c8], _, [x0, x1, x2, x3, x4, x5, x6, x7, x8], _, hf =>
    have f0 : DataW.trod enc Tryz.prog w 0 (fun _ => true) true n 3 (List.take (Tryz.prog.cellsOf 3) [c0, c1, c2, c3', c4', c5, c6, c7, c8]) = some x0 := hf 0 _ rfl
    have f1 : DataW.trod enc Tryz.prog w 0 (fun _ => true) true n 3 (List.take (Tryz.prog.cellsOf 3) [c1, c2, c3', c4', c5, c6, c7, c8]) = some x1 := hf 1 _ rfl
    have f2 : DataW.trod enc Tryz.prog w 0 (fun _ => true) true n 3 (List.take (Tryz.prog.cellsOf 3) [c2, c3', c4', c5, c6, c7, c8]) = some x2 := hf 2 _ rfl
    have f3 : DataW.trod enc Tryz.prog w 0 (fun _ => true) true n 3 (List.take (Tryz.prog.cellsOf 3) [c3', c4', c5, c6, c7, c8]) = some x3 := hf 3 _ rfl
    have f4 : DataW.trod enc Tryz.prog w 0 (fun _ => true) true n 9 (List.take (Tryz.prog.cellsOf 9) [c4', c5, c6, c7, c8]) = some x4 := hf 4 _ rfl
    have f5 : DataW.trod enc Tryz.prog w 0 (fun _ => true) true n 9 (List.take (Tryz.prog.cellsOf 9) [c5, c6, c7, c8]) = some x5 := hf 5 _ rfl
    have f6 : DataW.trod enc Tryz.prog w 0 (fun _ => true) true n 3 (List.take (Tryz.prog.cellsOf 3) [c6, c7, c8]) = some x6 := hf 6 _ rfl
    have f7 : DataW.trod enc Tryz.prog w 0 (fun _ => true) true n 3 (List.take (Tryz.prog.cellsOf 3) [c7, c8]) = some x7 := hf 7 _ rfl
    have f8 : DataW.trod enc Tryz.prog w 0 (fun _ => true) true n 4 (List.take (Tryz.prog.cellsOf 4) [c8]) = some x8 := hf 8 _ rfl
    rw [c3] at f0 f1 f2 f3 f6 f7
    rw [c9] at f4 f5
    rw [c4] at f8
    obtain ⟨a0, e0, _, g0⟩ := DataW.trod_int Tryz.underlying3 f0
    obtain ⟨a1, e1, _, g1⟩ := DataW.trod_int Tryz.underlying3 f1
    obtain ⟨a2, e2, _, g2⟩ := DataW.trod_int Tryz.underlying3 f2
    obtain ⟨a3, e3, _, g3⟩ := DataW.trod_int Tryz.underlying3 f3
    obtain ⟨a4, e4, _, g4⟩ := DataW.trod_string Tryz.underlying9 f4
    obtain ⟨a5, e5, _, g5⟩ := DataW.trod_string Tryz.underlying9 f5
    obtain ⟨a6, e6, _, g6⟩ := DataW.trod_int Tryz.underlying3 f6
    obtain ⟨a7, e7, _, g7⟩ := DataW.trod_int Tryz.underlying3 f7
    obtain ⟨a8, e8, _⟩ := DataW.trod_bool Tryz.underlying4 f8
    simp at e0 e1 e2 e3 e4 e5 e6 e7 e8
    subst e0 e1 e2 e3 e4 e5 e6 e7 e8
    exact ⟨⟨a0, a1, a2, a3, a4, a5, a6, a7, a8⟩, rfl, ⟨wf64 g0, wf64 g1, wf64 g2, wf64 g3, wf64 g6, wf64 g7, by unfold maxLen at g4; show a4.size ≤ _; omega, by unfold maxLen at g5; show a5.size ≤ _; omega⟩⟩
/-- a slice of spans read -/
theorem open_spns {fuel : Nat} {cs : List Value} {x : DataW H × List MemPlace} (h : DataW.trod enc Tryz.prog w 0 (fun _ => true) true fuel 31 cs = some x) : ∃ (s : Sl) (l : List Spn), cs = [slV s] ∧ SpnsAt w (slV s) l ∧ ∀ y ∈ l, y.Fits := by
  rcases Deep.open_slice Tryz.underlying31 h with ⟨rfl, _⟩ | ⟨a, len, cap, m, n, D, Pl, rfl, _, hlc, hcm, hm, _, hx⟩
  · exact ⟨(none, 0, 0), [], rfl, ⟨none, 0, rfl, ⟨by decide, by decide⟩, fun _ => rfl, fun _ _ _ h => nomatch h⟩, fun _ h => nomatch h⟩
  · simp only [if_true] at hm
    subst hm
    have hall : ∀ i, i < len → ∃ y : Spn, w.cells? 0 (a.add (i * 9)) 9 = some (spnC y).toList ∧ y.Fits := fun i hi => by
      obtain ⟨cs', h1, h2⟩ := hx i (by omega)
      obtain ⟨y, e, hy⟩ := open_spn h2
      rw [cSpn, e] at h1
      exact ⟨y, h1, hy⟩
    haveI : Inhabited Spn := ⟨⟨0, 0, 0, 0, ⟨#[]⟩, ⟨#[]⟩, 0, 0, false⟩⟩
    obtain ⟨f, hf⟩ := Deep.choose_lt hall
    refine ⟨(some a, len, m), (List.range len).map f, rfl, spns_of_reads (reads_of_fn spnE hlc hcm f fun i hi => (hf i hi).1) rfl hlc, fun y hy => ?_⟩
    obtain ⟨i, hi, rfl⟩ := List.mem_map.1 hy
    exact (hf i (List.mem_range.1 hi)).2
set_option maxRecDepth 100000 in
/-- a slice of deltas read -/
theorem open_dlts {fuel : Nat} {cs : List Value} {x : DataW H × List MemPlace} (h : DataW.trod enc Tryz.prog w 0 (fun _ => true) true fuel 22 cs = some x) :
    ∃ (s : Sl) (D : List (List Spn × List Spn)), cs = [slV s] ∧ DltsAt w (slV s) D ∧ ∀ d ∈ D, (∀ y ∈ d.1, y.Fits) ∧ ∀ y ∈ d.2, y.Fits := by
  rcases Deep.open_slice Tryz.underlying22 h with ⟨rfl, _⟩ | ⟨a, len, cap, m, n, D, Pl, rfl, _, hlc, hcm, hm, _, hx⟩
  · exact ⟨(none, 0, 0), [], rfl, ⟨[], Ek.Reads.nil dltE w 0, rfl, fun i h => nomatch h⟩, fun _ h => nomatch h⟩
  · simp only [if_true] at hm
    subst hm
    have hall : ∀ i, i < len → ∃ y : (Sl × Sl) × (List Spn × List Spn), w.cells? 0 (a.add (i * 2)) 2 = some (dltE.enc y.1) ∧ (SpnsAt w (slV y.1.1) y.2.1 ∧ SpnsAt w (slV y.1.2) y.2.2) ∧ (∀ z ∈ y.2.1, z.Fits) ∧ ∀ z ∈ y.2.2, z.Fits := fun i hi => by
      obtain ⟨cs', h1, h2⟩ := hx i (by omega)
      obtain ⟨xs, n, _, _, hl, hlen, hf⟩ := DataW.trod_struct Tryz.underlying36 h2
      rw [cDlt] at hl h1
      match cs', hl, xs, hlen, hf with
      | [c0, c1], _, [x0, x1], _, hf =>
        have f0 : DataW.trod enc Tryz.prog w 0 (fun _ => true) true n 31 (List.take (Tryz.prog.cellsOf 31) [c0, c1]) = some x0 := hf 0 _ rfl
        have f1 : DataW.trod enc Tryz.prog w 0 (fun _ => true) true n 31 (List.take (Tryz.prog.cellsOf 31) [c1]) = some x1 := hf 1 _ rfl
        rw [cSps] at f0 f1
        obtain ⟨s0, l0, e0, g0, k0⟩ := open_spns f0
        obtain ⟨s1, l1, e1, g1, k1⟩ := open_spns f1
        simp at e0 e1
        subst e0 e1
        exact ⟨((s0, s1), (l0, l1)), h1, ⟨g0, g1⟩, k0, k1⟩
    haveI : Inhabited ((Sl × Sl) × (List Spn × List Spn)) := ⟨(((none, 0, 0), (none, 0, 0)), ([], []))⟩
    obtain ⟨f, hf⟩ := Deep.choose_lt hall
    refine ⟨(some a, len, m), (List.range len).map fun i => (f i).2, rfl, ⟨(List.range len).map fun i => (f i).1, reads_of_fn dltE hlc hcm _ fun i hi => (hf i hi).1, by simp, fun i h h' => ?_⟩, fun d hd => ?_⟩
    · have hi : i < len := by simpa using h
      simpa using (hf i hi).2.1
    · obtain ⟨i, hi, rfl⟩ := List.mem_map.1 hd
      exact (hf i (List.mem_range.1 hi)).2.2
end
/-- what the machine's own variable of bytealg holds -/
theorem maxlen_of {w : World} (h : w.ShapedOpen Tryz.prog) : ∃ m, w.cell? ⟨0, 0, none⟩ = some (.int .i64 m) :=
  cell_of_shapedOpen_int (zero := #[.int .i64 0]) (t := 3) h (of_decide_eq_true (by kernel_rfl)) (by kernel_rfl) rfl (by kernel_rfl) (by kernel_rfl) Tryz.underlying3
theorem _root_.Go.Vc.Ext.below {w w' : World} (h : Ext w w') : Below w.heap.size w { w' with tape := w.tape } := ⟨h.ost.1, rfl, h.ost.2, h.size, fun _ hk => Ext.same h hk⟩
end Go.Proofs.YtdonmmjikcbihaaGreatDoor
