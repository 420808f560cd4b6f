/- Kinds of elements at this program. -/
import Derived.Test.YtdonmmjikcbihaaGreatDoorOwn
import Derived.Test.YtdonmmjikcbihaaGreatDoorSls
namespace Go.Proofs.YtdonmmjikcbihaaGreatDoor
open Go.RowKit Go.Proofs Go.Vc
theorem some_isSome {α : Type} {o : Option α} {a : α} (h : o = some a) : o.isSome = true := by rw [h]; rfl
/-- the facts of a type, by its number -/
theorem facts_of {e : TypeId} {i : TypeInfo} {z : Value} {s n : Nat} (h : (Tryz.prog.info? e).map (fun i => (i.zero, i.size, i.bytes)) = some (some z, s, n)) (hi : Tryz.prog.info? e = some i) : i.zero = some z ∧ i.size = s ∧ i.bytes = n := by
  rw [hi] at h
  simp only [Option.map_some, Option.some.injEq, Prod.mk.injEq] at h
  exact h
noncomputable def infoOf (e : TypeId) (h : (Tryz.prog.info? e).isSome = true) : TypeInfo := (Tryz.prog.info? e).get h
theorem infoOf_eq (e : TypeId) (h : (Tryz.prog.info? e).isSome = true) : Tryz.prog.info? e = some (infoOf e h) := by unfold infoOf; rw [Option.some_get]
/-- numbers -/
theorem intF : (Tryz.prog.info? 3).map (fun i => (i.zero, i.size, i.bytes)) = some (some (.int .i64 0), 1, 8) := by kernel_rfl
noncomputable def intE : Ek Tryz.prog Int where
  t := 44
  e := 3
  i := infoOf 3 (by kernel_rfl)
  z := .int .i64 0
  size := 1
  bytes := 8
  enc n := [.int .i64 n]
  ht := by kernel_rfl
  hi := infoOf_eq _ _
  hz := (facts_of intF (infoOf_eq _ _)).1
  hs := (facts_of intF (infoOf_eq _ _)).2.1
  hb := (facts_of intF (infoOf_eq _ _)).2.2
  zs := rfl
  pos := by decide
  bb := by decide
  len _ := rfl
  one x u hu := by simp at hu; subst hu; rfl
/-- spans -/
theorem spnF : (Tryz.prog.info? 48).map (fun i => (i.zero, i.size, i.bytes)) = some (some (.agg #[.int .i64 0, .int .i64 0, .int .i64 0, .int .i64 0, .string ⟨#[]⟩, .string ⟨#[]⟩, .int .i64 0, .int .i64 0, .bool false]), 9, 88) := by kernel_rfl
noncomputable def spnE : Ek Tryz.prog Spn where
  t := 31
  e := 48
  i := infoOf 48 (by kernel_rfl)
  z := .agg #[.int .i64 0, .int .i64 0, .int .i64 0, .int .i64 0, .string ⟨#[]⟩, .string ⟨#[]⟩, .int .i64 0, .int .i64 0, .bool false]
  size := 9
  bytes := 88
  enc x := [.int .i64 x.tr, .int .i64 x.id, .int .i64 x.pa, .int .i64 x.rv, .string x.sv, .string x.op, .int .i64 x.st, .int .i64 x.du, .bool x.gone]
  ht := by kernel_rfl
  hi := infoOf_eq _ _
  hz := (facts_of spnF (infoOf_eq _ _)).1
  hs := (facts_of spnF (infoOf_eq _ _)).2.1
  hb := (facts_of spnF (infoOf_eq _ _)).2.2
  zs := rfl
  pos := by decide
  bb := by decide
  len _ := rfl
  one x u hu := by
    simp only [List.mem_cons, List.not_mem_nil, or_false] at hu
    rcases hu with rfl | rfl | rfl | rfl | rfl | rfl | rfl | rfl | rfl <;> rfl
/-- a slice's three parts -/
abbrev Sl := Option Addr × Nat × Nat
abbrev slV (s : Sl) : Value := .slice s.1 s.2.1 s.2.2
/-- entries: two names and a slice -/
theorem entF : (Tryz.prog.info? 46).map (fun i => (i.zero, i.size, i.bytes)) = some (some (.agg #[.string ⟨#[]⟩, .string ⟨#[]⟩, .slice none 0 0]), 3, 56) := by kernel_rfl
noncomputable def entE : Ek Tryz.prog (ByteArray × ByteArray × Sl) where
  t := 38
  e := 46
  i := infoOf 46 (by kernel_rfl)
  z := .agg #[.string ⟨#[]⟩, .string ⟨#[]⟩, .slice none 0 0]
  size := 3
  bytes := 56
  enc x := [.string x.1, .string x.2.1, slV x.2.2]
  ht := by kernel_rfl
  hi := infoOf_eq _ _
  hz := (facts_of entF (infoOf_eq _ _)).1
  hs := (facts_of entF (infoOf_eq _ _)).2.1
  hb := (facts_of entF (infoOf_eq _ _)).2.2
  zs := rfl
  pos := by decide
  bb := by decide
  len _ := rfl
  one x u hu := by
    simp only [List.mem_cons, List.not_mem_nil, or_false] at hu
    rcases hu with rfl | rfl | rfl <;> rfl
/-- a reading slice of spans -/
theorem spns_of_reads {w : World} {v : Value} {l : List Spn} {a : Option Addr} {n cap : Nat} (h : spnE.Reads w v l) (hv : v = .slice a n cap) (hc : n ≤ cap) : SpnsAt w v l := by
  have h' := h
  obtain ⟨a1, cap1, e, hn, h0, hcs⟩ := h'
  rw [hv] at e
  injection e with e1 e2 e3
  subst e1; subst e3
  refine ⟨a, cap, by rw [hv, e2], ⟨hn, by omega⟩, h0, fun g o s ha => ⟨(hcs g o s ha).1, fun i hi => ?_⟩⟩
  obtain rfl := (hcs g o s ha).1 (ne_nil_of_lt hi)
  subst ha
  rw [hv] at h
  have hq := fun j hj => h.elem spnE i j hi hj
  have h0 := hq 0 (by decide); have h1 := hq 1 (by decide); have h2 := hq 2 (by decide); have h3 := hq 3 (by decide); have h4 := hq 4 (by decide)
  have h5 := hq 5 (by decide); have h6 := hq 6 (by decide); have h7 := hq 7 (by decide); have h8 := hq 8 (by decide)
  exact ⟨⟨⟨h0, h1, h2⟩, h3, h4, h5⟩, h6, h7, h8⟩
theorem spns_of_own {B : Nat} {v : Value} {l : List Spn} {w : World} (h : spnE.Own B v l w) (hl : l.length ≤ 1000000) : SpnsAt w v l := by
  obtain ⟨a, cap, hv, h0, hc⟩ := h.slice spnE
  exact spns_of_reads (h.reads spnE hl) hv hc
theorem reads_of_spns {w : World} {v : Value} {l : List Spn} (h : SpnsAt w v l) : spnE.Reads w v l := by
  obtain ⟨a, cap, rfl, hn, h0, hc⟩ := h
  refine ⟨a, cap, rfl, hn.1, h0, fun g o s ha => ⟨(hc g o s ha).1, fun j u hj => ?_⟩⟩
  have hlt : j < l.length * 9 := by
    have := spnE.cells_len l
    rcases Nat.lt_or_ge j (l.length * 9) with h | h
    · exact h
    · rw [List.getElem?_eq_none (by rw [this]; exact h)] at hj; cases hj
  have hi : j / 9 < l.length := by omega
  have hr : j % 9 < 9 := Nat.mod_lt _ (by decide)
  have hjr : j = j / 9 * 9 + j % 9 := by omega
  have h9 := (hc g o s ha).2 (j / 9) hi
  have e := spnE.cells_at l (j / 9) (j % 9) hi hr
  have e9 : spnE.size = 9 := rfl
  rw [e9, ← hjr] at e
  rw [e] at hj
  have hcell : w.cell? ⟨g, o + j / 9 * 9 + j % 9, none⟩ = some u := by
    unfold C9 at h9
    obtain ⟨⟨⟨c0, c1, c2⟩, c3, c4, c5⟩, c6, c7, c8⟩ := h9
    generalize j / 9 = q at *
    generalize hm : j % 9 = r at *
    match r, hr with
    | 0, _ => rw [Nat.add_zero, c0]; exact hj
    | 1, _ => rw [c1]; exact hj
    | 2, _ => rw [c2]; exact hj
    | 3, _ => rw [c3]; exact hj
    | 4, _ => rw [c4]; exact hj
    | 5, _ => rw [c5]; exact hj
    | 6, _ => rw [c6]; exact hj
    | 7, _ => rw [c7]; exact hj
    | 8, _ => rw [c8]; exact hj
  rw [Nat.add_assoc, ← hjr] at hcell
  exact hcell
end Go.Proofs.YtdonmmjikcbihaaGreatDoor
