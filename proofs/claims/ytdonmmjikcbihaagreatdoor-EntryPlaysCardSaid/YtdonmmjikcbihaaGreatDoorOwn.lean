/- Rows of the call's own, of elements of any kind: appending, reading. -/
import Derived.Test.YtdonmmjikcbihaaGreatDoorRange
import Derived.OwnWalkIn
import Derived.Lib.OwnKind
namespace Go.Vc
open Go.RowKit
/-- a kind of elements: their slices' type, their own type, their cells -/
structure Ek (P : Program) (α : Type) where
  t : TypeId
  e : TypeId
  i : TypeInfo
  z : Value
  size : Nat
  bytes : Nat
  enc : α → List Value
  ht : P.underlying t = some (.slice e)
  hi : P.info? e = some i
  hz : i.zero = some z
  hs : i.size = size
  hb : i.bytes = bytes
  zs : z.cells.size = size
  pos : 0 < size
  bb : bytes ≤ 1000
  len : ∀ x, (enc x).length = size
  one : ∀ x, ∀ u ∈ enc x, u.oneCell' = true
section
variable {P : Program} {α : Type} (E : Ek P α)
/-- the cells of a list -/
def Ek.cells (l : List α) : List Value := l.flatMap E.enc
/-- an own row -/
def Ek.Own (B : Nat) (v : Value) (l : List α) (w : World) : Prop := w.ownsRow B E.e E.size v l.length (E.cells l)
/-- a slice that reads as a list, wherever it lies -/
def Ek.Reads (w : World) (v : Value) (l : List α) : Prop :=
  ∃ a cap, v = .slice a l.length cap ∧ (l.length : Int) ≤ 9223372036854775807 ∧ (a = none → l = []) ∧ ∀ g o s, a = some ⟨g, o, s⟩ → (l ≠ [] → s = none) ∧ ∀ j u, (E.cells l)[j]? = some u → w.cell? ⟨g, o + j, none⟩ = some u
theorem Ek.cells_len (l : List α) : (E.cells l).length = l.length * E.size := by
  unfold Ek.cells
  induction l with
  | nil => simp
  | cons x l ih => rw [List.flatMap_cons, List.length_append, ih, E.len, List.length_cons, Nat.add_mul]; omega
theorem Ek.cells_append (l m : List α) : E.cells (l ++ m) = E.cells l ++ E.cells m := by unfold Ek.cells; rw [List.flatMap_append]
theorem Ek.cells_one (x : α) : E.cells [x] = E.enc x := by unfold Ek.cells; simp
theorem Ek.cells_take (l : List α) (k : Nat) : E.cells (l.take k) = (E.cells l).take (k * E.size) := by
  induction l generalizing k with
  | nil => simp [Ek.cells]
  | cons x l ih =>
    cases k with
    | zero => simp [Ek.cells]
    | succ k =>
      have h := ih k
      unfold Ek.cells at h ⊢
      rw [List.take_succ_cons, List.flatMap_cons, List.flatMap_cons, h, List.take_append]
      have e1 : (E.enc x).take ((k + 1) * E.size) = E.enc x := List.take_of_length_le (by rw [E.len, Nat.add_mul]; omega)
      have e2 : (k + 1) * E.size - (E.enc x).length = k * E.size := by rw [E.len, Nat.add_mul]; omega
      rw [e1, e2]
theorem Ek.cells_drop (l : List α) (k : Nat) : E.cells (l.drop k) = (E.cells l).drop (k * E.size) := by
  induction l generalizing k with
  | nil => simp [Ek.cells]
  | cons x l ih =>
    cases k with
    | zero => simp [Ek.cells]
    | succ k =>
      have h := ih k
      unfold Ek.cells at h ⊢
      rw [List.drop_succ_cons, List.flatMap_cons, h, List.drop_append]
      have e1 : (E.enc x).drop ((k + 1) * E.size) = [] := List.drop_of_length_le (by rw [E.len, Nat.add_mul]; omega)
      have e2 : (k + 1) * E.size - (E.enc x).length = k * E.size := by rw [E.len, Nat.add_mul]; omega
      rw [e1, e2, List.nil_append]
/-- the cells of element i -/
theorem Ek.cells_at (l : List α) (i j : Nat) (hi : i < l.length) (hj : j < E.size) : (E.cells l)[i * E.size + j]? = (E.enc l[i])[j]? := by
  have h1 : E.cells l = E.cells (l.take i) ++ (E.enc l[i] ++ E.cells (l.drop (i + 1))) := by
    rw [← E.cells_one, ← E.cells_append, ← E.cells_append]
    congr 1
    rw [List.singleton_append, List.getElem_cons_drop, List.take_append_drop]
  have h2 : (E.cells (l.take i)).length = i * E.size := by rw [E.cells_len, List.length_take, Nat.min_eq_left (by omega)]
  rw [h1, List.getElem?_append_right (by omega), h2, Nat.add_sub_cancel_left, List.getElem?_append_left (by rw [E.len]; exact hj)]
theorem Ek.cells_oneC (l : List α) : ∀ u ∈ E.cells l, u.oneCell' = true := by
  intro u hu
  obtain ⟨x, _, hx⟩ := List.mem_flatMap.1 hu
  exact E.one x u hx
theorem Ek.Reads.elem {w : World} {g o cap n : Nat} {s} {l : List α} (h : E.Reads w (.slice (some ⟨g, o, s⟩) n cap) l) (i j : Nat) (hi : i < l.length) (hj : j < E.size) : w.cell? ⟨g, o + (i * E.size + j), none⟩ = (E.enc l[i])[j]? := by
  obtain ⟨a, cap', e, _, _, hc⟩ := h
  injection e with e1 e2 e3
  have hj' : j < (E.enc l[i]).length := by rw [E.len]; exact hj
  rw [List.getElem?_eq_getElem hj']
  exact (hc g o s e1.symm).2 _ _ ((E.cells_at l i j hi hj).trans (List.getElem?_eq_getElem hj'))
theorem Ek.Reads.cell_mem {w : World} {g p : Nat} {u : Value} (h : w.cell? ⟨g, p, none⟩ = some u) : g < w.heap.size := World.block_lt_of_cell? _ _ h
theorem Ek.Reads.keeps {F : Nat → Prop} {w w' : World} {v : Value} {l : List α} (h : E.Reads w v l) (k : Keeps F w w') (hF : ∀ g o s n c, v = .slice (some ⟨g, o, s⟩) n c → l ≠ [] → ¬ F g) : E.Reads w' v l := by
  obtain ⟨a, cap, rfl, hn, h0, hc⟩ := h
  refine ⟨a, cap, rfl, hn, h0, fun g o s ha => ⟨(hc g o s ha).1, fun j u hj => ?_⟩⟩
  have h1 := (hc g o s ha).2 j u hj
  have hne : l ≠ [] := by intro e; subst e; simp [Ek.cells] at hj
  have hs : w'.heap[g]? = w.heap[g]? := k.same g (World.block_lt_of_cell? _ _ h1) (hF g o s _ _ (by rw [ha]) hne)
  exact (World.cell?_of_block (w := w) hs).trans h1
theorem Ek.Reads.ext {w w' : World} {v : Value} {l : List α} (h : E.Reads w v l) (k : Ext w w') : E.Reads w' v l := h.keeps E k fun _ _ _ _ _ _ _ hf => hf
theorem Ek.Reads.nil (w : World) (c : Nat) : E.Reads w (.slice none 0 c) [] := ⟨none, c, rfl, by simp, fun _ => rfl, fun _ _ _ h => by cases h⟩
/-- a row of many -/
theorem Ek.reads_row (W : World) (l : List α) (cs : Array Value) (ty : TypeId) (n c : Nat) (hn : n = l.length) (hl : l.length ≤ 1000000) (h : cs.toList = E.cells l) : E.Reads (W.alloc (.cells cs ty)) (.slice (some ⟨W.heap.size, 0, none⟩) n c) l := by
  subst hn
  refine ⟨_, c, rfl, by omega, (fun e => nomatch e), fun g o s e => ?_⟩
  injection e with e
  injection e with e1 e2 e3
  subst e1; subst e2; subst e3
  refine ⟨fun _ => rfl, fun j u hj => ?_⟩
  rw [blk_cell (World.alloc_heap_new W (.cells cs ty)), Nat.zero_add]
  rw [← h] at hj
  rw [← Array.getElem?_toList]; exact hj
/-- the row of what an append's arguments are -/
theorem Ek.reads_new (W : World) (x : α) (cs : Array Value) (ty : TypeId) (h : cs.toList = E.enc x) : E.Reads (W.alloc (.cells cs ty)) (.slice (some ⟨W.heap.size, 0, none⟩) 1 1) [x] := by
  refine ⟨_, 1, rfl, by simp, (fun e => nomatch e), fun g o s e => ?_⟩
  injection e with e
  injection e with e1 e2 e3
  subst e1; subst e2; subst e3
  refine ⟨fun _ => rfl, fun j u hj => ?_⟩
  rw [blk_cell (World.alloc_heap_new W (.cells cs ty)), Nat.zero_add]
  rw [E.cells_one, ← h] at hj
  rw [← Array.getElem?_toList]; exact hj
/-- nothing -/
theorem Ek.Reads.rest (w : World) {g o k c : Nat} {l : List α} (hk : k = 0) (hl : l = []) : E.Reads w (.slice (some ⟨g, o, none⟩) k c) l := by
  subst hk; subst hl
  exact ⟨_, c, rfl, by simp, fun _ => rfl, fun g' o' s e => by
    injection e with e
    injection e with e1 e2 e3
    exact ⟨fun _ => e3.symm, fun j u hj => by simp [Ek.cells] at hj⟩⟩
/-- a part of a slice -/
theorem Ek.Reads.part {w : World} {a : Option Addr} {n cap : Nat} {l : List α} (h : E.Reads w (.slice a n cap) l) (i k c : Nat) (hi : i ≤ l.length) (hk : i + k ≤ l.length) (a' : Option Addr)
    (ha : a' = none → a = none ∨ False) (ha' : ∀ g o s, a' = some ⟨g, o, s⟩ → ∃ o0, a = some ⟨g, o0, s⟩ ∧ o = o0 + i * E.size) : E.Reads w (.slice a' k c) ((l.drop i).take k) := by
  obtain ⟨a0, cap0, e, hn, h0, hc⟩ := h
  injection e with e1 e2 e3
  subst e1
  have hlen : ((l.drop i).take k).length = k := by rw [List.length_take, List.length_drop]; omega
  refine ⟨a', c, by rw [hlen], by rw [hlen]; omega, fun e => ?_, fun g o s hg => ?_⟩
  · rcases ha e with e | e
    · rw [h0 e]; simp
    · exact e.elim
  · obtain ⟨o0, ea, rfl⟩ := ha' g o s hg
    obtain ⟨hs, hcc⟩ := hc g o0 s ea
    refine ⟨fun hne => hs (fun e => hne (by rw [e]; simp)), fun j u hj => ?_⟩
    rw [E.cells_take, E.cells_drop] at hj
    have hj2 : j < k * E.size := by
      rcases Nat.lt_or_ge j (k * E.size) with h | h
      · exact h
      · rw [List.getElem?_eq_none (by rw [List.length_take]; omega)] at hj; cases hj
    rw [List.getElem?_take_of_lt hj2, List.getElem?_drop] at hj
    have := hcc _ _ hj
    rw [← Nat.add_assoc] at this; exact this
/-- an own row is a slice -/
theorem Ek.Own.reads {B : Nat} {v : Value} {l : List α} {w : World} (h : E.Own B v l w) (hl : l.length ≤ 1000000) : E.Reads w v l := by
  rcases h.2 with ⟨rfl, hn⟩ | ⟨g, cap, cur, hv, hb, hg, r1, r2, r3, r4⟩
  · have : l = [] := List.eq_nil_of_length_eq_zero hn
    subst this
    exact Ek.Reads.nil E w 0
  · subst hv
    refine ⟨_, cap, rfl, by omega, (fun e => nomatch e), fun g' o s e => ?_⟩
    injection e with e
    injection e with e1 e2 e3
    subst e1; subst e2; subst e3
    refine ⟨fun _ => rfl, fun j u hj => ?_⟩
    have hc := h.cells (g := g) rfl j u hj
    rw [Addr.add_lit] at hc; exact hc
theorem Ek.Own.nil (B : Nat) (w : World) : E.Own B (.slice none 0 0) [] w := World.ownsRow_nil w B _ _
theorem Ek.Own.lt {B : Nat} {v : Value} {l : List α} {w : World} (h : E.Own B v l w) {g : Nat} (hg : v.ownBlock = some g) : B ≤ g ∧ g < w.heap.size := World.ownsRow.lt h g hg
theorem Ek.Own.kind {B : Nat} {v : Value} {l : List α} {w : World} (h : E.Own B v l w) {g : Nat} (hg : v.ownBlock = some g) : ∃ c f, w.heap[g]? = some (.cells c E.e f) := Lib.ownsRow_kind h g hg
/-- **append(own, slice...)** as it runs -/
theorem Ek.run {w : World} (B : Nat) (v : Value) (l m : List α) (u : Value) (ty : TypeId) (hown : E.Own B v l w) (hx : E.Reads w u m) (hlen : l.length + m.length ≤ 1000000) (hB : B ≤ w.heap.size) :
    ∃ v' w', (Builtin.append_ #[E.t, E.t] ty #[v, u]).run P w = .ok v' w' ∧ E.Own B v' (l ++ m) w' ∧ Keeps (fun b => v.ownBlock = some b) w w' ∧ (v' = .slice none 0 0 ↔ v = .slice none 0 0 ∧ m = []) ∧ (v'.ownBlock = v.ownBlock ∨ v'.ownBlock = some w.heap.size) := by
  obtain ⟨a, cap, rfl, _, h0, hc⟩ := hx
  cases a with
  | none =>
    have hm := h0 rfl
    subst hm
    refine ⟨v, w, ?_, by rw [List.append_nil]; exact hown, Keeps.refl _ w, by simp, .inl rfl⟩
    rcases hown.2 with ⟨rfl, hn⟩ | ⟨g, cap', cur, hv, hb, hg, r1, r2, r3, r4⟩
    · simp [Builtin.append_, run_underlying E.ht, sizeOf, typeInfo, E.hi, Builtin.lenOf, Builtin.firstCells, loadCells, loadCellsFrom]
    · subst hv
      have hst := run_storeCells_cells (P := P) g (l.length * E.i.size) [] 0 w (by simp) (by simp) (by simp)
      simp [Builtin.append_, run_underlying E.ht, sizeOf, typeInfo, E.hi, Builtin.lenOf, Builtin.firstCells, loadCells, loadCellsFrom, r1, Addr.add_lit] at hst ⊢
      rw [hst]
      simp [World.setCells]
  | some ad =>
    obtain ⟨g, o, s⟩ := ad
    obtain ⟨hs0, hcc⟩ := hc g o s rfl
    have hb63 : l.length + m.length ≤ maxLen := by unfold maxLen; omega
    obtain ⟨v', w', h1, h2, h3, h4⟩ := run_append_own (P := P) w B E.t ty E.e E.i E.z E.size E.bytes E.ht E.hi E.hz E.hs E.hb E.zs E.pos v l.length (E.cells l) hown ⟨g, o, s⟩ m.length cap (E.cells m) (E.cells_len m)
      (fun j u hj => by have := hcc j u hj; obtain rfl := hs0 (fun e => by rw [e] at hj; simp [Ek.cells] at hj); rw [Addr.add_lit]; exact this) (E.cells_oneC m) hb63 (by have := Nat.mul_le_mul hlen E.bb; omega) hB
    refine ⟨v', w', h1, ?_, ⟨h3.size, fun i hi hf => h3.block i hi (fun e => hf e.symm), h3.os, h3.output⟩, by rw [h4]; simp, ?_⟩
    · unfold Ek.Own
      rw [List.length_append, E.cells_append]; exact h2
    · have hnews : ∀ j u, (E.cells m)[j]? = some u → w.cell? ((⟨g, o, s⟩ : Addr).add j) = some u := fun j u hj => by have := hcc j u hj; obtain rfl := hs0 (fun e => by rw [e] at hj; simp [Ek.cells] at hj); rw [Addr.add_lit]; exact this
      have hl : (E.cells m).length = m.length * E.i.size := by rw [E.hs]; exact E.cells_len m
      have hbb : (l.length + m.length) * E.i.bytes ≤ 140737488355328 := by rw [E.hb]; have := Nat.mul_le_mul hlen E.bb; omega
      rcases hown.2 with ⟨rfl, hn⟩ | ⟨g1, cap1, cur, rfl, hb, hg, r1, r2, r3, r4⟩
      · rcases Nat.eq_zero_or_pos m.length with h0 | h0
        · have : m = [] := List.eq_nil_of_length_eq_zero h0
          exact .inl (by rw [h4.2 ⟨rfl, h0⟩])
        · have hr := run_append_nil (P := P) w E.t ty E.e E.i E.z E.ht E.hi E.hz ⟨g, o, s⟩ m.length cap (E.cells m) hl hnews h0 (by omega) (by rw [hn, Nat.zero_add] at hbb; omega)
          rw [hr] at h1
          injection h1 with h1 _
          exact .inr (by rw [← h1]; rfl)
      · by_cases hroom : l.length + m.length ≤ cap1
        · have hfit : l.length * E.i.size + (E.cells m).length ≤ cur.size := by rw [hl, r3, ← E.hs, ← Nat.add_mul]; exact Nat.mul_le_mul_right _ hroom
          have hr := run_append_room (P := P) w E.t ty E.e E.i E.ht E.hi g1 l.length cap1 cur hg ⟨g, o, s⟩ m.length cap (E.cells m) hl hnews (E.cells_oneC m) hroom hfit
          rw [hr] at h1
          injection h1 with h1 _
          exact .inl (by rw [← h1]; rfl)
        · have holds : ∀ j u, (E.cells l)[j]? = some u → w.cell? ((⟨g1, 0, none⟩ : Addr).add j) = some u := hown.cells (g := g1) rfl
          have hr := run_append_grow (P := P) w E.t ty E.e E.i E.z E.ht E.hi E.hz ⟨g1, 0, none⟩ l.length cap1 (E.cells l) (by rw [E.hs]; exact hown.1) holds ⟨g, o, s⟩ m.length cap (E.cells m) hl hnews (by omega) (by omega) (growslice_fits (by omega) hbb)
          rw [hr] at h1
          injection h1 with h1 _
          exact .inr (by rw [← h1]; rfl)
theorem Ek.app {F : Fence} {n : Nat} {w : World} {ops : Array Oper} {rest : List Oper} {o : Oper} {a : Act} {Q : Exit → Act → World → Prop}
    (hg : o.guard = none) (s x : Operand) (hop : o.op = Op.call { callee := Callee.builtin Builtin.append, args := #[s, x], argTypes := #[E.t, E.t] })
    (B : Nat) (v : Value) (l m : List α) (hs : a.eval s = v) (hown : E.Own B v l w) (hx : E.Reads w (a.eval x) m) (hlen : l.length + m.length ≤ 1000000) (hB : B ≤ w.heap.size)
    (hK : ∀ v' w', E.Own B v' (l ++ m) w' → Keeps (fun b => v.ownBlock = some b) w w' → (v' = .slice none 0 0 ↔ v = .slice none 0 0 ∧ m = []) → (v'.ownBlock = v.ownBlock ∨ v'.ownBlock = some w.heap.size) → wpListIn F n P ops Q rest (a.put o.dst v') w') :
    wpListIn F n P ops Q (o :: rest) a w := by
  refine wpListIn_plain hg fun K hK' => ?_
  obtain ⟨v', w', hrun, r1, r2, r3, r4⟩ := E.run B v l m (a.eval x) o.type hown hx hlen hB
  obtain ⟨ax, cx, ex, _⟩ := hx
  unfold Oper.wpIn
  refine ⟨?_, ?_⟩
  · simp [Oper.about, hop, resolve, Target.leads, Sem.run_pure]
  · rw [Oper.semAt_plain F _ _ (by rw [hop]; intro c hc'; cases hc')]
    rw [ex] at hrun
    simp [execOp, hop, resolve, invoke, builtin, hs, ex, hrun, Result.andThen]
    exact hK' _ _ (hK v' w' r1 r2 r3 r4)
/-- the same, of one operation -/
theorem Ek.appO {F : Fence} {n : Nat} {w : World} {o : Oper} {a : Act} {K : Act → World → Prop} {Q : Exit → Act → World → Prop}
    (s x : Operand) (hop : o.op = Op.call { callee := Callee.builtin Builtin.append, args := #[s, x], argTypes := #[E.t, E.t] })
    (B : Nat) (v : Value) (l m : List α) (hs : a.eval s = v) (hown : E.Own B v l w) (hx : E.Reads w (a.eval x) m) (hlen : l.length + m.length ≤ 1000000) (hB : B ≤ w.heap.size)
    (hK : ∀ v' w', E.Own B v' (l ++ m) w' → Keeps (fun b => v.ownBlock = some b) w w' → (v' = .slice none 0 0 ↔ v = .slice none 0 0 ∧ m = []) → (v'.ownBlock = v.ownBlock ∨ v'.ownBlock = some w.heap.size) → K (a.put o.dst v') w') :
    o.wpIn F n P a w K Q := by
  obtain ⟨v', w', hrun, r1, r2, r3, r4⟩ := E.run B v l m (a.eval x) o.type hown hx hlen hB
  obtain ⟨ax, cx, ex, _⟩ := hx
  unfold Oper.wpIn
  refine ⟨?_, ?_⟩
  · simp [Oper.about, hop, resolve, Target.leads, Sem.run_pure]
  · rw [Oper.semAt_plain F _ _ (by rw [hop]; intro c hc'; cases hc')]
    rw [ex] at hrun
    simp [execOp, hop, resolve, invoke, builtin, hs, ex, hrun, Result.andThen]
    exact hK v' w' r1 r2 r3 r4
/-- the same in a region that draws -/
theorem Ek.hl_app {F : Fence} {n i : Nat} {t : Way} {ops : List Oper} {N : Act → World → Prop} {S : World → Prop} {w : World} {o : Oper} {a : Act}
    (ho : nth ops i = some o) (hg : Region.wanted o (yielded ops.toArray a.tmps) = true) (hlo : loud o.op = true)
    (s x : Operand) (hop : o.op = Op.call { callee := Callee.builtin Builtin.append, args := #[s, x], argTypes := #[E.t, E.t] })
    (B : Nat) (v : Value) (l m : List α) (hs : a.eval s = v) (hown : E.Own B v l w) (hx : E.Reads w (a.eval x) m) (hlen : l.length + m.length ≤ 1000000) (hB : B ≤ w.heap.size)
    (hK : ∀ v' w', E.Own B v' (l ++ m) w' → Keeps (fun b => v.ownBlock = some b) w w' → (v' = .slice none 0 0 ↔ v = .slice none 0 0 ∧ m = []) → (v'.ownBlock = v.ownBlock ∨ v'.ownBlock = some w.heap.size) →
      (needS ops.toArray i = true → S w') ∧ HL F n P ops.toArray N S t (a.put o.dst v') w') : HL F n P ops.toArray N S (.op i t) a w :=
  hl_e ho hg hlo fun K hk => E.appO s x hop B v l m hs hown hx hlen hB fun v' w' h1 h2 h3 h4 => hk _ _ (hK v' w' h1 h2 h3 h4)
theorem Ek.app' {w : World} {ops : Array Oper} {rest : List Oper} {o : Oper} {a : Act} {Q : Exit → Act → World → Prop}
    (hg : o.guard = none) (s x : Operand) (hop : o.op = Op.call { callee := Callee.builtin Builtin.append, args := #[s, x], argTypes := #[E.t, E.t] })
    (B : Nat) (v : Value) (l m : List α) (hs : a.eval s = v) (hown : E.Own B v l w) (hx : E.Reads w (a.eval x) m) (hlen : l.length + m.length ≤ 1000000) (hB : B ≤ w.heap.size)
    (hK : ∀ v' w', E.Own B v' (l ++ m) w' → Keeps (fun b => v.ownBlock = some b) w w' → (v' = .slice none 0 0 ↔ v = .slice none 0 0 ∧ m = []) → (v'.ownBlock = v.ownBlock ∨ v'.ownBlock = some w.heap.size) → wpList P ops Q rest (a.put o.dst v') w') :
    wpList P ops Q (o :: rest) a w := by
  refine wpList_plain hg fun K hK' => ?_
  obtain ⟨v', w', hrun, r1, r2, r3, r4⟩ := E.run B v l m (a.eval x) o.type hown hx hlen hB
  obtain ⟨ax, cx, ex, _⟩ := hx
  unfold Oper.wp
  rw [ex] at hrun
  simp [execOp, hop, resolve, invoke, builtin, hs, ex, hrun, Result.andThen]
  exact hK' _ _ (hK v' w' r1 r2 r3 r4)
theorem Ek.Own.form {B : Nat} {v : Value} {l : List α} {w : World} (h : E.Own B v l w) : v = .slice none 0 0 ∨ ∃ g cap, v = .slice (some ⟨g, 0, none⟩) l.length cap ∧ l.length ≤ cap := by
  rcases h.2 with ⟨rfl, _⟩ | ⟨g, cap, cur, rfl, hb, hg, r1, _⟩
  · exact .inl rfl
  · exact .inr ⟨g, cap, rfl, r1⟩
theorem Ek.Own.slice {B : Nat} {v : Value} {l : List α} {w : World} (h : E.Own B v l w) : ∃ a cap, v = .slice a l.length cap ∧ (a = none → l = []) ∧ l.length ≤ cap := by
  rcases h.2 with ⟨rfl, hn⟩ | ⟨g, cap, cur, rfl, hb, hg, r1, _⟩
  · have : l = [] := List.eq_nil_of_length_eq_zero hn
    subst this; exact ⟨none, 0, rfl, fun _ => rfl, Nat.le_refl _⟩
  · exact ⟨_, cap, rfl, (fun e => nomatch e), r1⟩
theorem Ek.Own.keeps {F : Nat → Prop} {B : Nat} {v : Value} {l : List α} {w w' : World} (h : E.Own B v l w) (k : Keeps F w w') (hF : ∀ g, v.ownBlock = some g → ¬ F g) : E.Own B v l w' := by
  refine ⟨h.1, ?_⟩
  rcases h.2 with h0 | ⟨g, cap, cur, rfl, hb, hg, r⟩
  · exact .inl h0
  · exact .inr ⟨g, cap, cur, rfl, hb, (k.same g (lt_of_heap hg) (hF g rfl)).trans hg, r⟩
theorem Ek.Own.ext {B : Nat} {v : Value} {l : List α} {w w' : World} (h : E.Own B v l w) (k : Ext w w') : E.Own B v l w' := h.keeps E k fun _ _ hf => hf
theorem Ek.Own.bk {B C : Nat} {v : Value} {l : List α} {w w' : World} (h : E.Own B v l w) (k : Bk C w w') : E.Own B v l w' := by
  refine ⟨h.1, ?_⟩
  rcases h.2 with h0 | ⟨g, cap, cur, rfl, hb, hg, r⟩
  · exact .inl h0
  · exact .inr ⟨g, cap, cur, rfl, hb, k.same g _ hg (.inr rfl), r⟩
/-- the first of an own row, the others -/
theorem Ek.Own.front {B g n cap : Nat} {l : List α} {w : World} (h : E.Own B (.slice (some ⟨g, 0, none⟩) n cap) l w) (hl : l.length ≤ 1000000) (i c : Nat) (hi : i ≤ l.length) : E.Reads w (.slice (some ⟨g, 0, none⟩) i c) (l.take i) := by
  have := (h.reads E hl).part E 0 i c (Nat.zero_le _) (by omega) (some ⟨g, 0, none⟩) (fun e => nomatch e) (fun g' o s e => ⟨0, by injection e with e; injection e with e1 e2 e3; subst e1; subst e3; rfl, by injection e with e; injection e with e1 e2 e3; rw [← e2]; simp⟩)
  rwa [List.drop_zero] at this
theorem Ek.Own.suffix {B g n cap : Nat} {l : List α} {w : World} (h : E.Own B (.slice (some ⟨g, 0, none⟩) n cap) l w) (hl : l.length ≤ 1000000) (i k c : Nat) (hi : i + k = l.length) (o : Nat) (ho : o = i * E.size) : E.Reads w (.slice (some ⟨g, o, none⟩) k c) (l.drop i) := by
  have := (h.reads E hl).part E i k c (by omega) (by omega) (some ⟨g, o, none⟩) (fun e => nomatch e) (fun g' o' s e => ⟨0, by injection e with e; injection e with e1 e2 e3; subst e1; subst e3; rfl, by injection e with e; injection e with e1 e2 e3; rw [← e2, ho]; simp⟩)
  rwa [List.take_of_length_le (by rw [List.length_drop]; omega)] at this
/-- a cell of an own row set -/
theorem Ek.Own.set {B : Nat} {v : Value} {l : List α} {w : World} (h : E.Own B v l w) {g : Nat} (hg : v.ownBlock = some g) (i j : Nat) (u : Value) (x : α) (hi : i < l.length) (hj : j < E.size) (hx : E.enc x = (E.enc l[i]).set j u) :
    E.Own B v (l.set i x) (w.setCell ⟨g, i * E.size + j, none⟩ u) := by
  have hc : E.cells (l.set i x) = (E.cells l).set (i * E.size + j) u := by
    have h1 : E.cells l = E.cells (l.take i) ++ (E.enc l[i] ++ E.cells (l.drop (i + 1))) := by
      rw [← E.cells_one, ← E.cells_append, ← E.cells_append]
      congr 1
      rw [List.singleton_append, List.getElem_cons_drop, List.take_append_drop]
    have h2 : (E.cells (l.take i)).length = i * E.size := by rw [E.cells_len, List.length_take, Nat.min_eq_left (by omega)]
    have h3 : l.set i x = l.take i ++ (x :: l.drop (i + 1)) := by rw [List.set_eq_take_append_cons_drop, if_pos hi]
    have h4 : x :: l.drop (i + 1) = [x] ++ l.drop (i + 1) := rfl
    rw [h3, h4, E.cells_append, E.cells_append, E.cells_one, hx, h1, List.set_append_right _ _ (by omega), h2, Nat.add_sub_cancel_left, List.set_append_left _ _ (by rw [E.len]; exact hj)]
  have hn : l.length = (l.set i x).length := by rw [List.length_set]
  rcases h.2 with ⟨rfl, _⟩ | ⟨g', cap, cur, rfl, hb, hgc, r1, r2, r3, r4⟩
  · cases hg
  · simp only [Value.ownBlock, Option.some.injEq] at hg
    subst hg
    refine ⟨?_, .inr ⟨g', cap, cur.setIfInBounds (i * E.size + j) u, by rw [← hn], hb, heap_set hgc _ _, by rw [← hn]; exact r1, r2, by rw [Array.size_setIfInBounds]; exact r3, ?_⟩⟩
    · rw [hc, List.length_set, ← hn]; exact h.1
    · have hlt : i * E.size + j < l.length * E.size := by
        have : (i + 1) * E.size ≤ l.length * E.size := Nat.mul_le_mul_right _ hi
        rw [Nat.add_mul] at this; omega
      rw [hc, List.length_set, Array.toList_setIfInBounds, List.take_set, r4]
/-- what the call found stays when an own row grows -/
theorem Ek.Own.grow {B : Nat} {v : Value} {l : List α} {w0 w w' : World} (h : E.Own B v l w) (hE : Ext w0 w) (hB : w0.heap.size ≤ B) (k : Keeps (fun b => v.ownBlock = some b) w w') : Ext w0 w' :=
  ⟨Nat.le_trans hE.size k.size, fun i hi _ => (k.same i (Nat.lt_of_lt_of_le hi hE.size) (fun hf => absurd (h.lt E hf).1 (by omega))).trans (Ext.same hE hi), (hE.ost).trans k.ost⟩
theorem Ek.Own.mono {B C : Nat} {v : Value} {l : List α} {w : World} (h : E.Own B v l w) (hC : C ≤ B) : E.Own C v l w := by
  refine ⟨h.1, ?_⟩
  rcases h.2 with h0 | ⟨g, cap, cur, rfl, hb, r⟩
  · exact .inl h0
  · exact .inr ⟨g, cap, cur, rfl, Nat.le_trans hC hb, r⟩
end
theorem ext_bk {w W W' : World} {C : Nat} (h : Ext w W) (k : Bk C W W') (hC : w.heap.size ≤ C) : Ext w W' :=
  ⟨Nat.le_trans h.size k.size, fun i hi _ => by
    obtain ⟨o, ho⟩ : ∃ o, w.heap[i]? = some o := ⟨_, Array.getElem?_eq_getElem hi⟩
    rw [ho]
    exact k.same i o ((Ext.same h hi).trans ho) (.inl (Nat.lt_of_lt_of_le hi hC)), (h.ost).trans k.ost⟩
/-- a block of cells -/
def CellsAt (W : World) (i : Nat) : Prop := ∃ c ty f, W.heap[i]? = some (.cells c ty f)
/-- what changed are cells, of blocks from n on -/
def Mut (n : Nat) (W W' : World) : Prop := Keeps (fun i => n ≤ i ∧ CellsAt W i) W W'
theorem Mut.refl (n : Nat) (W : World) : Mut n W W := Keeps.refl _ W
theorem Mut.step {n : Nat} {W X Y : World} {G : Nat → Prop} (h : Mut n W X) (k : Keeps G X Y) (hG : ∀ i, G i → n ≤ i ∧ CellsAt X i) : Mut n W Y :=
  ⟨Nat.le_trans h.size k.size, fun i hi hf => by
    have e := h.same i hi hf
    rw [k.same i (Nat.lt_of_lt_of_le hi h.size) (fun hg => hf ⟨(hG i hg).1, by
      obtain ⟨c, ty, f, hc⟩ := (hG i hg).2
      exact ⟨c, ty, f, by rw [← e]; exact hc⟩⟩), e], (h.ost).trans k.ost⟩
theorem Mut.ext {n : Nat} {W X Y : World} (h : Mut n W X) (k : Ext X Y) : Mut n W Y := h.step k fun _ hf => hf.elim
theorem Mut.of_ext {n : Nat} {W X : World} (k : Ext W X) : Mut n W X := (Mut.refl n W).ext k
theorem Mut.trans {n : Nat} {W X Y : World} (h : Mut n W X) (k : Mut n X Y) : Mut n W Y := h.step k fun _ hf => hf
theorem Mut.toExt {n : Nat} {w W W' : World} (h : Mut n W W') (k : Ext w W) (hn : w.heap.size ≤ n) : Ext w W' :=
  ⟨Nat.le_trans k.size h.size, fun i hi _ => (h.same i (Nat.lt_of_lt_of_le hi k.size) (fun hf => absurd hf.1 (by omega))).trans (Ext.same k hi), (k.ost).trans h.ost⟩
theorem Mut.toFrom {n B : Nat} {W W' : World} (h : Mut n W W') : KeepsFrom B W W' :=
  KeepsFrom.of_keeps h fun b o hf hb => .inr (by
    obtain ⟨c, ty, f, hc⟩ := hf.2
    rw [hb] at hc; injection hc with hc; rw [hc]; rfl)
theorem Mut.cell {n : Nat} {W W' X : World} (h : Mut n W W') {b : Nat} {c : Array Value} {ty : TypeId} {f : Nat × Nat} (hb : W'.heap[b]? = some (.cells c ty f)) (hn : n ≤ b) (i : Nat) (v : Value) (hX : X = W'.setCell ⟨b, i, none⟩ v) : Mut n W X := by
  subst hX
  exact h.step ((Only.refl [b] W').setCell (by simp) v).keeps fun j hj => by rw [List.mem_singleton] at hj; subst hj; exact ⟨hn, c, ty, f, hb⟩
theorem Mut.own {P : Program} {α : Type} (E : Ek P α) {n B : Nat} {W X Y : World} {v : Value} {l : List α} (h : Mut n W X) (ho : E.Own B v l X) (hB : n ≤ B) (k : Keeps (fun b => v.ownBlock = some b) X Y) : Mut n W Y :=
  h.step k fun i hi => ⟨Nat.le_trans hB (ho.lt E hi).1, by obtain ⟨c, f, hc⟩ := ho.kind E hi; exact ⟨c, _, f, hc⟩⟩
end Go.Vc
