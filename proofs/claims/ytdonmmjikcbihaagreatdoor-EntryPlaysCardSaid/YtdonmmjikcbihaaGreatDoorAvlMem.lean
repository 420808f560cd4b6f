/- Search trees in memory (no program here). -/
import Derived.Test.YtdonmmjikcbihaaGreatDoorBase
import Derived.Test.YtdonmmjikcbihaaGreatDoorTree
namespace Go.Vc
/-- how a node lies in memory: the node type's number, its cells (key, value, low, high, depth) -/
structure Shape (κ α : Type) where
  ty : TypeId
  cells : κ → α → Value → Value → Int → Array Value
  lo : Nat
  hi : Nat
  dep : Nat
  set_lo : ∀ k v l h d x, (cells k v l h d).setIfInBounds lo x = cells k v x h d
  set_hi : ∀ k v l h d x, (cells k v l h d).setIfInBounds hi x = cells k v l x d
  set_dep : ∀ k v l h d (x : Int), (cells k v l h d).setIfInBounds dep (.int .i64 x) = cells k v l h x
variable {κ α : Type} {S : Shape κ α}
/-- the tree lies in the world -/
def At (S : Shape κ α) (w : World) : T κ α → Prop
  | .nil => True
  | .node b k v l r => w.heap[b]? = some (.cells (S.cells k v (.pointer l.ptr) (.pointer r.ptr) ((1 + max l.ht r.ht : Nat) : Int)) S.ty (0, 0)) ∧ At S w l ∧ At S w r ∧ b ∉ l.blocks ∧ b ∉ r.blocks ∧ ∀ x ∈ l.blocks, x ∉ r.blocks
/-- a node whose depth may be out of date -/
def Nd (S : Shape κ α) (w : World) (b : Nat) (k : κ) (v : α) (l r : T κ α) : Prop :=
  (∃ d, w.heap[b]? = some (.cells (S.cells k v (.pointer l.ptr) (.pointer r.ptr) d) S.ty (0, 0))) ∧ At S w l ∧ At S w r ∧ b ∉ l.blocks ∧ b ∉ r.blocks ∧ ∀ x ∈ l.blocks, x ∉ r.blocks
theorem At.nd {w : World} {b : Nat} {k : κ} {v : α} {l r : T κ α} (h : At S w (.node b k v l r)) : Nd S w b k v l r := ⟨⟨_, h.1⟩, h.2⟩
theorem At.frame {w w' : World} : ∀ {t : T κ α}, At S w t → (∀ b ∈ t.blocks, w'.heap[b]? = w.heap[b]?) → At S w' t
  | .nil, _, _ => trivial
  | .node b k v l r, ⟨h1, h2, h3, h4⟩, hs =>
    ⟨(hs b (by simp [T.blocks])).trans h1, At.frame h2 fun x hx => hs x (by simp [T.blocks, hx]), At.frame h3 fun x hx => hs x (by simp [T.blocks, hx]), h4⟩
theorem lt_of_heap {w : World} {b : Nat} {o : Obj} (h : w.heap[b]? = some o) : b < w.heap.size := (Array.getElem?_eq_some_iff.1 h).1
theorem At.lt {w : World} : ∀ {t : T κ α}, At S w t → ∀ b ∈ t.blocks, b < w.heap.size
  | .nil, _, b, hb => by simp [T.blocks] at hb
  | .node b k v l r, ⟨h1, h2, h3, _⟩, x, hx => by
    simp only [T.blocks, List.mem_cons, List.mem_append] at hx
    rcases hx with rfl | hx | hx
    · exact lt_of_heap h1
    · exact At.lt h2 x hx
    · exact At.lt h3 x hx
theorem At.keeps {F : Nat → Prop} {w w' : World} {t : T κ α} (h : At S w t) (hk : Keeps F w w') (hd : ∀ b ∈ t.blocks, ¬ F b) : At S w' t :=
  h.frame fun b hb => hk.same b (h.lt b hb) (hd b hb)
theorem At.ext {w w' : World} {t : T κ α} (h : At S w t) (hk : Ext w w') : At S w' t := h.keeps hk fun _ _ hf => hf
theorem At.heap {w w' : World} {t : T κ α} (h : At S w t) (hh : w'.heap = w.heap) : At S w' t := h.frame fun b _ => by rw [hh]
theorem Nd.heap {w w' : World} {b : Nat} {k : κ} {v : α} {l r : T κ α} (h : Nd S w b k v l r) (hh : w'.heap = w.heap) : Nd S w' b k v l r := by
  obtain ⟨⟨d, h1⟩, h2, h3, h4⟩ := h
  exact ⟨⟨d, by rw [hh]; exact h1⟩, h2.heap hh, h3.heap hh, h4⟩
/-- only these blocks have changed, none is new -/
structure Only (bs : List Nat) (w w' : World) : Prop where
  size : w'.heap.size = w.heap.size
  same : ∀ x, x ∉ bs → w'.heap[x]? = w.heap[x]?
  ost : Ost w w'
theorem Only.refl (bs : List Nat) (w : World) : Only bs w w := ⟨rfl, fun _ _ => rfl, rfl, rfl⟩
theorem Only.drew (w : World) : Only [] w w.drew := ⟨rfl, fun _ _ => rfl, rfl, rfl⟩
/-- the same heap, and nothing asked outside -/
structure Like (w w' : World) : Prop where
  heap : w'.heap = w.heap
  ost : Ost w w'
theorem Like.refl (w : World) : Like w w := ⟨rfl, rfl, rfl⟩
theorem Like.trans {a b c : World} (h : Like a b) (k : Like b c) : Like a c := ⟨k.heap.trans h.heap, h.ost.trans k.ost⟩
theorem Like.drew {a b : World} (h : Like a b) : Like a b.drew := ⟨h.heap, h.ost⟩
theorem Only.of_heap {w w' : World} (bs : List Nat) (h : Like w w') : Only bs w w' := ⟨by rw [h.heap], fun _ _ => by rw [h.heap], h.ost⟩
theorem Only.trans {bs : List Nat} {a b c : World} (h : Only bs a b) (k : Only bs b c) : Only bs a c := ⟨k.size.trans h.size, fun x hx => (k.same x hx).trans (h.same x hx), h.ost.trans k.ost⟩
theorem Only.mono {bs cs : List Nat} {a b : World} (h : Only bs a b) (hs : ∀ x ∈ bs, x ∈ cs) : Only cs a b := ⟨h.size, fun x hx => h.same x fun hb => hx (hs x hb), h.ost⟩
theorem Only.setCell {bs : List Nat} {a b : World} (h : Only bs a b) {p : Addr} (hp : p.block ∈ bs) (v : Value) : Only bs a (b.setCell p v) :=
  ⟨by simpa using h.size, fun x hx => (RowKit.Below.heap_setCell b p v x (fun e => hx (e ▸ hp))).trans (h.same x hx), h.ost⟩
theorem Only.keeps {bs : List Nat} {a b : World} (h : Only bs a b) : Keeps (· ∈ bs) a b := ⟨Nat.le_of_eq h.size.symm, fun x _ hx => h.same x hx, h.ost⟩
theorem At.only {bs : List Nat} {w w' : World} {t : T κ α} (h : At S w t) (hk : Only bs w w') (hd : ∀ b ∈ t.blocks, b ∉ bs) : At S w' t := h.frame fun b hb => hk.same b (hd b hb)
/-! what the walk asks of a block that is known whole -/
theorem blk_cell {w : World} {b : Nat} {c : Array Value} {t : TypeId} {f : Nat × Nat} (h : w.heap[b]? = some (.cells c t f)) : ∀ i, w.cell? ⟨b, i, none⟩ = c[i]? := fun i => by simp [World.cell?, h]
theorem blk_free {w : World} {b : Nat} {c : Array Value} {t : TypeId} (h : w.heap[b]? = some (.cells c t (0, 0))) : ∀ i, w.frozen? ⟨b, i, none⟩ = false := fun i => by simp [World.frozen?, h]
theorem blk_shape {w : World} {b : Nat} {c : Array Value} {t : TypeId} {f : Nat × Nat} (h : w.heap[b]? = some (.cells c t f)) : w.shape? b = some (t, c.size) := by simp [World.shape?, h]
/-- a part of no size: its address is a plain one, where the next part lies at the same byte -/
theorem run_partAt {P : Program} {w : World} {b k n x m ty : Nat} (h : w.shape? b = some (ty, m)) (hs : (P.cellsOf ty == 0) = false) (h1 : byteOfCell P P.depth ty 0 = some x)
    (h2 : byteOfCell P P.depth ty (k % P.cellsOf ty) = some (x + n)) (hd : k / P.cellsOf ty = 0) : (partAt ⟨b, 0, none⟩ k n).run P w = .ok ⟨b, k, none⟩ w := by
  have hs' : P.cellsOf ty ≠ 0 := by simpa using hs
  have hi : (w.shape? b).isSome = true := by rw [h]; rfl
  simp only [partAt, byteOf, noView, viewAt]
  simp [hi, h, hs', h1, h2, hd, Result.andThen]
theorem heap_set {w : World} {b : Nat} {c : Array Value} {t : TypeId} {f : Nat × Nat} (h : w.heap[b]? = some (.cells c t f)) (i : Nat) (v : Value) : (w.setCell ⟨b, i, none⟩ v).heap[b]? = some (.cells (c.setIfInBounds i v) t f) := by
  simp only [World.setCell, Array.getElem?_modify, h, if_true, Option.map_some]
  simp
theorem heap_set_other (w : World) (b i x : Nat) (v : Value) (h : x ≠ b) : (w.setCell ⟨b, i, none⟩ v).heap[x]? = w.heap[x]? := RowKit.Below.heap_setCell w ⟨b, i, none⟩ v x h
theorem no_one {b x : Nat} {l : List Nat} (h : b ∉ l) (hx : x ∈ l) : x ∉ [b] := fun hm => h (by rw [List.mem_singleton] at hm; rw [← hm]; exact hx)
theorem At.nodup {w : World} : ∀ {t : T κ α}, At S w t → t.blocks.Nodup
  | .nil, _ => List.nodup_nil
  | .node b k v l r, ⟨_, h2, h3, h4, h5, h6⟩ => by
    simp only [T.blocks, List.nodup_cons, List.mem_append, not_or, List.nodup_append]
    exact ⟨⟨h4, h5⟩, At.nodup h2, At.nodup h3, fun x hx y hy e => h6 x hx (e ▸ hy)⟩
/-! ### steps of the tree's functions -/
theorem Nd.measured {w w1 : World} {b : Nat} {k : κ} {v : α} {l r : T κ α} (h : Nd S w b k v l r) (hh : Like w w1) {d' : Int} (e : d' = ((1 + max l.ht r.ht : Nat) : Int)) :
    At S (w1.setCell ⟨b, S.dep, none⟩ (.int .i64 d')) (.node b k v l r) ∧ Only [b] w (w1.setCell ⟨b, S.dep, none⟩ (.int .i64 d')) := by
  have ho : Only [b] w (w1.setCell ⟨b, S.dep, none⟩ (.int .i64 d')) := (Only.of_heap _ hh).setCell (by simp) _
  obtain ⟨⟨d, h1⟩, h2, h3, h4, h5, h6⟩ := h
  refine ⟨⟨?_, h2.only ho fun _ hx => no_one h4 hx, h3.only ho fun _ hx => no_one h5 hx, h4, h5, h6⟩, ho⟩
  rw [heap_set (by rw [hh.heap]; exact h1), S.set_dep, e]
/-- the upper half's lower half is handed down -/
theorem Nd.turnedLow {w : World} {b b' : Nat} {k k' : κ} {v v' : α} {l l' r' : T κ α} (h : Nd S w b k v l (.node b' k' v' l' r')) {w' : World}
    (hw : w' = (w.setCell ⟨b, S.hi, none⟩ (.pointer l'.ptr)).setCell ⟨b', S.lo, none⟩ (.pointer (some ⟨b, 0, none⟩))) :
    Nd S w' b k v l l' ∧ Only [b, b'] w w' ∧ ∀ w2, At S w2 (.node b k v l l') → Only [b] w' w2 → Nd S w2 b' k' v' (.node b k v l l') r' := by
  obtain ⟨⟨d, h1⟩, h2, ⟨g1, g2, g3, g4, g5, g6⟩, h4, h5, h6⟩ := h
  have hne : b' ≠ b := fun e => h5 (by simp [T.blocks, e])
  have hbl' : b ∉ l'.blocks := fun hx => h5 (by simp [T.blocks, hx])
  have hbr' : b ∉ r'.blocks := fun hx => h5 (by simp [T.blocks, hx])
  have hb'l : b' ∉ l.blocks := fun hx => h6 _ hx (by simp [T.blocks])
  have ho : Only [b, b'] w w' := by rw [hw]; exact ((Only.refl _ w).setCell (by simp) _).setCell (by simp) _
  have n2 : ∀ {t : T κ α}, b ∉ t.blocks → b' ∉ t.blocks → ∀ x ∈ t.blocks, x ∉ [b, b'] := fun a c x hx hm => by
    simp only [List.mem_cons, List.not_mem_nil, or_false] at hm
    rcases hm with rfl | rfl
    · exact a hx
    · exact c hx
  refine ⟨⟨⟨d, ?_⟩, h2.only ho (n2 h4 hb'l), g2.only ho (n2 hbl' g4), h4, hbl', fun x hx hy => h6 x hx (by simp [T.blocks, hy])⟩, ho, fun w2 ha ho2 => ?_⟩
  · rw [hw, heap_set_other _ _ _ _ _ (Ne.symm hne), heap_set h1, S.set_hi]
  · have e1 : w'.heap[b']? = some (.cells (S.cells k' v' (.pointer (some ⟨b, 0, none⟩)) (.pointer r'.ptr) ((1 + max l'.ht r'.ht : Nat) : Int)) S.ty (0, 0)) := by
      rw [hw, heap_set (by rw [heap_set_other _ _ _ _ _ hne]; exact g1), S.set_lo]
    refine ⟨⟨_, ((ho2.same b' (by simpa using hne)).trans e1)⟩, ha, (g3.only ho (n2 hbr' g5)).only ho2 (fun _ hx => no_one hbr' hx), ?_, g5, fun x hx => ?_⟩
    · simp only [T.blocks, List.mem_cons, List.mem_append, not_or]; exact ⟨hne, hb'l, g4⟩
    · simp only [T.blocks, List.mem_cons, List.mem_append] at hx
      rcases hx with rfl | hx | hx
      · exact hbr'
      · exact fun hy => h6 x hx (by simp [T.blocks, hy])
      · exact g6 x hx
theorem Nd.turnedHigh {w : World} {b b' : Nat} {k k' : κ} {v v' : α} {r l' r' : T κ α} (h : Nd S w b k v (.node b' k' v' l' r') r) {w' : World}
    (hw : w' = (w.setCell ⟨b, S.lo, none⟩ (.pointer r'.ptr)).setCell ⟨b', S.hi, none⟩ (.pointer (some ⟨b, 0, none⟩))) :
    Nd S w' b k v r' r ∧ Only [b, b'] w w' ∧ ∀ w2, At S w2 (.node b k v r' r) → Only [b] w' w2 → Nd S w2 b' k' v' l' (.node b k v r' r) := by
  obtain ⟨⟨d, h1⟩, ⟨g1, g2, g3, g4, g5, g6⟩, h2, h5, h4, h6⟩ := h
  have hne : b' ≠ b := fun e => h5 (by simp [T.blocks, e])
  have hbl' : b ∉ l'.blocks := fun hx => h5 (by simp [T.blocks, hx])
  have hbr' : b ∉ r'.blocks := fun hx => h5 (by simp [T.blocks, hx])
  have hb'r : b' ∉ r.blocks := fun hx => h6 b' (by simp [T.blocks]) hx
  have ho : Only [b, b'] w w' := by rw [hw]; exact ((Only.refl _ w).setCell (by simp) _).setCell (by simp) _
  have n2 : ∀ {t : T κ α}, b ∉ t.blocks → b' ∉ t.blocks → ∀ x ∈ t.blocks, x ∉ [b, b'] := fun a c x hx hm => by
    simp only [List.mem_cons, List.not_mem_nil, or_false] at hm
    rcases hm with rfl | rfl
    · exact a hx
    · exact c hx
  refine ⟨⟨⟨d, ?_⟩, g3.only ho (n2 hbr' g5), h2.only ho (n2 h4 hb'r), hbr', h4, fun x hx hy => h6 x (by simp [T.blocks, hx]) hy⟩, ho, fun w2 ha ho2 => ?_⟩
  · rw [hw, heap_set_other _ _ _ _ _ (Ne.symm hne), heap_set h1, S.set_lo]
  · have e1 : w'.heap[b']? = some (.cells (S.cells k' v' (.pointer l'.ptr) (.pointer (some ⟨b, 0, none⟩)) ((1 + max l'.ht r'.ht : Nat) : Int)) S.ty (0, 0)) := by
      rw [hw, heap_set (by rw [heap_set_other _ _ _ _ _ hne]; exact g1), S.set_hi]
    refine ⟨⟨_, ((ho2.same b' (by simpa using hne)).trans e1)⟩, (g2.only ho (n2 hbl' g4)).only ho2 (fun _ hx => no_one hbl' hx), ha, g4, ?_, fun x hx hy => ?_⟩
    · simp only [T.blocks, List.mem_cons, List.mem_append, not_or]; exact ⟨hne, g5, hb'r⟩
    · simp only [T.blocks, List.mem_cons, List.mem_append] at hy
      rcases hy with rfl | hy | hy
      · exact hbl' hx
      · exact g6 x hx hy
      · exact h6 x (by simp [T.blocks, hx]) hy
/-- another half is hung in -/
theorem Nd.low {w w1 : World} {b : Nat} {k : κ} {v : α} {l l' r : T κ α} (h : Nd S w b k v l r) {F : Nat → Prop} (hk : Keeps F w w1) (hF : ∀ x, F x → x ∈ l.blocks) (ha : At S w1 l') (hb : ∀ x ∈ l'.blocks, x ∈ l.blocks ∨ w.heap.size ≤ x) :
    Nd S (w1.setCell ⟨b, S.lo, none⟩ (.pointer l'.ptr)) b k v l' r := by
  obtain ⟨⟨d, h1⟩, h2, h3, h4, h5, h6⟩ := h
  have hlt := lt_of_heap h1
  have hbl' : b ∉ l'.blocks := fun hx => (hb b hx).elim h4 (by omega)
  have ho : Only [b] w1 (w1.setCell ⟨b, S.lo, none⟩ (.pointer l'.ptr)) := (Only.refl _ _).setCell (by simp) _
  refine ⟨⟨d, ?_⟩, ha.only ho fun _ hx => no_one hbl' hx, (h3.keeps hk fun x hx hf => h6 x (hF x hf) hx).only ho fun _ hx => no_one h5 hx, hbl', h5, fun x hx hy => ?_⟩
  · rw [heap_set ((hk.same b hlt fun hf => h4 (hF b hf)).trans h1), S.set_lo]
  · rcases hb x hx with g | g
    · exact h6 x g hy
    · have := h3.lt x hy; omega
theorem Nd.high {w w1 : World} {b : Nat} {k : κ} {v : α} {l r r' : T κ α} (h : Nd S w b k v l r) {F : Nat → Prop} (hk : Keeps F w w1) (hF : ∀ x, F x → x ∈ r.blocks) (ha : At S w1 r') (hb : ∀ x ∈ r'.blocks, x ∈ r.blocks ∨ w.heap.size ≤ x) :
    Nd S (w1.setCell ⟨b, S.hi, none⟩ (.pointer r'.ptr)) b k v l r' := by
  obtain ⟨⟨d, h1⟩, h2, h3, h4, h5, h6⟩ := h
  have hlt := lt_of_heap h1
  have hbr' : b ∉ r'.blocks := fun hx => (hb b hx).elim h5 (by omega)
  have ho : Only [b] w1 (w1.setCell ⟨b, S.hi, none⟩ (.pointer r'.ptr)) := (Only.refl _ _).setCell (by simp) _
  refine ⟨⟨d, ?_⟩, (h2.keeps hk fun x hx hf => h6 x hx (hF x hf)).only ho fun _ hx => no_one h4 hx, ha.only ho fun _ hx => no_one hbr' hx, h4, hbr', fun x hx hy => ?_⟩
  · rw [heap_set ((hk.same b hlt fun hf => h5 (hF b hf)).trans h1), S.set_hi]
  · rcases hb x hy with g | g
    · exact h6 x hx g
    · have := h2.lt x hx; omega
/-- a node that was taken out takes the place of another: its halves are set -/
theorem Nd.took {w : World} {d : Nat} {k : κ} {v : α} {lc rc : Value} {dd : Int} {l r : T κ α} (h1 : w.heap[d]? = some (.cells (S.cells k v lc rc dd) S.ty (0, 0))) (h2 : At S w l) (h3 : At S w r)
    (h4 : d ∉ l.blocks) (h5 : d ∉ r.blocks) (h6 : ∀ x ∈ l.blocks, x ∉ r.blocks) {w' : World} (hw : w' = (w.setCell ⟨d, S.lo, none⟩ (.pointer l.ptr)).setCell ⟨d, S.hi, none⟩ (.pointer r.ptr)) : Nd S w' d k v l r ∧ Only [d] w w' := by
  have ho : Only [d] w w' := by rw [hw]; exact ((Only.refl _ w).setCell (by simp) _).setCell (by simp) _
  refine ⟨⟨⟨dd, ?_⟩, h2.only ho fun _ hx => no_one h4 hx, h3.only ho fun _ hx => no_one h5 hx, h4, h5, h6⟩, ho⟩
  rw [hw, heap_set (heap_set h1 _ _), S.set_lo, S.set_hi]
/-! ### a map: two cells of a block: the root, how many -/
/-- the block of a map whose tree has become t -/
def mapCells (c : Array Value) (o : Nat) (t : T κ α) : Array Value := (c.setIfInBounds o (.pointer t.ptr)).setIfInBounds (o + 1) (.int .i64 t.size)
/-- the map at b, o of a block c lies in the world: its tree is t -/
structure MapAt (S : Shape κ α) (w : World) (b o : Nat) (c : Array Value) (ty : TypeId) (t : T κ α) : Prop where
  blk : w.heap[b]? = some (.cells c ty (0, 0))
  root : c[o]? = some (.pointer t.ptr)
  many : c[o + 1]? = some (.int .i64 t.size)
  tree : At S w t
  own : b ∉ t.blocks
theorem set_same {c : Array Value} {i : Nat} {v : Value} (h : c[i]? = some v) : c.setIfInBounds i v = c := by
  refine Array.ext_getElem? fun j => ?_
  by_cases e : i = j
  · subst e
    rw [Array.getElem?_setIfInBounds_self_of_lt (Array.getElem?_eq_some_iff.1 h).1, h]
  · rw [Array.getElem?_setIfInBounds_ne e]
theorem mapCells_get {c : Array Value} {o i : Nat} {t : T κ α} (h1 : i ≠ o) (h2 : i ≠ o + 1) : (mapCells c o t)[i]? = c[i]? := by
  unfold mapCells
  rw [Array.getElem?_setIfInBounds_ne (Ne.symm h2), Array.getElem?_setIfInBounds_ne (Ne.symm h1)]
theorem mapCells_size (c : Array Value) (o : Nat) (t : T κ α) : (mapCells c o t).size = c.size := by unfold mapCells; rw [Array.size_setIfInBounds, Array.size_setIfInBounds]
theorem mapCells_root {c : Array Value} {o : Nat} {t : T κ α} {v : Value} (h : c[o]? = some v) : (mapCells c o t)[o]? = some (.pointer t.ptr) := by
  unfold mapCells
  rw [Array.getElem?_setIfInBounds_ne (by omega), Array.getElem?_setIfInBounds_self_of_lt (Array.getElem?_eq_some_iff.1 h).1]
theorem mapCells_many {c : Array Value} {o : Nat} {t : T κ α} {v : Value} (h : c[o + 1]? = some v) : (mapCells c o t)[o + 1]? = some (.int .i64 t.size) := by
  unfold mapCells
  rw [Array.getElem?_setIfInBounds_self_of_lt (by simpa using (Array.getElem?_eq_some_iff.1 h).1)]
theorem MapAt.keeps {F : Nat → Prop} {w w' : World} {b o : Nat} {c : Array Value} {ty : TypeId} {t : T κ α} (h : MapAt S w b o c ty t) (hk : Keeps F w w') (hb : ¬ F b) (hd : ∀ x ∈ t.blocks, ¬ F x) : MapAt S w' b o c ty t :=
  ⟨(hk.same b (lt_of_heap h.blk) hb).trans h.blk, h.root, h.many, h.tree.keeps hk hd, h.own⟩
theorem MapAt.ext {w w' : World} {b o : Nat} {c : Array Value} {ty : TypeId} {t : T κ α} (h : MapAt S w b o c ty t) (hk : Ext w w') : MapAt S w' b o c ty t := h.keeps hk (fun hf => hf) fun _ _ hf => hf
theorem MapAt.cellR {w : World} {b o : Nat} {c : Array Value} {ty : TypeId} {t : T κ α} (h : MapAt S w b o c ty t) : w.cell? ⟨b, o, none⟩ = some (.pointer t.ptr) := by rw [blk_cell h.blk]; exact h.root
theorem MapAt.cellM {w : World} {b o : Nat} {c : Array Value} {ty : TypeId} {t : T κ α} (h : MapAt S w b o c ty t) : w.cell? ⟨b, o + 1, none⟩ = some (.int .i64 t.size) := by rw [blk_cell h.blk]; exact h.many
/-- the map behind a change of its tree -/
theorem MapAt.set {w w1 w' : World} {b o : Nat} {c : Array Value} {ty : TypeId} {t t' : T κ α} (h : MapAt S w b o c ty t) (hb1 : w1.heap[b]? = w.heap[b]?) (ha : At S w1 t') (hn : b ∉ t'.blocks)
    (hw : w' = (w1.setCell ⟨b, o, none⟩ (.pointer t'.ptr)).setCell ⟨b, o + 1, none⟩ (.int .i64 t'.size) ∨ (w' = w1.setCell ⟨b, o, none⟩ (.pointer t'.ptr) ∧ t'.size = t.size)) :
    MapAt S w' b o (mapCells c o t') ty t' ∧ Only [b] w1 w' := by
  have e1 : w1.heap[b]? = some (.cells c ty (0, 0)) := hb1.trans h.blk
  have e2 := heap_set e1 o (.pointer t'.ptr)
  have hblk : w'.heap[b]? = some (.cells (mapCells c o t') ty (0, 0)) ∧ Only [b] w1 w' := by
    rcases hw with rfl | ⟨rfl, hs⟩
    · exact ⟨heap_set e2 _ _, ((Only.refl _ _).setCell (by simp) _).setCell (by simp) _⟩
    · refine ⟨?_, (Only.refl _ _).setCell (by simp) _⟩
      rw [e2]
      have : (c.setIfInBounds o (.pointer t'.ptr)).setIfInBounds (o + 1) (.int .i64 t'.size) = c.setIfInBounds o (.pointer t'.ptr) := set_same (by rw [Array.getElem?_setIfInBounds_ne (by omega), hs]; exact h.many)
      unfold mapCells
      rw [this]
  exact ⟨⟨hblk.1, mapCells_root h.root, mapCells_many h.many, ha.only hblk.2 fun _ hx => no_one hn hx, hn⟩, hblk.2⟩
theorem MapAt.set2 {w w1 : World} {b o : Nat} {c : Array Value} {ty : TypeId} {t t' : T κ α} (h : MapAt S w b o c ty t) (hb1 : w1.heap[b]? = w.heap[b]?) (ha : At S w1 t') (hn : b ∉ t'.blocks) (n : Int) (e : n = t'.size) :
    MapAt S ((w1.setCell ⟨b, o, none⟩ (.pointer t'.ptr)).setCell ⟨b, o + 1, none⟩ (.int .i64 n)) b o (mapCells c o t') ty t' ∧ Only [b] w1 ((w1.setCell ⟨b, o, none⟩ (.pointer t'.ptr)).setCell ⟨b, o + 1, none⟩ (.int .i64 n)) := by
  rw [e]; exact h.set hb1 ha hn (.inl rfl)
theorem MapAt.set1 {w w1 : World} {b o : Nat} {c : Array Value} {ty : TypeId} {t t' : T κ α} (h : MapAt S w b o c ty t) (hb1 : w1.heap[b]? = w.heap[b]?) (ha : At S w1 t') (hn : b ∉ t'.blocks) (e : t'.size = t.size) :
    MapAt S (w1.setCell ⟨b, o, none⟩ (.pointer t'.ptr)) b o (mapCells c o t') ty t' ∧ Only [b] w1 (w1.setCell ⟨b, o, none⟩ (.pointer t'.ptr)) := h.set hb1 ha hn (.inr ⟨rfl, e⟩)
theorem heap_drew (w : World) (x : Nat) : w.drew.heap[x]? = w.heap[x]? := rfl
end Go.Vc
