/- Parts of the proof, one behind the other: EntG, Range2, EntT, EGiven. No condition beyond each theorem's own. -/
import Derived.Scope
import Derived.WalkMore
import Derived.Test.YtdonmmjikcbihaaGreatDoorGAF
/- The traces of an entry (plain): what the map holds from the entry's first key on. -/
namespace Go.Proofs.YtdonmmjikcbihaaGreatDoor
open Go.Vc
theorem nul_inj : ∀ (s t x y : List UInt8), (∀ c ∈ s, c ≠ 0) → (∀ c ∈ t, c ≠ 0) → s ++ 0 :: x = t ++ 0 :: y → s = t ∧ x = y
  | [], [], x, y, _, _, h => by injection h with _ h; exact ⟨rfl, h⟩
  | [], b :: t, x, y, _, h2, h => by injection h with h _; exact absurd h.symm (h2 b (List.mem_cons_self ..))
  | a :: s, [], x, y, h1, _, h => by injection h with h _; exact absurd h (h1 a (List.mem_cons_self ..))
  | a :: s, b :: t, x, y, h1, h2, h => by
    injection h with h h'
    obtain ⟨e1, e2⟩ := nul_inj s t x y (fun c hc => h1 c (List.mem_cons_of_mem _ hc)) (fun c hc => h2 c (List.mem_cons_of_mem _ hc)) h'
    exact ⟨by rw [h, e1], e2⟩
theorem efirst_toList (s o : ByteArray) : (efirst s o).toList = s.toList ++ 0 :: (o.toList ++ 0 :: []) := by
  have hn : nul.toList = [0] := by rw [toList_data]; rfl
  simp only [efirst, app_toList, hn, List.append_assoc, List.cons_append, List.nil_append]
theorem count_nz {l : List UInt8} (h : ∀ c ∈ l, c ≠ 0) : l.count 0 = 0 := List.count_eq_zero.2 fun h0 => h 0 h0 rfl
theorem nz_count {l : List UInt8} (h : l.count 0 = 0) : ∀ c ∈ l, c ≠ 0 := fun c hc e => by rw [e] at hc; exact List.count_eq_zero.1 h hc
/-- the first key of names without NUL is the first key of no other names -/
theorem first_nz {q1 q2 s o : ByteArray} (h1 : ∀ c ∈ q1.toList, c ≠ 0) (h2 : ∀ c ∈ q2.toList, c ≠ 0) (h : efirst q1 q2 = efirst s o) : q1 = s ∧ q2 = o := by
  have hl : (efirst q1 q2).toList = (efirst s o).toList := by rw [h]
  rw [efirst_toList, efirst_toList] at hl
  have hc := congrArg (List.count 0) hl
  simp only [List.count_append, List.count_cons, List.count_nil, count_nz h1, count_nz h2] at hc
  have hs : s.toList.count 0 = 0 := by simp at hc; omega
  have ho : o.toList.count 0 = 0 := by simp at hc; omega
  obtain ⟨e1, e2⟩ := nul_inj _ _ _ _ h1 (nz_count hs) hl
  obtain ⟨e3, _⟩ := nul_inj _ _ _ _ h2 (nz_count ho) e2
  exact ⟨bytes_ext e1, bytes_ext e3⟩
/-- the keys from an entry's first on -/
def fromQ (qs : List (ByteArray × ByteArray × Int)) (s o : ByteArray) : List (ByteArray × ByteArray × Int) := qs.filter fun q => cmpS (tkey q) (efirst s o) != .lt
def isQ (s o : ByteArray) (q : ByteArray × ByteArray × Int) : Bool := (efirst q.1 q.2.1).toList == (efirst s o).toList
def giveQ (qs : List (ByteArray × ByteArray × Int)) (s o : ByteArray) : List Int := ((fromQ qs s o).takeWhile (isQ s o)).map (·.2.2)
theorem isQ_iff {s o : ByteArray} {q : ByteArray × ByteArray × Int} (hq : Goodk q) : isQ s o q = true ↔ q.1 = s ∧ q.2.1 = o := by
  unfold isQ
  rw [beq_iff_eq]
  constructor
  · intro h; exact first_nz (named_nz hq.1) (named_nz hq.2.1) (bytes_ext h)
  · rintro ⟨rfl, rfl⟩; rfl
theorem mem_takeWhile {α : Type} (p : α → Bool) : ∀ (l : List α) (x : α), x ∈ l.takeWhile p → x ∈ l ∧ p x = true
  | y :: l, x, h => by
    rw [List.takeWhile_cons] at h
    cases hp : p y <;> rw [hp] at h
    · exact absurd h (by simp)
    · simp only [if_true] at h
      rw [List.mem_cons] at h
      rcases h with rfl | h
      · exact ⟨List.mem_cons_self .., hp⟩
      · have := mem_takeWhile p l x h
        exact ⟨List.mem_cons_of_mem _ this.1, this.2⟩
theorem takeWhile_mem {α : Type} {R : α → α → Prop} (p : α → Bool) (x : α) : ∀ l : List α, l.Pairwise R → x ∈ l → p x = true → (∀ y ∈ l, R y x → p y = true) → x ∈ l.takeWhile p
  | y :: l, hp, hx, hpx, hy => by
    rw [List.takeWhile_cons]
    rw [List.mem_cons] at hx
    rcases hx with rfl | hx
    · rw [hpx]; exact List.mem_cons_self ..
    · rw [hy y (List.mem_cons_self ..) ((List.pairwise_cons.1 hp).1 x hx)]
      exact List.mem_cons_of_mem _ (takeWhile_mem p x l (List.pairwise_cons.1 hp).2 hx hpx fun z hz => hy z (List.mem_cons_of_mem _ hz))
theorem up_one {l m : List Int} (hl : l.Pairwise (· < ·)) (hm : m.Pairwise (· < ·)) (h : ∀ t, t ∈ l ↔ t ∈ m) : l = m := by
  induction l generalizing m with
  | nil =>
    cases m with
    | nil => rfl
    | cons y m => exact absurd ((h y).2 (List.mem_cons_self ..)) (by simp)
  | cons x l ih =>
    cases m with
    | nil => exact absurd ((h x).1 (List.mem_cons_self ..)) (by simp)
    | cons y m =>
      have hx := (h x).1 (List.mem_cons_self ..)
      have hy := (h y).2 (List.mem_cons_self ..)
      rw [List.pairwise_cons] at hl hm
      have hxy : x = y := by
        rw [List.mem_cons] at hx hy
        rcases hx with hx | hx
        · exact hx
        · rcases hy with hy | hy
          · exact hy.symm
          · have := hl.1 y hy; have := hm.1 x hx; omega
      subst hxy
      rw [ih hl.2 hm.2 fun t => ?_]
      constructor
      · intro ht
        have := (h t).1 (List.mem_cons_of_mem _ ht)
        rw [List.mem_cons] at this
        rcases this with rfl | this
        · exact absurd (hl.1 _ ht) (Int.lt_irrefl _)
        · exact this
      · intro ht
        have := (h t).2 (List.mem_cons_of_mem _ ht)
        rw [List.mem_cons] at this
        rcases this with rfl | this
        · exact absurd (hm.1 _ ht) (Int.lt_irrefl _)
        · exact this
theorem from_lt {s o : ByteArray} {q : ByteArray × ByteArray × Int} (hq : Goodk q) (hs : ∀ c ∈ s.toList, c ≠ 0) (ho : ∀ c ∈ o.toList, c ≠ 0) : (cmpS (tkey q) (efirst s o) != .lt) = true ↔ ¬ (sless q.1 s ∨ q.1 = s ∧ sless q.2.1 o) := by
  have hlt : cmpS (tkey q) (efirst s o) = .lt ↔ (sless q.1 s ∨ q.1 = s ∧ sless q.2.1 o) := by
    rw [cmpS_is_lt, tkey_toList, efirst_toList, less_nul _ _ _ _ (named_nz hq.1) hs, less_nul _ _ _ _ (named_nz hq.2.1) ho]
    have h0 : ∀ l : List UInt8, Op.bytesLess l [] = false := fun l => by cases l <;> rfl
    have he : ∀ a b : ByteArray, a.toList = b.toList ↔ a = b := fun a b => ⟨bytes_ext, fun h => by rw [h]⟩
    simp only [Bool.or_eq_true, Bool.and_eq_true, decide_eq_true_eq, h0, he, Bool.false_eq_true, and_false, or_false]
    rfl
  rw [bne_iff_ne, Ne, hlt]
/-- what is given are the entry's traces, rising -/
theorem giveQ_tr {L : List Spn} {qs : List (ByteArray × ByteArray × Int)} (hup : qs.Pairwise tlt) (hg : ∀ q ∈ qs, Goodk q) (hm : ∀ q, q ∈ qs ↔ ∃ x ∈ L, trip x = q) (s o : ByteArray) : giveQ qs s o = trOf L s o := by
  refine up_one ?_ (trOf_up L s o) fun t => ?_
  · unfold giveQ
    rw [List.pairwise_map]
    have h1 : ((fromQ qs s o).takeWhile (isQ s o)).Pairwise tlt := ((hup.sublist List.filter_sublist)).sublist (List.takeWhile_sublist _)
    refine h1.imp_of_mem ?_
    intro a b ha hb hab
    have ha' := mem_takeWhile _ _ _ ha
    have hb' := mem_takeWhile _ _ _ hb
    have ga := hg a (List.mem_filter.1 ha'.1).1
    have gb := hg b (List.mem_filter.1 hb'.1).1
    have ea := (isQ_iff ga).1 ha'.2
    have eb := (isQ_iff gb).1 hb'.2
    rcases hab with h | h
    · rw [ea.1, ea.2, eb.1, eb.2] at h; exact absurd h (plt_irr s o)
    · exact h.2
  · rw [trOf_mem]
    have hmem : (∃ x ∈ L, x.sv = s ∧ x.op = o ∧ x.tr = t) ↔ (s, o, t) ∈ qs := by
      rw [hm]
      constructor
      · rintro ⟨x, hx, rfl, rfl, rfl⟩; exact ⟨x, hx, rfl⟩
      · rintro ⟨x, hx, h⟩
        simp only [trip, Prod.mk.injEq] at h
        exact ⟨x, hx, h⟩
    rw [hmem]
    unfold giveQ
    rw [List.mem_map]
    constructor
    · rintro ⟨q, hq, rfl⟩
      have h1 := mem_takeWhile _ _ _ hq
      have h2 := (List.mem_filter.1 h1.1).1
      have h3 := (isQ_iff (hg q h2)).1 h1.2
      rw [← h3.1, ← h3.2]; exact h2
    · intro h
      have hgq := hg _ h
      have hs := named_nz hgq.1
      have ho := named_nz hgq.2.1
      have hf : (s, o, t) ∈ fromQ qs s o := by
        refine List.mem_filter.2 ⟨h, ?_⟩
        rw [from_lt hgq hs ho]
        rintro (h | ⟨_, h⟩)
        · exact sless_irr _ h
        · exact sless_irr _ h
      refine ⟨(s, o, t), takeWhile_mem (R := tlt) _ _ _ (hup.sublist List.filter_sublist) hf ((isQ_iff hgq).2 ⟨rfl, rfl⟩) ?_, rfl⟩
      intro y hy hyt
      have h2 := List.mem_filter.1 hy
      have gy := hg y h2.1
      have h3 := (from_lt gy hs ho).1 h2.2
      rw [isQ_iff gy]
      rcases hyt with (h | h) | h
      · exact absurd (.inl h) h3
      · exact absurd (.inr h) h3
      · exact h.1
end Go.Proofs.YtdonmmjikcbihaaGreatDoor
/- Ranges over functions whose iterators have memory of their own: what a round may turn is told. -/
namespace Go.Vc
open Go.RowKit
attribute [local irreducible] Calls CallsIn Code.wp Code.wpIn
/-- A step that turns no cells but those of M, and lets M grow by new blocks alone. -/
structure Fr (M : World → Nat → Prop) (W W' : World) : Prop where
  size : W.heap.size ≤ W'.heap.size
  same : ∀ b o, W.heap[b]? = some o → o.isCells = true → ¬ M W b → W'.heap[b]? = some o
  grow : ∀ b, M W' b → M W b ∨ W.heap.size ≤ b
theorem Fr.trans {M : World → Nat → Prop} {X Y Z : World} (h : Fr M X Y) (k : Fr M Y Z) : Fr M X Z :=
  ⟨Nat.le_trans h.size k.size, fun b o hb ho hm => k.same b o (h.same b o hb ho hm) ho (fun hy => (h.grow b hy).elim hm (fun hs => absurd hs (Nat.not_le.2 (lt_of_heap hb)))),
    fun b hz => (k.grow b hz).elim (h.grow b) (fun hs => .inr (Nat.le_trans h.size hs))⟩
theorem Fr.of_bk {M : World → Nat → Prop} {B : Nat} {X Y : World} (h : Bk B X Y) (hM : ∀ b, M Y b → M X b) : Fr M X Y :=
  ⟨h.size, fun b o hb ho _ => h.same b o hb (.inr ho), fun b hb => .inl (hM b hb)⟩
theorem Fr.of_keeps {M : World → Nat → Prop} {F : Nat → Prop} {X Y : World} (h : Keeps F X Y) (hF : ∀ b, F b → M X b) (hM : ∀ b, M Y b → M X b ∨ X.heap.size ≤ b) : Fr M X Y :=
  ⟨h.size, fun b o hb _ hm => (h.same b (lt_of_heap hb) (fun hf => hm (hF b hf))).trans hb, hM⟩
/-- **The iterator 'function gf with the captured lb' gives xs**; it may keep memory of its own, which no round turns. -/
def Seq2 (P : Program) (gf : FuncId) (lb : Array Value) (xs : List (Array Value)) (Pre : World → Prop) : Prop :=
  ∀ (B l : Nat) (J X : Nat → World → Prop) (W : World), B ≤ W.heap.size → (∀ k W W', J k W → Bk B W W' → J k W') → (∀ k W W', X k W → Bk B W W' → X k W') → (∀ k W, J k W → Pre W) →
    ∀ M : World → Nat → Prop, (∀ k W W', J k W → Bk B W W' → ∀ b, M W' b → M W b) → (∀ k W W', X k W → Bk B W W' → ∀ b, M W' b → M W b) → (∀ k W b, J k W → M W b → b < W.heap.size) →
    (∀ k (hk : k < xs.length) W, J k W → Yd P l xs[k] W fun v W' => KeepsFrom B W W' ∧ Fr M W W' ∧ ((v = .bool true ∧ J (k + 1) W') ∨ (v = .bool false ∧ X (k + 1) W'))) →
    J 0 W → Calls P gf (#[.func (.yield l) #[] #[]] ++ lb) W fun e W' => (∃ v, e = .returned v) ∧ (J xs.length W' ∨ ∃ k, k ≤ xs.length ∧ X k W')
section
variable {P : Program}
theorem Seq.two {gf : FuncId} {lb : Array Value} {xs : List (Array Value)} {Pre : World → Prop} (h : Seq P gf lb xs Pre) : Seq2 P gf lb xs Pre :=
  fun B l J X W hB hJ hX hP _ _ _ _ hY h0 => h B l J X W hB hJ hX hP (fun k hk W hj => (hY k hk W hj).mono fun _ _ hv => ⟨hv.1, hv.2.2⟩) h0
/-- How the body of a round may be left. -/
def roundQ2 (M : World → Nat → Prop) (I : Nat → World → Prop) (Ix : Code → Nat → World → Prop) (B k : Nat) (W : World) : Exit → Act → World → Prop
  | .normal, _, W' => KeepsFrom B W W' ∧ Fr M W W' ∧ I k W'
  | .ret, _, W' => KeepsFrom B W W' ∧ Fr M W W' ∧ Ix .ret k W'
  | .exit id, _, W' => KeepsFrom B W W' ∧ Fr M W W' ∧ Ix (.exit id) k W'
  | .goto t, _, W' => KeepsFrom B W W' ∧ Fr M W W' ∧ Ix (.goto t) k W'
  | .panic _, _, _ => False
  | .outgrown, _, _ => False
def roundStart2 (P : Program) (B : Nat) (l : Nat) (assign body : Code) (R : World → Exit → Act → World → Prop) (a : Act) (W : World) : Prop :=
  assign.wpIn (Fence.wide.inRound l) 0 P (Exit.then (fun a₁ W₁ => Ext W W₁ ∧ ∀ W₂, Bk B W₁ W₂ → W₂.heap.size = W₁.heap.size → body.wpIn (Fence.wide.inRound l) 0 P (R W₂) a₁ W₂) (fun _ _ _ => False)) a W
theorem range_loop2 {g : Operand} {ps : Array Tmp} {assign body : Code} {Q : Exit → Act → World → Prop} {a : Act} {w : World} {gf : Nat} {lb : Array Value} {xs : List (Array Value)} {Pre : World → Prop}
    (hg : a.eval g = .func (.func gf) #[] lb) (eg : ∀ args w, (callFunc gf args).run P w = .ok (.enter gf args) w) (hps : ∀ x ∈ xs, x.size = ps.size) (hseq : Seq2 P gf lb xs Pre)
    (I : Nat → World → Prop) (Ix : Code → Nat → World → Prop) (hI : ∀ k W W', I k W → Bk w.heap.size W W' → I k W') (hIx : ∀ c k W W', Ix c k W → Bk w.heap.size W W' → Ix c k W')
    (hP : ∀ k W, I k W → Pre W) (M : World → Nat → Prop) (hM1 : ∀ k W W', I k W → Bk w.heap.size W W' → ∀ b, M W' b → M W b) (hM2 : ∀ k W b, I k W → M W b → b < W.heap.size)
    (hMx : ∀ c k W W', Ix c k W → Bk w.heap.size W W' → ∀ b, M W' b → M W b) (h0 : I 0 w)
    (hbody : ∀ l k (hk : k < xs.length) W, I k W → w.heap.size ≤ W.heap.size → roundStart2 P w.heap.size l assign body (roundQ2 M I Ix w.heap.size (k + 1)) { tmps := (ps.zip xs[k]).foldl (fun t (p, v) => t.setIfInBounds p v) a.tmps, defers := [] } W)
    (hdone : ∀ D W, w.heap.size ≤ D → I xs.length W → W.heap[D]? = some (.deferred (some [])) → Q .normal { a with defers := mark D :: a.defers } W)
    (hstop : ∀ D c k W, w.heap.size ≤ D → k ≤ xs.length → Ix c k W → W.heap[D]? = some (.deferred (some [])) → c.wpIn Fence.wide 0 P Q { a with defers := mark D :: a.defers } W) :
    (Code.rangeFunc g ps assign body).wpIn Fence.wide 0 P Q a w := by
  refine wpIn_rangeFunc ?_
  intro fn hfn
  obtain ⟨rec, hrec⟩ : ∃ rec : LoopState → Option Code → Loop, rec = fun st pe => { state := st, pending := pe, fn, tmps := a.tmps, params := ps, assign, body, defers := w.heap.size } := ⟨_, rfl⟩
  obtain ⟨W1, hW1⟩ : ∃ W1, (w.alloc (.deferred (some []))).alloc (.loop (rec .ready none)) = W1 := ⟨_, rfl⟩
  have hL1 : W1.heap[w.heap.size + 1]? = some (.loop (rec .ready none)) := by
    rw [← hW1]; have := World.alloc_heap_new (w.alloc (.deferred (some []))) (.loop (rec .ready none)); rwa [World.size_alloc] at this
  have hK1 : W1.heap[w.heap.size]? = some (.deferred (some [])) := by
    rw [← hW1]; exact (Below.heap_alloc _ _ _ (by simp)).trans (World.alloc_heap_new w _)
  have hE1 : Ext w W1 := by rw [← hW1]; exact ((Keeps.refl _ w).alloc _).alloc _
  have hs1 : W1.heap.size = w.heap.size + 2 := by rw [← hW1]; simp
  refine ⟨w.heap.size + 1, [mark w.heap.size], W1, { target := .fn (.func gf) lb, args := #[.func (.yield (w.heap.size + 1)) #[] #[]] }, W1, gf,
    #[.func (.yield (w.heap.size + 1)) #[] #[]] ++ lb, W1, ?_, ?_, fun f' _ => trivial, ?_, fun h => (by cases h), ?_⟩
  · rw [← hW1, hrec]; exact run_enterLoop_outer _ _ _ _ _
  · simp only [resolve, hg]
    simp [go_sem]
  · simp [invoke, go_sem, eg]
  · refine callsIn_wide.2 ((hseq W1.heap.size (w.heap.size + 1)
      (fun k W => I k W ∧ w.heap.size + 2 ≤ W.heap.size ∧ W.heap[w.heap.size + 1]? = some (.loop (rec .ready none)) ∧ W.heap[w.heap.size]? = some (.deferred (some [])))
      (fun k W => ∃ c, Ix c k W ∧ W.heap[w.heap.size + 1]? = some (.loop (rec .done (some c))) ∧ W.heap[w.heap.size]? = some (.deferred (some [])))
      W1 (Nat.le_refl _)
      (fun k W W' h hb => ⟨hI k W W' h.1 (hb.mono (by omega)), Nat.le_trans h.2.1 hb.size, hb.same _ _ h.2.2.1 (.inl (by omega)), hb.same _ _ h.2.2.2 (.inl (by omega))⟩)
      (fun k W W' h hb => by obtain ⟨c, hc, h1, h2⟩ := h; exact ⟨c, hIx c k W W' hc (hb.mono (by omega)), hb.same _ _ h1 (.inl (by omega)), hb.same _ _ h2 (.inl (by omega))⟩)
      (fun k W h => hP k W h.1) M (fun k W W' h hb b hm => hM1 k W W' h.1 (hb.mono (by omega)) b hm) (fun k W W' h hb b hm => by obtain ⟨c, hc, _⟩ := h; exact hMx c k W W' hc (hb.mono (by omega)) b hm) (fun k W b h hm => hM2 k W b h.1 hm)
      ?_ ⟨hI 0 w W1 h0 (Bk.of_ext hE1), by omega, hL1, hK1⟩).mono ?_)
    · -- one round
      rintro k hk W ⟨hi, hsz, hl, hkd⟩
      have hlt : w.heap.size + 1 < W.heap.size := by omega
      have hy := run_yield (P := P) (args := xs[k]) hl (by rw [hrec]; exact hps _ (List.getElem_mem hk))
      rw [hrec] at hy
      refine ⟨fn, _, assign, body, hy, roundIn_of_wpIn hfn ?_⟩
      refine Go.wpIn_mono (hbody (w.heap.size + 1) k hk W hi (by omega)) ?_
      rintro e a₁ W₁ hq
      cases e <;> try exact hq.elim
      obtain ⟨hex, hq⟩ := hq
      have hkf : KeepsFrom w.heap.size W W₁ := KeepsFrom.of_ext hex
      have hi1 := hI _ _ _ hi (Bk.of_ext (B := w.heap.size) hex)
      have hl1 := hkf.same _ _ (by omega) hl rfl
      have hkd1 := hkf.same _ _ (Nat.le_refl _) hkd rfl
      have hlt1 : w.heap.size + 1 < W₁.heap.size := lt_of_heap hl1
      have hl2 : (W₁.putObj (w.heap.size + 1) (.loop { rec .ready none with state := .busy })).heap[w.heap.size + 1]? = some (.loop { rec .ready none with state := .busy }) := World.putObj_heap_same hlt1
      have hk2 : (W₁.putObj (w.heap.size + 1) (.loop { rec .ready none with state := .busy })).heap[w.heap.size]? = some (.deferred (some [])) := (World.putObj_heap_other (by omega)).trans hkd1
      refine ⟨_, run_beginRound hl1 (by rw [hrec]), ?_⟩
      have hbk1 : Bk w.heap.size W₁ (W₁.putObj (w.heap.size + 1) (.loop { rec .ready none with state := .busy })) := Bk.putObj hl1 rfl (by omega)
      have hfr1 : Fr M W (W₁.putObj (w.heap.size + 1) (.loop { rec .ready none with state := .busy })) :=
        (Fr.of_bk (Bk.of_ext (B := w.heap.size) hex) (hM1 _ _ _ hi (Bk.of_ext (B := w.heap.size) hex))).trans (Fr.of_bk hbk1 (hM1 _ _ _ hi1 hbk1))
      refine Go.wpIn_mono (hq _ hbk1 (by simp)) ?_
      have fin : ∀ (jump : Option Code) (W3 : World), KeepsFrom w.heap.size (W₁.putObj (w.heap.size + 1) (.loop { rec .ready none with state := .busy })) W3 →
          (Instr.endRound (w.heap.size + 1) jump).run P W3 = .ok (.bool jump.isNone) (W3.putObj (w.heap.size + 1) (.loop (rec (if jump.isNone then .ready else .done) jump))) ∧
          Bk w.heap.size W3 (W3.putObj (w.heap.size + 1) (.loop (rec (if jump.isNone then .ready else .done) jump))) ∧
          KeepsFrom W1.heap.size W (W3.putObj (w.heap.size + 1) (.loop (rec (if jump.isNone then .ready else .done) jump))) ∧
          (W3.putObj (w.heap.size + 1) (.loop (rec (if jump.isNone then .ready else .done) jump))).heap[w.heap.size + 1]? = some (.loop (rec (if jump.isNone then .ready else .done) jump)) ∧
          (W3.putObj (w.heap.size + 1) (.loop (rec (if jump.isNone then .ready else .done) jump))).heap[w.heap.size]? = some (.deferred (some [])) := fun jump W3 hk3 => by
        have hl3 := hk3.same _ _ (by omega) hl2 rfl
        have := run_endRound (P := P) jump hl3
        rw [hrec] at this ⊢
        refine ⟨this, Bk.putObj hl3 (by rw [hrec]; rfl) (by omega), ⟨?_, fun b o hb hbo hco => ?_⟩, World.putObj_heap_same (lt_of_heap hl3), (World.putObj_heap_other (by omega)).trans (hk3.same _ _ (Nat.le_refl _) hk2 rfl)⟩
        · have h1 := hkf.size
          have h2 := hk3.size
          simp only [World.putObj_size] at h2 ⊢
          omega
        · rw [World.putObj_heap_other (by omega)]
          exact hk3.same b o (by omega) ((World.putObj_heap_other (by omega)).trans (hkf.same b o (by omega) hbo hco)) hco
      rintro e a3 W3 hp
      cases e with
      | normal =>
        obtain ⟨hk3, hf3, hi3⟩ := hp
        obtain ⟨hr, hbk, hkk, hl4, hk4⟩ := fin none W3 hk3
        have hz := hkk.size
        exact ⟨_, _, hr, _, rfl, hkk, (hfr1.trans hf3).trans (Fr.of_bk hbk (hM1 _ _ _ hi3 hbk)), .inl ⟨rfl, hI _ _ _ hi3 hbk, by omega, hl4, hk4⟩⟩
      | ret =>
        obtain ⟨hk3, hf3, hi3⟩ := hp
        obtain ⟨hr, hbk, hkk, hl4, hk4⟩ := fin (some .ret) W3 hk3
        exact ⟨_, _, hr, _, rfl, hkk, (hfr1.trans hf3).trans (Fr.of_bk hbk (hMx _ _ _ _ hi3 hbk)), .inr ⟨rfl, .ret, hIx _ _ _ _ hi3 hbk, hl4, hk4⟩⟩
      | exit id =>
        obtain ⟨hk3, hf3, hi3⟩ := hp
        obtain ⟨hr, hbk, hkk, hl4, hk4⟩ := fin (some (.exit id)) W3 hk3
        exact ⟨_, _, hr, _, rfl, hkk, (hfr1.trans hf3).trans (Fr.of_bk hbk (hMx _ _ _ _ hi3 hbk)), .inr ⟨rfl, .exit id, hIx _ _ _ _ hi3 hbk, hl4, hk4⟩⟩
      | goto t =>
        obtain ⟨hk3, hf3, hi3⟩ := hp
        obtain ⟨hr, hbk, hkk, hl4, hk4⟩ := fin (some (.goto t)) W3 hk3
        exact ⟨_, _, hr, _, rfl, hkk, (hfr1.trans hf3).trans (Fr.of_bk hbk (hMx _ _ _ _ hi3 hbk)), .inr ⟨rfl, .goto t, hIx _ _ _ _ hi3 hbk, hl4, hk4⟩⟩
      | panic ch => exact hp.elim
      | outgrown => exact hp.elim
    · -- behind the iterator
      rintro e W2 ⟨⟨v, rfl⟩, (⟨hi, hsz, hl, hk⟩ | ⟨k, hkl, c, hi, hl, hk⟩)⟩
      · exact ⟨none, _, by have := run_endLoop (P := P) hl (by rw [hrec]; simp); rw [hrec] at this; exact this, hdone _ _ (Nat.le_refl _) (hI _ _ _ hi (Bk.putObj hl rfl (by omega))) ((World.putObj_heap_other (by omega)).trans hk)⟩
      · exact ⟨some c, _, by have := run_endLoop (P := P) hl (by rw [hrec]; simp); rw [hrec] at this; exact this, hstop _ c k _ (Nat.le_refl _) hkl (hIx c _ _ _ hi (Bk.putObj hl rfl (by omega))) ((World.putObj_heap_other (by omega)).trans hk)⟩
end
end Go.Vc
/- Package entry: the traces of an entry, given one by one. -/
namespace Go.Proofs.YtdonmmjikcbihaaGreatDoor
open Go.RowKit Go.Proofs Go.Vc
attribute [local go_sem] Oper.semAt_some
attribute [local irreducible] Calls CallsIn Code.wp Code.wpIn
theorem etraces_i (w : World) (p : Option Addr) (s o : ByteArray) : Calls Tryz.prog 20 #[.pointer p, .string s, .string o] w fun e w' =>
    e = .returned (.func (.func 37) #[] #[.pointer (some ⟨w.heap.size + 1, 0, none⟩), .pointer (some ⟨w.heap.size + 2, 0, none⟩), .pointer (some ⟨w.heap.size, 0, none⟩)]) ∧
      w' = ((w.alloc (.cells #[.pointer p] 29)).alloc (.cells #[.string s] 9)).alloc (.cells #[.string o] 9) := by
  go_enter Tryz.func20, Tryz.ntmps20
  go_wp2_with fail
  go_ret
  exact ⟨rfl, rfl⟩
/-- what the iterator over an entry's traces asks of a world -/
def EPre (b B1 B2 B3 : Nat) (s o : ByteArray) (tr : T ByteArray Int) (W : World) : Prop :=
  W.cell? ⟨B1, 0, none⟩ = some (.string s) ∧ W.cell? ⟨B2, 0, none⟩ = some (.string o) ∧ W.cell? ⟨B3, 0, none⟩ = some (.pointer (some ⟨b, 0, none⟩)) ∧ W.cell? ⟨b, 0, none⟩ = some (.pointer tr.ptr) ∧ At Ssi W tr
set_option maxHeartbeats 4000000 in
set_option maxRecDepth 20000 in
theorem etseq (b B1 B2 B3 : Nat) (s o : ByteArray) (tr : T ByteArray Int) (m : List (ByteArray × Int)) (qs : List (ByteArray × ByteArray × Int)) (hri : Rises cmpS m) (htl : tr.toList = m) (hq : m.map (·.1) = qs.map tkey) (hg : ∀ q ∈ qs, Goodk q) (hso : s.size ≤ 1000 ∧ o.size ≤ 1000) :
    Seq2 Tryz.prog 37 #[.pointer (some ⟨B1, 0, none⟩), .pointer (some ⟨B2, 0, none⟩), .pointer (some ⟨B3, 0, none⟩)] ((giveQ qs s o).map fun t => #[.int .i64 t]) (EPre b B1 B2 B3 s o tr) := by
  intro B l J X W hB hJ hX hP M hM1 hMx hM2 hY h0
  obtain ⟨p1, p2, p3, p4, p5⟩ := hP 0 W h0
  show Calls _ _ #[.func (.yield l) #[] #[], .pointer (some ⟨B1, 0, none⟩), .pointer (some ⟨B2, 0, none⟩), .pointer (some ⟨B3, 0, none⟩)] _ _
  refine calls_of_marks Tryz.func37 rfl ?_
  simp only [Tryz.ntmps37, List.size_toArray, List.length_cons, List.length_nil, Nat.reduceAdd, Nat.reduceSub, Array.replicate_succ,
     Array.replicate_zero, List.push_toArray, List.append_toArray, List.nil_append, List.cons_append]
  have l1 := World.block_lt_of_cell? W ⟨B1, 0, none⟩ p1
  have l2 := World.block_lt_of_cell? W ⟨B2, 0, none⟩ p2
  have l3 := World.block_lt_of_cell? W ⟨B3, 0, none⟩ p3
  have HY := Lib.hid hY
  have HJ := Lib.hid (And.intro hB (And.intro hJ (And.intro hX (And.intro hP (And.intro hM1 (And.intro hMx (And.intro hM2 h0)))))))
  have HX := Lib.hid (And.intro hri (And.intro htl (And.intro hq hg)))
  clear hY hB hJ hX hP hM1 hMx hM2 h0 hri htl hq hg p4 p5
  gi_wp2_with fail
  refine wpIn_wide.2 (wp_scope_straight ((wpIn_wide (n := 0)).1 ?_))
  gi_wp2_with fail
  refine callsIn_wide.2 ((first_i s o hso.1 hso.2 _).mono ?_)
  rintro e9 W1 ⟨rfl, rfl⟩
  gi_wp2_with fail
  refine wpIn_label ?_
  simp only [Exit.then]
  gi_wp2_with fail
  refine callsIn_wide.2 ((efrom_i b _ _).mono ?_)
  rintro e9 W1 ⟨rfl, hw1⟩
  gi_wp2_with fail
  obtain ⟨n, hn⟩ : ∃ n, n = W.heap.size := ⟨_, rfl⟩
  obtain ⟨hE1, i0, i1, i2, i3, hs1⟩ := allocs4 W _ _ _ _ hw1
  rw [← hn] at i0 i1 i2 i3 hs1
  simp only [← hw1, ← hn]
  clear hw1
  obtain ⟨fs, hfs⟩ : ∃ fs, fs = fromQ qs s o := ⟨_, rfl⟩
  obtain ⟨ms, hms⟩ : ∃ ms, ms = sinceL cmpS (efirst s o) m := ⟨_, rfl⟩
  obtain ⟨K, hK⟩ : ∃ K, K = (fs.takeWhile (isQ s o)).length := ⟨_, rfl⟩
  have hkeys : ms.map (·.1) = fs.map tkey := by
    rw [hms, hfs]; unfold sinceL fromQ
    rw [show (fun x : ByteArray × Int => cmpS x.1 (efirst s o) != .lt) = (fun k : ByteArray => cmpS k (efirst s o) != .lt) ∘ (fun x : ByteArray × Int => x.1) from rfl, ← List.filter_map, HX.out.2.2.1, List.filter_map]
    rfl
  have hlen : ms.length = fs.length := by have := congrArg List.length hkeys; simpa using this
  have hKl : K ≤ fs.length := by rw [hK]; exact List.Sublist.length_le (List.takeWhile_sublist _)
  have hgl : (giveQ qs s o).length = K := by unfold giveQ; rw [List.length_map, ← hfs, hK]
  have hgk : ∀ k (h : k < (giveQ qs s o).length) (h' : k < fs.length), (giveQ qs s o)[k] = fs[k].2.2 ∧ isQ s o fs[k] = true := fun k h h' => by
    have h2 : k < (fs.takeWhile (isQ s o)).length := by rw [← hK, ← hgl]; exact h
    have h3 : (fs.takeWhile (isQ s o))[k] = fs[k] := by
      have := List.takeWhile_prefix (isQ s o) (l := fs)
      exact List.IsPrefix.getElem this h2
    refine ⟨?_, ?_⟩
    · simp only [giveQ, List.getElem_map, ← hfs, h3]
    · rw [← h3]; exact (mem_takeWhile _ _ _ (List.getElem_mem h2)).2
  have hKf : ∀ h : K < fs.length, isQ s o fs[K] = false := fun h => by
    cases hq : isQ s o fs[K]
    · rfl
    · exfalso
      have h1 : fs.takeWhile (isQ s o) = fs.take K := by
        have := List.takeWhile_prefix (isQ s o) (l := fs)
        rw [hK]; exact (List.prefix_iff_eq_take.1 this)
      have h2 := List.takeWhile_append_dropWhile (p := isQ s o) (l := fs)
      have h3 : fs.dropWhile (isQ s o) = fs.drop K := by
        have h4 := List.take_append_drop K fs
        rw [← h1] at h4
        exact List.append_cancel_left (h2.trans h4.symm)
      rw [List.drop_eq_getElem_cons h] at h3
      have h5 := List.head?_dropWhile_not (isQ s o) fs
      rw [h3] at h5
      simp only [List.head?_cons] at h5
      rw [hq] at h5; cases h5
  have hgf : ∀ q ∈ fs, Goodk q := fun q hq => HX.out.2.2.2 q (by rw [hfs] at hq; exact (List.mem_filter.1 hq).1)
  have hseq : Seq2 Tryz.prog 72 #[.pointer (some ⟨n + 2, 0, none⟩), .pointer (some ⟨n + 3, 0, none⟩)] (ms.map encsi)
      (fun W => W.cell? ⟨n + 2, 0, none⟩ = some (.pointer (some ⟨b, 0, none⟩)) ∧ W.cell? ⟨n + 3, 0, none⟩ = some (.string (efirst s o)) ∧ W.cell? ⟨b, 0, none⟩ = some (.pointer tr.ptr) ∧ At Ssi W tr) := by
    have t18 := seqfrom_si tr (efirst s o) (n + 2) (n + 3) b 0
    rw [T.since_toList order_S _ _ (by rw [HX.out.2.1]; exact HX.out.1), HX.out.2.1, ← hms] at t18
    exact t18.two
  have HG := Lib.hid (And.intro hgl (And.intro hgk (And.intro hKf (And.intro hKl (And.intro hgf (And.intro hlen hkeys))))))
  clear hgk hKf hgf hkeys hms hfs hK hgl
  refine range_loop2 (gf := 72) (lb := #[.pointer (some ⟨n + 2, 0, none⟩), .pointer (some ⟨n + 3, 0, none⟩)]) (xs := ms.map encsi) (by simp [Act.eval]) (enters_of Tryz.func72 (by kernel_rfl) rfl) (by intro x hx; simp [encsi] at hx; obtain ⟨_, _, _, rfl⟩ := hx; rfl) hseq
    (fun k W' => k ≤ K ∧ J k W' ∧ W'.heap[n]? = some (.cells #[.func (.yield l) #[] #[]] 78 (0, 0)) ∧ W'.heap[n + 1]? = some (.cells #[.string (efirst s o)] 9 (0, 0)) ∧ W'.heap[n + 2]? = some (.cells #[.pointer (some ⟨b, 0, none⟩)] 88 (0, 0)) ∧ W'.heap[n + 3]? = some (.cells #[.string (efirst s o)] 9 (0, 0)) ∧ ∀ i, n ≤ i → i < n + 4 → ¬ M W' i)
    (fun c k W' => c = .exit 0 ∧ (J K W' ∨ ∃ k, k ≤ K ∧ X k W')) ?_ ?_ ?_ M ?_ ?_ ?_ ?_ ?_ ?_ ?_
  · rintro k W2 W3 ⟨a0, a1, a2, a3, a4, a5, a6⟩ hbk
    have hbB : Bk B W2 W3 := hbk.mono (Nat.le_trans HJ.out.1 hE1.size)
    exact ⟨a0, HJ.out.2.1 k W2 W3 a1 hbB, hbk.same _ _ a2 (.inr rfl), hbk.same _ _ a3 (.inr rfl), hbk.same _ _ a4 (.inr rfl), hbk.same _ _ a5 (.inr rfl), fun i h1 h2 hm => a6 i h1 h2 (HJ.out.2.2.2.2.1 k W2 W3 a1 hbB i hm)⟩
  · rintro c k W2 W3 ⟨rfl, h⟩ hbk
    have hbB : Bk B W2 W3 := hbk.mono (Nat.le_trans HJ.out.1 hE1.size)
    refine ⟨rfl, h.imp (fun h => HJ.out.2.1 _ W2 W3 h hbB) ?_⟩
    rintro ⟨k', hk', h⟩
    exact ⟨k', hk', HJ.out.2.2.1 k' W2 W3 h hbB⟩
  · rintro k W2 ⟨a0, a1, a2, a3, a4, a5, a6⟩
    obtain ⟨q1, q2, q3, q4, q5⟩ := HJ.out.2.2.2.1 k W2 a1
    exact ⟨by rw [blk_cell a4]; rfl, by rw [blk_cell a5]; rfl, q4, q5⟩
  · rintro k W2 W3 ⟨a0, a1, _⟩ hbk i hm
    exact HJ.out.2.2.2.2.1 k W2 W3 a1 (hbk.mono (Nat.le_trans HJ.out.1 hE1.size)) i hm
  · rintro k W2 i ⟨a0, a1, _⟩ hm
    exact HJ.out.2.2.2.2.2.2.1 k W2 i a1 hm
  · rintro c k W2 W3 ⟨rfl, h⟩ hbk i hm
    have hbB : Bk B W2 W3 := hbk.mono (Nat.le_trans HJ.out.1 hE1.size)
    rcases h with h | ⟨k', hk', h⟩
    · exact HJ.out.2.2.2.2.1 _ W2 W3 h hbB i hm
    · exact HJ.out.2.2.2.2.2.1 _ W2 W3 h hbB i hm
  · have hbB : Bk B W W1 := Bk.of_ext hE1
    refine ⟨Nat.zero_le _, HJ.out.2.1 0 W W1 HJ.out.2.2.2.2.2.2.2 hbB, i0, i1, i2, i3, fun i h1 h2 hm => ?_⟩
    have h3 := HJ.out.2.2.2.2.2.2.1 0 W i HJ.out.2.2.2.2.2.2.2 (HJ.out.2.2.2.2.1 0 W W1 HJ.out.2.2.2.2.2.2.2 hbB i hm)
    omega
  · rintro lp k hk W2 ⟨a0, a1, a2, a3, a4, a5, a6⟩ hWs
    unfold roundStart2
    have hkm : k < ms.length := by simpa using hk
    have hkf : k < fs.length := by rw [← hlen]; exact hkm
    obtain ⟨⟨s', o', t⟩, hqk⟩ : ∃ q, q = fs[k] := ⟨_, rfl⟩
    obtain ⟨nv, hnv⟩ : ∃ nv, nv = ms[k].2 := ⟨_, rfl⟩
    have hmk : ms[k].1 = tkey (s', o', t) := by
      have h1 : (ms.map (·.1))[k]'(by simpa using hkm) = (fs.map tkey)[k]'(by simpa using hkf) := by simp only [HG.out.2.2.2.2.2.2]
      rw [List.getElem_map, List.getElem_map, ← hqk] at h1; exact h1
    have hxk : (ms.map encsi)[k] = #[.string (tkey (s', o', t)), .int .i64 nv] := by rw [List.getElem_map, hnv, ← hmk]; rfl
    rw [hxk]
    simp only [List.zip_toArray, List.zip_cons_cons, List.zip_nil_right, List.foldl_toArray, List.foldl_cons, List.foldl_nil, List.setIfInBounds_toArray, List.set_cons_zero, List.set_cons_succ]
    have hgq : Goodk (s', o', t) := by rw [hqk]; exact HG.out.2.2.2.2.1 _ (List.getElem_mem hkf)
    have HV := Lib.hid (And.intro a0 (And.intro a1 (And.intro a2 (And.intro a3 (And.intro a4 (And.intro a5 a6))))))
    have HK := Lib.hid (And.intro hgq hqk)
    clear a0 a1 a2 a3 a4 a5 a6 hxk hmk hnv hgq hk hkm hqk
    gi_wp2_with fail
    refine ⟨Keeps.refl _ _, fun W3 hbk hsz3 => ?_⟩
    have hbB : Bk B W2 W3 := hbk.mono (Nat.le_trans HJ.out.1 hE1.size)
    have H3 := Lib.hid (And.intro (HJ.out.2.1 k W2 W3 HV.out.2.1 hbB) (And.intro (hbk.same _ _ HV.out.2.2.1 (.inr rfl)) (And.intro (hbk.same _ _ HV.out.2.2.2.1 (.inr rfl)) (And.intro (hbk.same _ _ HV.out.2.2.2.2.1 (.inr rfl)) (And.intro (hbk.same _ _ HV.out.2.2.2.2.2.1 (.inr rfl)) (show ∀ i, n ≤ i → i < n + 4 → ¬ M W3 i from fun i h1 h2 hm => HV.out.2.2.2.2.2.2 i h1 h2 (HJ.out.2.2.2.2.1 k W2 W3 HV.out.2.1 hbB i hm)))))))
    have hkK : k ≤ K := HV.out.1
    have HS := Lib.hid (And.intro hWs (And.intro hsz3 (And.intro hs1 (And.intro hn hE1.size))))
    clear hbk hbB HV
    have hsz : s'.size ≤ 1000 := by have t65 := named_size HK.out.1.1; dsimp only at t65; omega
    have hoz : o'.size ≤ 1000 := by have t66 := named_size HK.out.1.2.1; dsimp only at t66; omega
    clear i0 i1 i2 i3 hseq hlen hKl hWs hsz3 hs1 hn p1 p2 p3
    gi_wp2_with fail
    refine (callsIn_wide.2 ((esplit_i s' o' t hsz hoz HK.out.1.2.2 _).mono ?_)).inRound lp
    rintro e9 W4 ⟨rfl, hE4⟩
    have hbB4 : Bk B W3 W4 := Bk.of_ext hE4
    have hJ4 := HJ.out.2.1 k W3 W4 H3.out.1 hbB4
    have c0 := blk_cell ((Ext.same hE4 (lt_of_heap H3.out.2.1)).trans H3.out.2.1)
    have c1 := blk_cell ((Ext.same hE4 (lt_of_heap H3.out.2.2.1)).trans H3.out.2.2.1)
    have H4 := Lib.hid (And.intro hJ4 (And.intro ((Ext.same hE4 (lt_of_heap H3.out.2.1)).trans H3.out.2.1) (And.intro ((Ext.same hE4 (lt_of_heap H3.out.2.2.1)).trans H3.out.2.2.1) (And.intro ((Ext.same hE4 (lt_of_heap H3.out.2.2.2.1)).trans H3.out.2.2.2.1) (And.intro ((Ext.same hE4 (lt_of_heap H3.out.2.2.2.2.1)).trans H3.out.2.2.2.2.1) (And.intro (show ∀ i, n ≤ i → i < n + 4 → ¬ M W4 i from fun i h1 h2 hm => H3.out.2.2.2.2.2 i h1 h2 (HJ.out.2.2.2.2.1 k W3 W4 H3.out.1 hbB4 i hm)) (And.intro hE4 (show Fr M W3 W4 from Fr.of_bk hbB4 (HJ.out.2.2.2.2.1 k W3 W4 H3.out.1 hbB4)))))))))
    clear hE4 hbB4 hJ4
    cases hb : ((efirst s' o').toList == (efirst s o).toList)
    · have hne : ((efirst s' o').toList != (efirst s o).toList) = true := by rw [bne, hb]; rfl
      have hKk : k = K := by
        rcases Nat.lt_or_ge k K with h | h
        · exfalso
          have h1 := (HG.out.2.1 k (by rw [HG.out.1]; exact h) hkf).2
          rw [← HK.out.2] at h1
          unfold isQ at h1
          rw [hb] at h1; cases h1
        · omega
      have HKK := Lib.hid hKk
      clear hKk
      gi_wp2_with fail
      exact ⟨KeepsFrom.of_ext H4.out.2.2.2.2.2.2.1, H4.out.2.2.2.2.2.2.2, rfl, .inl (by rw [← HKK.out]; exact H4.out.1)⟩
    · have hne : ((efirst s' o').toList != (efirst s o).toList) = false := by rw [bne, hb]; rfl
      have hKk : k < K := by
        rcases Nat.lt_or_ge k K with h | h
        · exact h
        · exfalso
          have hk' : k = K := by omega
          subst hk'
          have h1 := HG.out.2.2.1 hkf
          rw [← HK.out.2] at h1
          unfold isQ at h1
          rw [hb] at h1; cases h1
      have hkg : k < ((giveQ qs s o).map fun t => (#[.int .i64 t] : Array Value)).length := by rw [List.length_map, HG.out.1]; exact hKk
      have hyd := HY.out k hkg W4 H4.out.1
      have hgt : ((giveQ qs s o).map fun t => (#[.int .i64 t] : Array Value))[k] = #[.int .i64 t] := by
        rw [List.getElem_map, (HG.out.2.1 k (by rw [HG.out.1]; exact hKk) hkf).1, ← HK.out.2]
      rw [hgt] at hyd
      clear hgt hkg
      obtain ⟨fn, tmps, assign, body, hy, hR⟩ := hyd
      have HR := Lib.hid hR
      clear hR
      gi_wp2_with fail
      refine RoundIn.mono (F := Fence.wide.inRound lp) HR.out ?_
      rintro e9 W5 ⟨v5, rfl, hkf5, hfr5, h5⟩
      have hkf := Vc.KeepsFrom.mono ((KeepsFrom.of_ext H4.out.2.2.2.2.2.2.1).trans hkf5) (Nat.le_trans HJ.out.1 HS.out.2.2.2.2)
      have hfr := H4.out.2.2.2.2.2.2.2.trans hfr5
      have hno : ∀ i, n ≤ i → i < n + 4 → ¬ M W5 i := fun i h1 h2 hm => by
        rcases hfr5.grow i hm with h | h
        · exact H4.out.2.2.2.2.2.1 i h1 h2 h
        · have h3 := H4.out.2.2.2.2.2.2.1.size
          have h4 := HS.out
          omega
      have HF5 := Lib.hid (And.intro hkf (And.intro hfr (And.intro hno (And.intro (hfr5.same _ _ H4.out.2.1 rfl (H4.out.2.2.2.2.2.1 _ (by omega) (by omega))) (And.intro (hfr5.same _ _ H4.out.2.2.1 rfl (H4.out.2.2.2.2.2.1 _ (by omega) (by omega))) (And.intro (hfr5.same _ _ H4.out.2.2.2.1 rfl (H4.out.2.2.2.2.2.1 _ (by omega) (by omega))) (hfr5.same _ _ H4.out.2.2.2.2.1 rfl (H4.out.2.2.2.2.2.1 _ (by omega) (by omega)))))))))
      clear hkf hfr hno hkf5 hfr5 hy HR c0 c1
      rcases h5 with ⟨rfl, h5⟩ | ⟨rfl, h5⟩
      · have H5 := Lib.hid h5
        clear h5
        gi_wp2_with fail
        exact ⟨HF5.out.1, HF5.out.2.1, hKk, H5.out, HF5.out.2.2.2.1, HF5.out.2.2.2.2.1, HF5.out.2.2.2.2.2.1, HF5.out.2.2.2.2.2.2, HF5.out.2.2.1⟩
      · have H5 := Lib.hid h5
        clear h5
        gi_wp2_with fail
        exact ⟨HF5.out.1, HF5.out.2.1, rfl, .inr ⟨k + 1, hKk, H5.out⟩⟩
  · rintro D W2 hD ⟨a0, a1, _⟩ hDh
    have hbk : Bk B W2 (W2.putObj D (.deferred none)) := Bk.putObj hDh rfl (by have := HJ.out.1; have := hE1.size; omega)
    have hk : (ms.map encsi).length = ((giveQ qs s o).map fun t => (#[.int .i64 t] : Array Value)).length := by
      rw [List.length_map, List.length_map, HG.out.1]
      rw [List.length_map] at a0
      omega
    have HP := Lib.hid (HJ.out.2.1 _ W2 _ a1 hbk)
    rw [hk] at HP
    have HD := Lib.hid hDh
    clear hbk hk a0 a1 hDh i0 i1 i2 i3 hseq p1 p2 p3
    simp only [Exit.inBlock, Exit.then, Exit.noGoto]
    refine leave_end (v := .tuple #[]) HD.out ?_ ⟨⟨_, rfl⟩, .inl HP.out⟩
    simp [results, Tryz.results37, go_sem]
  · rintro D c k W2 hD hkl ⟨rfl, h⟩ hDh
    have hbk : Bk B W2 (W2.putObj D (.deferred none)) := Bk.putObj hDh rfl (by have := HJ.out.1; have := hE1.size; omega)
    have HP := Lib.hid (show J K (W2.putObj D (.deferred none)) ∨ ∃ k, k ≤ K ∧ X k (W2.putObj D (.deferred none)) from h.imp (fun h => HJ.out.2.1 _ W2 _ h hbk) fun ⟨k', hk', h⟩ => ⟨k', hk', HJ.out.2.2.1 _ W2 _ h hbk⟩)
    have hk : K = ((giveQ qs s o).map fun t => (#[.int .i64 t] : Array Value)).length := by rw [List.length_map, HG.out.1]
    rw [hk] at HP
    have HD := Lib.hid hDh
    clear hbk hk hDh h i0 i1 i2 i3 hseq p1 p2 p3
    refine wpIn_exit ?_
    simp only [Exit.inBlock, if_true, Exit.noGoto]
    refine leave_end (v := .tuple #[]) HD.out ?_ ⟨⟨_, rfl⟩, ?_⟩
    · simp [results, Tryz.results37, go_sem]
    · rcases HP.out with h | h
      · exact .inl h
      · exact .inr h
end Go.Proofs.YtdonmmjikcbihaaGreatDoor
/- The law EntryGiven, walked. -/
namespace Go.Proofs.YtdonmmjikcbihaaGreatDoor
open Go.RowKit Go.Proofs Go.Vc
attribute [local go_sem] Oper.semAt_some
attribute [local irreducible] Calls CallsIn Code.wp Code.wpIn
theorem isFunc57 : (match Tryz.prog.underlying 57 with | some (.func _ _ _) => true | _ => false) = true := by kernel_rfl
theorem run_equalIn_nilFunc {P : Program} (w : World) (d : Nat) (t : TypeId) (f : Fn) (a c : Array Value) (x y : Array TypeId) (z : Bool) (h : P.underlying t = some (.func x y z)) : (Op.equalIn (d + 1) t (.func f a c) .nilFunc).run P w = .ok false w := by
  simp [Op.equalIn, run_underlying h]
theorem eql_nilFunc (f : Fn) (a c : Array Value) (w : World) : (binOp .eql 57 (.func f a c) .nilFunc).run Tryz.prog w = .ok (.bool false) w := by
  have h := isFunc57
  cases hu : Tryz.prog.underlying 57 with
  | none => rw [hu] at h; cases h
  | some x =>
    rw [hu] at h
    cases x <;> try (cases h; done)
    have h2 : (Op.equal 57 (.func f a c) .nilFunc).run Tryz.prog w = .ok false w := run_equalIn_nilFunc w 9999 _ f a c _ _ _ hu
    simp only [binOp]
    simp [h2]
attribute [local go_sem] eql_nilFunc
theorem leave0_ret {P : Program} {fn : Func} {R : Ending → World → Prop} {tmps : Array Value} {w : World} {v : Value}
    (hr : (results fn tmps).run P w = .ok v w) (hR : R (.returned v) w) : bodyPostM Fence.wide 0 P fn R .ret { tmps := tmps, defers := [] } w := ⟨v, hr, hR⟩
theorem may_shrt {x : Spn} (hf : x.Fits) (h : may x = true) : Shrt x := by
  have g := good_of hf h
  exact ⟨by have := g.sv; omega, by have := g.op; omega⟩
theorem rApply_len' (L out inn : List Spn) : (rApply L out inn).1.length ≤ L.length + inn.length := by
  unfold rApply
  have hro : ∀ (l : List Spn) (L L' : List Spn), rOut L l = some L' → L'.length ≤ L.length := by
    intro l
    induction l with
    | nil => intro L L' h; injection h with h; rw [h]; exact Nat.le_refl _
    | cons x l ih =>
      intro L L' h
      simp only [rOut] at h
      cases ht : takeOut L x with
      | none => rw [ht] at h; cases h
      | some L1 =>
        rw [ht] at h
        have := ih L1 L' h
        have := takeOut_len ht
        omega
  split
  · cases hr : rOut L out with
    | none => dsimp only; omega
    | some L' => have := hro out L L' hr; have := rIn_len L' inn; dsimp only; omega
  · dsimp only; omega
set_option maxHeartbeats 8000000 in
set_option maxRecDepth 20000 in
theorem egiven_i (v : Value) (inp : List Spn) (s o : ByteArray) (want : Int) (hwant : 0 ≤ want ∧ want < 256) (w : World) (mx : Int) (h : SpnsAt w v inp) (hf : ∀ x ∈ inp, x.Fits) (hm : w.cell? ⟨0, 0, none⟩ = some (.int .i64 mx)) :
    Calls Tryz.prog 6 #[v, .agg #[.string s, .string o], .int .u8 want] w fun e w' => e = .returned (.bool true) ∧ Ext w w' := by
  have HM := Lib.hid (show ∀ wr, Ext w wr → wr.cell? ⟨0, 0, none⟩ = some (.int .i64 mx) from fun wr k => (Ext.cells k 0 0 (by rw [hm]; rfl)).trans hm)
  have HI := Lib.hid (And.intro (show ∀ wr, Ext w wr → SpnsAt wr v inp from fun wr k => h.ext k) hf)
  clear h hf hm
  refine calls_of_marks Tryz.func6 rfl ?_
  simp only [Tryz.ntmps6, List.size_toArray, List.length_cons, List.length_nil, Nat.reduceAdd, Nat.reduceSub, Array.replicate_succ,
     Array.replicate_zero, List.push_toArray, List.append_toArray, List.nil_append, List.cons_append]
  obtain ⟨wa, hwa⟩ : ∃ wa, wa = (w.alloc (.cells #[.string s, .string o] 54)).alloc (.cells #[.int .u8 want] 5) := ⟨_, rfl⟩
  obtain ⟨p, hp⟩ : ∃ p, p = w.heap.size := ⟨_, rfl⟩
  have hEa : Ext w wa := by rw [hwa]; exact ((Keeps.refl _ w).alloc _).alloc _
  have hA : wa.heap[p]? = some (.cells #[.string s, .string o] 54 (0, 0)) := by
    rw [hwa, hp]
    exact (Ext.same ((Keeps.refl Non _).alloc _) (by rw [World.size_alloc]; omega)).trans (World.alloc_heap_new w _)
  have hB : wa.heap[p + 1]? = some (.cells #[.int .u8 want] 5 (0, 0)) := by
    have := World.alloc_heap_new (w.alloc (.cells #[.string s, .string o] 54)) (.cells #[.int .u8 want] 5)
    rw [World.size_alloc, ← hwa, ← hp] at this; exact this
  have HA := Lib.hid (And.intro (show ∀ wr, Ext wa wr → wr.heap[p]? = some (.cells #[.string s, .string o] 54 (0, 0)) from fun wr k => (Ext.same k (lt_of_heap hA)).trans hA) (And.intro (show ∀ wr, Ext wa wr → wr.heap[p + 1]? = some (.cells #[.int .u8 want] 5 (0, 0)) from fun wr k => (Ext.same k (lt_of_heap hB)).trans hB) (And.intro hEa hp)))
  gi_wp2_with fail
  rw [← hwa, ← hp]
  clear hwa hp hA hB hEa
  refine callsIn_wide.2 ((few_i v inp 20 (by decide) _ (HI.out.1 _ HA.out.2.2.1)).mono ?_)
  rintro e9 w1 ⟨rfl, hE1⟩
  have hca := blk_cell (HA.out.1 _ hE1)
  have HE1 := Lib.hid hE1
  have H01 := Lib.hid (HA.out.2.2.1.trans hE1)
  clear hE1
  cases hfew : fewL inp 20
  · clear hfew
    gi_wp2_with fail
    refine callsIn_wide.2 ((awake_i _ mx (HM.out _ H01.out)).mono ?_)
    rintro e9 wz ⟨rfl, hEz⟩
    have HEz := Lib.hid (H01.out.trans hEz)
    clear hEz
    gi_wp2_with fail
    exact leave0_ret (v := .bool true) (by simp [results, Tryz.results6, go_sem]) ⟨rfl, HEz.out⟩
  have HF := Lib.hid (few_short' hfew)
  clear hfew
  by_cases hs : (100 : Int) < (s.size : Int)
  · gi_wp2_with fail
    refine callsIn_wide.2 ((awake_i _ mx (HM.out _ H01.out)).mono ?_)
    rintro e9 wz ⟨rfl, hEz⟩
    have HEz := Lib.hid (H01.out.trans hEz)
    clear hEz
    gi_wp2_with fail
    exact leave0_ret (v := .bool true) (by simp [results, Tryz.results6, go_sem]) ⟨rfl, HEz.out⟩
  by_cases ho : (100 : Int) < (o.size : Int)
  · gi_wp2_with fail
    refine callsIn_wide.2 ((awake_i _ mx (HM.out _ H01.out)).mono ?_)
    rintro e9 wz ⟨rfl, hEz⟩
    have HEz := Lib.hid (H01.out.trans hEz)
    clear hEz
    gi_wp2_with fail
    exact leave0_ret (v := .bool true) (by simp [results, Tryz.results6, go_sem]) ⟨rfl, HEz.out⟩
  gi_wp2_with fail
  obtain ⟨w2, hw2⟩ : ∃ w2, w2 = (w1.alloc (.cells #[.pointer none, .int .i64 0] 28)).alloc (.cells #[.slice none 0 0] 33) := ⟨_, rfl⟩
  have hEv : Ext w1 (w1.alloc (.cells #[.pointer none, .int .i64 0] 28)) := (Keeps.refl _ w1).alloc _
  have hEx : Ext (w1.alloc (.cells #[.pointer none, .int .i64 0] 28)) w2 := by rw [hw2]; exact (Keeps.refl _ _).alloc _
  have hV := (VIs.new w1 28).ext hEx
  have hX : w2.heap[w1.heap.size + 1]? = some (.cells #[.slice none 0 0] 33 (0, 0)) := by
    have := World.alloc_heap_new (w1.alloc (.cells #[.pointer none, .int .i64 0] 28)) (.cells #[.slice none 0 0] 33)
    rw [World.size_alloc] at this; rw [hw2]; exact this
  obtain ⟨b, hb⟩ : ∃ b, b = w1.heap.size := ⟨_, rfl⟩
  rw [← hb] at hV hX
  have H2 := Lib.hid (And.intro (H01.out.trans (hEv.trans hEx)) (And.intro hV (And.intro hX (And.intro (HE1.out.trans (hEv.trans hEx)) hb))))
  rw [← hw2, ← hb]
  clear hEv hEx hV hX hw2 hb
  refine callsIn_wide.2 ((rspans_i v inp _ (HI.out.1 _ H2.out.1) (by have := HF.out.1; omega) (fun x hx => ⟨HI.out.2 x hx, HF.out.2 x hx⟩)).mono ?_)
  rintro e9 w3 ⟨vs, rfl, hown, hE3⟩
  obtain ⟨S, hSl⟩ : ∃ S, S = spansL inp := ⟨_, rfl⟩
  have hset : IsSet S := by rw [hSl]; exact spansL_isSet inp HI.out.2
  have hsn : S.length ≤ 20 := by rw [hSl]; exact Nat.le_trans (spansL_len inp) HF.out.1
  rw [← hSl] at hown
  clear hSl
  have hnil : ∀ wr, SpnsAt wr (.slice none 0 0) [] := fun wr => ⟨none, 0, rfl, ⟨by decide, by decide⟩, fun _ => rfl, fun _ _ _ h => nomatch h⟩
  have hvs3 := spns_of_own hown (by omega)
  have H3 := Lib.hid (And.intro hown (And.intro hE3 (And.intro hset (And.intro hsn (And.intro hvs3 (hnil w3))))))
  clear hown hE3 hset hsn hvs3 hnil
  gi_wp2_with fail
  refine callsIn_wide.2 ((between_i (.slice none 0 0) vs [] S _ H3.out.2.2.2.2.2 H3.out.2.2.2.2.1 (by decide) (by have := H3.out.2.2.2.1; omega) (fun x hx => nomatch hx) H3.out.2.2.1.fits).mono ?_)
  rw [between_sets IsSet.nil H3.out.2.2.1, between_sets H3.out.2.2.1 IsSet.nil]
  rintro e9 w4 ⟨v4, u5, rfl, ho4, hi4, hE4⟩
  obtain ⟨O, hO⟩ : ∃ O, O = withoutL [] S := ⟨_, rfl⟩
  obtain ⟨N, hN⟩ : ∃ N, N = withoutL S [] := ⟨_, rfl⟩
  have hOl : O.length ≤ 20 := by rw [hO]; exact Nat.le_trans (List.length_filter_le _ _) (by decide)
  have hNl : N.length ≤ 20 := by rw [hN]; exact Nat.le_trans (List.length_filter_le _ _) H3.out.2.2.2.1
  have hOf : ∀ x ∈ O, x.Fits ∧ Shrt x := fun x hx => by rw [hO] at hx; exact nomatch (List.mem_filter.1 hx).1
  have hBE := between_ents (L := []) IsSet.nil.nodup H3.out.2.2.1.nodup IsSet.nil.may H3.out.2.2.1.may (fun q => rfl)
  rw [← hO, ← hN] at hBE
  rw [← hO] at ho4
  rw [← hN] at hi4
  have hNf : ∀ x ∈ N, x.Fits ∧ Shrt x := fun x hx => by
    rw [hN] at hx
    have hx := (List.mem_filter.1 hx).1
    exact ⟨H3.out.2.2.1.fits x hx, may_shrt (H3.out.2.2.1.fits x hx) (H3.out.2.2.1.may x hx)⟩
  obtain ⟨a4, c4, rfl, _, _⟩ := ho4.slice spnE
  obtain ⟨a5, c5, rfl, _, _⟩ := hi4.slice spnE
  have H4 := Lib.hid (And.intro ho4 (And.intro hi4 (And.intro (H3.out.2.1.trans hE4) (And.intro hOl (And.intro hNl (And.intro hOf (And.intro hNf hBE)))))))
  clear ho4 hi4 hE4 hO hN hOl hNl hOf hBE hNf
  obtain ⟨no, hno⟩ : ∃ no, no = O.length := ⟨_, rfl⟩
  obtain ⟨ni, hni⟩ : ∃ ni, ni = N.length := ⟨_, rfl⟩
  rw [← hno] at H4
  rw [← hni] at H4
  rw [← hno, ← hni]
  have HNN := Lib.hid (And.intro hno hni)
  clear hno hni
  gi_wp2_with fail
  obtain ⟨w5, hw5⟩ : ∃ w5, w5 = w4.alloc (.cells #[.slice a4 no c4, .slice a5 ni c5] 36) := ⟨_, rfl⟩
  have hE5 : Ext w4 w5 := by rw [hw5]; exact (Keeps.refl _ _).alloc _
  have hD5 : w5.heap[w4.heap.size]? = some (.cells #[.slice a4 no c4, .slice a5 ni c5] 36 (0, 0)) := by rw [hw5]; exact World.alloc_heap_new w4 _
  obtain ⟨d, hd⟩ : ∃ d, d = w4.heap.size := ⟨_, rfl⟩
  rw [← hd] at hD5
  have hbd : b + 1 < d := by rw [hd]; exact Nat.lt_of_lt_of_le (lt_of_heap H2.out.2.2.1) H4.out.2.2.1.size
  have H5 := Lib.hid (And.intro (H4.out.2.2.1.trans hE5) (And.intro hD5 (And.intro (spns_of_own (H4.out.1.ext spnE hE5) (by have := H4.out.2.2.2.1; have := HNN.out; omega)) (And.intro (spns_of_own (H4.out.2.1.ext spnE hE5) (by have := H4.out.2.2.2.2.1; have := HNN.out; omega)) (And.intro hbd hd)))))
  rw [← hw5, ← hd]
  clear hE5 hD5 hbd hw5 hd
  have hneb : ∀ {vv : Value} {l : List Spn}, spnE.Own w3.heap.size vv l w4 → ∀ g, slBlock vv = some g → b + 1 < g := fun ho g hg => by
    have h1 := own_slBlock ho hg
    have h2 := lt_of_heap H2.out.2.2.1
    have h3 := H3.out.2.1.size
    omega
  have HNB := Lib.hid (And.intro (hneb H4.out.1) (hneb H4.out.2.1))
  clear hneb
  refine callsIn_wide.2 (((H2.out.2.1.ext H5.out.1).apply (by omega) (vo := .slice a4 no c4) (vi := .slice a5 ni c5) (out := O) (inn := N) (by have h := H5.out.2.2.1; exact h) (by have h := H5.out.2.2.2.1; exact h) (fun _ g hg hs => by have h1 := HNB.out.1 g hg; omega) (fun _ g hg hs => by have h1 := HNB.out.2 g hg; omega) (fun x hx => (H4.out.2.2.2.2.2.1 x hx).1) (fun x hx => (H4.out.2.2.2.2.2.2.1 x hx).1) (by have := H4.out.2.2.2.1; have := HNN.out; omega) (by have := H4.out.2.2.2.2.1; have := HNN.out; omega)).mono ?_)
  rintro e9 w6 ⟨rfl, ⟨S6, hV6, hs6⟩, hk6⟩
  rw [H4.out.2.2.2.2.2.2.2.1]
  have hX5 := (Ext.same H5.out.1 (lt_of_heap H2.out.2.2.1)).trans H2.out.2.2.1
  have hX6 := (hk6.same _ (lt_of_heap hX5) (by omega)).trans hX5
  have hD6 := (hk6.same _ (lt_of_heap H5.out.2.1) (by have := H5.out.2.2.2.2.1; omega)).trans H5.out.2.1
  have hno6 := H5.out.2.2.1.keeps hk6 (fun g hg he => by have h1 := HNB.out.1 g hg; omega)
  have hni6 := H5.out.2.2.2.1.keeps hk6 (fun g hg he => by have h1 := HNB.out.2 g hg; omega)
  have H6 := Lib.hid (And.intro hV6 (And.intro hX6 (And.intro hD6 (And.intro hno6 (And.intro hni6 (And.intro hs6 hk6))))))
  clear hV6 hs6 hk6 hX5 hX6 hno6 hni6
  have hcd := blk_cell hD6
  clear hD6
  gi_wp2_with fail
  refine callsIn_wide.2 ((rapply_i 33 (b + 1) (.slice none 0 0) (.slice a4 no c4) (.slice a5 ni c5) [] O N _ H6.out.2.1 ⟨none, 0, rfl, ⟨by decide, by decide⟩, fun _ => rfl, fun _ _ _ h => nomatch h⟩ H6.out.2.2.2.1 H6.out.2.2.2.2.1 (fun h => nomatch h) H4.out.2.2.2.2.2.1 H4.out.2.2.2.2.2.2.1 (by decide) (by have := H4.out.2.2.2.1; have := HNN.out; omega) (by have := H4.out.2.2.2.2.1; have := HNN.out; omega)).mono ?_)
  rintro e9 w7 ⟨rfl, ⟨vL, hx7, hr7, hor7⟩, hk7⟩
  rw [H4.out.2.2.2.2.2.2.2.1]
  obtain ⟨L, hL⟩ : ∃ L, L = (rApply [] O N).1 := ⟨_, rfl⟩
  rw [← hL] at hr7
  have hll : L.length ≤ 20 := by rw [hL]; have := rApply_len' [] O N; have := H4.out.2.2.2.2.1; have := HNN.out; simp at *; omega
  have hV6 := H6.out.1
  rw [← hL] at hV6
  have hV7 := hV6.keeps hk7 (fun i hi he => by
    subst he
    rcases H6.out.2.2.2.2.2.1 _ hi with h | h
    · omega
    · have := lt_of_heap ((Ext.same H5.out.1 (lt_of_heap H2.out.2.2.1)).trans H2.out.2.2.1); omega)
  have hE27 : Ext w wa ∧ Ext wa w7 := ⟨HA.out.2.2.1, ext_keeps (ext_keeps (H2.out.2.2.2.1.trans H5.out.1) H6.out.2.2.2.2.2.2 (fun i hi => by have := HE1.out.size; have := H2.out.2.2.2.2; omega)) hk7 (fun i hi => by have := HE1.out.size; have := H2.out.2.2.2.2; omega)⟩
  have H7 := Lib.hid (And.intro hx7 (And.intro hr7 (And.intro hll (And.intro hV7 (And.intro hE27.2 (HA.out.2.2.1.trans hE27.2))))))
  clear hx7 hr7 hor7 hk7 hL hll hV6 hV7 hE27 hca hcd
  have hca := blk_cell (HA.out.1 _ H7.out.2.2.2.2.1)
  gi_wp2_with fail
  refine callsIn_wide.2 ((rtraces_i 33 (b + 1) vL L s o _ H7.out.1 H7.out.2.1 (by have := H7.out.2.2.1; omega)).mono ?_)
  rintro e9 w8 ⟨v10, rfl, hown8, hE8⟩
  have H8 := Lib.hid (And.intro hown8 (And.intro hE8 (And.intro (H7.out.2.2.2.2.1.trans hE8) (H7.out.2.2.2.2.2.trans hE8))))
  clear hown8 hE8 hca
  have hca := blk_cell (HA.out.1 _ H8.out.2.2.1)
  obtain ⟨a10, c10, rfl, _, hc10⟩ := H8.out.1.slice intE
  obtain ⟨nt, hnt⟩ : ∃ nt, nt = (trOf L s o).length := ⟨_, rfl⟩
  have HNT := Lib.hid hnt
  rw [← hnt] at H8 hc10
  rw [← hnt]
  clear hnt
  have HC10 := Lib.hid hc10
  clear hc10
  gi_wp2_with fail
  refine callsIn_wide.2 ((etraces_i _ (some ⟨b, 0, none⟩) s o).mono ?_)
  rintro e9 w9 ⟨rfl, hw9⟩
  gi_wp2_with fail
  obtain ⟨n, hn⟩ : ∃ n, n = w8.heap.size := ⟨_, rfl⟩
  obtain ⟨w10, hw10⟩ : ∃ w10, w10 = w9.alloc (.cells #[.slice none 0 0] 44) := ⟨_, rfl⟩
  obtain ⟨hE9, i0, i1, i2, i3, hs10⟩ := allocs4 w8 _ _ _ _ (show w10 = (((w8.alloc _).alloc _).alloc _).alloc _ from by rw [hw10, hw9])
  obtain ⟨hE89, y0, y1, y2, _⟩ := allocs3 w8 _ _ _ hw9
  have hE910 : Ext w9 w10 := by rw [hw10]; exact (Keeps.refl _ _).alloc _
  have hs9 : w9.heap.size = n + 3 := by have := World.size_alloc w9 (.cells #[.slice none 0 0] 44); rw [← hw10] at this; omega
  rw [← hn] at i0 i1 i2 i3 hs10 y0 y1 y2
  rw [hw9] at hw10
  rw [← hw10, ← hn]
  clear hw10 hw9
  have hV8 := H7.out.2.2.2.1.ext H8.out.2.1
  obtain ⟨m, ⟨c0, tr, hM, htl, hri, hS⟩, hrel, hbnd⟩ := hV8
  obtain ⟨qs, hq1, hq2, hq3, hq4⟩ := hrel.keys
  have hseq := etseq b (n + 1) (n + 2) n s o tr m qs hri htl hq1 hq3 (by omega)
  rw [giveQ_tr hq2 hq3 hq4] at hseq
  obtain ⟨T, hT⟩ : ∃ T, T = trOf L s o := ⟨_, rfl⟩
  rw [← hT] at hseq
  have hTl : T.length ≤ 20 := by rw [hT]; exact Nat.le_trans (trOf_len L s o) H7.out.2.2.1
  have HT := Lib.hid (And.intro hTl (And.intro (show nt = T.length from by rw [hT]; exact HNT.out) (show intE.Own w7.heap.size (.slice a10 nt c10) T w8 from by rw [hT]; exact H8.out.1)))
  have hpre : ∀ W, Ext w9 W → EPre b (n + 1) (n + 2) n s o tr W := fun W k =>
    ⟨by rw [blk_cell ((Ext.same k (lt_of_heap y1)).trans y1)]; rfl, by rw [blk_cell ((Ext.same k (lt_of_heap y2)).trans y2)]; rfl, by rw [blk_cell ((Ext.same k (lt_of_heap y0)).trans y0)]; rfl, ((hM.ext hE89).ext k).cellR, ((hM.ext hE89).ext k).tree⟩
  refine range_loop2 (gf := 37) (lb := #[.pointer (some ⟨n + 1, 0, none⟩), .pointer (some ⟨n + 2, 0, none⟩), .pointer (some ⟨n, 0, none⟩)]) (xs := T.map fun t => #[.int .i64 t]) (by simp [Act.eval]) (enters_of Tryz.func37 (by kernel_rfl) rfl) (by intro x hx; simp at hx; obtain ⟨_, _, rfl⟩ := hx; rfl) hseq
    (fun k W => ∃ v, W.heap[n + 3]? = some (.cells #[v] 44 (0, 0)) ∧ intE.Own (n + 4) v (T.take k) W ∧ (k = 0 ∨ (k : Int) < want) ∧ Ext w9 W)
    (fun c _ W => c = .exit 0 ∧ ∃ v j, W.heap[n + 3]? = some (.cells #[v] 44 (0, 0)) ∧ intE.Own (n + 4) v (T.take j) W ∧ (j : Int) = max 1 want ∧ j ≤ T.length ∧ Ext w9 W)
    ?_ ?_ ?_ (fun W i => i = n + 3 ∨ ∃ v, W.heap[n + 3]? = some (.cells #[v] 44 (0, 0)) ∧ v.ownBlock = some i) ?_ ?_ ?_ ?_ ?_ ?_ ?_
  · rintro k W W' ⟨v, j1, j2, j3, j4⟩ hbk
    exact ⟨v, hbk.same _ _ j1 (.inr rfl), j2.bk intE hbk, j3, ext_bk j4 hbk (by omega)⟩
  · rintro c k W W' ⟨rfl, v, j, j1, j2, j3, j4, j5⟩ hbk
    exact ⟨rfl, v, j, hbk.same _ _ j1 (.inr rfl), j2.bk intE hbk, j3, j4, ext_bk j5 hbk (by omega)⟩
  · rintro k W ⟨v, j1, j2, j3, j4⟩
    exact hpre W j4
  · rintro k W W' ⟨v, j1, j2, j3, j4⟩ hbk i hi
    rcases hi with hi | ⟨v', h1, h2⟩
    · exact .inl hi
    · rw [hbk.same _ _ j1 (.inr rfl)] at h1
      exact .inr ⟨v', by rw [← h1]; exact j1, h2⟩
  · rintro k W i ⟨v, j1, j2, j3, j4⟩ hi
    rcases hi with rfl | ⟨v', h1, h2⟩
    · exact lt_of_heap j1
    · rw [j1] at h1
      injection h1 with h1
      injection h1 with h1
      injection h1 with h1
      injection h1 with h1
      subst h1
      exact (j2.lt intE h2).2
  · rintro c k W W' ⟨rfl, v, j, j1, j2, j3, j4, j5⟩ hbk i hi
    rcases hi with hi | ⟨v', h1, h2⟩
    · exact .inl hi
    · rw [hbk.same _ _ j1 (.inr rfl)] at h1
      exact .inr ⟨v', by rw [← h1]; exact j1, h2⟩
  · exact ⟨_, i3, Ek.Own.nil intE _ _, .inl rfl, hE910⟩
  · rintro lp k hk W ⟨v, j1, j2, j3, j4⟩ hWs
    unfold roundStart2
    have hkT : k < T.length := by simpa using hk
    obtain ⟨t, ht⟩ : ∃ t, t = T[k] := ⟨_, rfl⟩
    have hxk : (T.map fun t => (#[.int .i64 t] : Array Value))[k] = #[.int .i64 t] := by rw [List.getElem_map, ← ht]
    rw [hxk]
    simp only [List.zip_toArray, List.zip_cons_cons, List.zip_nil_right, List.foldl_toArray, List.foldl_cons, List.foldl_nil, List.setIfInBounds_toArray, List.set_cons_zero, List.set_cons_succ]
    have HW := Lib.hid (show T.take (k + 1) = T.take k ++ [t] from by rw [ht]; exact (List.take_append_getElem hkT).symm)
    have HV := Lib.hid (And.intro j1 (And.intro j2 (And.intro j3 j4)))
    have HN := Lib.hid (And.intro hn (And.intro hs10 (And.intro hWs (And.intro hkT hs9))))
    have HE89 := Lib.hid hE89
    clear j1 j2 j3 j4 hxk ht hk i0 i1 i2 i3 y0 y1 y2 hE89 hseq hpre hn hs10 hWs hE910 hE9 hM htl hri hS hq1 hq2 hq3 hq4 hT hTl hs9
    gi_wp2_with fail
    refine ⟨Keeps.refl _ _, fun W2 hbk hsz2 => ?_⟩
    have HI := Lib.hid (And.intro (hbk.same _ _ HV.out.1 (.inr rfl)) (And.intro (HV.out.2.1.bk intE hbk) (And.intro HV.out.2.2.1 (ext_bk HV.out.2.2.2 hbk (by have := HN.out; omega)))))
    have hcv := blk_cell HI.out.1
    have HS := Lib.hid hsz2
    clear hbk hsz2 HV
    gi_wp2_with (gi_at_builtin; refine intE.app rfl _ _ rfl (n + 4) v (T.take k) [t] rfl (HI.out.2.1.ext intE ((Keeps.refl Non _).alloc _)) (reads_one _ _) ?c1 ?c2 ?_)
    case c1 => rw [List.length_take, List.length_singleton]; have := HT.out.1; omega
    case c2 => have h1 := HN.out; have h2 := HS.out; have h3 := World.size_alloc W2 (.cells #[.int .i64 t] 3); omega
    intro v9 w11 hown hgr _ hblk
    have hE5 : Ext W2 (W2.alloc (.cells #[.int .i64 t] 3)) := (Keeps.refl Non _).alloc _
    have hvlt : ∀ g, v.ownBlock = some g → n + 4 ≤ g ∧ g < W2.heap.size := fun g hg => HI.out.2.1.lt intE hg
    have hv11 : w11.heap[n + 3]? = some (.cells #[v] 44 (0, 0)) := (hgr.same _ (Nat.lt_of_lt_of_le (lt_of_heap HI.out.1) hE5.size) (fun hb => by have := hvlt _ hb; omega)).trans ((Ext.same hE5 (lt_of_heap HI.out.1)).trans HI.out.1)
    have hM5 := (Mut.of_ext (n := n + 3) hE5).own intE (HI.out.2.1.ext intE hE5) (by omega) hgr
    obtain ⟨M9, hM9⟩ : ∃ M9, M9 = T.take k ++ [t] := ⟨_, rfl⟩
    rw [← hM9] at hown HW
    obtain ⟨a9, c9, rfl, _, _⟩ := hown.slice intE
    obtain ⟨n9, hn9⟩ : ∃ n9, n9 = M9.length := ⟨_, rfl⟩
    have hn9k : n9 = k + 1 := by rw [hn9, hM9, List.length_append, List.length_take, List.length_singleton]; have := HN.out.2.2.2.1; omega
    rw [← hn9] at hown hblk ⊢
    have hbox := (HA.out.2.1 _ ((H8.out.2.2.1.trans (by have h := HI.out.2.2.2; exact HE89.out.trans h))))
    have hboxn : p + 1 < n := by rw [HN.out.1]; exact lt_of_heap (HA.out.2.1 _ H8.out.2.2.1)
    have hbox11 : w11.heap[p + 1]? = some (.cells #[.int .u8 want] 5 (0, 0)) := (hgr.same _ (Nat.lt_of_lt_of_le (lt_of_heap hbox) hE5.size) (fun hb => by have := hvlt _ hb; omega)).trans ((Ext.same hE5 (lt_of_heap hbox)).trans hbox)
    have hcw := blk_cell hbox11
    have hcv9 := blk_cell hv11
    have hzv9 := blk_free hv11
    have hlv9 := lt_of_heap hv11
    have H9 := Lib.hid (And.intro hown (And.intro hM5 (And.intro hv11 (And.intro hblk (And.intro hgr (And.intro hvlt (And.intro hn9k hbox11)))))))
    clear hown hgr hE5 hM5 hv11 hblk hvlt hM9 hn9 hn9k hbox hbox11 hcv
    gi_wp2_with fail
    all_goals
      have hM := H9.out.2.1.cell H9.out.2.2.1 (by omega) 0 (.slice a9 n9 c9) rfl
      have ho1 := (Only.refl [n + 3] w11).setCell (p := ⟨n + 3, 0, none⟩) (by simp) (.slice a9 n9 c9)
      have hx := heap_set H9.out.2.2.1 0 (.slice a9 n9 c9)
      have hfr : Fr (fun W i => i = n + 3 ∨ ∃ v, W.heap[n + 3]? = some (.cells #[v] 44 (0, 0)) ∧ v.ownBlock = some i) W2 (w11.setCell ⟨n + 3, 0, none⟩ (.slice a9 n9 c9)) := by
        refine ⟨hM.size, fun i ob hi hc hm => ?_, fun i hm => ?_⟩
        · have h1 : i ≠ n + 3 := fun e => hm (.inl e)
          have h2 : v.ownBlock ≠ some i := fun e => hm (.inr ⟨v, HI.out.1, e⟩)
          have hE5 : Ext W2 (W2.alloc (.cells #[.int .i64 t] 3)) := (Keeps.refl Non _).alloc _
          exact (ho1.same i (by simpa using h1)).trans ((H9.out.2.2.2.2.1.same i (Nat.lt_of_lt_of_le (lt_of_heap hi) hE5.size) h2).trans ((Ext.same hE5 (lt_of_heap hi)).trans hi))
        · rcases hm with hm | ⟨v', h1, h2⟩
          · exact .inl (.inl hm)
          · rw [hx] at h1
            injection h1 with h1
            injection h1 with h1
            injection h1 with h1
            injection h1 with h1
            subst h1
            rcases H9.out.2.2.2.1 with h | h
            · exact .inl (.inr ⟨v, HI.out.1, by rw [← h]; exact h2⟩)
            · rw [h] at h2
              injection h2 with h2
              exact .inr (by omega)
      have hown' : intE.Own (n + 4) (.slice a9 n9 c9) (T.take (k + 1)) (w11.setCell ⟨n + 3, 0, none⟩ (.slice a9 n9 c9)) := by
        rw [HW.out]
        exact H9.out.1.keeps intE ho1.keeps (fun g hg hm => by rw [List.mem_singleton] at hm; have := (H9.out.1.lt intE hg).1; omega)
      have hE' := hM.toExt HI.out.2.2.2 (by rw [HN.out.2.2.2.2]; exact Nat.le_refl _)
      have hn9k := H9.out.2.2.2.2.2.2.1
    · exact ⟨hM.toFrom, hfr, rfl, _, k + 1, hx, hown', (by have := HI.out.2.2.1; omega), HN.out.2.2.2.1, hE'⟩
    · exact ⟨hM.toFrom, hfr, _, hx, hown', .inr (by omega), hE'⟩
  case' refine_9 =>
    rintro D W hD ⟨v, j1, j2, j3, j4⟩ hDh
    obtain ⟨j, hj⟩ : ∃ j, j = (T.map fun t => (#[.int .i64 t] : Array Value)).length := ⟨_, rfl⟩
    rw [← hj] at j2 j3
    have hj' : (j : Int) = min (T.length : Int) (max 1 want) ∧ j ≤ T.length := by rw [List.length_map] at hj; omega
    have HP := Lib.hid (And.intro j1 (And.intro j2 (And.intro hj' j4)))
    have HD := Lib.hid (And.intro hDh hD)
    clear j1 j2 j3 hj hj' j4 hDh hD
    simp only [Exit.inBlock, Exit.then]
  case' refine_10 =>
    rintro D c k W hD hkl ⟨rfl, v, j, j1, j2, j3, j4, j5⟩ hDh
    have hj' : (j : Int) = min (T.length : Int) (max 1 want) ∧ j ≤ T.length := by omega
    have HP := Lib.hid (And.intro j1 (And.intro j2 (And.intro hj' j5)))
    have HD := Lib.hid (And.intro hDh hD)
    clear j1 j2 j3 hj' j4 j5 hDh hD
    refine wpIn_exit ?_
    simp only [Exit.inBlock, if_true]
  all_goals
    obtain ⟨av, cv, rfl, _, _⟩ := HP.out.2.1.slice intE
    obtain ⟨T1, hT1⟩ : ∃ T1, T1 = T.take j := ⟨_, rfl⟩
    have hT1l : T1.length = j := by rw [hT1, List.length_take]; have := HP.out.2.2.1; omega
    rw [← hT1, hT1l] at HP
    have HT1 := Lib.hid (And.intro hT1 hT1l)
    have hbw := HA.out.2.1 W (H8.out.2.2.1.trans (hE89.trans HP.out.2.2.2))
    have hcg := blk_cell HP.out.1
    have hcw := blk_cell hbw
    have hE0 := (H8.out.2.2.2.trans (hE89.trans HP.out.2.2.2))
    have HE0 := Lib.hid (And.intro hE0 hE89)
    have HSZ := Lib.hid (show w.heap.size ≤ w10.heap.size from Nat.le_trans H8.out.2.2.2.size (Nat.le_trans hE89.size hE910.size))
    clear hT1 hT1l hbw hE0 hE89 i0 i1 i2 i3 y0 y1 y2 hn hs10 hs9 hE9 hE910 hM htl hri hS hrel hbnd hq1 hq2 hq3 hq4 hseq hpre hT hTl
    gi_wp2_with fail
    refine wpIn_drawE (fun _ => trivial) (way [0, 1, 2, 3, 4, 5, 6, 7, 8, 9, 10, 11, 12, 13]) (by kernel_rfl) (by kernel_rfl) (fun w11 hh hd hf hS => ?_)
    simp only [way]
    gi_wp2_with (first | (refine' hl_q rfl rfl rfl (fun _ => ?_) ?_; rotate_left; (go_simp <;> (try go_bits) <;> rfl); (try simp only [Act.put, List.setIfInBounds_toArray, List.set_cons_zero, List.set_cons_succ])) | (refine' hl_rS rfl rfl rfl hS ?_ ?_; rotate_left; (intro w9 hS9; (first | have hc9 := Ext.cells hS9 | have hc9 := Keeps.cells hS9); (go_simp <;> rfl)); (try simp only [Act.put, List.setIfInBounds_toArray, List.set_cons_zero, List.set_cons_succ])) | (refine' hl_r rfl rfl rfl ?_ ?_; rotate_left; (rintro w9 (rfl | hS9); (go_simp <;> rfl); (first | have hc9 := Ext.cells hS9 | have hc9 := Keeps.cells hS9 | (try dsimp only at hS9)); (go_simp <;> rfl)); (try simp only [Act.put, List.setIfInBounds_toArray, List.set_cons_zero, List.set_cons_succ])) | (refine' hl_s rfl rfl ?_; (try simp only [Act.put, List.setIfInBounds_toArray, List.set_cons_zero, List.set_cons_succ])) | (refine hl_e rfl rfl rfl (fun K hK => ?_)) | (with_reducible refine And.intro (fun hn => ?_) ?_; (first | exact hS | exact Keeps.alloc hS _ | exact absurd hn (by rw [show needS _ _ = false from by kernel_rfl]; exact Bool.false_ne_true))) | (refine hl_done ?_) | gi_step)
    rw [show min (nt : Int) (max 1 want) = (j : Int) from by rw [HT.out.2.1]; exact HP.out.2.2.1.1.symm]
    have hjc : j ≤ c10 := by have h1 := HC10.out; have h2 := HT.out.2.1; have h3 := HP.out.2.2.1; omega
    gi_wp2_with (first | (refine' hl_q rfl rfl rfl (fun _ => ?_) ?_; rotate_left; (go_simp <;> (try go_bits) <;> rfl); (try simp only [Act.put, List.setIfInBounds_toArray, List.set_cons_zero, List.set_cons_succ])) | (refine' hl_rS rfl rfl rfl hS ?_ ?_; rotate_left; (intro w9 hS9; (first | have hc9 := Ext.cells hS9 | have hc9 := Keeps.cells hS9); (go_simp <;> rfl)); (try simp only [Act.put, List.setIfInBounds_toArray, List.set_cons_zero, List.set_cons_succ])) | (refine' hl_r rfl rfl rfl ?_ ?_; rotate_left; (rintro w9 (rfl | hS9); (go_simp <;> rfl); (first | have hc9 := Ext.cells hS9 | have hc9 := Keeps.cells hS9 | (try dsimp only at hS9)); (go_simp <;> rfl)); (try simp only [Act.put, List.setIfInBounds_toArray, List.set_cons_zero, List.set_cons_succ])) | (refine' hl_s rfl rfl ?_; (try simp only [Act.put, List.setIfInBounds_toArray, List.set_cons_zero, List.set_cons_succ])) | (refine hl_e rfl rfl rfl (fun K hK => ?_)) | (with_reducible refine And.intro (fun hn => ?_) ?_; (first | exact hS | exact Keeps.alloc hS _ | exact absurd hn (by rw [show needS _ _ = false from by kernel_rfl]; exact Bool.false_ne_true))) | (refine hl_done ?_) | gi_step)
    have hr1 : intE.Reads w11 (.slice av j cv) T1 := by
      have h := HP.out.2.1.reads intE (by rw [HT1.out.2]; have h1 := HP.out.2.2.1; have h2 := HT.out.1; omega)
      exact h.ext intE hS
    have hr2 : intE.Reads w11 (.slice a10 j c10) T1 := by
      have h := HT.out.2.2.reads intE (by have h2 := HT.out.1; omega)
      have h3 := (h.ext intE (HE0.out.2.trans (HP.out.2.2.2.trans hS)))
      have h4 := h3.part intE 0 j c10 (Nat.zero_le _) (by rw [Nat.zero_add]; exact HP.out.2.2.1.2) a10 (fun h => .inl h) (fun g o s h => ⟨o, h, by simp⟩)
      rw [List.drop_zero, ← HT1.out.1] at h4
      exact h4
    refine callsIn_wide.2 ((sameints_i (.slice av j cv) (.slice a10 j c10) T1 T1 _ hr1 hr2).mono ?_)
    rintro e9 w12 ⟨rfl, hE12⟩
    rw [decide_eq_true rfl]
    have hS12 : Ext W w12 := hS.trans hE12
    clear hS hE12 hr1 hr2
    have hS := hS12
    clear hS12
    gi_wp2_with (first | (refine' hl_q rfl rfl rfl (fun _ => ?_) ?_; rotate_left; (go_simp <;> (try go_bits) <;> rfl); (try simp only [Act.put, List.setIfInBounds_toArray, List.set_cons_zero, List.set_cons_succ])) | (refine' hl_rS rfl rfl rfl hS ?_ ?_; rotate_left; (intro w9 hS9; (first | have hc9 := Ext.cells hS9 | have hc9 := Keeps.cells hS9); (go_simp <;> rfl)); (try simp only [Act.put, List.setIfInBounds_toArray, List.set_cons_zero, List.set_cons_succ])) | (refine' hl_r rfl rfl rfl ?_ ?_; rotate_left; (rintro w9 (rfl | hS9); (go_simp <;> rfl); (first | have hc9 := Ext.cells hS9 | have hc9 := Keeps.cells hS9 | (try dsimp only at hS9)); (go_simp <;> rfl)); (try simp only [Act.put, List.setIfInBounds_toArray, List.set_cons_zero, List.set_cons_succ])) | (refine' hl_s rfl rfl ?_; (try simp only [Act.put, List.setIfInBounds_toArray, List.set_cons_zero, List.set_cons_succ])) | (refine hl_e rfl rfl rfl (fun K hK => ?_)) | (with_reducible refine And.intro (fun hn => ?_) ?_; (first | exact hS | exact Keeps.alloc hS _ | exact absurd hn (by rw [show needS _ _ = false from by kernel_rfl]; exact Bool.false_ne_true))) | (refine hl_done ?_) | gi_step)
    refine callsIn_wide.2 ((awake_i _ mx (HM.out _ (HE0.out.1.trans hS))).mono ?_)
    rintro e9 w13 ⟨rfl, hE13⟩
    have hS13 : Ext W w13 := hS.trans hE13
    clear hS hE13
    have hS := hS13
    clear hS13
    gi_wp2_with (first | (refine' hl_q rfl rfl rfl (fun _ => ?_) ?_; rotate_left; (go_simp <;> (try go_bits) <;> rfl); (try simp only [Act.put, List.setIfInBounds_toArray, List.set_cons_zero, List.set_cons_succ])) | (refine' hl_rS rfl rfl rfl hS ?_ ?_; rotate_left; (intro w9 hS9; (first | have hc9 := Ext.cells hS9 | have hc9 := Keeps.cells hS9); (go_simp <;> rfl)); (try simp only [Act.put, List.setIfInBounds_toArray, List.set_cons_zero, List.set_cons_succ])) | (refine' hl_r rfl rfl rfl ?_ ?_; rotate_left; (rintro w9 (rfl | hS9); (go_simp <;> rfl); (first | have hc9 := Ext.cells hS9 | have hc9 := Keeps.cells hS9 | (try dsimp only at hS9)); (go_simp <;> rfl)); (try simp only [Act.put, List.setIfInBounds_toArray, List.set_cons_zero, List.set_cons_succ])) | (refine' hl_s rfl rfl ?_; (try simp only [Act.put, List.setIfInBounds_toArray, List.set_cons_zero, List.set_cons_succ])) | (refine hl_e rfl rfl rfl (fun K hK => ?_)) | (with_reducible refine And.intro (fun hn => ?_) ?_; (first | exact hS | exact Keeps.alloc hS _ | exact absurd hn (by rw [show needS _ _ = false from by kernel_rfl]; exact Bool.false_ne_true))) | (refine hl_done ?_) | gi_step)
    have hDw := (Ext.same hS (lt_of_heap HD.out.1)).trans HD.out.1
    refine leave_ret (v := .bool true) hDw (by simp [results, Tryz.results6, go_sem]) ⟨rfl, ?_⟩
    exact ext_bk (HE0.out.1.trans hS) (Bk.putObj (B := w.heap.size) hDw rfl (Nat.le_trans HSZ.out HD.out.2)) (Nat.le_refl _)
end Go.Proofs.YtdonmmjikcbihaaGreatDoor
