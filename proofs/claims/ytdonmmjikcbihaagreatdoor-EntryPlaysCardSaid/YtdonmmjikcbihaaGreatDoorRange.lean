/- Ranges over functions: the contract of an iterator ('Seq'), the law of the statement ('range_loop'), leaving the function. -/
import Derived.Test.YtdonmmjikcbihaaGreatDoorAvlMem
namespace Go.Vc
open Go.RowKit
/-- Book-keeping: whatever is cells, or lies below B, lies as it lay. -/
structure Bk (B : Nat) (W W' : World) : Prop where
  size : W.heap.size ≤ W'.heap.size
  same : ∀ b o, W.heap[b]? = some o → (b < B ∨ o.isCells = true) → W'.heap[b]? = some o
  ost : Ost W W'
theorem Bk.refl (B : Nat) (W : World) : Bk B W W := ⟨Nat.le_refl _, fun _ _ h _ => h, rfl, rfl⟩
theorem Bk.trans {B : Nat} {X Y Z : World} (h : Bk B X Y) (k : Bk B Y Z) : Bk B X Z := ⟨Nat.le_trans h.size k.size, fun b o hb ho => k.same b o (h.same b o hb ho) ho, h.ost.trans k.ost⟩
theorem Bk.mono {B C : Nat} {X Y : World} (h : Bk B X Y) (hC : C ≤ B) : Bk C X Y := ⟨h.size, fun b o hb ho => h.same b o hb (ho.imp (fun g => Nat.lt_of_lt_of_le g hC) id), h.ost⟩
theorem Bk.of_ext {B : Nat} {X Y : World} (h : Ext X Y) : Bk B X Y := ⟨h.size, fun _ _ hb _ => (Ext.same h (lt_of_heap hb)).trans hb, h.ost⟩
theorem Bk.putObj {B l : Nat} {W : World} {o o' : Obj} (hl : W.heap[l]? = some o) (ho : o.isCells = false) (hB : B ≤ l) : Bk B W (W.putObj l o') :=
  ⟨by simp, fun b x hb hx => (World.putObj_heap_other (fun e => by
    subst e
    rw [hl] at hb; cases hb
    rcases hx with hx | hx
    · omega
    · rw [ho] at hx; cases hx)).trans hb, rfl, rfl⟩
theorem Bk.keeps {B : Nat} {F : Nat → Prop} {w X Y : World} (h : Bk B X Y) (k : Keeps F w X) (hB : w.heap.size ≤ B) : Keeps F w Y :=
  ⟨Nat.le_trans k.size h.size, fun i hi hf => by
    have e := k.same i hi hf
    rw [← e]
    have hX : i < X.heap.size := Nat.lt_of_lt_of_le hi k.size
    obtain ⟨o, ho⟩ : ∃ o, X.heap[i]? = some o := ⟨_, Array.getElem?_eq_getElem hX⟩
    rw [ho]
    exact h.same i o ho (.inl (by omega)), k.ost.trans h.ost⟩
theorem Bk.cell {B : Nat} {X Y : World} (h : Bk B X Y) {a : Addr} {v : Value} (hc : X.cell? a = some v) : Y.cell? a = some v := by
  obtain ⟨o, ho, hco⟩ := cells_of_cell hc
  exact (World.cell?_of_block ((h.same _ o ho (.inr hco)).trans ho.symm)).trans hc
theorem Bk.froz {B : Nat} {X Y : World} (h : Bk B X Y) {a : Addr} {v : Value} (hc : X.cell? a = some v) : Y.frozen? a = X.frozen? a := by
  obtain ⟨o, ho, hco⟩ := cells_of_cell hc
  exact World.frozen?_of_block ((h.same _ o ho (.inr hco)).trans ho.symm)
theorem Bk.blk {B : Nat} {X Y : World} (h : Bk B X Y) {b : Nat} {c : Array Value} {t : TypeId} {f : Nat × Nat} (hb : X.heap[b]? = some (.cells c t f)) : Y.heap[b]? = some (.cells c t f) := h.same b _ hb (.inr rfl)
theorem At.bk {κ α : Type} {S : Shape κ α} {B : Nat} {X Y : World} (h : Bk B X Y) : ∀ {t : T κ α}, At S X t → At S Y t
  | .nil, _ => trivial
  | .node _ _ _ _ _, ⟨h1, h2, h3, h4⟩ => ⟨h.blk h1, At.bk h h2, At.bk h h3, h4⟩
theorem KeepsFrom.of_ext {B : Nat} {X Y : World} (h : Ext X Y) : KeepsFrom B X Y := ⟨h.size, fun _ _ _ hb _ => (Ext.same h (lt_of_heap hb)).trans hb⟩
theorem KeepsFrom.of_keeps {B : Nat} {F : Nat → Prop} {X Y : World} (h : Keeps F X Y) (hF : ∀ b o, F b → X.heap[b]? = some o → b < B ∨ o.isCells = true) : KeepsFrom B X Y :=
  ⟨h.size, fun b o hB hb ho => (h.same b (lt_of_heap hb) fun hf => (hF b o hf hb).elim (by omega) (by rw [ho]; intro e; cases e)).trans hb⟩
theorem KeepsFrom.mono {B C : Nat} {X Y : World} (h : KeepsFrom B X Y) (hC : B ≤ C) : KeepsFrom C X Y := ⟨h.size, fun k o hk => h.same k o (Nat.le_trans hC hk)⟩
/-- A call of yield: it returns. -/
def Yd (P : Program) (l : Nat) (args : Array Value) (W : World) (R : Value → World → Prop) : Prop := YieldAt Fence.wide 0 P l args W fun e W' => ∃ v, e = .returned v ∧ R v W'
/-- **The iterator 'function gf with the captured lb' gives xs**, in every world that meets Pre. -/
def Seq (P : Program) (gf : FuncId) (lb : Array Value) (xs : List (Array Value)) (Pre : World → Prop) : Prop :=
  ∀ (B l : Nat) (J X : Nat → World → Prop) (W : World), B ≤ W.heap.size → (∀ k W W', J k W → Bk B W W' → J k W') → (∀ k W W', X k W → Bk B W W' → X k W') → (∀ k W, J k W → Pre W) →
    (∀ k (hk : k < xs.length) W, J k W → Yd P l xs[k] W fun v W' => KeepsFrom B W W' ∧ ((v = .bool true ∧ J (k + 1) W') ∨ (v = .bool false ∧ X (k + 1) W'))) →
    J 0 W → Calls P gf (#[.func (.yield l) #[] #[]] ++ lb) W fun e W' => (∃ v, e = .returned v) ∧ (J xs.length W' ∨ ∃ k, k ≤ xs.length ∧ X k W')
/-- How the body of a round may be left. -/
def roundQ (I : Nat → World → Prop) (Ix : Code → Nat → World → Prop) (B k : Nat) (W : World) : Exit → Act → World → Prop
  | .normal, _, W' => KeepsFrom B W W' ∧ I k W'
  | .ret, _, W' => KeepsFrom B W W' ∧ Ix .ret k W'
  | .exit id, _, W' => KeepsFrom B W W' ∧ Ix (.exit id) k W'
  | .goto t, _, W' => KeepsFrom B W W' ∧ Ix (.goto t) k W'
  | .panic _, _, _ => False
  | .outgrown, _, _ => False
/-- the mark that a function which ranges over a function bears -/
abbrev mark (D : Nat) : Deferred := { target := .collected D, args := #[] }
section
variable {P : Program}
/-- the head of a round: the assignments to the loop's variables, then the body -/
def roundStart (P : Program) (B : Nat) (l : Nat) (assign body : Code) (R : World → Exit → Act → World → Prop) (a : Act) (W : World) : Prop :=
  assign.wpIn (Fence.wide.inRound l) 0 P (Exit.then (fun a₁ W₁ => KeepsFrom B W W₁ ∧ ∀ W₂, Bk B W₁ W₂ → W₂.heap.size = W₁.heap.size → body.wpIn (Fence.wide.inRound l) 0 P (R W₂) a₁ W₂) (fun _ _ _ => False)) a W
theorem range_loop {g : Operand} {ps : Array Tmp} {assign body : Code} {Q : Exit → Act → World → Prop} {a : Act} {w : World} {gf : Nat} {lb : Array Value} {xs : List (Array Value)} {Pre : World → Prop}
    (hg : a.eval g = .func (.func gf) #[] lb) (eg : ∀ args w, (callFunc gf args).run P w = .ok (.enter gf args) w) (hps : ∀ x ∈ xs, x.size = ps.size) (hseq : Seq P gf lb xs Pre)
    (I : Nat → World → Prop) (Ix : Code → Nat → World → Prop) (hI : ∀ k W W', I k W → Bk w.heap.size W W' → I k W') (hIx : ∀ c k W W', Ix c k W → Bk w.heap.size W W' → Ix c k W')
    (hP : ∀ k W, I k W → Pre W) (h0 : I 0 w)
    (hbody : ∀ l k (hk : k < xs.length) W, I k W → w.heap.size ≤ W.heap.size → roundStart P w.heap.size l assign body (roundQ I Ix w.heap.size (k + 1)) { tmps := (ps.zip xs[k]).foldl (fun t (p, v) => t.setIfInBounds p v) a.tmps, defers := [] } W)
    (hdone : ∀ D W, w.heap.size ≤ D → I xs.length W → W.heap[D]? = some (.deferred (some [])) → Q .normal { a with defers := mark D :: a.defers } W)
    (hstop : ∀ D c k W, w.heap.size ≤ D → k ≤ xs.length → Ix c k W → W.heap[D]? = some (.deferred (some [])) → c.wpIn Fence.wide 0 P Q { a with defers := mark D :: a.defers } W) :
    (Code.rangeFunc g ps assign body).wpIn Fence.wide 0 P Q a w := by
  refine wpIn_rangeFunc ?_
  intro fn hfn
  obtain ⟨rec, hrec⟩ : ∃ rec : LoopState → Option Code → Loop, rec = fun st pe => { state := st, pending := pe, fn, tmps := a.tmps, params := ps, assign, body, defers := w.heap.size } := ⟨_, rfl⟩
  obtain ⟨W1, hW1⟩ : ∃ W1, (w.alloc (.deferred (some []))).alloc (.loop (rec .ready none)) = W1 := ⟨_, rfl⟩
  have hL1 : W1.heap[w.heap.size + 1]? = some (.loop (rec .ready none)) := by
    rw [← hW1]; have := World.alloc_heap_new (w.alloc (.deferred (some []))) (.loop (rec .ready none)); rwa [World.size_alloc] at this
  have hK1 : W1.heap[w.heap.size]? = some (.deferred (some [])) := by
    rw [← hW1]; exact (Below.heap_alloc _ _ _ (by simp)).trans (World.alloc_heap_new w _)
  have hE1 : Ext w W1 := by rw [← hW1]; exact ((Keeps.refl _ w).alloc _).alloc _
  have hs1 : W1.heap.size = w.heap.size + 2 := by rw [← hW1]; simp
  refine ⟨w.heap.size + 1, [mark w.heap.size], W1, { target := .fn (.func gf) lb, args := #[.func (.yield (w.heap.size + 1)) #[] #[]] }, W1, gf,
    #[.func (.yield (w.heap.size + 1)) #[] #[]] ++ lb, W1, ?_, ?_, fun f' _ => trivial, ?_, fun h => (by cases h), ?_⟩
  · rw [← hW1, hrec]; exact run_enterLoop_outer _ _ _ _ _
  · simp only [resolve, hg]
    simp [go_sem]
  · simp [invoke, go_sem, eg]
  · refine callsIn_wide.2 ((hseq W1.heap.size (w.heap.size + 1)
      (fun k W => I k W ∧ w.heap.size + 2 ≤ W.heap.size ∧ W.heap[w.heap.size + 1]? = some (.loop (rec .ready none)) ∧ W.heap[w.heap.size]? = some (.deferred (some [])))
      (fun k W => ∃ c, Ix c k W ∧ W.heap[w.heap.size + 1]? = some (.loop (rec .done (some c))) ∧ W.heap[w.heap.size]? = some (.deferred (some [])))
      W1 (Nat.le_refl _)
      (fun k W W' h hb => ⟨hI k W W' h.1 (hb.mono (by omega)), Nat.le_trans h.2.1 hb.size, hb.same _ _ h.2.2.1 (.inl (by omega)), hb.same _ _ h.2.2.2 (.inl (by omega))⟩)
      (fun k W W' h hb => by obtain ⟨c, hc, h1, h2⟩ := h; exact ⟨c, hIx c k W W' hc (hb.mono (by omega)), hb.same _ _ h1 (.inl (by omega)), hb.same _ _ h2 (.inl (by omega))⟩)
      (fun k W h => hP k W h.1)
      ?_ ⟨hI 0 w W1 h0 (Bk.of_ext hE1), by omega, hL1, hK1⟩).mono ?_)
    · -- one round
      rintro k hk W ⟨hi, hsz, hl, hkd⟩
      have hlt : w.heap.size + 1 < W.heap.size := by omega
      have hy := run_yield (P := P) (args := xs[k]) hl (by rw [hrec]; exact hps _ (List.getElem_mem hk))
      rw [hrec] at hy
      refine ⟨fn, _, assign, body, hy, roundIn_of_wpIn hfn ?_⟩
      refine Go.wpIn_mono (hbody (w.heap.size + 1) k hk W hi (by omega)) ?_
      rintro e a₁ W₁ hq
      cases e <;> try exact hq.elim
      obtain ⟨hkf, hq⟩ := hq
      have hl1 := hkf.same _ _ (by omega) hl rfl
      have hkd1 := hkf.same _ _ (Nat.le_refl _) hkd rfl
      have hlt1 : w.heap.size + 1 < W₁.heap.size := lt_of_heap hl1
      have hl2 : (W₁.putObj (w.heap.size + 1) (.loop { rec .ready none with state := .busy })).heap[w.heap.size + 1]? = some (.loop { rec .ready none with state := .busy }) := World.putObj_heap_same hlt1
      have hk2 : (W₁.putObj (w.heap.size + 1) (.loop { rec .ready none with state := .busy })).heap[w.heap.size]? = some (.deferred (some [])) := (World.putObj_heap_other (by omega)).trans hkd1
      refine ⟨_, run_beginRound hl1 (by rw [hrec]), ?_⟩
      refine Go.wpIn_mono (hq _ (Bk.putObj hl1 rfl (by omega)) (by simp)) ?_
      have fin : ∀ (jump : Option Code) (W3 : World), KeepsFrom w.heap.size (W₁.putObj (w.heap.size + 1) (.loop { rec .ready none with state := .busy })) W3 →
          (Instr.endRound (w.heap.size + 1) jump).run P W3 = .ok (.bool jump.isNone) (W3.putObj (w.heap.size + 1) (.loop (rec (if jump.isNone then .ready else .done) jump))) ∧
          Bk w.heap.size W3 (W3.putObj (w.heap.size + 1) (.loop (rec (if jump.isNone then .ready else .done) jump))) ∧
          KeepsFrom W1.heap.size W (W3.putObj (w.heap.size + 1) (.loop (rec (if jump.isNone then .ready else .done) jump))) ∧
          (W3.putObj (w.heap.size + 1) (.loop (rec (if jump.isNone then .ready else .done) jump))).heap[w.heap.size + 1]? = some (.loop (rec (if jump.isNone then .ready else .done) jump)) ∧
          (W3.putObj (w.heap.size + 1) (.loop (rec (if jump.isNone then .ready else .done) jump))).heap[w.heap.size]? = some (.deferred (some [])) := fun jump W3 hk3 => by
        have hl3 := hk3.same _ _ (by omega) hl2 rfl
        have := run_endRound (P := P) jump hl3
        rw [hrec] at this ⊢
        refine ⟨this, Bk.putObj hl3 (by rw [hrec]; rfl) (by omega), ⟨?_, fun b o hb hbo hco => ?_⟩, World.putObj_heap_same (lt_of_heap hl3), (World.putObj_heap_other (by omega)).trans (hk3.same _ _ (Nat.le_refl _) hk2 rfl)⟩
        · have h1 := hkf.size
          have h2 := hk3.size
          simp only [World.putObj_size] at h2 ⊢
          omega
        · rw [World.putObj_heap_other (by omega)]
          exact hk3.same b o (by omega) ((World.putObj_heap_other (by omega)).trans (hkf.same b o (by omega) hbo hco)) hco
      rintro e a3 W3 hp
      cases e with
      | normal =>
        obtain ⟨hk3, hi3⟩ := hp
        obtain ⟨hr, hbk, hkk, hl4, hk4⟩ := fin none W3 hk3
        have hz := hkk.size
        exact ⟨_, _, hr, _, rfl, hkk, .inl ⟨rfl, hI _ _ _ hi3 hbk, by omega, hl4, hk4⟩⟩
      | ret =>
        obtain ⟨hk3, hi3⟩ := hp
        obtain ⟨hr, hbk, hkk, hl4, hk4⟩ := fin (some .ret) W3 hk3
        exact ⟨_, _, hr, _, rfl, hkk, .inr ⟨rfl, .ret, hIx _ _ _ _ hi3 hbk, hl4, hk4⟩⟩
      | exit id =>
        obtain ⟨hk3, hi3⟩ := hp
        obtain ⟨hr, hbk, hkk, hl4, hk4⟩ := fin (some (.exit id)) W3 hk3
        exact ⟨_, _, hr, _, rfl, hkk, .inr ⟨rfl, .exit id, hIx _ _ _ _ hi3 hbk, hl4, hk4⟩⟩
      | goto t =>
        obtain ⟨hk3, hi3⟩ := hp
        obtain ⟨hr, hbk, hkk, hl4, hk4⟩ := fin (some (.goto t)) W3 hk3
        exact ⟨_, _, hr, _, rfl, hkk, .inr ⟨rfl, .goto t, hIx _ _ _ _ hi3 hbk, hl4, hk4⟩⟩
      | panic ch => exact hp.elim
      | outgrown => exact hp.elim
    · -- behind the iterator
      rintro e W2 ⟨⟨v, rfl⟩, (⟨hi, hsz, hl, hk⟩ | ⟨k, hkl, c, hi, hl, hk⟩)⟩
      · exact ⟨none, _, by have := run_endLoop (P := P) hl (by rw [hrec]; simp); rw [hrec] at this; exact this, hdone _ _ (Nat.le_refl _) (hI _ _ _ hi (Bk.putObj hl rfl (by omega))) ((World.putObj_heap_other (by omega)).trans hk)⟩
      · exact ⟨some c, _, by have := run_endLoop (P := P) hl (by rw [hrec]; simp); rw [hrec] at this; exact this, hstop _ c k _ (Nat.le_refl _) hkl (hIx c _ _ _ hi (Bk.putObj hl rfl (by omega))) ((World.putObj_heap_other (by omega)).trans hk)⟩
/-- A function that ranges over a function: its contract from its body. -/
theorem calls_of_marks {f : FuncId} {fn : Func} {c : Code} {args : Array Value} {w : World} {R : Ending → World → Prop} (hf : P.funcs[f]? = some fn) (hb : fn.body = some c)
    (h : c.wpIn Fence.wide 0 P (bodyPostM Fence.wide 0 P fn R) { tmps := args ++ Array.replicate (fn.ntmps - args.size) undef, defers := [] } w) : Calls P f args w R :=
  callsIn_wide.1 (callsIn_of_wp_marks hf hb trivial h rfl)
theorem calls_of_wpIn {f : FuncId} {fn : Func} {c : Code} {args : Array Value} {w : World} {R : Ending → World → Prop} (hf : P.funcs[f]? = some fn) (hb : fn.body = some c)
    (h : c.wpIn Fence.wide 0 P (bodyPost P fn R) { tmps := args ++ Array.replicate (fn.ntmps - args.size) undef, defers := [] } w) : Calls P f args w R :=
  callsIn_wide.1 (callsIn_of_wp hf hb trivial h rfl)
/-- leaving with one mark -/
theorem leave_ret {fn : Func} {R : Ending → World → Prop} {tmps : Array Value} {w : World} {D : Nat} {v : Value} (hD : w.heap[D]? = some (.deferred (some [])))
    (hr : (results fn tmps).run P (w.putObj D (.deferred none)) = .ok v (w.putObj D (.deferred none))) (hR : R (.returned v) (w.putObj D (.deferred none))) : bodyPostM Fence.wide 0 P fn R .ret { tmps := tmps, defers := [mark D] } w :=
  ⟨by simp, .inl ⟨_, _, rfl, run_takeDeferred hD, ⟨v, hr, hR⟩⟩⟩
theorem leave_end {fn : Func} {R : Ending → World → Prop} {tmps : Array Value} {w : World} {D : Nat} {v : Value} (hD : w.heap[D]? = some (.deferred (some [])))
    (hr : (results fn tmps).run P (w.putObj D (.deferred none)) = .ok v (w.putObj D (.deferred none))) (hR : R (.returned v) (w.putObj D (.deferred none))) : bodyPostM Fence.wide 0 P fn R .normal { tmps := tmps, defers := [mark D] } w :=
  ⟨by simp, .inl ⟨_, _, rfl, run_takeDeferred hD, ⟨v, hr, hR⟩⟩⟩
theorem Yd.mono {l : Nat} {args : Array Value} {W : World} {R R' : Value → World → Prop} (h : Yd P l args W R) (hr : ∀ v w, R v w → R' v w) : Yd P l args W R' :=
  YieldAt.mono h fun _ _ ⟨v, hv, hR⟩ => ⟨v, hv, hr _ _ hR⟩
/-- how an iterator's helper ends: all that it had to give was taken; or no more is wanted -/
def GiveP (J X : Nat → World → Prop) (k n : Nat) (e : Ending) (W' : World) : Prop := (e = .returned (.bool true) ∧ J k W') ∨ (e = .returned (.bool false) ∧ ∃ j, j ≤ n ∧ X j W')
theorem Bk.of_heap {B : Nat} {X Y : World} (h : Y.heap = X.heap) (ho : Ost X Y) : Bk B X Y := ⟨by rw [h]; exact Nat.le_refl _, fun _ _ hb _ => by rw [h]; exact hb, ho⟩
end
end Go.Vc
