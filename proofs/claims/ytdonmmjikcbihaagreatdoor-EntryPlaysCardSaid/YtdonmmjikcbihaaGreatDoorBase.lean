/- The ground of all proofs here: Keeps (which blocks a call may have changed), a law for regions that draw their order (one walk, the order checked by the kernel), and small laws on worlds. -/
import Derived.WalkKit
import Derived.OrdersHeld
import Derived.OrdersIn
import Derived.RangeFuncNested
import Derived.RangeFuncBound
import Derived.RangeFuncCalls
import Derived.RangeFuncLeaves
import Derived.OwnWalkIn
import Derived.TacticsInMore
import Derived.LoopNIn
import Derived.LoopIn
namespace Go.Vc
open Go.RowKit

/-! ### Keeps -/
theorem ne_nil_of_lt {α : Type} {l : List α} {j : Nat} (h : j < l.length) : l ≠ [] := fun e => by rw [e] at h; exact absurd h (Nat.not_lt_zero _)
/-- nothing was asked of the machine outside, nothing printed -/
abbrev Ost (w w' : World) : Prop := w'.os = w.os ∧ w'.output = w.output
theorem Ost.trans {a b c : World} (h : Ost a b) (k : Ost b c) : Ost a c := ⟨k.1.trans h.1, k.2.trans h.2⟩
/-- Every block that was there and is not of F is as it was; none has gone. -/
structure Keeps (F : Nat → Prop) (w w' : World) : Prop where
  size : w.heap.size ≤ w'.heap.size
  same : ∀ b, b < w.heap.size → ¬ F b → w'.heap[b]? = w.heap[b]?
  ost : Ost w w'
/-- no block -/
def Non : Nat → Prop := fun _ => False
abbrev Ext (w w' : World) : Prop := Keeps Non w w'
theorem Keeps.refl (F : Nat → Prop) (w : World) : Keeps F w w := ⟨Nat.le_refl _, fun _ _ _ => rfl, rfl, rfl⟩
theorem Keeps.trans {F : Nat → Prop} {a b c : World} (h : Keeps F a b) (k : Keeps F b c) : Keeps F a c :=
  ⟨Nat.le_trans h.size k.size, fun i hi hf => (k.same i (Nat.lt_of_lt_of_le hi h.size) hf).trans (h.same i hi hf), h.ost.trans k.ost⟩
theorem Keeps.mono {F G : Nat → Prop} {a b : World} (h : Keeps F a b) (hFG : ∀ i, i < a.heap.size → F i → G i) : Keeps G a b :=
  ⟨h.size, fun i hi hg => h.same i hi fun hf => hg (hFG i hi hf), h.ost⟩
theorem Ext.keeps {F : Nat → Prop} {a b : World} (h : Ext a b) : Keeps F a b := h.mono fun _ _ hf => hf.elim
theorem Ext.same {a b : World} (h : Ext a b) {i : Nat} (hi : i < a.heap.size) : b.heap[i]? = a.heap[i]? := Keeps.same h i hi fun hf => hf
/-- two calls, one behind the other: what the second may change is of the first's, or new -/
theorem Keeps.andThen {F G : Nat → Prop} {a b c : World} (h : Keeps F a b) (k : Keeps G b c) (hG : ∀ x, x < a.heap.size → G x → F x) : Keeps F a c :=
  ⟨Nat.le_trans h.size k.size, fun i hi hf => (k.same i (Nat.lt_of_lt_of_le hi h.size) fun hg => hf (hG i hi hg)).trans (h.same i hi hf), h.ost.trans k.ost⟩
theorem Keeps.drew {F : Nat → Prop} {a b : World} (h : Keeps F a b) : Keeps F a b.drew := ⟨h.size, h.same, h.ost⟩
theorem Keeps.alloc {F : Nat → Prop} {a b : World} (h : Keeps F a b) (o : Obj) : Keeps F a (b.alloc o) :=
  h.trans ⟨by simp, fun i hi _ => Below.heap_alloc b o i hi, rfl, rfl⟩
theorem Keeps.setCell {F : Nat → Prop} {a b : World} (h : Keeps F a b) {p : Addr} (hp : p.block < a.heap.size → F p.block) (v : Value) : Keeps F a (b.setCell p v) :=
  ⟨by simpa using h.size, fun i hi hf => (Below.heap_setCell b p v i (fun e => hf (e ▸ hp (e ▸ hi)))).trans (h.same i hi hf), h.ost⟩
theorem Keeps.cell {F : Nat → Prop} {w w' : World} (h : Keeps F w w') {a : Addr} (hb : a.block < w.heap.size) (hf : ¬ F a.block) : w'.cell? a = w.cell? a := World.cell?_of_block (w := w) (h.same a.block hb hf)
theorem Keeps.froz {F : Nat → Prop} {w w' : World} (h : Keeps F w w') {a : Addr} (hb : a.block < w.heap.size) (hf : ¬ F a.block) : w'.frozen? a = w.frozen? a := World.frozen?_of_block (w := w) (h.same a.block hb hf)
/-- The rules for the walk: a cell that was there, of a block that may not have changed, reads as it did. -/
theorem Keeps.cells {F : Nat → Prop} {w w' : World} (h : Keeps F w w') : ∀ b o, (w.cell? ⟨b, o, none⟩).isSome = true → ¬ F b → w'.cell? ⟨b, o, none⟩ = w.cell? ⟨b, o, none⟩ := fun b o hs hf => by
  obtain ⟨v, hv⟩ := Option.isSome_iff_exists.1 hs
  exact h.cell (a := ⟨b, o, none⟩) (World.block_lt_of_cell? w _ hv) hf
theorem Keeps.frozs {F : Nat → Prop} {w w' : World} (h : Keeps F w w') : ∀ b o, b < w.heap.size → ¬ F b → w'.frozen? ⟨b, o, none⟩ = w.frozen? ⟨b, o, none⟩ := fun b o hb hf => h.froz (a := ⟨b, o, none⟩) hb hf
theorem Ext.cells {w w' : World} (h : Ext w w') : ∀ b o, (w.cell? ⟨b, o, none⟩).isSome = true → w'.cell? ⟨b, o, none⟩ = w.cell? ⟨b, o, none⟩ := fun b o hs => Keeps.cells h b o hs fun hf => hf
theorem Ext.frozs {w w' : World} (h : Ext w w') : ∀ b o, b < w.heap.size → w'.frozen? ⟨b, o, none⟩ = w.frozen? ⟨b, o, none⟩ := fun b o hb => Keeps.frozs h b o hb fun hf => hf

/-! ### A region that draws: one walk -/
section
variable {F : Fence} {n : Nat} {P : Program} {ops : Array Oper} {Q : Exit → Act → World → Prop} {S : World → Prop}
/-- Kinds of operations that may change the world, or call. -/
def loud : Op → Bool
  | .alloc _ | .box .. | .buildSlice .. | .insert .. | .store .. | .ready _ | .makeInterface .. | .makeFunc .. | .makeMap .. | .makeChan .. | .makeSlice .. | .mapUpdate .. | .mapEntry .. | .entryStore .. | .range .. | .next .. | .go _ | .defer _ | .panic _ | .send .. | .recv .. | .select .. => true
  | .call { callee := .builtin b, .. } => match b with | .len | .cap | .max | .min => false | _ => true
  | .call _ => true
  | _ => false
/-- An order of a region's operations, told by their numbers; 'two': either may come next. -/
inductive Way where
  | done
  | op (i : Nat) (t : Way)
  | two (i : Nat) (t : Way) (j : Nat) (u : Way)
def Way.isDone : Way → Bool | .done => true | _ => false
/-- one way of a list of numbers -/
def way : List Nat → Way | [] => .done | i :: l => .op i (way l)
def loudAt (ops : Array Oper) (i : Nat) : Bool := match ops[i]? with | some o => loud o.op | none => true
/-- Is it a way through all orders? -/
def Way.ok (ops : Array Oper) : Way → Array Bool → Bool
  | .done, listed => (Region.ready .any ops listed).isEmpty
  | .op i t, listed => (Region.ready .any ops listed == [i] || (!loudAt ops i && (Region.ready .any ops listed).contains i && Region.free .any ops listed i)) && t.ok ops (listed.setIfInBounds i true)
  | .two i t j u, listed => Region.ready .any ops listed == [i, j] && t.ok ops (listed.setIfInBounds i true) && u.ok ops (listed.setIfInBounds j true)

def Way.depth : Way → Nat
  | .done => 0
  | .op _ t => t.depth + 1
  | .two _ t _ u => max t.depth u.depth + 1
/-- no select, no defer -/
def noSD (ops : Array Oper) : Bool := ops.all fun o => match o.op with | .select .. | .defer _ => false | _ => true
theorem noSD_select (h : noSD ops = true) (j : Nat) (o : Oper) (cs : Array SelectCase) (b : Bool) (ho : ops[j]? = some o) : o.op ≠ .select cs b := fun e => by
  have := Array.all_eq_true_iff_forall_mem.1 h o (Array.mem_of_getElem? ho)
  simp [e] at this
theorem noSD_defer (h : noSD ops = true) (j : Nat) (o : Oper) (c : Call) (ho : ops[j]? = some o) : o.op ≠ .defer c := fun e => by
  have := Array.all_eq_true_iff_forall_mem.1 h o (Array.mem_of_getElem? ho)
  simp [e] at this
/-- the post of a region that can only end normally -/
def onlyN (N : Act → World → Prop) : Exit → Act → World → Prop
  | .normal, a, w => N a w
  | _, _, _ => False

/-- what it yields hangs on no world -/
def steady : Op → Bool
  | .fieldAddr t _ f => !(t == 0 && f == 1)
  | .move _ | .assign _ | .pick .. | .build .. | .nilCheck _ | .binOp .. | .unOp .. | .field .. | .indexAddr .. | .index .. | .extract .. | .slice .. => true
  | .call { callee := .builtin .max, .. } | .call { callee := .builtin .min, .. } => true
  | _ => false
/-- of each operation the set of those that stand ahead of it, as bits -/
def bmask (acc : List Nat) (o : Oper) : Nat := o.after.toList.foldl (fun s e => if Region.binds .any e then s ||| 2 ^ e.on ||| acc.getD e.on 0 else s) 0
def masks : List Oper → List Nat → List Nat
  | [], acc => acc
  | o :: l, acc => masks l (acc ++ [bmask acc o])
/-- a reading operation that may come on either side of number j -/
def needS (ops : Array Oper) (j : Nat) : Bool :=
  let m := masks ops.toList []
  (List.range ops.size).any fun i => i != j && (match ops[i]? with | some oi => !steady oi.op | none => false) && !(m.getD i 0).testBit j && !(m.getD j 0).testBit i
/-- what stands ahead of what is listed is listed -/
def DC (ops : Array Oper) (listed : Array Bool) : Prop := ∀ k o, ops[k]? = some o → listed.getD k false = true → ∀ e ∈ o.after, Region.binds .any e = true → listed.getD e.on false = true
theorem bmask_bit (acc : List Nat) (o : Oper) (j : Nat) (h : (bmask acc o).testBit j = true) : ∃ e ∈ o.after, Region.binds .any e = true ∧ (j = e.on ∨ (acc.getD e.on 0).testBit j = true) := by
  have key : ∀ (l : List Edge) (s : Nat), (l.foldl (fun s e => if Region.binds .any e then s ||| 2 ^ e.on ||| acc.getD e.on 0 else s) s).testBit j = true → s.testBit j = true ∨ ∃ e ∈ l, Region.binds .any e = true ∧ (j = e.on ∨ (acc.getD e.on 0).testBit j = true) := by
    intro l
    induction l with
    | nil => exact fun s h => .inl h
    | cons e l ih =>
      intro s h
      rw [List.foldl_cons] at h
      rcases ih _ h with h | ⟨e', he', h⟩
      · split at h
        · rename_i hb
          simp only [Nat.testBit_or, Bool.or_eq_true] at h
          rcases h with (h | h) | h
          · exact .inl h
          · exact .inr ⟨e, by simp, hb, .inl (by rw [Nat.testBit_two_pow] at h; exact (by simpa using h : e.on = j).symm)⟩
          · exact .inr ⟨e, by simp, hb, .inr h⟩
        · exact .inl h
      · exact .inr ⟨e', by simp [he'], h⟩
  rcases key _ _ h with h | ⟨e, he, h⟩
  · simp at h
  · exact ⟨e, by simpa using he, h⟩
theorem masks_spec (ops : Array Oper) (listed : Array Bool) (hdc : DC ops listed) : ∀ (l : List Oper) (acc : List Nat), (∀ i, l[i]? = ops[acc.length + i]?) →
    (∀ (i m : Nat), acc[i]? = some m → ∀ (o : Oper), ops[i]? = some o → (∀ e ∈ o.after, Region.binds .any e = true → listed.getD e.on false = true) → ∀ j, m.testBit j = true → listed.getD j false = true) →
    ∀ (i m : Nat), (masks l acc)[i]? = some m → ∀ (o : Oper), ops[i]? = some o → (∀ e ∈ o.after, Region.binds .any e = true → listed.getD e.on false = true) → ∀ j, m.testBit j = true → listed.getD j false = true := by
  intro l
  induction l with
  | nil => exact fun acc _ h => h
  | cons o l ih =>
    intro acc hl h
    refine ih _ (fun i => by have := hl (i + 1); simp only [List.getElem?_cons_succ] at this; rw [this, List.length_append, List.length_singleton, Nat.add_assoc, Nat.add_comm 1 i]) ?_
    intro i m hm o' ho' hall j hj
    rw [List.getElem?_append] at hm
    split at hm
    · exact h i m hm o' ho' hall j hj
    · have hi : i = acc.length := by
        have := (List.getElem?_eq_some_iff.1 hm).1
        simp at this; omega
      subst hi
      simp only [Nat.sub_self, List.getElem?_cons_zero, Option.some.injEq] at hm
      subst hm
      have h0 := hl 0
      simp only [List.getElem?_cons_zero, Nat.add_zero] at h0
      rw [ho'] at h0; cases h0
      obtain ⟨e, he, hb, hj⟩ := bmask_bit acc o j hj
      have hle := hall e he hb
      rcases hj with rfl | hj
      · exact hle
      · cases hm2 : acc[e.on]? with
        | none => rw [List.getD_eq_getElem?_getD, hm2] at hj; simp at hj
        | some m2 =>
          rw [List.getD_eq_getElem?_getD, hm2] at hj
          cases hoe : ops[e.on]? with
          | none =>
            have h1 := (List.getElem?_eq_some_iff.1 hm2).1
            have h2 := (Array.getElem?_eq_some_iff.1 ho').1
            have := Array.getElem?_eq_none_iff.1 hoe
            omega
          | some oe => exact h e.on m2 hm2 oe hoe (hdc e.on oe hoe hle) j hj
/-- In state a at w number o yields v; and so it does at whatever world it may be put off to. -/
def Yld (P : Program) (ops : Array Oper) (S : World → Prop) (o : Oper) (v : Value) (a : Act) (w : World) : Prop :=
  (Region.wanted o (yielded ops a.tmps) = false ∧ v = undef) ∨
  (Region.wanted o (yielded ops a.tmps) = true ∧ steady o.op = true ∧ ∀ w, (execOp a.eval o).run P w = .ok (.value v) w) ∨
  (Region.wanted o (yielded ops a.tmps) = true ∧ steady o.op = false ∧ (execOp a.eval o).run P w = .ok (.value v) w ∧ ∀ w', S w' → (execOp a.eval o).run P w' = .ok (.value v) w')
theorem Yld.at {o : Oper} {v : Value} {a : Act} {w w' : World} (h : Yld P ops S o v a w) (hS : steady o.op = false → S w') : Yld P ops S o v a w' := by
  rcases h with h | ⟨h1, h2, h3⟩ | ⟨h1, h2, h3, h4⟩
  · exact .inl h
  · exact .inr (.inl ⟨h1, h2, h3⟩)
  · exact .inr (.inr ⟨h1, h2, h4 w' (hS h2), h4⟩)
theorem Yld.of_same {o : Oper} {v : Value} {a a' : Act} {w : World} (hy : Yld P ops S o v a w) (he : execOp a'.eval o = execOp a.eval o)
    (hw : Region.wanted o (yielded ops a'.tmps) = Region.wanted o (yielded ops a.tmps)) : Yld P ops S o v a' w := by
  unfold Yld at *
  rw [he, hw]
  exact hy
/-- The walk along a way. -/
def HL (F : Fence) (n : Nat) (P : Program) (ops : Array Oper) (N : Act → World → Prop) (S : World → Prop) : Way → Act → World → Prop
  | .done, a, w => N a w
  | .op i t, a, w =>
      (∃ o v, ops[i]? = some o ∧ Yld P ops S o v a w ∧ HL F n P ops N S t (a.put o.dst v) w) ∨
      (loudAt ops i = true ∧ wpOpIn F n P ops (onlyN N) i (fun a' w' => (needS ops i = true → S w') ∧ HL F n P ops N S t a' w') a w)
  | .two i t j u, a, w =>
      wpOpIn F n P ops (onlyN N) i (fun a' w' => (needS ops i = true → S w') ∧ HL F n P ops N S t a' w') a w ∧
      wpOpIn F n P ops (onlyN N) j (fun a' w' => (needS ops j = true → S w') ∧ HL F n P ops N S u a' w') a w

/-- Whatever order is picked, S holding behind each operation on whose other side a reading one may come. -/
def AnyH (F : Fence) (n : Nat) (P : Program) (ops : Array Oper) (N : Act → World → Prop) (S : World → Prop) : Nat → Array Bool → Act → World → Prop
  | 0, listed, a, w => Region.ready .any ops listed = [] ∧ N a w
  | fuel + 1, listed, a, w =>
    (Region.ready .any ops listed = [] → N a w) ∧
    ∀ i ∈ Region.ready .any ops listed, (∃ o v, ops[i]? = some o ∧ Yld P ops S o v a w ∧ AnyH F n P ops N S fuel (listed.setIfInBounds i true) (a.put o.dst v) w) ∨
      wpOpIn F n P ops (onlyN N) i (fun a' w' => (needS ops i = true → S w') ∧ AnyH F n P ops N S fuel (listed.setIfInBounds i true) a' w') a w
variable {N : Act → World → Prop}
theorem Yld.wpOpIn' (hF : ∀ f, F.fn f) (hd : ∀ (j : Nat) (o : Oper) (c : Call), ops[j]? = some o → o.op ≠ .defer c) {i : Nat} {o : Oper} {v : Value} {a : Act} {w : World} (hi : ops[i]? = some o) (hy : Yld P ops S o v a w)
    {K : Act → World → Prop} (h : K (a.put o.dst v) w) : wpOpIn F n P ops (onlyN N) i K a w := by
  have go : ∀ v, Region.wanted o (yielded ops a.tmps) = true → (execOp a.eval o).run P w = .ok (.value v) w → K (a.put o.dst v) w → wpOpIn F n P ops (onlyN N) i K a w := fun v hw hv h => by
    unfold wpOpIn
    simp only [hi, hw, if_true, Oper.wpIn]
    rw [Oper.semAt_eq _ _ _ (fun c => hd i o c hi), hv]
    exact ⟨fun f _ => hF f, h⟩
  rcases hy with ⟨hw, rfl⟩ | ⟨hw, _, hv⟩ | ⟨hw, _, hv, _⟩
  · unfold wpOpIn
    simp only [hi, hw, Bool.false_eq_true, if_false]; exact ⟨fun f _ => hF f, h⟩
  · exact go v hw (hv w) h
  · exact go v hw hv h
theorem any_of_anyH (hF : ∀ f, F.fn f) (hsd : noSD ops = true) : ∀ (fuel : Nat) (listed : Array Bool) (a : Act) (w : World), AnyH F n P ops N S fuel listed a w → wpAnyIn F n P .any ops (onlyN N) fuel listed a w
  | 0, _, _, _, h => h
  | fuel + 1, _, _, _, h => ⟨h.1, fun i hi => by
      rcases h.2 i hi with ⟨o, v, ho, hy, h'⟩ | h'
      · exact hy.wpOpIn' hF (noSD_defer hsd) ho (any_of_anyH hF hsd fuel _ _ _ h')
      · exact wpOpIn_mono (fun a' w' h' => any_of_anyH hF hsd fuel _ a' w' h'.2) h'⟩
theorem Yld.put_other {oi oj : Oper} {v : Value} (hsi : ∀ cs b, oi.op ≠ .select cs b) (hap : oi.apart ops oj = true) {a : Act} {w : World} (hy : Yld P ops S oi v a w) (u : Value) : Yld P ops S oi v (a.put oj.dst u) w :=
  have h3 := (Oper.apart_spec hap).2.2
  hy.of_same (execOp_put oi hsi a oj.dst u h3) (wanted_put oi a oj.dst u h3)
theorem Yld.before_other {oi oj : Oper} {v u : Value} (hsj : ∀ cs b, oj.op ≠ .select cs b) (hap : oi.apart ops oj = true) {a : Act} {w : World} (hy : Yld P ops S oj u (a.put oi.dst v) w) : Yld P ops S oj u a w :=
  have h1 := (Oper.apart_spec hap).1
  hy.of_same (execOp_put oj hsj a oi.dst v h1).symm (wanted_put oj a oi.dst v h1).symm
/-- What number oi yields in whatever world it may be put off to. -/
abbrev Ylds (P : Program) (ops : Array Oper) (S : World → Prop) (o : Oper) (v : Value) (a : Act) (W : World → Prop) : Prop := ∀ w, W w → Yld P ops S o v a w
theorem wpOpIn_put' (hF : ∀ f, F.fn f) {i j : Nat} {oi oj : Oper} {v : Value} (hi : ops[i]? = some oi) (hj : ops[j]? = some oj) (hsd : noSD ops = true) (hap : oi.apart ops oj = true)
    {K : Act → World → Prop} {a : Act} {w w0 : World}
    (hy : Yld P ops S oi v a w0) (h : wpOpIn F n P ops (onlyN N) j K (a.put oi.dst v) w) :
    wpOpIn F n P ops (onlyN N) j (fun a' w' => Yld P ops S oi v a' w0 ∧ K (a'.put oi.dst v) w') a w := by
  obtain ⟨h1, h2, h3⟩ := Oper.apart_spec hap
  have hsi : ∀ cs b, oi.op ≠ .select cs b := fun cs b => noSD_select hsd i oi cs b hi
  have hsj : ∀ cs b, oj.op ≠ .select cs b := fun cs b => noSD_select hsd j oj cs b hj
  have hdj : ∀ c, oj.op ≠ .defer c := fun c => noSD_defer hsd j oj c hj
  have keep : ∀ (a : Act), Yld P ops S oi v a w0 → ∀ u, Yld P ops S oi v (a.put oj.dst u) w0 := fun a hy u => hy.put_other hsi hap u
  have keepD : ∀ d, Yld P ops S oi v { a with defers := d :: a.defers } w0 := fun d => hy.of_same rfl rfl
  unfold wpOpIn at *
  simp only [hj] at *
  rw [wanted_put oj a oi.dst v h1] at h
  split
  · rename_i hw
    simp only [hw, if_true] at h
    unfold Oper.wpIn at *
    refine ⟨fun f _ => hF f, ?_⟩
    have h := h.2
    rw [Oper.semAt_eq _ _ _ hdj, execOp_put oj hsj a oi.dst v h1] at h
    rw [Oper.semAt_eq _ _ _ hdj]
    generalize (execOp a.eval oj).run P w = r at *
    cases r with
    | ok x w' =>
      cases x <;> simp only [Oper.uponIn] at h ⊢
      case value u => exact ⟨keep a hy u, by rw [← Act.put_comm a v u h2]; exact h⟩
      case skip => exact ⟨keep a hy _, by rw [← Act.put_comm a v undef h2]; exact h⟩
      case defer d =>
        refine ⟨keep _ (keepD d) _, ?_⟩
        rw [← Act.put_comm _ v undef h2, ← Act.put_defers]
        exact h
      case enter f args =>
        refine ⟨h.1, CallsIn.mono h.2 fun e w'' he => ?_⟩
        cases e with
        | returned u => exact ⟨keep a hy u, by rw [← Act.put_comm a v u h2]; exact he⟩
        | panicked c => exact he
        | outgrown => exact he
      case row row args => exact ⟨h.1, RowsIn.mono h.2 fun u w'' he => ⟨keep a hy u, by rw [← Act.put_comm a v u h2]; exact he⟩⟩
      case round l f tmps assign body =>
        refine ⟨h.1, RoundIn.mono h.2 fun e w'' he => ?_⟩
        cases e with
        | returned u => exact ⟨keep a hy u, by rw [← Act.put_comm a v u h2]; exact he⟩
        | panicked c => exact he
        | outgrown => exact he
    | halt x w' => cases x <;> simp only [Oper.uponIn] at h ⊢; exact h
  · rename_i hw
    simp only [hw] at h
    exact ⟨fun f _ => hF f, keep a hy _, by rw [← Act.put_comm a v undef h2]; exact h.2⟩
theorem not_on_of_ready {i j : Nat} {oj : Oper} {listed : Array Bool} (hj : j ∈ Region.ready .any ops listed) (hoj : ops[j]? = some oj) (hi : i ∈ Region.ready .any ops listed) :
    ∀ e ∈ oj.after, Region.binds .any e = true → e.on ≠ i := fun e he hb heq => by
  obtain ⟨_, o', ho', hall⟩ := mem_ready.1 hj
  rw [hoj] at ho'; cases ho'
  have h1 := hall e he hb
  have h0 := (mem_ready.1 hi).1
  rw [heq] at h1
  rcases Nat.lt_or_ge i listed.size with h' | h'
  · simp [h'] at h0 h1; rw [h0] at h1; cases h1
  · simp [Array.getElem?_eq_none h'] at h1
theorem ready_bits {i j : Nat} {o : Oper} {listed : Array Bool} (hdc : DC ops listed) (hi : i ∈ Region.ready .any ops listed) (ho : ops[i]? = some o) (hj : j ∈ Region.ready .any ops listed) : ((masks ops.toList []).getD i 0).testBit j = false := by
  obtain ⟨_, o', ho', hall⟩ := mem_ready.1 hi
  rw [ho] at ho'; cases ho'
  cases hb : ((masks ops.toList []).getD i 0).testBit j with
  | false => rfl
  | true =>
    exfalso
    have hl : listed.getD j false = true := by
      cases hm : (masks ops.toList [])[i]? with
      | none => rw [List.getD_eq_getElem?_getD, hm] at hb; simp at hb
      | some m =>
        rw [List.getD_eq_getElem?_getD, hm] at hb
        exact masks_spec ops listed hdc ops.toList [] (fun k => by simp) (fun k m h => by simp at h) i m hm o ho hall j hb
    have h0 := (mem_ready.1 hj).1
    rcases Nat.lt_or_ge j listed.size with h' | h'
    · simp [h'] at h0 hl; rw [h0] at hl; cases hl
    · simp [Array.getElem?_eq_none h'] at hl
theorem needS_of {i j : Nat} {oi oj : Oper} {listed : Array Bool} (hdc : DC ops listed) (hi : i ∈ Region.ready .any ops listed) (hj : j ∈ Region.ready .any ops listed) (hne : i ≠ j) (hoi : ops[i]? = some oi) (hoj : ops[j]? = some oj) (hs : steady oi.op = false) : needS ops j = true := by
  unfold needS
  dsimp only
  rw [List.any_eq_true]
  refine ⟨i, List.mem_range.2 (Array.getElem?_eq_some_iff.1 hoi).1, ?_⟩
  have h1 := ready_bits hdc hi hoi hj
  have h2 := ready_bits hdc hj hoj hi
  rw [h1, h2]
  simp [hoi, hs, hne]
theorem DC.step {i : Nat} {listed : Array Bool} (hdc : DC ops listed) (hi : i ∈ Region.ready .any ops listed) : DC ops (listed.setIfInBounds i true) := by
  intro k o ho hk e he hb
  by_cases hki : k = i
  · subst hki
    obtain ⟨_, o', ho', hall⟩ := mem_ready.1 hi
    rw [ho] at ho'; cases ho'
    exact getD_set_true (hall e he hb)
  · rw [getD_set_ne false (Ne.symm hki)] at hk
    exact getD_set_true (hdc k o ho hk e he hb)
theorem anyH_first (hF : ∀ f, F.fn f) (hsd : noSD ops = true) {i : Nat} {oi : Oper} {v : Value} (hi : ops[i]? = some oi) :
    ∀ (fuel : Nat) (listed : Array Bool) (a : Act) (w : World),
      (∀ j oj, ops[j]? = some oj → j ≠ i → listed.getD j true = false → (∀ e ∈ oj.after, Region.binds .any e = true → e.on ≠ i) → oi.apart ops oj = true) →
      DC ops listed → i ∈ Region.ready .any ops listed → Yld P ops S oi v a w →
      AnyH F n P ops N S fuel (listed.setIfInBounds i true) (a.put oi.dst v) w → AnyH F n P ops N S (fuel + 1) listed a w := by
  intro fuel
  induction fuel with
  | zero =>
    intro listed a w _ _ hr hy H
    refine ⟨fun h => (by rw [h] at hr; cases hr), fun j hj => ?_⟩
    by_cases hji : j = i
    · subst hji; exact .inl ⟨oi, v, hi, hy, H⟩
    · have := ready_mono hj hji
      rw [H.1] at this
      cases this
  | succ fuel ih =>
    intro listed a w hfree hdc hr hy H
    refine ⟨fun h => (by rw [h] at hr; cases hr), fun j hj => ?_⟩
    by_cases hji : j = i
    · subst hji; exact .inl ⟨oi, v, hi, hy, H⟩
    · have h1 := H.2 j (ready_mono hj hji)
      obtain ⟨hjun, oj, hoj, hall⟩ := mem_ready.1 hj
      have hap := hfree j oj hoj hji hjun (not_on_of_ready hj hoj hr)
      have hfree' : ∀ k ok, ops[k]? = some ok → k ≠ i → (listed.setIfInBounds j true).getD k true = false →
          (∀ e ∈ ok.after, Region.binds .any e = true → e.on ≠ i) → oi.apart ops ok = true := fun k ok hk hki hun hno => by
        refine hfree k ok hk hki ?_ hno
        by_cases hjk : j = k
        · subst hjk; exact hjun
        · rw [getD_set_ne true hjk] at hun; exact hun
      have hri : i ∈ Region.ready .any ops (listed.setIfInBounds j true) := ready_mono hr (Ne.symm hji)
      have hsi : ∀ cs b, oi.op ≠ .select cs b := fun cs b => noSD_select hsd i oi cs b hi
      have hsj : ∀ cs b, oj.op ≠ .select cs b := fun cs b => noSD_select hsd j oj cs b hoj
      obtain ⟨g1, g2, _⟩ := Oper.apart_spec hap
      rcases h1 with ⟨o', u, ho', hyj, h1⟩ | h1
      · rw [hoj] at ho'; cases ho'
        refine .inl ⟨oj, u, hoj, hyj.before_other hsj hap, ih _ _ _ hfree' (hdc.step hj) hri (hy.put_other hsi hap u) ?_⟩
        rw [Array.setIfInBounds_comm _ _ hji, ← Act.put_comm a v u g2]
        exact h1
      · refine .inr (wpOpIn_mono (fun a' w' h3 => ?_) (wpOpIn_put' hF hi hoj hsd hap hy h1))
        obtain ⟨hy3, hS3, H3⟩ := h3
        exact ⟨hS3, ih (listed.setIfInBounds j true) a' w' hfree' (hdc.step hj) hri (hy3.at fun hs => hS3 (needS_of hdc hr hj (Ne.symm hji) hi hoj hs)) (by rw [Array.setIfInBounds_comm _ _ hji]; exact H3)⟩
/-- A way that the kernel has found to go through all orders serves. -/
theorem HL.sound (hF : ∀ f, F.fn f) (hsd : noSD ops = true) : ∀ (t : Way) (fuel : Nat) (listed : Array Bool) (a : Act) (w : World), DC ops listed → t.depth ≤ fuel → t.ok ops listed = true → HL F n P ops N S t a w → AnyH F n P ops N S fuel listed a w := by
  intro t
  induction t with
  | done =>
    intro fuel listed a w _ _ hok h
    have hr : Region.ready .any ops listed = [] := by simpa [Way.ok] using hok
    cases fuel with
    | zero => exact ⟨hr, h⟩
    | succ k => exact ⟨fun _ => h, by rw [hr]; simp⟩
  | op i t ih =>
    intro fuel listed a w hdc hd hok h
    cases fuel with
    | zero => simp [Way.depth] at hd
    | succ k =>
    have hd' : t.depth ≤ k := by simp [Way.depth] at hd; omega
    simp only [Way.ok, Bool.and_eq_true, Bool.or_eq_true, Bool.not_eq_true', beq_iff_eq] at hok
    obtain ⟨hok1, hok2⟩ := hok
    rcases h with ⟨o, v, ho, hy, h⟩ | ⟨hl, h⟩
    · rcases hok1 with hr | ⟨⟨_, hc⟩, hf⟩
      · refine ⟨fun h0 => (by rw [hr] at h0; cases h0), fun j hj => ?_⟩
        rw [hr] at hj; obtain rfl := List.mem_singleton.1 hj
        exact .inl ⟨o, v, ho, hy, ih k _ _ _ (hdc.step (hr ▸ List.mem_singleton.2 rfl)) hd' hok2 h⟩
      · exact anyH_first hF hsd ho k listed a w (Region.free_spec ho hf) hdc (by simpa using hc) hy (ih k _ _ _ (hdc.step (by simpa using hc)) hd' hok2 h)
    · rcases hok1 with hr | ⟨⟨hnl, _⟩, _⟩
      · refine ⟨fun h0 => (by rw [hr] at h0; cases h0), fun j hj => ?_⟩
        rw [hr] at hj; obtain rfl := List.mem_singleton.1 hj
        exact .inr (wpOpIn_mono (fun a' w' h3 => ⟨h3.1, ih k _ _ _ (hdc.step (hr ▸ List.mem_singleton.2 rfl)) hd' hok2 h3.2⟩) h)
      · rw [hl] at hnl; cases hnl
  | two i t j u iht ihu =>
    intro fuel listed a w hdc hd hok h
    cases fuel with
    | zero => simp [Way.depth] at hd
    | succ k =>
    simp only [Way.depth] at hd
    simp only [Way.ok, Bool.and_eq_true, beq_iff_eq] at hok
    obtain ⟨⟨hr, hok1⟩, hok2⟩ := hok
    refine ⟨fun h0 => (by rw [hr] at h0; cases h0), fun x hx => ?_⟩
    rw [hr] at hx
    simp only [List.mem_cons, List.not_mem_nil, or_false] at hx
    rcases hx with rfl | rfl
    · exact .inr (wpOpIn_mono (fun a' w' h3 => ⟨h3.1, iht k _ _ _ (hdc.step (by rw [hr]; simp)) (by omega) hok1 h3.2⟩) h.1)
    · exact .inr (wpOpIn_mono (fun a' w' h3 => ⟨h3.1, ihu k _ _ _ (hdc.step (by rw [hr]; simp)) (by omega) hok2 h3.2⟩) h.2)
/-- **A region that draws, by one walk.** -/
theorem wpIn_draw {Q : Exit → Act → World → Prop} {id : Nat} {a : Act} {w : World} (hF : ∀ f, F.fn f) (t : Way) (S : World → Prop) (hm : P.follows .mixedOrders = true)
    (hchk : (noSD ops && decide (t.depth ≤ ops.size) && t.ok ops (Array.replicate ops.size false)) = true)
    (h : HL F n P ops (Q .normal) S t a w.drew) : (Code.region id ops true).wpIn F n P Q a w := by
  simp only [Bool.and_eq_true, decide_eq_true_eq] at hchk
  obtain ⟨⟨h1, h2⟩, h3⟩ := hchk
  refine Go.wpIn_mono (wpIn_region_any hm (any_of_anyH hF h1 _ _ _ _ (HL.sound hF h1 t _ _ _ _ (fun k o _ hk => by rw [Array.getD_eq_getD_getElem?, Array.getElem?_replicate] at hk; split at hk <;> simp at hk) h2 h3 h))) ?_
  intro e a' w' hq
  cases e <;> first | exact hq | exact hq.elim
/-- number i of a list of operations (it reckons by rfl) -/
def nth : List Oper → Nat → Option Oper
  | [], _ => none
  | o :: _, 0 => some o
  | _ :: l, i + 1 => nth l i
theorem nth_eq : ∀ (l : List Oper) (i : Nat), nth l i = l[i]?
  | [], _ => rfl
  | _ :: _, 0 => rfl
  | _ :: l, i + 1 => nth_eq l i
theorem nth_get (l : List Oper) (i : Nat) (o : Oper) (h : nth l i = some o) : l.toArray[i]? = some o := by rw [List.getElem?_toArray, ← nth_eq]; exact h
def chk (l : List Oper) (t : Way) : Bool := noSD l.toArray && decide (t.depth ≤ l.toArray.size) && t.ok l.toArray (Array.replicate l.toArray.size false)
variable {l : List Oper}
theorem wpIn_drawl {Q : Exit → Act → World → Prop} {id : Nat} {a : Act} {w : World} (hF : ∀ f, F.fn f) (t : Way) (S : World → Prop) (hm : P.follows .mixedOrders = true)
    (hchk : chk l t = true) (h : HL F n P l.toArray (Q .normal) S t a w.drew) : (Code.region id l.toArray true).wpIn F n P Q a w := wpIn_draw hF t S hm hchk h
theorem wp_draw {Q : Exit → Act → World → Prop} {id : Nat} {a : Act} {w : World} (t : Way) (S : World → Prop) (hm : P.follows .mixedOrders = true)
    (hchk : chk l t = true) (h : HL Fence.wide 0 P l.toArray (Q .normal) S t a w.drew) : (Code.region id l.toArray true).wp P Q a w :=
  wpIn_wide.1 (wpIn_draw (fun _ => trivial) t S hm hchk h)
/-- the world behind a draw -/
theorem drew_as {w : World} {p : World → Prop} (h : ∀ w1, Ost w w1 → w1.heap = w.heap → (∀ b o, w1.cell? ⟨b, o, none⟩ = w.cell? ⟨b, o, none⟩) → (∀ b o, w1.frozen? ⟨b, o, none⟩ = w.frozen? ⟨b, o, none⟩) → p w1) : p w.drew :=
  h _ ⟨rfl, rfl⟩ rfl (fun _ _ => rfl) (fun _ _ => rfl)
/-- with S: what stood at the region's beginning stands -/
theorem wp_drawE {Q : Exit → Act → World → Prop} {id : Nat} {a : Act} {w : World} (t : Way) (hm : P.follows .mixedOrders = true) (hchk : chk l t = true)
    (h : ∀ w1, w1.heap = w.heap → (∀ b o, w1.cell? ⟨b, o, none⟩ = w.cell? ⟨b, o, none⟩) → (∀ b o, w1.frozen? ⟨b, o, none⟩ = w.frozen? ⟨b, o, none⟩) → Ext w w1 → HL Fence.wide 0 P l.toArray (Q .normal) (Ext w) t a w1) : (Code.region id l.toArray true).wp P Q a w :=
  wp_draw t _ hm hchk (drew_as (p := fun w1 => HL Fence.wide 0 P l.toArray (Q .normal) (Ext w) t a w1) fun w1 h0 h1 h2 h3 => h w1 h1 h2 h3 ⟨by rw [h1]; exact Nat.le_refl _, fun _ _ _ => by rw [h1], h0⟩)
theorem wp_drawK {Q : Exit → Act → World → Prop} {id : Nat} {a : Act} {w : World} (F : Nat → Prop) (t : Way) (hm : P.follows .mixedOrders = true) (hchk : chk l t = true)
    (h : ∀ w1, w1.heap = w.heap → (∀ b o, w1.cell? ⟨b, o, none⟩ = w.cell? ⟨b, o, none⟩) → (∀ b o, w1.frozen? ⟨b, o, none⟩ = w.frozen? ⟨b, o, none⟩) → Keeps F w w1 → HL Fence.wide 0 P l.toArray (Q .normal) (Keeps F w) t a w1) : (Code.region id l.toArray true).wp P Q a w :=
  wp_draw t _ hm hchk (drew_as (p := fun w1 => HL Fence.wide 0 P l.toArray (Q .normal) (Keeps F w) t a w1) fun w1 h0 h1 h2 h3 => h w1 h1 h2 h3 ⟨by rw [h1]; exact Nat.le_refl _, fun _ _ _ => by rw [h1], h0⟩)
theorem wpIn_drawE {F : Fence} {n : Nat} (hF : ∀ f, F.fn f) {Q : Exit → Act → World → Prop} {id : Nat} {a : Act} {w : World} (t : Way) (hm : P.follows .mixedOrders = true) (hchk : chk l t = true)
    (h : ∀ w1, w1.heap = w.heap → (∀ b o, w1.cell? ⟨b, o, none⟩ = w.cell? ⟨b, o, none⟩) → (∀ b o, w1.frozen? ⟨b, o, none⟩ = w.frozen? ⟨b, o, none⟩) → Ext w w1 → HL F n P l.toArray (Q .normal) (Ext w) t a w1) : (Code.region id l.toArray true).wpIn F n P Q a w :=
  wpIn_drawl hF t _ hm hchk (drew_as (p := fun w1 => HL F n P l.toArray (Q .normal) (Ext w) t a w1) fun w1 h0 h1 h2 h3 => h w1 h1 h2 h3 ⟨by rw [h1]; exact Nat.le_refl _, fun _ _ _ => by rw [h1], h0⟩)
theorem wpIn_drawK {F : Fence} {n : Nat} (hF : ∀ f, F.fn f) {Q : Exit → Act → World → Prop} {id : Nat} {a : Act} {w : World} (G : Nat → Prop) (t : Way) (hm : P.follows .mixedOrders = true) (hchk : chk l t = true)
    (h : ∀ w1, w1.heap = w.heap → (∀ b o, w1.cell? ⟨b, o, none⟩ = w.cell? ⟨b, o, none⟩) → (∀ b o, w1.frozen? ⟨b, o, none⟩ = w.frozen? ⟨b, o, none⟩) → Keeps G w w1 → HL F n P l.toArray (Q .normal) (Keeps G w) t a w1) : (Code.region id l.toArray true).wpIn F n P Q a w :=
  wpIn_drawl hF t _ hm hchk (drew_as (p := fun w1 => HL F n P l.toArray (Q .normal) (Keeps G w) t a w1) fun w1 h0 h1 h2 h3 => h w1 h1 h2 h3 ⟨by rw [h1]; exact Nat.le_refl _, fun _ _ _ => by rw [h1], h0⟩)
/-! Its steps -/
theorem hl_done {a : Act} {w : World} (h : N a w) : HL F n P ops N S .done a w := h
theorem hl_q {i : Nat} {t : Way} {o : Oper} {v : Value} {a : Act} {w : World} (ho : nth l i = some o) (hg : Region.wanted o (yielded l.toArray a.tmps) = true) (hs : steady o.op = true)
    (hr : ∀ w, (execOp a.eval o).run P w = .ok (.value v) w) (h : HL F n P l.toArray N S t (a.put o.dst v) w) : HL F n P l.toArray N S (.op i t) a w :=
  .inl ⟨o, v, nth_get l i o ho, .inr (.inl ⟨hg, hs, hr⟩), h⟩
theorem hl_r {i : Nat} {t : Way} {o : Oper} {v : Value} {a : Act} {w : World} (ho : nth l i = some o) (hg : Region.wanted o (yielded l.toArray a.tmps) = true) (hs : steady o.op = false)
    (hr : ∀ w', w' = w ∨ S w' → (execOp a.eval o).run P w' = .ok (.value v) w') (h : HL F n P l.toArray N S t (a.put o.dst v) w) : HL F n P l.toArray N S (.op i t) a w :=
  .inl ⟨o, v, nth_get l i o ho, .inr (.inr ⟨hg, hs, hr w (.inl rfl), fun w' h' => hr w' (.inr h')⟩), h⟩
theorem hl_rS {i : Nat} {t : Way} {o : Oper} {v : Value} {a : Act} {w : World} (ho : nth l i = some o) (hg : Region.wanted o (yielded l.toArray a.tmps) = true) (hs : steady o.op = false) (hS : S w)
    (hr : ∀ w', S w' → (execOp a.eval o).run P w' = .ok (.value v) w') (h : HL F n P l.toArray N S t (a.put o.dst v) w) : HL F n P l.toArray N S (.op i t) a w :=
  hl_r ho hg hs (fun w' h' => h'.elim (fun e => e ▸ hr w hS) (hr w')) h
theorem hl_s {i : Nat} {t : Way} {o : Oper} {a : Act} {w : World} (ho : nth l i = some o) (hg : Region.wanted o (yielded l.toArray a.tmps) = false)
    (h : HL F n P l.toArray N S t (a.put o.dst undef) w) : HL F n P l.toArray N S (.op i t) a w :=
  .inl ⟨o, undef, nth_get l i o ho, .inl ⟨hg, rfl⟩, h⟩
theorem hl_e {i : Nat} {t : Way} {o : Oper} {a : Act} {w : World} (ho : nth l i = some o) (hg : Region.wanted o (yielded l.toArray a.tmps) = true) (hl : loud o.op = true)
    (h : ∀ K : Act → World → Prop, (∀ a' w', (needS l.toArray i = true → S w') ∧ HL F n P l.toArray N S t a' w' → K a' w') → o.wpIn F n P a w K (onlyN N)) : HL F n P l.toArray N S (.op i t) a w :=
  .inr ⟨by simp only [loudAt, nth_get l i o ho]; exact hl, by
    unfold wpOpIn
    simp only [nth_get l i o ho, hg, if_true]
    exact h _ fun _ _ h => h⟩
theorem hl_two {i j : Nat} {t u : Way} {o o' : Oper} {a : Act} {w : World} (ho : nth l i = some o) (ho' : nth l j = some o') (hg : Region.wanted o (yielded l.toArray a.tmps) = true) (hg' : Region.wanted o' (yielded l.toArray a.tmps) = true)
    (h : ∀ K : Act → World → Prop, (∀ a' w', (needS l.toArray i = true → S w') ∧ HL F n P l.toArray N S t a' w' → K a' w') → o.wpIn F n P a w K (onlyN N))
    (h' : ∀ K : Act → World → Prop, (∀ a' w', (needS l.toArray j = true → S w') ∧ HL F n P l.toArray N S u a' w' → K a' w') → o'.wpIn F n P a w K (onlyN N)) : HL F n P l.toArray N S (.two i t j u) a w :=
  ⟨by unfold wpOpIn; simp only [nth_get l i o ho, hg, if_true]; exact h _ fun _ _ h => h, by unfold wpOpIn; simp only [nth_get l j o' ho', hg', if_true]; exact h' _ fun _ _ h => h⟩
end
attribute [irreducible] HL
@[go_sem] theorem wide_depth : Fence.wide.depth = none := rfl
@[go_sem] theorem wide_fn (f : FuncId) : Fence.wide.fn f = True := rfl
end Go.Vc
