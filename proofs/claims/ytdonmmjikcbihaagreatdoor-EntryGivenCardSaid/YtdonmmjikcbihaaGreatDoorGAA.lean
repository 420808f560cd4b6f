/- Parts of the proof, one behind the other: Base, Tree, AvlMem, Range, Own, Data, Shelf, Bld. No condition beyond each theorem's own. -/
import Derived.WalkKit
import Derived.OrdersHeld
import Derived.OrdersIn
import Derived.RangeFuncNested
import Derived.RangeFuncBound
import Derived.RangeFuncCalls
import Derived.RangeFuncLeaves
import Derived.OwnWalkIn
import Derived.TacticsInMore
import Derived.LoopNIn
import Derived.LoopIn
import Derived.Lib.OwnKind
import Derived.Shelf.Strings.Builder1
import Derived.Shelf.Small.Strs
import Derived.Shelf.Strings.Search1
import Derived.Shelf.Strings.Search2
import Derived.Shelf.Strings.Search3
import Derived.Shelf.Strings.Count
import Derived.Shelf.LaysM
import Derived.Shelf.Strings.Shaped
import Derived.Shelf.Strings.Split
import Derived.Shelf.Strings.SplitShaped
import Derived.Shelf.Unicode.DecodeSlow
import Derived.Ground.Names2Prog
import Derived.Shelf.Slices.SearchI
import Derived.Test.YtdonmmjikcbihaaGreatDoorProg
import Derived.Test.YtdonmmjikcbihaaGreatDoorRows
import Derived.Lib.Hide
/- The ground of all proofs here: Keeps (which blocks a call may have changed), a law for regions that draw their order (one walk, the order checked by the kernel), and small laws on worlds. -/
namespace Go.Vc
open Go.RowKit

/-! ### Keeps -/
theorem ne_nil_of_lt {α : Type} {l : List α} {j : Nat} (h : j < l.length) : l ≠ [] := fun e => by rw [e] at h; exact absurd h (Nat.not_lt_zero _)
/-- nothing was asked of the machine outside, nothing printed -/
abbrev Ost (w w' : World) : Prop := w'.os = w.os ∧ w'.output = w.output
theorem Ost.trans {a b c : World} (h : Ost a b) (k : Ost b c) : Ost a c := ⟨k.1.trans h.1, k.2.trans h.2⟩
/-- Every block that was there and is not of F is as it was; none has gone. -/
structure Keeps (F : Nat → Prop) (w w' : World) : Prop where
  size : w.heap.size ≤ w'.heap.size
  same : ∀ b, b < w.heap.size → ¬ F b → w'.heap[b]? = w.heap[b]?
  ost : Ost w w'
/-- no block -/
def Non : Nat → Prop := fun _ => False
abbrev Ext (w w' : World) : Prop := Keeps Non w w'
theorem Keeps.refl (F : Nat → Prop) (w : World) : Keeps F w w := ⟨Nat.le_refl _, fun _ _ _ => rfl, rfl, rfl⟩
theorem Keeps.trans {F : Nat → Prop} {a b c : World} (h : Keeps F a b) (k : Keeps F b c) : Keeps F a c :=
  ⟨Nat.le_trans h.size k.size, fun i hi hf => (k.same i (Nat.lt_of_lt_of_le hi h.size) hf).trans (h.same i hi hf), h.ost.trans k.ost⟩
theorem Keeps.mono {F G : Nat → Prop} {a b : World} (h : Keeps F a b) (hFG : ∀ i, i < a.heap.size → F i → G i) : Keeps G a b :=
  ⟨h.size, fun i hi hg => h.same i hi fun hf => hg (hFG i hi hf), h.ost⟩
theorem Ext.keeps {F : Nat → Prop} {a b : World} (h : Ext a b) : Keeps F a b := h.mono fun _ _ hf => hf.elim
theorem Ext.same {a b : World} (h : Ext a b) {i : Nat} (hi : i < a.heap.size) : b.heap[i]? = a.heap[i]? := Keeps.same h i hi fun hf => hf
/-- two calls, one behind the other: what the second may change is of the first's, or new -/
theorem Keeps.andThen {F G : Nat → Prop} {a b c : World} (h : Keeps F a b) (k : Keeps G b c) (hG : ∀ x, x < a.heap.size → G x → F x) : Keeps F a c :=
  ⟨Nat.le_trans h.size k.size, fun i hi hf => (k.same i (Nat.lt_of_lt_of_le hi h.size) fun hg => hf (hG i hi hg)).trans (h.same i hi hf), h.ost.trans k.ost⟩
theorem Keeps.drew {F : Nat → Prop} {a b : World} (h : Keeps F a b) : Keeps F a b.drew := ⟨h.size, h.same, h.ost⟩
theorem Keeps.alloc {F : Nat → Prop} {a b : World} (h : Keeps F a b) (o : Obj) : Keeps F a (b.alloc o) :=
  h.trans ⟨by simp, fun i hi _ => Below.heap_alloc b o i hi, rfl, rfl⟩
theorem Keeps.setCell {F : Nat → Prop} {a b : World} (h : Keeps F a b) {p : Addr} (hp : p.block < a.heap.size → F p.block) (v : Value) : Keeps F a (b.setCell p v) :=
  ⟨by simpa using h.size, fun i hi hf => (Below.heap_setCell b p v i (fun e => hf (e ▸ hp (e ▸ hi)))).trans (h.same i hi hf), h.ost⟩
theorem Keeps.cell {F : Nat → Prop} {w w' : World} (h : Keeps F w w') {a : Addr} (hb : a.block < w.heap.size) (hf : ¬ F a.block) : w'.cell? a = w.cell? a := World.cell?_of_block (w := w) (h.same a.block hb hf)
theorem Keeps.froz {F : Nat → Prop} {w w' : World} (h : Keeps F w w') {a : Addr} (hb : a.block < w.heap.size) (hf : ¬ F a.block) : w'.frozen? a = w.frozen? a := World.frozen?_of_block (w := w) (h.same a.block hb hf)
/-- The rules for the walk: a cell that was there, of a block that may not have changed, reads as it did. -/
theorem Keeps.cells {F : Nat → Prop} {w w' : World} (h : Keeps F w w') : ∀ b o, (w.cell? ⟨b, o, none⟩).isSome = true → ¬ F b → w'.cell? ⟨b, o, none⟩ = w.cell? ⟨b, o, none⟩ := fun b o hs hf => by
  obtain ⟨v, hv⟩ := Option.isSome_iff_exists.1 hs
  exact h.cell (a := ⟨b, o, none⟩) (World.block_lt_of_cell? w _ hv) hf
theorem Keeps.frozs {F : Nat → Prop} {w w' : World} (h : Keeps F w w') : ∀ b o, b < w.heap.size → ¬ F b → w'.frozen? ⟨b, o, none⟩ = w.frozen? ⟨b, o, none⟩ := fun b o hb hf => h.froz (a := ⟨b, o, none⟩) hb hf
theorem Ext.cells {w w' : World} (h : Ext w w') : ∀ b o, (w.cell? ⟨b, o, none⟩).isSome = true → w'.cell? ⟨b, o, none⟩ = w.cell? ⟨b, o, none⟩ := fun b o hs => Keeps.cells h b o hs fun hf => hf
theorem Ext.frozs {w w' : World} (h : Ext w w') : ∀ b o, b < w.heap.size → w'.frozen? ⟨b, o, none⟩ = w.frozen? ⟨b, o, none⟩ := fun b o hb => Keeps.frozs h b o hb fun hf => hf

/-! ### A region that draws: one walk -/
section
variable {F : Fence} {n : Nat} {P : Program} {ops : Array Oper} {Q : Exit → Act → World → Prop} {S : World → Prop}
/-- Kinds of operations that may change the world, or call. -/
def loud : Op → Bool
  | .alloc _ | .box .. | .buildSlice .. | .insert .. | .store .. | .ready _ | .makeInterface .. | .makeFunc .. | .makeMap .. | .makeChan .. | .makeSlice .. | .mapUpdate .. | .mapEntry .. | .entryStore .. | .range .. | .next .. | .go _ | .defer _ | .panic _ | .send .. | .recv .. | .select .. => true
  | .call { callee := .builtin b, .. } => match b with | .len | .cap | .max | .min => false | _ => true
  | .call _ => true
  | _ => false
/-- An order of a region's operations, told by their numbers; 'two': either may come next. -/
inductive Way where
  | done
  | op (i : Nat) (t : Way)
  | two (i : Nat) (t : Way) (j : Nat) (u : Way)
def Way.isDone : Way → Bool | .done => true | _ => false
/-- one way of a list of numbers -/
def way : List Nat → Way | [] => .done | i :: l => .op i (way l)
def loudAt (ops : Array Oper) (i : Nat) : Bool := match ops[i]? with | some o => loud o.op | none => true
/-- Is it a way through all orders? -/
def Way.ok (ops : Array Oper) : Way → Array Bool → Bool
  | .done, listed => (Region.ready .any ops listed).isEmpty
  | .op i t, listed => (Region.ready .any ops listed == [i] || (!loudAt ops i && (Region.ready .any ops listed).contains i && Region.free .any ops listed i)) && t.ok ops (listed.setIfInBounds i true)
  | .two i t j u, listed => Region.ready .any ops listed == [i, j] && t.ok ops (listed.setIfInBounds i true) && u.ok ops (listed.setIfInBounds j true)

def Way.depth : Way → Nat
  | .done => 0
  | .op _ t => t.depth + 1
  | .two _ t _ u => max t.depth u.depth + 1
/-- no select, no defer -/
def noSD (ops : Array Oper) : Bool := ops.all fun o => match o.op with | .select .. | .defer _ => false | _ => true
theorem noSD_select (h : noSD ops = true) (j : Nat) (o : Oper) (cs : Array SelectCase) (b : Bool) (ho : ops[j]? = some o) : o.op ≠ .select cs b := fun e => by
  have := Array.all_eq_true_iff_forall_mem.1 h o (Array.mem_of_getElem? ho)
  simp [e] at this
theorem noSD_defer (h : noSD ops = true) (j : Nat) (o : Oper) (c : Call) (ho : ops[j]? = some o) : o.op ≠ .defer c := fun e => by
  have := Array.all_eq_true_iff_forall_mem.1 h o (Array.mem_of_getElem? ho)
  simp [e] at this
/-- the post of a region that can only end normally -/
def onlyN (N : Act → World → Prop) : Exit → Act → World → Prop
  | .normal, a, w => N a w
  | _, _, _ => False

/-- what it yields hangs on no world -/
def steady : Op → Bool
  | .fieldAddr t _ f => !(t == 0 && f == 1)
  | .move _ | .assign _ | .pick .. | .build .. | .nilCheck _ | .binOp .. | .unOp .. | .field .. | .indexAddr .. | .index .. | .extract .. | .slice .. => true
  | .call { callee := .builtin .max, .. } | .call { callee := .builtin .min, .. } => true
  | _ => false
/-- of each operation the set of those that stand ahead of it, as bits -/
def bmask (acc : List Nat) (o : Oper) : Nat := o.after.toList.foldl (fun s e => if Region.binds .any e then s ||| 2 ^ e.on ||| acc.getD e.on 0 else s) 0
def masks : List Oper → List Nat → List Nat
  | [], acc => acc
  | o :: l, acc => masks l (acc ++ [bmask acc o])
/-- a reading operation that may come on either side of number j -/
def needS (ops : Array Oper) (j : Nat) : Bool :=
  let m := masks ops.toList []
  (List.range ops.size).any fun i => i != j && (match ops[i]? with | some oi => !steady oi.op | none => false) && !(m.getD i 0).testBit j && !(m.getD j 0).testBit i
/-- what stands ahead of what is listed is listed -/
def DC (ops : Array Oper) (listed : Array Bool) : Prop := ∀ k o, ops[k]? = some o → listed.getD k false = true → ∀ e ∈ o.after, Region.binds .any e = true → listed.getD e.on false = true
theorem bmask_bit (acc : List Nat) (o : Oper) (j : Nat) (h : (bmask acc o).testBit j = true) : ∃ e ∈ o.after, Region.binds .any e = true ∧ (j = e.on ∨ (acc.getD e.on 0).testBit j = true) := by
  have key : ∀ (l : List Edge) (s : Nat), (l.foldl (fun s e => if Region.binds .any e then s ||| 2 ^ e.on ||| acc.getD e.on 0 else s) s).testBit j = true → s.testBit j = true ∨ ∃ e ∈ l, Region.binds .any e = true ∧ (j = e.on ∨ (acc.getD e.on 0).testBit j = true) := by
    intro l
    induction l with
    | nil => exact fun s h => .inl h
    | cons e l ih =>
      intro s h
      rw [List.foldl_cons] at h
      rcases ih _ h with h | ⟨e', he', h⟩
      · split at h
        · rename_i hb
          simp only [Nat.testBit_or, Bool.or_eq_true] at h
          rcases h with (h | h) | h
          · exact .inl h
          · exact .inr ⟨e, by simp, hb, .inl (by rw [Nat.testBit_two_pow] at h; exact (by simpa using h : e.on = j).symm)⟩
          · exact .inr ⟨e, by simp, hb, .inr h⟩
        · exact .inl h
      · exact .inr ⟨e', by simp [he'], h⟩
  rcases key _ _ h with h | ⟨e, he, h⟩
  · simp at h
  · exact ⟨e, by simpa using he, h⟩
theorem masks_spec (ops : Array Oper) (listed : Array Bool) (hdc : DC ops listed) : ∀ (l : List Oper) (acc : List Nat), (∀ i, l[i]? = ops[acc.length + i]?) →
    (∀ (i m : Nat), acc[i]? = some m → ∀ (o : Oper), ops[i]? = some o → (∀ e ∈ o.after, Region.binds .any e = true → listed.getD e.on false = true) → ∀ j, m.testBit j = true → listed.getD j false = true) →
    ∀ (i m : Nat), (masks l acc)[i]? = some m → ∀ (o : Oper), ops[i]? = some o → (∀ e ∈ o.after, Region.binds .any e = true → listed.getD e.on false = true) → ∀ j, m.testBit j = true → listed.getD j false = true := by
  intro l
  induction l with
  | nil => exact fun acc _ h => h
  | cons o l ih =>
    intro acc hl h
    refine ih _ (fun i => by have := hl (i + 1); simp only [List.getElem?_cons_succ] at this; rw [this, List.length_append, List.length_singleton, Nat.add_assoc, Nat.add_comm 1 i]) ?_
    intro i m hm o' ho' hall j hj
    rw [List.getElem?_append] at hm
    split at hm
    · exact h i m hm o' ho' hall j hj
    · have hi : i = acc.length := by
        have := (List.getElem?_eq_some_iff.1 hm).1
        simp at this; omega
      subst hi
      simp only [Nat.sub_self, List.getElem?_cons_zero, Option.some.injEq] at hm
      subst hm
      have h0 := hl 0
      simp only [List.getElem?_cons_zero, Nat.add_zero] at h0
      rw [ho'] at h0; cases h0
      obtain ⟨e, he, hb, hj⟩ := bmask_bit acc o j hj
      have hle := hall e he hb
      rcases hj with rfl | hj
      · exact hle
      · cases hm2 : acc[e.on]? with
        | none => rw [List.getD_eq_getElem?_getD, hm2] at hj; simp at hj
        | some m2 =>
          rw [List.getD_eq_getElem?_getD, hm2] at hj
          cases hoe : ops[e.on]? with
          | none =>
            have h1 := (List.getElem?_eq_some_iff.1 hm2).1
            have h2 := (Array.getElem?_eq_some_iff.1 ho').1
            have := Array.getElem?_eq_none_iff.1 hoe
            omega
          | some oe => exact h e.on m2 hm2 oe hoe (hdc e.on oe hoe hle) j hj
/-- In state a at w number o yields v; and so it does at whatever world it may be put off to. -/
def Yld (P : Program) (ops : Array Oper) (S : World → Prop) (o : Oper) (v : Value) (a : Act) (w : World) : Prop :=
  (Region.wanted o (yielded ops a.tmps) = false ∧ v = undef) ∨
  (Region.wanted o (yielded ops a.tmps) = true ∧ steady o.op = true ∧ ∀ w, (execOp a.eval o).run P w = .ok (.value v) w) ∨
  (Region.wanted o (yielded ops a.tmps) = true ∧ steady o.op = false ∧ (execOp a.eval o).run P w = .ok (.value v) w ∧ ∀ w', S w' → (execOp a.eval o).run P w' = .ok (.value v) w')
theorem Yld.at {o : Oper} {v : Value} {a : Act} {w w' : World} (h : Yld P ops S o v a w) (hS : steady o.op = false → S w') : Yld P ops S o v a w' := by
  rcases h with h | ⟨h1, h2, h3⟩ | ⟨h1, h2, h3, h4⟩
  · exact .inl h
  · exact .inr (.inl ⟨h1, h2, h3⟩)
  · exact .inr (.inr ⟨h1, h2, h4 w' (hS h2), h4⟩)
theorem Yld.of_same {o : Oper} {v : Value} {a a' : Act} {w : World} (hy : Yld P ops S o v a w) (he : execOp a'.eval o = execOp a.eval o)
    (hw : Region.wanted o (yielded ops a'.tmps) = Region.wanted o (yielded ops a.tmps)) : Yld P ops S o v a' w := by
  unfold Yld at *
  rw [he, hw]
  exact hy
/-- The walk along a way. -/
def HL (F : Fence) (n : Nat) (P : Program) (ops : Array Oper) (N : Act → World → Prop) (S : World → Prop) : Way → Act → World → Prop
  | .done, a, w => N a w
  | .op i t, a, w =>
      (∃ o v, ops[i]? = some o ∧ Yld P ops S o v a w ∧ HL F n P ops N S t (a.put o.dst v) w) ∨
      (loudAt ops i = true ∧ wpOpIn F n P ops (onlyN N) i (fun a' w' => (needS ops i = true → S w') ∧ HL F n P ops N S t a' w') a w)
  | .two i t j u, a, w =>
      wpOpIn F n P ops (onlyN N) i (fun a' w' => (needS ops i = true → S w') ∧ HL F n P ops N S t a' w') a w ∧
      wpOpIn F n P ops (onlyN N) j (fun a' w' => (needS ops j = true → S w') ∧ HL F n P ops N S u a' w') a w

/-- Whatever order is picked, S holding behind each operation on whose other side a reading one may come. -/
def AnyH (F : Fence) (n : Nat) (P : Program) (ops : Array Oper) (N : Act → World → Prop) (S : World → Prop) : Nat → Array Bool → Act → World → Prop
  | 0, listed, a, w => Region.ready .any ops listed = [] ∧ N a w
  | fuel + 1, listed, a, w =>
    (Region.ready .any ops listed = [] → N a w) ∧
    ∀ i ∈ Region.ready .any ops listed, (∃ o v, ops[i]? = some o ∧ Yld P ops S o v a w ∧ AnyH F n P ops N S fuel (listed.setIfInBounds i true) (a.put o.dst v) w) ∨
      wpOpIn F n P ops (onlyN N) i (fun a' w' => (needS ops i = true → S w') ∧ AnyH F n P ops N S fuel (listed.setIfInBounds i true) a' w') a w
variable {N : Act → World → Prop}
theorem Yld.wpOpIn' (hF : ∀ f, F.fn f) (hd : ∀ (j : Nat) (o : Oper) (c : Call), ops[j]? = some o → o.op ≠ .defer c) {i : Nat} {o : Oper} {v : Value} {a : Act} {w : World} (hi : ops[i]? = some o) (hy : Yld P ops S o v a w)
    {K : Act → World → Prop} (h : K (a.put o.dst v) w) : wpOpIn F n P ops (onlyN N) i K a w := by
  have go : ∀ v, Region.wanted o (yielded ops a.tmps) = true → (execOp a.eval o).run P w = .ok (.value v) w → K (a.put o.dst v) w → wpOpIn F n P ops (onlyN N) i K a w := fun v hw hv h => by
    unfold wpOpIn
    simp only [hi, hw, if_true, Oper.wpIn]
    rw [Oper.semAt_eq _ _ _ (fun c => hd i o c hi), hv]
    exact ⟨fun f _ => hF f, h⟩
  rcases hy with ⟨hw, rfl⟩ | ⟨hw, _, hv⟩ | ⟨hw, _, hv, _⟩
  · unfold wpOpIn
    simp only [hi, hw, Bool.false_eq_true, if_false]; exact ⟨fun f _ => hF f, h⟩
  · exact go v hw (hv w) h
  · exact go v hw hv h
theorem any_of_anyH (hF : ∀ f, F.fn f) (hsd : noSD ops = true) : ∀ (fuel : Nat) (listed : Array Bool) (a : Act) (w : World), AnyH F n P ops N S fuel listed a w → wpAnyIn F n P .any ops (onlyN N) fuel listed a w
  | 0, _, _, _, h => h
  | fuel + 1, _, _, _, h => ⟨h.1, fun i hi => by
      rcases h.2 i hi with ⟨o, v, ho, hy, h'⟩ | h'
      · exact hy.wpOpIn' hF (noSD_defer hsd) ho (any_of_anyH hF hsd fuel _ _ _ h')
      · exact wpOpIn_mono (fun a' w' h' => any_of_anyH hF hsd fuel _ a' w' h'.2) h'⟩
theorem Yld.put_other {oi oj : Oper} {v : Value} (hsi : ∀ cs b, oi.op ≠ .select cs b) (hap : oi.apart ops oj = true) {a : Act} {w : World} (hy : Yld P ops S oi v a w) (u : Value) : Yld P ops S oi v (a.put oj.dst u) w :=
  have h3 := (Oper.apart_spec hap).2.2
  hy.of_same (execOp_put oi hsi a oj.dst u h3) (wanted_put oi a oj.dst u h3)
theorem Yld.before_other {oi oj : Oper} {v u : Value} (hsj : ∀ cs b, oj.op ≠ .select cs b) (hap : oi.apart ops oj = true) {a : Act} {w : World} (hy : Yld P ops S oj u (a.put oi.dst v) w) : Yld P ops S oj u a w :=
  have h1 := (Oper.apart_spec hap).1
  hy.of_same (execOp_put oj hsj a oi.dst v h1).symm (wanted_put oj a oi.dst v h1).symm
/-- What number oi yields in whatever world it may be put off to. -/
abbrev Ylds (P : Program) (ops : Array Oper) (S : World → Prop) (o : Oper) (v : Value) (a : Act) (W : World → Prop) : Prop := ∀ w, W w → Yld P ops S o v a w
theorem wpOpIn_put' (hF : ∀ f, F.fn f) {i j : Nat} {oi oj : Oper} {v : Value} (hi : ops[i]? = some oi) (hj : ops[j]? = some oj) (hsd : noSD ops = true) (hap : oi.apart ops oj = true)
    {K : Act → World → Prop} {a : Act} {w w0 : World}
    (hy : Yld P ops S oi v a w0) (h : wpOpIn F n P ops (onlyN N) j K (a.put oi.dst v) w) :
    wpOpIn F n P ops (onlyN N) j (fun a' w' => Yld P ops S oi v a' w0 ∧ K (a'.put oi.dst v) w') a w := by
  obtain ⟨h1, h2, h3⟩ := Oper.apart_spec hap
  have hsi : ∀ cs b, oi.op ≠ .select cs b := fun cs b => noSD_select hsd i oi cs b hi
  have hsj : ∀ cs b, oj.op ≠ .select cs b := fun cs b => noSD_select hsd j oj cs b hj
  have hdj : ∀ c, oj.op ≠ .defer c := fun c => noSD_defer hsd j oj c hj
  have keep : ∀ (a : Act), Yld P ops S oi v a w0 → ∀ u, Yld P ops S oi v (a.put oj.dst u) w0 := fun a hy u => hy.put_other hsi hap u
  have keepD : ∀ d, Yld P ops S oi v { a with defers := d :: a.defers } w0 := fun d => hy.of_same rfl rfl
  unfold wpOpIn at *
  simp only [hj] at *
  rw [wanted_put oj a oi.dst v h1] at h
  split
  · rename_i hw
    simp only [hw, if_true] at h
    unfold Oper.wpIn at *
    refine ⟨fun f _ => hF f, ?_⟩
    have h := h.2
    rw [Oper.semAt_eq _ _ _ hdj, execOp_put oj hsj a oi.dst v h1] at h
    rw [Oper.semAt_eq _ _ _ hdj]
    generalize (execOp a.eval oj).run P w = r at *
    cases r with
    | ok x w' =>
      cases x <;> simp only [Oper.uponIn] at h ⊢
      case value u => exact ⟨keep a hy u, by rw [← Act.put_comm a v u h2]; exact h⟩
      case skip => exact ⟨keep a hy _, by rw [← Act.put_comm a v undef h2]; exact h⟩
      case defer d =>
        refine ⟨keep _ (keepD d) _, ?_⟩
        rw [← Act.put_comm _ v undef h2, ← Act.put_defers]
        exact h
      case enter f args =>
        refine ⟨h.1, CallsIn.mono h.2 fun e w'' he => ?_⟩
        cases e with
        | returned u => exact ⟨keep a hy u, by rw [← Act.put_comm a v u h2]; exact he⟩
        | panicked c => exact he
        | outgrown => exact he
      case row row args => exact ⟨h.1, RowsIn.mono h.2 fun u w'' he => ⟨keep a hy u, by rw [← Act.put_comm a v u h2]; exact he⟩⟩
      case round l f tmps assign body =>
        refine ⟨h.1, RoundIn.mono h.2 fun e w'' he => ?_⟩
        cases e with
        | returned u => exact ⟨keep a hy u, by rw [← Act.put_comm a v u h2]; exact he⟩
        | panicked c => exact he
        | outgrown => exact he
    | halt x w' => cases x <;> simp only [Oper.uponIn] at h ⊢; exact h
  · rename_i hw
    simp only [hw] at h
    exact ⟨fun f _ => hF f, keep a hy _, by rw [← Act.put_comm a v undef h2]; exact h.2⟩
theorem not_on_of_ready {i j : Nat} {oj : Oper} {listed : Array Bool} (hj : j ∈ Region.ready .any ops listed) (hoj : ops[j]? = some oj) (hi : i ∈ Region.ready .any ops listed) :
    ∀ e ∈ oj.after, Region.binds .any e = true → e.on ≠ i := fun e he hb heq => by
  obtain ⟨_, o', ho', hall⟩ := mem_ready.1 hj
  rw [hoj] at ho'; cases ho'
  have h1 := hall e he hb
  have h0 := (mem_ready.1 hi).1
  rw [heq] at h1
  rcases Nat.lt_or_ge i listed.size with h' | h'
  · simp [h'] at h0 h1; rw [h0] at h1; cases h1
  · simp [Array.getElem?_eq_none h'] at h1
theorem ready_bits {i j : Nat} {o : Oper} {listed : Array Bool} (hdc : DC ops listed) (hi : i ∈ Region.ready .any ops listed) (ho : ops[i]? = some o) (hj : j ∈ Region.ready .any ops listed) : ((masks ops.toList []).getD i 0).testBit j = false := by
  obtain ⟨_, o', ho', hall⟩ := mem_ready.1 hi
  rw [ho] at ho'; cases ho'
  cases hb : ((masks ops.toList []).getD i 0).testBit j with
  | false => rfl
  | true =>
    exfalso
    have hl : listed.getD j false = true := by
      cases hm : (masks ops.toList [])[i]? with
      | none => rw [List.getD_eq_getElem?_getD, hm] at hb; simp at hb
      | some m =>
        rw [List.getD_eq_getElem?_getD, hm] at hb
        exact masks_spec ops listed hdc ops.toList [] (fun k => by simp) (fun k m h => by simp at h) i m hm o ho hall j hb
    have h0 := (mem_ready.1 hj).1
    rcases Nat.lt_or_ge j listed.size with h' | h'
    · simp [h'] at h0 hl; rw [h0] at hl; cases hl
    · simp [Array.getElem?_eq_none h'] at hl
theorem needS_of {i j : Nat} {oi oj : Oper} {listed : Array Bool} (hdc : DC ops listed) (hi : i ∈ Region.ready .any ops listed) (hj : j ∈ Region.ready .any ops listed) (hne : i ≠ j) (hoi : ops[i]? = some oi) (hoj : ops[j]? = some oj) (hs : steady oi.op = false) : needS ops j = true := by
  unfold needS
  dsimp only
  rw [List.any_eq_true]
  refine ⟨i, List.mem_range.2 (Array.getElem?_eq_some_iff.1 hoi).1, ?_⟩
  have h1 := ready_bits hdc hi hoi hj
  have h2 := ready_bits hdc hj hoj hi
  rw [h1, h2]
  simp [hoi, hs, hne]
theorem DC.step {i : Nat} {listed : Array Bool} (hdc : DC ops listed) (hi : i ∈ Region.ready .any ops listed) : DC ops (listed.setIfInBounds i true) := by
  intro k o ho hk e he hb
  by_cases hki : k = i
  · subst hki
    obtain ⟨_, o', ho', hall⟩ := mem_ready.1 hi
    rw [ho] at ho'; cases ho'
    exact getD_set_true (hall e he hb)
  · rw [getD_set_ne false (Ne.symm hki)] at hk
    exact getD_set_true (hdc k o ho hk e he hb)
theorem anyH_first (hF : ∀ f, F.fn f) (hsd : noSD ops = true) {i : Nat} {oi : Oper} {v : Value} (hi : ops[i]? = some oi) :
    ∀ (fuel : Nat) (listed : Array Bool) (a : Act) (w : World),
      (∀ j oj, ops[j]? = some oj → j ≠ i → listed.getD j true = false → (∀ e ∈ oj.after, Region.binds .any e = true → e.on ≠ i) → oi.apart ops oj = true) →
      DC ops listed → i ∈ Region.ready .any ops listed → Yld P ops S oi v a w →
      AnyH F n P ops N S fuel (listed.setIfInBounds i true) (a.put oi.dst v) w → AnyH F n P ops N S (fuel + 1) listed a w := by
  intro fuel
  induction fuel with
  | zero =>
    intro listed a w _ _ hr hy H
    refine ⟨fun h => (by rw [h] at hr; cases hr), fun j hj => ?_⟩
    by_cases hji : j = i
    · subst hji; exact .inl ⟨oi, v, hi, hy, H⟩
    · have := ready_mono hj hji
      rw [H.1] at this
      cases this
  | succ fuel ih =>
    intro listed a w hfree hdc hr hy H
    refine ⟨fun h => (by rw [h] at hr; cases hr), fun j hj => ?_⟩
    by_cases hji : j = i
    · subst hji; exact .inl ⟨oi, v, hi, hy, H⟩
    · have h1 := H.2 j (ready_mono hj hji)
      obtain ⟨hjun, oj, hoj, hall⟩ := mem_ready.1 hj
      have hap := hfree j oj hoj hji hjun (not_on_of_ready hj hoj hr)
      have hfree' : ∀ k ok, ops[k]? = some ok → k ≠ i → (listed.setIfInBounds j true).getD k true = false →
          (∀ e ∈ ok.after, Region.binds .any e = true → e.on ≠ i) → oi.apart ops ok = true := fun k ok hk hki hun hno => by
        refine hfree k ok hk hki ?_ hno
        by_cases hjk : j = k
        · subst hjk; exact hjun
        · rw [getD_set_ne true hjk] at hun; exact hun
      have hri : i ∈ Region.ready .any ops (listed.setIfInBounds j true) := ready_mono hr (Ne.symm hji)
      have hsi : ∀ cs b, oi.op ≠ .select cs b := fun cs b => noSD_select hsd i oi cs b hi
      have hsj : ∀ cs b, oj.op ≠ .select cs b := fun cs b => noSD_select hsd j oj cs b hoj
      obtain ⟨g1, g2, _⟩ := Oper.apart_spec hap
      rcases h1 with ⟨o', u, ho', hyj, h1⟩ | h1
      · rw [hoj] at ho'; cases ho'
        refine .inl ⟨oj, u, hoj, hyj.before_other hsj hap, ih _ _ _ hfree' (hdc.step hj) hri (hy.put_other hsi hap u) ?_⟩
        rw [Array.setIfInBounds_comm _ _ hji, ← Act.put_comm a v u g2]
        exact h1
      · refine .inr (wpOpIn_mono (fun a' w' h3 => ?_) (wpOpIn_put' hF hi hoj hsd hap hy h1))
        obtain ⟨hy3, hS3, H3⟩ := h3
        exact ⟨hS3, ih (listed.setIfInBounds j true) a' w' hfree' (hdc.step hj) hri (hy3.at fun hs => hS3 (needS_of hdc hr hj (Ne.symm hji) hi hoj hs)) (by rw [Array.setIfInBounds_comm _ _ hji]; exact H3)⟩
/-- A way that the kernel has found to go through all orders serves. -/
theorem HL.sound (hF : ∀ f, F.fn f) (hsd : noSD ops = true) : ∀ (t : Way) (fuel : Nat) (listed : Array Bool) (a : Act) (w : World), DC ops listed → t.depth ≤ fuel → t.ok ops listed = true → HL F n P ops N S t a w → AnyH F n P ops N S fuel listed a w := by
  intro t
  induction t with
  | done =>
    intro fuel listed a w _ _ hok h
    have hr : Region.ready .any ops listed = [] := by simpa [Way.ok] using hok
    cases fuel with
    | zero => exact ⟨hr, h⟩
    | succ k => exact ⟨fun _ => h, by rw [hr]; simp⟩
  | op i t ih =>
    intro fuel listed a w hdc hd hok h
    cases fuel with
    | zero => simp [Way.depth] at hd
    | succ k =>
    have hd' : t.depth ≤ k := by simp [Way.depth] at hd; omega
    simp only [Way.ok, Bool.and_eq_true, Bool.or_eq_true, Bool.not_eq_true', beq_iff_eq] at hok
    obtain ⟨hok1, hok2⟩ := hok
    rcases h with ⟨o, v, ho, hy, h⟩ | ⟨hl, h⟩
    · rcases hok1 with hr | ⟨⟨_, hc⟩, hf⟩
      · refine ⟨fun h0 => (by rw [hr] at h0; cases h0), fun j hj => ?_⟩
        rw [hr] at hj; obtain rfl := List.mem_singleton.1 hj
        exact .inl ⟨o, v, ho, hy, ih k _ _ _ (hdc.step (hr ▸ List.mem_singleton.2 rfl)) hd' hok2 h⟩
      · exact anyH_first hF hsd ho k listed a w (Region.free_spec ho hf) hdc (by simpa using hc) hy (ih k _ _ _ (hdc.step (by simpa using hc)) hd' hok2 h)
    · rcases hok1 with hr | ⟨⟨hnl, _⟩, _⟩
      · refine ⟨fun h0 => (by rw [hr] at h0; cases h0), fun j hj => ?_⟩
        rw [hr] at hj; obtain rfl := List.mem_singleton.1 hj
        exact .inr (wpOpIn_mono (fun a' w' h3 => ⟨h3.1, ih k _ _ _ (hdc.step (hr ▸ List.mem_singleton.2 rfl)) hd' hok2 h3.2⟩) h)
      · rw [hl] at hnl; cases hnl
  | two i t j u iht ihu =>
    intro fuel listed a w hdc hd hok h
    cases fuel with
    | zero => simp [Way.depth] at hd
    | succ k =>
    simp only [Way.depth] at hd
    simp only [Way.ok, Bool.and_eq_true, beq_iff_eq] at hok
    obtain ⟨⟨hr, hok1⟩, hok2⟩ := hok
    refine ⟨fun h0 => (by rw [hr] at h0; cases h0), fun x hx => ?_⟩
    rw [hr] at hx
    simp only [List.mem_cons, List.not_mem_nil, or_false] at hx
    rcases hx with rfl | rfl
    · exact .inr (wpOpIn_mono (fun a' w' h3 => ⟨h3.1, iht k _ _ _ (hdc.step (by rw [hr]; simp)) (by omega) hok1 h3.2⟩) h.1)
    · exact .inr (wpOpIn_mono (fun a' w' h3 => ⟨h3.1, ihu k _ _ _ (hdc.step (by rw [hr]; simp)) (by omega) hok2 h3.2⟩) h.2)
/-- **A region that draws, by one walk.** -/
theorem wpIn_draw {Q : Exit → Act → World → Prop} {id : Nat} {a : Act} {w : World} (hF : ∀ f, F.fn f) (t : Way) (S : World → Prop) (hm : P.follows .mixedOrders = true)
    (hchk : (noSD ops && decide (t.depth ≤ ops.size) && t.ok ops (Array.replicate ops.size false)) = true)
    (h : HL F n P ops (Q .normal) S t a w.drew) : (Code.region id ops true).wpIn F n P Q a w := by
  simp only [Bool.and_eq_true, decide_eq_true_eq] at hchk
  obtain ⟨⟨h1, h2⟩, h3⟩ := hchk
  refine Go.wpIn_mono (wpIn_region_any hm (any_of_anyH hF h1 _ _ _ _ (HL.sound hF h1 t _ _ _ _ (fun k o _ hk => by rw [Array.getD_eq_getD_getElem?, Array.getElem?_replicate] at hk; split at hk <;> simp at hk) h2 h3 h))) ?_
  intro e a' w' hq
  cases e <;> first | exact hq | exact hq.elim
/-- number i of a list of operations (it reckons by rfl) -/
def nth : List Oper → Nat → Option Oper
  | [], _ => none
  | o :: _, 0 => some o
  | _ :: l, i + 1 => nth l i
theorem nth_eq : ∀ (l : List Oper) (i : Nat), nth l i = l[i]?
  | [], _ => rfl
  | _ :: _, 0 => rfl
  | _ :: l, i + 1 => nth_eq l i
theorem nth_get (l : List Oper) (i : Nat) (o : Oper) (h : nth l i = some o) : l.toArray[i]? = some o := by rw [List.getElem?_toArray, ← nth_eq]; exact h
def chk (l : List Oper) (t : Way) : Bool := noSD l.toArray && decide (t.depth ≤ l.toArray.size) && t.ok l.toArray (Array.replicate l.toArray.size false)
variable {l : List Oper}
theorem wpIn_drawl {Q : Exit → Act → World → Prop} {id : Nat} {a : Act} {w : World} (hF : ∀ f, F.fn f) (t : Way) (S : World → Prop) (hm : P.follows .mixedOrders = true)
    (hchk : chk l t = true) (h : HL F n P l.toArray (Q .normal) S t a w.drew) : (Code.region id l.toArray true).wpIn F n P Q a w := wpIn_draw hF t S hm hchk h
theorem wp_draw {Q : Exit → Act → World → Prop} {id : Nat} {a : Act} {w : World} (t : Way) (S : World → Prop) (hm : P.follows .mixedOrders = true)
    (hchk : chk l t = true) (h : HL Fence.wide 0 P l.toArray (Q .normal) S t a w.drew) : (Code.region id l.toArray true).wp P Q a w :=
  wpIn_wide.1 (wpIn_draw (fun _ => trivial) t S hm hchk h)
/-- the world behind a draw -/
theorem drew_as {w : World} {p : World → Prop} (h : ∀ w1, Ost w w1 → w1.heap = w.heap → (∀ b o, w1.cell? ⟨b, o, none⟩ = w.cell? ⟨b, o, none⟩) → (∀ b o, w1.frozen? ⟨b, o, none⟩ = w.frozen? ⟨b, o, none⟩) → p w1) : p w.drew :=
  h _ ⟨rfl, rfl⟩ rfl (fun _ _ => rfl) (fun _ _ => rfl)
/-- with S: what stood at the region's beginning stands -/
theorem wp_drawE {Q : Exit → Act → World → Prop} {id : Nat} {a : Act} {w : World} (t : Way) (hm : P.follows .mixedOrders = true) (hchk : chk l t = true)
    (h : ∀ w1, w1.heap = w.heap → (∀ b o, w1.cell? ⟨b, o, none⟩ = w.cell? ⟨b, o, none⟩) → (∀ b o, w1.frozen? ⟨b, o, none⟩ = w.frozen? ⟨b, o, none⟩) → Ext w w1 → HL Fence.wide 0 P l.toArray (Q .normal) (Ext w) t a w1) : (Code.region id l.toArray true).wp P Q a w :=
  wp_draw t _ hm hchk (drew_as (p := fun w1 => HL Fence.wide 0 P l.toArray (Q .normal) (Ext w) t a w1) fun w1 h0 h1 h2 h3 => h w1 h1 h2 h3 ⟨by rw [h1]; exact Nat.le_refl _, fun _ _ _ => by rw [h1], h0⟩)
theorem wp_drawK {Q : Exit → Act → World → Prop} {id : Nat} {a : Act} {w : World} (F : Nat → Prop) (t : Way) (hm : P.follows .mixedOrders = true) (hchk : chk l t = true)
    (h : ∀ w1, w1.heap = w.heap → (∀ b o, w1.cell? ⟨b, o, none⟩ = w.cell? ⟨b, o, none⟩) → (∀ b o, w1.frozen? ⟨b, o, none⟩ = w.frozen? ⟨b, o, none⟩) → Keeps F w w1 → HL Fence.wide 0 P l.toArray (Q .normal) (Keeps F w) t a w1) : (Code.region id l.toArray true).wp P Q a w :=
  wp_draw t _ hm hchk (drew_as (p := fun w1 => HL Fence.wide 0 P l.toArray (Q .normal) (Keeps F w) t a w1) fun w1 h0 h1 h2 h3 => h w1 h1 h2 h3 ⟨by rw [h1]; exact Nat.le_refl _, fun _ _ _ => by rw [h1], h0⟩)
theorem wpIn_drawE {F : Fence} {n : Nat} (hF : ∀ f, F.fn f) {Q : Exit → Act → World → Prop} {id : Nat} {a : Act} {w : World} (t : Way) (hm : P.follows .mixedOrders = true) (hchk : chk l t = true)
    (h : ∀ w1, w1.heap = w.heap → (∀ b o, w1.cell? ⟨b, o, none⟩ = w.cell? ⟨b, o, none⟩) → (∀ b o, w1.frozen? ⟨b, o, none⟩ = w.frozen? ⟨b, o, none⟩) → Ext w w1 → HL F n P l.toArray (Q .normal) (Ext w) t a w1) : (Code.region id l.toArray true).wpIn F n P Q a w :=
  wpIn_drawl hF t _ hm hchk (drew_as (p := fun w1 => HL F n P l.toArray (Q .normal) (Ext w) t a w1) fun w1 h0 h1 h2 h3 => h w1 h1 h2 h3 ⟨by rw [h1]; exact Nat.le_refl _, fun _ _ _ => by rw [h1], h0⟩)
theorem wpIn_drawK {F : Fence} {n : Nat} (hF : ∀ f, F.fn f) {Q : Exit → Act → World → Prop} {id : Nat} {a : Act} {w : World} (G : Nat → Prop) (t : Way) (hm : P.follows .mixedOrders = true) (hchk : chk l t = true)
    (h : ∀ w1, w1.heap = w.heap → (∀ b o, w1.cell? ⟨b, o, none⟩ = w.cell? ⟨b, o, none⟩) → (∀ b o, w1.frozen? ⟨b, o, none⟩ = w.frozen? ⟨b, o, none⟩) → Keeps G w w1 → HL F n P l.toArray (Q .normal) (Keeps G w) t a w1) : (Code.region id l.toArray true).wpIn F n P Q a w :=
  wpIn_drawl hF t _ hm hchk (drew_as (p := fun w1 => HL F n P l.toArray (Q .normal) (Keeps G w) t a w1) fun w1 h0 h1 h2 h3 => h w1 h1 h2 h3 ⟨by rw [h1]; exact Nat.le_refl _, fun _ _ _ => by rw [h1], h0⟩)
/-! Its steps -/
theorem hl_done {a : Act} {w : World} (h : N a w) : HL F n P ops N S .done a w := h
theorem hl_q {i : Nat} {t : Way} {o : Oper} {v : Value} {a : Act} {w : World} (ho : nth l i = some o) (hg : Region.wanted o (yielded l.toArray a.tmps) = true) (hs : steady o.op = true)
    (hr : ∀ w, (execOp a.eval o).run P w = .ok (.value v) w) (h : HL F n P l.toArray N S t (a.put o.dst v) w) : HL F n P l.toArray N S (.op i t) a w :=
  .inl ⟨o, v, nth_get l i o ho, .inr (.inl ⟨hg, hs, hr⟩), h⟩
theorem hl_r {i : Nat} {t : Way} {o : Oper} {v : Value} {a : Act} {w : World} (ho : nth l i = some o) (hg : Region.wanted o (yielded l.toArray a.tmps) = true) (hs : steady o.op = false)
    (hr : ∀ w', w' = w ∨ S w' → (execOp a.eval o).run P w' = .ok (.value v) w') (h : HL F n P l.toArray N S t (a.put o.dst v) w) : HL F n P l.toArray N S (.op i t) a w :=
  .inl ⟨o, v, nth_get l i o ho, .inr (.inr ⟨hg, hs, hr w (.inl rfl), fun w' h' => hr w' (.inr h')⟩), h⟩
theorem hl_rS {i : Nat} {t : Way} {o : Oper} {v : Value} {a : Act} {w : World} (ho : nth l i = some o) (hg : Region.wanted o (yielded l.toArray a.tmps) = true) (hs : steady o.op = false) (hS : S w)
    (hr : ∀ w', S w' → (execOp a.eval o).run P w' = .ok (.value v) w') (h : HL F n P l.toArray N S t (a.put o.dst v) w) : HL F n P l.toArray N S (.op i t) a w :=
  hl_r ho hg hs (fun w' h' => h'.elim (fun e => e ▸ hr w hS) (hr w')) h
theorem hl_s {i : Nat} {t : Way} {o : Oper} {a : Act} {w : World} (ho : nth l i = some o) (hg : Region.wanted o (yielded l.toArray a.tmps) = false)
    (h : HL F n P l.toArray N S t (a.put o.dst undef) w) : HL F n P l.toArray N S (.op i t) a w :=
  .inl ⟨o, undef, nth_get l i o ho, .inl ⟨hg, rfl⟩, h⟩
theorem hl_e {i : Nat} {t : Way} {o : Oper} {a : Act} {w : World} (ho : nth l i = some o) (hg : Region.wanted o (yielded l.toArray a.tmps) = true) (hl : loud o.op = true)
    (h : ∀ K : Act → World → Prop, (∀ a' w', (needS l.toArray i = true → S w') ∧ HL F n P l.toArray N S t a' w' → K a' w') → o.wpIn F n P a w K (onlyN N)) : HL F n P l.toArray N S (.op i t) a w :=
  .inr ⟨by simp only [loudAt, nth_get l i o ho]; exact hl, by
    unfold wpOpIn
    simp only [nth_get l i o ho, hg, if_true]
    exact h _ fun _ _ h => h⟩
theorem hl_two {i j : Nat} {t u : Way} {o o' : Oper} {a : Act} {w : World} (ho : nth l i = some o) (ho' : nth l j = some o') (hg : Region.wanted o (yielded l.toArray a.tmps) = true) (hg' : Region.wanted o' (yielded l.toArray a.tmps) = true)
    (h : ∀ K : Act → World → Prop, (∀ a' w', (needS l.toArray i = true → S w') ∧ HL F n P l.toArray N S t a' w' → K a' w') → o.wpIn F n P a w K (onlyN N))
    (h' : ∀ K : Act → World → Prop, (∀ a' w', (needS l.toArray j = true → S w') ∧ HL F n P l.toArray N S u a' w' → K a' w') → o'.wpIn F n P a w K (onlyN N)) : HL F n P l.toArray N S (.two i t j u) a w :=
  ⟨by unfold wpOpIn; simp only [nth_get l i o ho, hg, if_true]; exact h _ fun _ _ h => h, by unfold wpOpIn; simp only [nth_get l j o' ho', hg', if_true]; exact h' _ fun _ _ h => h⟩
end
attribute [irreducible] HL
@[go_sem] theorem wide_depth : Fence.wide.depth = none := rfl
@[go_sem] theorem wide_fn (f : FuncId) : Fence.wide.fn f = True := rfl
end Go.Vc
/- Search trees as ghosts: what the Go trees of package avl are, with the blocks in which their nodes lie; the plain laws (no program here). -/
namespace Go.Vc
/-- a tree: of each node its block, its key, its value, its halves -/
inductive T (κ α : Type) where
  | nil
  | node (b : Nat) (k : κ) (v : α) (l r : T κ α)
namespace T
variable {κ α : Type}
def ht : T κ α → Nat
  | nil => 0
  | node _ _ _ l r => 1 + max l.ht r.ht
def size : T κ α → Nat
  | nil => 0
  | node _ _ _ l r => l.size + r.size + 1
def blocks : T κ α → List Nat
  | nil => []
  | node b _ _ l r => b :: (l.blocks ++ r.blocks)
def toList : T κ α → List (κ × α)
  | nil => []
  | node _ k v l r => l.toList ++ (k, v) :: r.toList
def ptr : T κ α → Option Addr
  | nil => none
  | node b _ _ _ _ => some ⟨b, 0, none⟩
@[simp] theorem ptr_nil : (nil : T κ α).ptr = none := rfl
@[simp] theorem ptr_node (b : Nat) (k : κ) (v : α) (l r : T κ α) : (node b k v l r).ptr = some ⟨b, 0, none⟩ := rfl
/-- how much deeper the upper half is -/
def lean : T κ α → Int
  | nil => 0
  | node _ _ _ l r => (r.ht : Int) - l.ht
def turnLow : T κ α → T κ α
  | node b k v l (node b' k' v' l' r') => node b' k' v' (node b k v l l') r'
  | t => t
def turnHigh : T κ α → T κ α
  | node b k v (node b' k' v' l' r') r => node b' k' v' l' (node b k v r' r)
  | t => t
def level : T κ α → T κ α
  | nil => nil
  | node b k v l r =>
    if (r.ht : Int) - l.ht = 2 then turnLow (node b k v l (if r.lean < 0 then r.turnHigh else r))
    else if (r.ht : Int) - l.ht = -2 then turnHigh (node b k v (if 0 < l.lean then l.turnLow else l) r)
    else node b k v l r
/-- put a key; N: the block of a new node -/
def put (c : κ → κ → Ordering) (N : Nat) (key : κ) (val : α) : T κ α → T κ α × Bool
  | nil => (node N key val nil nil, true)
  | node b k v l r =>
    match c key k with
    | .lt => (level (node b k v (put c N key val l).1 r), (put c N key val l).2)
    | .gt => (level (node b k v l (put c N key val r).1), (put c N key val r).2)
    | .eq => (level (node b k val l r), false)
/-- the least node taken out: what is left; its block, key, value -/
def least : T κ α → T κ α × Option (Nat × κ × α)
  | nil => (nil, none)
  | node b k v nil r => (r, some (b, k, v))
  | node b k v (node b' k' v' l' r') r => (level (node b k v (least (node b' k' v' l' r')).1 r), (least (node b' k' v' l' r')).2)
def drop (c : κ → κ → Ordering) (key : κ) : T κ α → T κ α × Bool
  | nil => (nil, false)
  | node b k v l r =>
    match c key k with
    | .lt => (level (node b k v (drop c key l).1 r), (drop c key l).2)
    | .gt => (level (node b k v l (drop c key r).1), (drop c key r).2)
    | .eq => match r with
      | nil => (l, true)
      | node b' k' v' l' r' =>
        match (least (node b' k' v' l' r')).2 with
        | some (d, kc, vc) => (level (node d kc vc l (least (node b' k' v' l' r')).1), true)
        | none => (l, true)
def find (c : κ → κ → Ordering) (key : κ) : T κ α → Option α
  | nil => none
  | node _ k v l r => match c key k with
    | .lt => find c key l
    | .gt => find c key r
    | .eq => some v
/-- the keys that are not below one, with their values, as 'give' gives them -/
def since (c : κ → κ → Ordering) (fk : κ) : T κ α → List (κ × α)
  | nil => []
  | node _ k v l r => match c k fk with
    | .lt => since c fk r
    | _ => since c fk l ++ (k, v) :: r.toList
theorem drop_lt {c : κ → κ → Ordering} {key : κ} {b : Nat} {k : κ} {v : α} {l r : T κ α} (h : c key k = .lt) : (node b k v l r).drop c key = (level (node b k v (l.drop c key).1 r), (l.drop c key).2) := by
  cases r <;> simp only [drop, h]
theorem drop_gt {c : κ → κ → Ordering} {key : κ} {b : Nat} {k : κ} {v : α} {l r : T κ α} (h : c key k = .gt) : (node b k v l r).drop c key = (level (node b k v l (r.drop c key).1), (r.drop c key).2) := by
  cases r <;> simp only [drop, h]
/-- the order of strings, of numbers -/
def _root_.Go.Vc.cmpS (a b : ByteArray) : Ordering := if Op.bytesLess a.toList b.toList then .lt else if a.toList == b.toList then .eq else .gt
def _root_.Go.Vc.cmpI (a b : Int) : Ordering := if a < b then .lt else if a = b then .eq else .gt
theorem _root_.Go.Vc.cmpS_lt {a b : ByteArray} (h : cmpS a b = .lt) : Op.bytesLess a.toList b.toList = true ∧ True := by
  unfold cmpS at h; split at h
  · exact ⟨by assumption, trivial⟩
  · split at h <;> cases h
theorem _root_.Go.Vc.cmpS_gt {a b : ByteArray} (h : cmpS a b = .gt) : Op.bytesLess a.toList b.toList = false ∧ (a.toList == b.toList) = false := by
  unfold cmpS at h; split at h
  · cases h
  · split at h
    · cases h
    · simp_all
theorem _root_.Go.Vc.cmpS_eq {a b : ByteArray} (h : cmpS a b = .eq) : Op.bytesLess a.toList b.toList = false ∧ (a.toList == b.toList) = true := by
  unfold cmpS at h; split at h
  · cases h
  · split at h
    · simp_all
    · cases h
theorem _root_.Go.Vc.cmpI_lt {a b : Int} (h : cmpI a b = .lt) : a < b ∧ True := by
  unfold cmpI at h; split at h
  · exact ⟨by assumption, trivial⟩
  · split at h <;> cases h
theorem _root_.Go.Vc.cmpI_gt {a b : Int} (h : cmpI a b = .gt) : b < a ∧ True := by
  unfold cmpI at h; split at h
  · cases h
  · split at h
    · cases h
    · exact ⟨by omega, trivial⟩
theorem _root_.Go.Vc.cmpI_eq {a b : Int} (h : cmpI a b = .eq) : ¬ a < b ∧ ¬ b < a := by
  unfold cmpI at h; split at h
  · cases h
  · split at h
    · omega
    · cases h

/-- the same with the other way round: as a search asks (first '!=' with the node's key ahead, then '<') -/
theorem _root_.Go.Vc.cmpS_lt' {a b : ByteArray} (h : cmpS a b = .lt) : Op.bytesLess a.toList b.toList = true ∧ (b.toList == a.toList) = false ∧ (a.toList == b.toList) = false := by
  have h1 := (cmpS_lt h).1
  have hne : ¬ a.toList = b.toList := fun e => by
    rw [e] at h1
    have : ∀ l : List UInt8, Op.bytesLess l l = false := fun l => by induction l with | nil => rfl | cons x l ih => simp [Op.bytesLess, ih]
    rw [this] at h1; cases h1
  exact ⟨h1, by simp [Ne.symm hne], by simp [hne]⟩
theorem _root_.Go.Vc.cmpS_gt' {a b : ByteArray} (h : cmpS a b = .gt) : Op.bytesLess a.toList b.toList = false ∧ (b.toList == a.toList) = false ∧ (a.toList == b.toList) = false := by
  have h1 := cmpS_gt h
  have hne : ¬ a.toList = b.toList := by simpa using h1.2
  exact ⟨h1.1, by simp [Ne.symm hne], h1.2⟩
theorem _root_.Go.Vc.cmpS_eq' {a b : ByteArray} (h : cmpS a b = .eq) : Op.bytesLess a.toList b.toList = false ∧ (b.toList == a.toList) = true ∧ (a.toList == b.toList) = true := by
  have h1 := cmpS_eq h
  have hne : a.toList = b.toList := by simpa using h1.2
  exact ⟨h1.1, by simp [hne], h1.2⟩
theorem _root_.Go.Vc.cmpI_lt' {a b : Int} (h : cmpI a b = .lt) : a < b ∧ (b == a) = false ∧ True := by
  have := (cmpI_lt h).1
  exact ⟨this, by rw [beq_eq_false_iff_ne]; omega, trivial⟩
theorem _root_.Go.Vc.cmpI_gt' {a b : Int} (h : cmpI a b = .gt) : ¬ a < b ∧ (b == a) = false ∧ True := by
  have := (cmpI_gt h).1
  exact ⟨by omega, by rw [beq_eq_false_iff_ne]; omega, trivial⟩
theorem _root_.Go.Vc.cmpI_eq' {a b : Int} (h : cmpI a b = .eq) : ¬ a < b ∧ (b == a) = true ∧ True := by
  have := cmpI_eq h
  exact ⟨this.1, by rw [beq_iff_eq]; omega, trivial⟩
theorem ht_le_size : ∀ t : T κ α, t.ht ≤ t.size
  | nil => Nat.le_refl _
  | node _ _ _ l r => by have := ht_le_size l; have := ht_le_size r; simp only [ht, size]; omega
@[simp] theorem turnLow_toList (t : T κ α) : t.turnLow.toList = t.toList := by
  unfold turnLow; split <;> simp [toList]
@[simp] theorem turnHigh_toList (t : T κ α) : t.turnHigh.toList = t.toList := by
  unfold turnHigh; split <;> simp [toList]
@[simp] theorem level_toList (t : T κ α) : t.level.toList = t.toList := by
  unfold level
  split
  · rfl
  · split
    · rw [turnLow_toList]; simp only [toList]; split <;> simp
    · split
      · rw [turnHigh_toList]; simp only [toList]; split <;> simp
      · rfl
theorem turnLow_size (t : T κ α) : t.turnLow.size = t.size := by unfold turnLow; split <;> simp [size]; omega
theorem turnHigh_size (t : T κ α) : t.turnHigh.size = t.size := by unfold turnHigh; split <;> simp [size]; omega
theorem level_size (t : T κ α) : t.level.size = t.size := by
  unfold level
  split
  · rfl
  · split
    · rw [turnLow_size]; simp only [size]; split <;> simp [turnHigh_size]
    · split
      · rw [turnHigh_size]; simp only [size]; split <;> simp [turnLow_size]
      · rfl
theorem size_toList (t : T κ α) : t.toList.length = t.size := by
  induction t with
  | nil => rfl
  | node b k v l r ihl ihr => simp [toList, size, ihl, ihr]; omega
/-- the blocks of a levelled tree are those of the tree -/
theorem turnLow_perm (t : T κ α) : t.turnLow.blocks.Perm t.blocks := by
  unfold turnLow
  split
  · rename_i b k v l b' k' v' l' r'
    simp only [blocks, List.cons_append, List.append_assoc]
    exact (List.Perm.swap b b' _).trans (List.Perm.cons b (by
      rw [← List.singleton_append, ← List.append_assoc l.blocks]
      have := List.perm_append_comm (l₁ := [b']) (l₂ := l.blocks)
      simpa using this.append_right (l'.blocks ++ r'.blocks)))
  · exact List.Perm.refl _
theorem turnHigh_perm (t : T κ α) : t.turnHigh.blocks.Perm t.blocks := by
  unfold turnHigh
  split
  · rename_i b k v b' k' v' l' r' r
    simp only [blocks, List.cons_append, List.append_assoc]
    exact (List.Perm.cons b' List.perm_middle).trans (List.Perm.swap b b' _)
  · exact List.Perm.refl _
theorem level_perm (t : T κ α) : t.level.blocks.Perm t.blocks := by
  unfold level
  split
  · exact List.Perm.refl _
  · rename_i b k v l r
    split
    · refine (turnLow_perm _).trans ?_
      simp only [blocks]
      split
      · exact List.Perm.cons _ ((turnHigh_perm r).append_left _)
      · exact List.Perm.refl _
    · split
      · refine (turnHigh_perm _).trans ?_
        simp only [blocks]
        split
        · exact List.Perm.cons _ ((turnLow_perm l).append_right _)
        · exact List.Perm.refl _
      · exact List.Perm.refl _
theorem put_size (c : κ → κ → Ordering) (N : Nat) (key : κ) (val : α) (t : T κ α) : (t.put c N key val).1.size = t.size + (if (t.put c N key val).2 then 1 else 0) := by
  induction t with
  | nil => rfl
  | node b k v l r ihl ihr =>
    unfold put
    split <;> simp only [level_size, size, ihl, ihr] <;> (try simp) <;> omega
theorem put_size_le (c : κ → κ → Ordering) (N : Nat) (key : κ) (val : α) (t : T κ α) : (t.put c N key val).1.size ≤ t.size + 1 := by
  rw [put_size]; split <;> omega
theorem put_blocks (c : κ → κ → Ordering) (N : Nat) (key : κ) (val : α) (t : T κ α) : ∀ x ∈ (t.put c N key val).1.blocks, x ∈ t.blocks ∨ x = N := by
  induction t with
  | nil => intro x hx; simp [put, blocks] at hx; exact .inr hx
  | node b k v l r ihl ihr =>
    intro x hx
    unfold put at hx
    split at hx <;> (try simp only at hx) <;> rw [(level_perm _).mem_iff] at hx <;> simp only [blocks, List.mem_cons, List.mem_append] at hx ⊢
    · rcases hx with hx | hx | hx
      · exact .inl (.inl hx)
      · rcases ihl x hx with g | g
        · exact .inl (.inr (.inl g))
        · exact .inr g
      · exact .inl (.inr (.inr hx))
    · rcases hx with hx | hx | hx
      · exact .inl (.inl hx)
      · exact .inl (.inr (.inl hx))
      · rcases ihr x hx with g | g
        · exact .inl (.inr (.inr g))
        · exact .inr g
    · exact .inl hx
theorem least_some (b : Nat) (k : κ) (v : α) (l r : T κ α) : ∃ d kc vc, (least (node b k v l r)).2 = some (d, kc, vc) := by
  induction l generalizing b k v r with
  | nil => exact ⟨b, k, v, rfl⟩
  | node b' k' v' l' r' ihl _ => exact ihl b' k' v' r'
/-- what is left and the least node's block are the blocks -/
theorem least_perm (b : Nat) (k : κ) (v : α) (l r : T κ α) : ∀ d kc vc, (least (node b k v l r)).2 = some (d, kc, vc) → (d :: (least (node b k v l r)).1.blocks).Perm (node b k v l r).blocks := by
  induction l generalizing b k v r with
  | nil =>
    intro d kc vc h
    simp only [least, Option.some.injEq, Prod.mk.injEq] at h
    obtain ⟨rfl, rfl, rfl⟩ := h
    simp [least, blocks]
  | node b' k' v' l' r' ihl _ =>
    intro d kc vc h
    have := ihl b' k' v' r' d kc vc h
    simp only [least]
    refine (List.Perm.cons d (level_perm _)).trans ?_
    simp only [blocks]
    refine (List.Perm.swap b d _).trans (List.Perm.cons b ?_)
    rw [← List.cons_append]
    exact this.append_right _
theorem least_size (b : Nat) (k : κ) (v : α) (l r : T κ α) : (least (node b k v l r)).1.size + 1 = (node b k v l r).size := by
  induction l generalizing b k v r with
  | nil => simp [least, size]
  | node b' k' v' l' r' ihl _ =>
    have := ihl b' k' v' r'
    simp only [least, level_size]
    simp only [size] at this ⊢
    omega
theorem least_toList (b : Nat) (k : κ) (v : α) (l r : T κ α) : ∀ d kc vc, (least (node b k v l r)).2 = some (d, kc, vc) → (kc, vc) :: (least (node b k v l r)).1.toList = (node b k v l r).toList := by
  induction l generalizing b k v r with
  | nil =>
    intro d kc vc h
    simp only [least, Option.some.injEq, Prod.mk.injEq] at h
    obtain ⟨rfl, rfl, rfl⟩ := h
    simp [least, toList]
  | node b' k' v' l' r' ihl _ =>
    intro d kc vc h
    have := ihl b' k' v' r' d kc vc h
    simp only [least, level_toList]
    simp only [toList] at this ⊢
    rw [← List.cons_append, this]
theorem drop_blocks (c : κ → κ → Ordering) (key : κ) (t : T κ α) : ∀ x ∈ (t.drop c key).1.blocks, x ∈ t.blocks := by
  induction t with
  | nil => intro x hx; simp [drop, blocks] at hx
  | node b k v l r ihl ihr =>
    intro x hx
    unfold drop at hx
    split at hx
    · simp only at hx; rw [(level_perm _).mem_iff] at hx; simp only [blocks, List.mem_cons, List.mem_append] at hx ⊢
      rcases hx with hx | hx | hx
      · exact .inl hx
      · exact .inr (.inl (ihl x hx))
      · exact .inr (.inr hx)
    · simp only at hx; rw [(level_perm _).mem_iff] at hx; simp only [blocks, List.mem_cons, List.mem_append] at hx ⊢
      rcases hx with hx | hx | hx
      · exact .inl hx
      · exact .inr (.inl hx)
      · exact .inr (.inr (ihr x hx))
    · cases r with
      | nil => simp only at hx; simp only [blocks, List.mem_cons, List.mem_append]; exact .inr (.inl hx)
      | node b' k' v' l' r' =>
        obtain ⟨d, kc, vc, hd⟩ := least_some b' k' v' l' r'
        have hp := least_perm b' k' v' l' r' d kc vc hd
        simp only [hd] at hx
        rw [(level_perm _).mem_iff] at hx
        simp only [blocks, List.mem_cons, List.mem_append] at hx ⊢
        have hm := fun y => hp.mem_iff (a := y)
        simp only [blocks, List.mem_cons, List.mem_append] at hm
        rcases hx with hx | hx | hx
        · exact .inr (.inr ((hm x).1 (.inl hx)))
        · exact .inr (.inl hx)
        · exact .inr (.inr ((hm x).1 (.inr hx)))
theorem drop_size (c : κ → κ → Ordering) (key : κ) (t : T κ α) : (t.drop c key).1.size + (if (t.drop c key).2 then 1 else 0) = t.size := by
  induction t with
  | nil => rfl
  | node b k v l r ihl ihr =>
    unfold drop
    split
    · simp only [level_size, size]; omega
    · simp only [level_size, size]; omega
    · cases r with
      | nil => simp [size]
      | node b' k' v' l' r' =>
        obtain ⟨d, kc, vc, hd⟩ := least_some b' k' v' l' r'
        have := least_size b' k' v' l' r'
        simp only [hd, level_size]
        simp only [size] at this ⊢
        simp; omega
end T
end Go.Vc
/- Search trees in memory (no program here). -/
namespace Go.Vc
/-- how a node lies in memory: the node type's number, its cells (key, value, low, high, depth) -/
structure Shape (κ α : Type) where
  ty : TypeId
  cells : κ → α → Value → Value → Int → Array Value
  lo : Nat
  hi : Nat
  dep : Nat
  set_lo : ∀ k v l h d x, (cells k v l h d).setIfInBounds lo x = cells k v x h d
  set_hi : ∀ k v l h d x, (cells k v l h d).setIfInBounds hi x = cells k v l x d
  set_dep : ∀ k v l h d (x : Int), (cells k v l h d).setIfInBounds dep (.int .i64 x) = cells k v l h x
variable {κ α : Type} {S : Shape κ α}
/-- the tree lies in the world -/
def At (S : Shape κ α) (w : World) : T κ α → Prop
  | .nil => True
  | .node b k v l r => w.heap[b]? = some (.cells (S.cells k v (.pointer l.ptr) (.pointer r.ptr) ((1 + max l.ht r.ht : Nat) : Int)) S.ty (0, 0)) ∧ At S w l ∧ At S w r ∧ b ∉ l.blocks ∧ b ∉ r.blocks ∧ ∀ x ∈ l.blocks, x ∉ r.blocks
/-- a node whose depth may be out of date -/
def Nd (S : Shape κ α) (w : World) (b : Nat) (k : κ) (v : α) (l r : T κ α) : Prop :=
  (∃ d, w.heap[b]? = some (.cells (S.cells k v (.pointer l.ptr) (.pointer r.ptr) d) S.ty (0, 0))) ∧ At S w l ∧ At S w r ∧ b ∉ l.blocks ∧ b ∉ r.blocks ∧ ∀ x ∈ l.blocks, x ∉ r.blocks
theorem At.nd {w : World} {b : Nat} {k : κ} {v : α} {l r : T κ α} (h : At S w (.node b k v l r)) : Nd S w b k v l r := ⟨⟨_, h.1⟩, h.2⟩
theorem At.frame {w w' : World} : ∀ {t : T κ α}, At S w t → (∀ b ∈ t.blocks, w'.heap[b]? = w.heap[b]?) → At S w' t
  | .nil, _, _ => trivial
  | .node b k v l r, ⟨h1, h2, h3, h4⟩, hs =>
    ⟨(hs b (by simp [T.blocks])).trans h1, At.frame h2 fun x hx => hs x (by simp [T.blocks, hx]), At.frame h3 fun x hx => hs x (by simp [T.blocks, hx]), h4⟩
theorem lt_of_heap {w : World} {b : Nat} {o : Obj} (h : w.heap[b]? = some o) : b < w.heap.size := (Array.getElem?_eq_some_iff.1 h).1
theorem At.lt {w : World} : ∀ {t : T κ α}, At S w t → ∀ b ∈ t.blocks, b < w.heap.size
  | .nil, _, b, hb => by simp [T.blocks] at hb
  | .node b k v l r, ⟨h1, h2, h3, _⟩, x, hx => by
    simp only [T.blocks, List.mem_cons, List.mem_append] at hx
    rcases hx with rfl | hx | hx
    · exact lt_of_heap h1
    · exact At.lt h2 x hx
    · exact At.lt h3 x hx
theorem At.keeps {F : Nat → Prop} {w w' : World} {t : T κ α} (h : At S w t) (hk : Keeps F w w') (hd : ∀ b ∈ t.blocks, ¬ F b) : At S w' t :=
  h.frame fun b hb => hk.same b (h.lt b hb) (hd b hb)
theorem At.ext {w w' : World} {t : T κ α} (h : At S w t) (hk : Ext w w') : At S w' t := h.keeps hk fun _ _ hf => hf
theorem At.heap {w w' : World} {t : T κ α} (h : At S w t) (hh : w'.heap = w.heap) : At S w' t := h.frame fun b _ => by rw [hh]
theorem Nd.heap {w w' : World} {b : Nat} {k : κ} {v : α} {l r : T κ α} (h : Nd S w b k v l r) (hh : w'.heap = w.heap) : Nd S w' b k v l r := by
  obtain ⟨⟨d, h1⟩, h2, h3, h4⟩ := h
  exact ⟨⟨d, by rw [hh]; exact h1⟩, h2.heap hh, h3.heap hh, h4⟩
/-- only these blocks have changed, none is new -/
structure Only (bs : List Nat) (w w' : World) : Prop where
  size : w'.heap.size = w.heap.size
  same : ∀ x, x ∉ bs → w'.heap[x]? = w.heap[x]?
  ost : Ost w w'
theorem Only.refl (bs : List Nat) (w : World) : Only bs w w := ⟨rfl, fun _ _ => rfl, rfl, rfl⟩
theorem Only.drew (w : World) : Only [] w w.drew := ⟨rfl, fun _ _ => rfl, rfl, rfl⟩
/-- the same heap, and nothing asked outside -/
structure Like (w w' : World) : Prop where
  heap : w'.heap = w.heap
  ost : Ost w w'
theorem Like.refl (w : World) : Like w w := ⟨rfl, rfl, rfl⟩
theorem Like.trans {a b c : World} (h : Like a b) (k : Like b c) : Like a c := ⟨k.heap.trans h.heap, h.ost.trans k.ost⟩
theorem Like.drew {a b : World} (h : Like a b) : Like a b.drew := ⟨h.heap, h.ost⟩
theorem Only.of_heap {w w' : World} (bs : List Nat) (h : Like w w') : Only bs w w' := ⟨by rw [h.heap], fun _ _ => by rw [h.heap], h.ost⟩
theorem Only.trans {bs : List Nat} {a b c : World} (h : Only bs a b) (k : Only bs b c) : Only bs a c := ⟨k.size.trans h.size, fun x hx => (k.same x hx).trans (h.same x hx), h.ost.trans k.ost⟩
theorem Only.mono {bs cs : List Nat} {a b : World} (h : Only bs a b) (hs : ∀ x ∈ bs, x ∈ cs) : Only cs a b := ⟨h.size, fun x hx => h.same x fun hb => hx (hs x hb), h.ost⟩
theorem Only.setCell {bs : List Nat} {a b : World} (h : Only bs a b) {p : Addr} (hp : p.block ∈ bs) (v : Value) : Only bs a (b.setCell p v) :=
  ⟨by simpa using h.size, fun x hx => (RowKit.Below.heap_setCell b p v x (fun e => hx (e ▸ hp))).trans (h.same x hx), h.ost⟩
theorem Only.keeps {bs : List Nat} {a b : World} (h : Only bs a b) : Keeps (· ∈ bs) a b := ⟨Nat.le_of_eq h.size.symm, fun x _ hx => h.same x hx, h.ost⟩
theorem At.only {bs : List Nat} {w w' : World} {t : T κ α} (h : At S w t) (hk : Only bs w w') (hd : ∀ b ∈ t.blocks, b ∉ bs) : At S w' t := h.frame fun b hb => hk.same b (hd b hb)
/-! what the walk asks of a block that is known whole -/
theorem blk_cell {w : World} {b : Nat} {c : Array Value} {t : TypeId} {f : Nat × Nat} (h : w.heap[b]? = some (.cells c t f)) : ∀ i, w.cell? ⟨b, i, none⟩ = c[i]? := fun i => by simp [World.cell?, h]
theorem blk_free {w : World} {b : Nat} {c : Array Value} {t : TypeId} (h : w.heap[b]? = some (.cells c t (0, 0))) : ∀ i, w.frozen? ⟨b, i, none⟩ = false := fun i => by simp [World.frozen?, h]
theorem blk_shape {w : World} {b : Nat} {c : Array Value} {t : TypeId} {f : Nat × Nat} (h : w.heap[b]? = some (.cells c t f)) : w.shape? b = some (t, c.size) := by simp [World.shape?, h]
/-- a part of no size: its address is a plain one, where the next part lies at the same byte -/
theorem run_partAt {P : Program} {w : World} {b k n x m ty : Nat} (h : w.shape? b = some (ty, m)) (hs : (P.cellsOf ty == 0) = false) (h1 : byteOfCell P P.depth ty 0 = some x)
    (h2 : byteOfCell P P.depth ty (k % P.cellsOf ty) = some (x + n)) (hd : k / P.cellsOf ty = 0) : (partAt ⟨b, 0, none⟩ k n).run P w = .ok ⟨b, k, none⟩ w := by
  have hs' : P.cellsOf ty ≠ 0 := by simpa using hs
  have hi : (w.shape? b).isSome = true := by rw [h]; rfl
  simp only [partAt, byteOf, noView, viewAt]
  simp [h, hs', h1, h2, hd, Result.andThen]
theorem heap_set {w : World} {b : Nat} {c : Array Value} {t : TypeId} {f : Nat × Nat} (h : w.heap[b]? = some (.cells c t f)) (i : Nat) (v : Value) : (w.setCell ⟨b, i, none⟩ v).heap[b]? = some (.cells (c.setIfInBounds i v) t f) := by
  simp only [World.setCell, Array.getElem?_modify, h, if_true, Option.map_some]
  simp
theorem heap_set_other (w : World) (b i x : Nat) (v : Value) (h : x ≠ b) : (w.setCell ⟨b, i, none⟩ v).heap[x]? = w.heap[x]? := RowKit.Below.heap_setCell w ⟨b, i, none⟩ v x h
theorem no_one {b x : Nat} {l : List Nat} (h : b ∉ l) (hx : x ∈ l) : x ∉ [b] := fun hm => h (by rw [List.mem_singleton] at hm; rw [← hm]; exact hx)
theorem At.nodup {w : World} : ∀ {t : T κ α}, At S w t → t.blocks.Nodup
  | .nil, _ => List.nodup_nil
  | .node b k v l r, ⟨_, h2, h3, h4, h5, h6⟩ => by
    simp only [T.blocks, List.nodup_cons, List.mem_append, not_or, List.nodup_append]
    exact ⟨⟨h4, h5⟩, At.nodup h2, At.nodup h3, fun x hx y hy e => h6 x hx (e ▸ hy)⟩
/-! ### steps of the tree's functions -/
theorem Nd.measured {w w1 : World} {b : Nat} {k : κ} {v : α} {l r : T κ α} (h : Nd S w b k v l r) (hh : Like w w1) {d' : Int} (e : d' = ((1 + max l.ht r.ht : Nat) : Int)) :
    At S (w1.setCell ⟨b, S.dep, none⟩ (.int .i64 d')) (.node b k v l r) ∧ Only [b] w (w1.setCell ⟨b, S.dep, none⟩ (.int .i64 d')) := by
  have ho : Only [b] w (w1.setCell ⟨b, S.dep, none⟩ (.int .i64 d')) := (Only.of_heap _ hh).setCell (by simp) _
  obtain ⟨⟨d, h1⟩, h2, h3, h4, h5, h6⟩ := h
  refine ⟨⟨?_, h2.only ho fun _ hx => no_one h4 hx, h3.only ho fun _ hx => no_one h5 hx, h4, h5, h6⟩, ho⟩
  rw [heap_set (by rw [hh.heap]; exact h1), S.set_dep, e]
/-- the upper half's lower half is handed down -/
theorem Nd.turnedLow {w : World} {b b' : Nat} {k k' : κ} {v v' : α} {l l' r' : T κ α} (h : Nd S w b k v l (.node b' k' v' l' r')) {w' : World}
    (hw : w' = (w.setCell ⟨b, S.hi, none⟩ (.pointer l'.ptr)).setCell ⟨b', S.lo, none⟩ (.pointer (some ⟨b, 0, none⟩))) :
    Nd S w' b k v l l' ∧ Only [b, b'] w w' ∧ ∀ w2, At S w2 (.node b k v l l') → Only [b] w' w2 → Nd S w2 b' k' v' (.node b k v l l') r' := by
  obtain ⟨⟨d, h1⟩, h2, ⟨g1, g2, g3, g4, g5, g6⟩, h4, h5, h6⟩ := h
  have hne : b' ≠ b := fun e => h5 (by simp [T.blocks, e])
  have hbl' : b ∉ l'.blocks := fun hx => h5 (by simp [T.blocks, hx])
  have hbr' : b ∉ r'.blocks := fun hx => h5 (by simp [T.blocks, hx])
  have hb'l : b' ∉ l.blocks := fun hx => h6 _ hx (by simp [T.blocks])
  have ho : Only [b, b'] w w' := by rw [hw]; exact ((Only.refl _ w).setCell (by simp) _).setCell (by simp) _
  have n2 : ∀ {t : T κ α}, b ∉ t.blocks → b' ∉ t.blocks → ∀ x ∈ t.blocks, x ∉ [b, b'] := fun a c x hx hm => by
    simp only [List.mem_cons, List.not_mem_nil, or_false] at hm
    rcases hm with rfl | rfl
    · exact a hx
    · exact c hx
  refine ⟨⟨⟨d, ?_⟩, h2.only ho (n2 h4 hb'l), g2.only ho (n2 hbl' g4), h4, hbl', fun x hx hy => h6 x hx (by simp [T.blocks, hy])⟩, ho, fun w2 ha ho2 => ?_⟩
  · rw [hw, heap_set_other _ _ _ _ _ (Ne.symm hne), heap_set h1, S.set_hi]
  · have e1 : w'.heap[b']? = some (.cells (S.cells k' v' (.pointer (some ⟨b, 0, none⟩)) (.pointer r'.ptr) ((1 + max l'.ht r'.ht : Nat) : Int)) S.ty (0, 0)) := by
      rw [hw, heap_set (by rw [heap_set_other _ _ _ _ _ hne]; exact g1), S.set_lo]
    refine ⟨⟨_, ((ho2.same b' (by simpa using hne)).trans e1)⟩, ha, (g3.only ho (n2 hbr' g5)).only ho2 (fun _ hx => no_one hbr' hx), ?_, g5, fun x hx => ?_⟩
    · simp only [T.blocks, List.mem_cons, List.mem_append, not_or]; exact ⟨hne, hb'l, g4⟩
    · simp only [T.blocks, List.mem_cons, List.mem_append] at hx
      rcases hx with rfl | hx | hx
      · exact hbr'
      · exact fun hy => h6 x hx (by simp [T.blocks, hy])
      · exact g6 x hx
theorem Nd.turnedHigh {w : World} {b b' : Nat} {k k' : κ} {v v' : α} {r l' r' : T κ α} (h : Nd S w b k v (.node b' k' v' l' r') r) {w' : World}
    (hw : w' = (w.setCell ⟨b, S.lo, none⟩ (.pointer r'.ptr)).setCell ⟨b', S.hi, none⟩ (.pointer (some ⟨b, 0, none⟩))) :
    Nd S w' b k v r' r ∧ Only [b, b'] w w' ∧ ∀ w2, At S w2 (.node b k v r' r) → Only [b] w' w2 → Nd S w2 b' k' v' l' (.node b k v r' r) := by
  obtain ⟨⟨d, h1⟩, ⟨g1, g2, g3, g4, g5, g6⟩, h2, h5, h4, h6⟩ := h
  have hne : b' ≠ b := fun e => h5 (by simp [T.blocks, e])
  have hbl' : b ∉ l'.blocks := fun hx => h5 (by simp [T.blocks, hx])
  have hbr' : b ∉ r'.blocks := fun hx => h5 (by simp [T.blocks, hx])
  have hb'r : b' ∉ r.blocks := fun hx => h6 b' (by simp [T.blocks]) hx
  have ho : Only [b, b'] w w' := by rw [hw]; exact ((Only.refl _ w).setCell (by simp) _).setCell (by simp) _
  have n2 : ∀ {t : T κ α}, b ∉ t.blocks → b' ∉ t.blocks → ∀ x ∈ t.blocks, x ∉ [b, b'] := fun a c x hx hm => by
    simp only [List.mem_cons, List.not_mem_nil, or_false] at hm
    rcases hm with rfl | rfl
    · exact a hx
    · exact c hx
  refine ⟨⟨⟨d, ?_⟩, g3.only ho (n2 hbr' g5), h2.only ho (n2 h4 hb'r), hbr', h4, fun x hx hy => h6 x (by simp [T.blocks, hx]) hy⟩, ho, fun w2 ha ho2 => ?_⟩
  · rw [hw, heap_set_other _ _ _ _ _ (Ne.symm hne), heap_set h1, S.set_lo]
  · have e1 : w'.heap[b']? = some (.cells (S.cells k' v' (.pointer l'.ptr) (.pointer (some ⟨b, 0, none⟩)) ((1 + max l'.ht r'.ht : Nat) : Int)) S.ty (0, 0)) := by
      rw [hw, heap_set (by rw [heap_set_other _ _ _ _ _ hne]; exact g1), S.set_hi]
    refine ⟨⟨_, ((ho2.same b' (by simpa using hne)).trans e1)⟩, (g2.only ho (n2 hbl' g4)).only ho2 (fun _ hx => no_one hbl' hx), ha, g4, ?_, fun x hx hy => ?_⟩
    · simp only [T.blocks, List.mem_cons, List.mem_append, not_or]; exact ⟨hne, g5, hb'r⟩
    · simp only [T.blocks, List.mem_cons, List.mem_append] at hy
      rcases hy with rfl | hy | hy
      · exact hbl' hx
      · exact g6 x hx hy
      · exact h6 x (by simp [T.blocks, hx]) hy
/-- another half is hung in -/
theorem Nd.low {w w1 : World} {b : Nat} {k : κ} {v : α} {l l' r : T κ α} (h : Nd S w b k v l r) {F : Nat → Prop} (hk : Keeps F w w1) (hF : ∀ x, F x → x ∈ l.blocks) (ha : At S w1 l') (hb : ∀ x ∈ l'.blocks, x ∈ l.blocks ∨ w.heap.size ≤ x) :
    Nd S (w1.setCell ⟨b, S.lo, none⟩ (.pointer l'.ptr)) b k v l' r := by
  obtain ⟨⟨d, h1⟩, h2, h3, h4, h5, h6⟩ := h
  have hlt := lt_of_heap h1
  have hbl' : b ∉ l'.blocks := fun hx => (hb b hx).elim h4 (by omega)
  have ho : Only [b] w1 (w1.setCell ⟨b, S.lo, none⟩ (.pointer l'.ptr)) := (Only.refl _ _).setCell (by simp) _
  refine ⟨⟨d, ?_⟩, ha.only ho fun _ hx => no_one hbl' hx, (h3.keeps hk fun x hx hf => h6 x (hF x hf) hx).only ho fun _ hx => no_one h5 hx, hbl', h5, fun x hx hy => ?_⟩
  · rw [heap_set ((hk.same b hlt fun hf => h4 (hF b hf)).trans h1), S.set_lo]
  · rcases hb x hx with g | g
    · exact h6 x g hy
    · have := h3.lt x hy; omega
theorem Nd.high {w w1 : World} {b : Nat} {k : κ} {v : α} {l r r' : T κ α} (h : Nd S w b k v l r) {F : Nat → Prop} (hk : Keeps F w w1) (hF : ∀ x, F x → x ∈ r.blocks) (ha : At S w1 r') (hb : ∀ x ∈ r'.blocks, x ∈ r.blocks ∨ w.heap.size ≤ x) :
    Nd S (w1.setCell ⟨b, S.hi, none⟩ (.pointer r'.ptr)) b k v l r' := by
  obtain ⟨⟨d, h1⟩, h2, h3, h4, h5, h6⟩ := h
  have hlt := lt_of_heap h1
  have hbr' : b ∉ r'.blocks := fun hx => (hb b hx).elim h5 (by omega)
  have ho : Only [b] w1 (w1.setCell ⟨b, S.hi, none⟩ (.pointer r'.ptr)) := (Only.refl _ _).setCell (by simp) _
  refine ⟨⟨d, ?_⟩, (h2.keeps hk fun x hx hf => h6 x hx (hF x hf)).only ho fun _ hx => no_one h4 hx, ha.only ho fun _ hx => no_one hbr' hx, h4, hbr', fun x hx hy => ?_⟩
  · rw [heap_set ((hk.same b hlt fun hf => h5 (hF b hf)).trans h1), S.set_hi]
  · rcases hb x hy with g | g
    · exact h6 x hx g
    · have := h2.lt x hx; omega
/-- a node that was taken out takes the place of another: its halves are set -/
theorem Nd.took {w : World} {d : Nat} {k : κ} {v : α} {lc rc : Value} {dd : Int} {l r : T κ α} (h1 : w.heap[d]? = some (.cells (S.cells k v lc rc dd) S.ty (0, 0))) (h2 : At S w l) (h3 : At S w r)
    (h4 : d ∉ l.blocks) (h5 : d ∉ r.blocks) (h6 : ∀ x ∈ l.blocks, x ∉ r.blocks) {w' : World} (hw : w' = (w.setCell ⟨d, S.lo, none⟩ (.pointer l.ptr)).setCell ⟨d, S.hi, none⟩ (.pointer r.ptr)) : Nd S w' d k v l r ∧ Only [d] w w' := by
  have ho : Only [d] w w' := by rw [hw]; exact ((Only.refl _ w).setCell (by simp) _).setCell (by simp) _
  refine ⟨⟨⟨dd, ?_⟩, h2.only ho fun _ hx => no_one h4 hx, h3.only ho fun _ hx => no_one h5 hx, h4, h5, h6⟩, ho⟩
  rw [hw, heap_set (heap_set h1 _ _), S.set_lo, S.set_hi]
/-! ### a map: two cells of a block: the root, how many -/
/-- the block of a map whose tree has become t -/
def mapCells (c : Array Value) (o : Nat) (t : T κ α) : Array Value := (c.setIfInBounds o (.pointer t.ptr)).setIfInBounds (o + 1) (.int .i64 t.size)
/-- the map at b, o of a block c lies in the world: its tree is t -/
structure MapAt (S : Shape κ α) (w : World) (b o : Nat) (c : Array Value) (ty : TypeId) (t : T κ α) : Prop where
  blk : w.heap[b]? = some (.cells c ty (0, 0))
  root : c[o]? = some (.pointer t.ptr)
  many : c[o + 1]? = some (.int .i64 t.size)
  tree : At S w t
  own : b ∉ t.blocks
theorem set_same {c : Array Value} {i : Nat} {v : Value} (h : c[i]? = some v) : c.setIfInBounds i v = c := by
  refine Array.ext_getElem? fun j => ?_
  by_cases e : i = j
  · subst e
    rw [Array.getElem?_setIfInBounds_self_of_lt (Array.getElem?_eq_some_iff.1 h).1, h]
  · rw [Array.getElem?_setIfInBounds_ne e]
theorem mapCells_get {c : Array Value} {o i : Nat} {t : T κ α} (h1 : i ≠ o) (h2 : i ≠ o + 1) : (mapCells c o t)[i]? = c[i]? := by
  unfold mapCells
  rw [Array.getElem?_setIfInBounds_ne (Ne.symm h2), Array.getElem?_setIfInBounds_ne (Ne.symm h1)]
theorem mapCells_size (c : Array Value) (o : Nat) (t : T κ α) : (mapCells c o t).size = c.size := by unfold mapCells; rw [Array.size_setIfInBounds, Array.size_setIfInBounds]
theorem mapCells_root {c : Array Value} {o : Nat} {t : T κ α} {v : Value} (h : c[o]? = some v) : (mapCells c o t)[o]? = some (.pointer t.ptr) := by
  unfold mapCells
  rw [Array.getElem?_setIfInBounds_ne (by omega), Array.getElem?_setIfInBounds_self_of_lt (Array.getElem?_eq_some_iff.1 h).1]
theorem mapCells_many {c : Array Value} {o : Nat} {t : T κ α} {v : Value} (h : c[o + 1]? = some v) : (mapCells c o t)[o + 1]? = some (.int .i64 t.size) := by
  unfold mapCells
  rw [Array.getElem?_setIfInBounds_self_of_lt (by simpa using (Array.getElem?_eq_some_iff.1 h).1)]
theorem MapAt.keeps {F : Nat → Prop} {w w' : World} {b o : Nat} {c : Array Value} {ty : TypeId} {t : T κ α} (h : MapAt S w b o c ty t) (hk : Keeps F w w') (hb : ¬ F b) (hd : ∀ x ∈ t.blocks, ¬ F x) : MapAt S w' b o c ty t :=
  ⟨(hk.same b (lt_of_heap h.blk) hb).trans h.blk, h.root, h.many, h.tree.keeps hk hd, h.own⟩
theorem MapAt.ext {w w' : World} {b o : Nat} {c : Array Value} {ty : TypeId} {t : T κ α} (h : MapAt S w b o c ty t) (hk : Ext w w') : MapAt S w' b o c ty t := h.keeps hk (fun hf => hf) fun _ _ hf => hf
theorem MapAt.cellR {w : World} {b o : Nat} {c : Array Value} {ty : TypeId} {t : T κ α} (h : MapAt S w b o c ty t) : w.cell? ⟨b, o, none⟩ = some (.pointer t.ptr) := by rw [blk_cell h.blk]; exact h.root
theorem MapAt.cellM {w : World} {b o : Nat} {c : Array Value} {ty : TypeId} {t : T κ α} (h : MapAt S w b o c ty t) : w.cell? ⟨b, o + 1, none⟩ = some (.int .i64 t.size) := by rw [blk_cell h.blk]; exact h.many
/-- the map behind a change of its tree -/
theorem MapAt.set {w w1 w' : World} {b o : Nat} {c : Array Value} {ty : TypeId} {t t' : T κ α} (h : MapAt S w b o c ty t) (hb1 : w1.heap[b]? = w.heap[b]?) (ha : At S w1 t') (hn : b ∉ t'.blocks)
    (hw : w' = (w1.setCell ⟨b, o, none⟩ (.pointer t'.ptr)).setCell ⟨b, o + 1, none⟩ (.int .i64 t'.size) ∨ (w' = w1.setCell ⟨b, o, none⟩ (.pointer t'.ptr) ∧ t'.size = t.size)) :
    MapAt S w' b o (mapCells c o t') ty t' ∧ Only [b] w1 w' := by
  have e1 : w1.heap[b]? = some (.cells c ty (0, 0)) := hb1.trans h.blk
  have e2 := heap_set e1 o (.pointer t'.ptr)
  have hblk : w'.heap[b]? = some (.cells (mapCells c o t') ty (0, 0)) ∧ Only [b] w1 w' := by
    rcases hw with rfl | ⟨rfl, hs⟩
    · exact ⟨heap_set e2 _ _, ((Only.refl _ _).setCell (by simp) _).setCell (by simp) _⟩
    · refine ⟨?_, (Only.refl _ _).setCell (by simp) _⟩
      rw [e2]
      have : (c.setIfInBounds o (.pointer t'.ptr)).setIfInBounds (o + 1) (.int .i64 t'.size) = c.setIfInBounds o (.pointer t'.ptr) := set_same (by rw [Array.getElem?_setIfInBounds_ne (by omega), hs]; exact h.many)
      unfold mapCells
      rw [this]
  exact ⟨⟨hblk.1, mapCells_root h.root, mapCells_many h.many, ha.only hblk.2 fun _ hx => no_one hn hx, hn⟩, hblk.2⟩
theorem MapAt.set2 {w w1 : World} {b o : Nat} {c : Array Value} {ty : TypeId} {t t' : T κ α} (h : MapAt S w b o c ty t) (hb1 : w1.heap[b]? = w.heap[b]?) (ha : At S w1 t') (hn : b ∉ t'.blocks) (n : Int) (e : n = t'.size) :
    MapAt S ((w1.setCell ⟨b, o, none⟩ (.pointer t'.ptr)).setCell ⟨b, o + 1, none⟩ (.int .i64 n)) b o (mapCells c o t') ty t' ∧ Only [b] w1 ((w1.setCell ⟨b, o, none⟩ (.pointer t'.ptr)).setCell ⟨b, o + 1, none⟩ (.int .i64 n)) := by
  rw [e]; exact h.set hb1 ha hn (.inl rfl)
theorem MapAt.set1 {w w1 : World} {b o : Nat} {c : Array Value} {ty : TypeId} {t t' : T κ α} (h : MapAt S w b o c ty t) (hb1 : w1.heap[b]? = w.heap[b]?) (ha : At S w1 t') (hn : b ∉ t'.blocks) (e : t'.size = t.size) :
    MapAt S (w1.setCell ⟨b, o, none⟩ (.pointer t'.ptr)) b o (mapCells c o t') ty t' ∧ Only [b] w1 (w1.setCell ⟨b, o, none⟩ (.pointer t'.ptr)) := h.set hb1 ha hn (.inr ⟨rfl, e⟩)
theorem heap_drew (w : World) (x : Nat) : w.drew.heap[x]? = w.heap[x]? := rfl
end Go.Vc
/- Ranges over functions: the contract of an iterator ('Seq'), the law of the statement ('range_loop'), leaving the function. -/
namespace Go.Vc
open Go.RowKit
/-- Book-keeping: whatever is cells, or lies below B, lies as it lay. -/
structure Bk (B : Nat) (W W' : World) : Prop where
  size : W.heap.size ≤ W'.heap.size
  same : ∀ b o, W.heap[b]? = some o → (b < B ∨ o.isCells = true) → W'.heap[b]? = some o
  ost : Ost W W'
theorem Bk.refl (B : Nat) (W : World) : Bk B W W := ⟨Nat.le_refl _, fun _ _ h _ => h, rfl, rfl⟩
theorem Bk.trans {B : Nat} {X Y Z : World} (h : Bk B X Y) (k : Bk B Y Z) : Bk B X Z := ⟨Nat.le_trans h.size k.size, fun b o hb ho => k.same b o (h.same b o hb ho) ho, h.ost.trans k.ost⟩
theorem Bk.mono {B C : Nat} {X Y : World} (h : Bk B X Y) (hC : C ≤ B) : Bk C X Y := ⟨h.size, fun b o hb ho => h.same b o hb (ho.imp (fun g => Nat.lt_of_lt_of_le g hC) id), h.ost⟩
theorem Bk.of_ext {B : Nat} {X Y : World} (h : Ext X Y) : Bk B X Y := ⟨h.size, fun _ _ hb _ => (Ext.same h (lt_of_heap hb)).trans hb, h.ost⟩
theorem Bk.putObj {B l : Nat} {W : World} {o o' : Obj} (hl : W.heap[l]? = some o) (ho : o.isCells = false) (hB : B ≤ l) : Bk B W (W.putObj l o') :=
  ⟨by simp, fun b x hb hx => (World.putObj_heap_other (fun e => by
    subst e
    rw [hl] at hb; cases hb
    rcases hx with hx | hx
    · omega
    · rw [ho] at hx; cases hx)).trans hb, rfl, rfl⟩
theorem Bk.keeps {B : Nat} {F : Nat → Prop} {w X Y : World} (h : Bk B X Y) (k : Keeps F w X) (hB : w.heap.size ≤ B) : Keeps F w Y :=
  ⟨Nat.le_trans k.size h.size, fun i hi hf => by
    have e := k.same i hi hf
    rw [← e]
    have hX : i < X.heap.size := Nat.lt_of_lt_of_le hi k.size
    obtain ⟨o, ho⟩ : ∃ o, X.heap[i]? = some o := ⟨_, Array.getElem?_eq_getElem hX⟩
    rw [ho]
    exact h.same i o ho (.inl (by omega)), k.ost.trans h.ost⟩
theorem Bk.cell {B : Nat} {X Y : World} (h : Bk B X Y) {a : Addr} {v : Value} (hc : X.cell? a = some v) : Y.cell? a = some v := by
  obtain ⟨o, ho, hco⟩ := cells_of_cell hc
  exact (World.cell?_of_block ((h.same _ o ho (.inr hco)).trans ho.symm)).trans hc
theorem Bk.froz {B : Nat} {X Y : World} (h : Bk B X Y) {a : Addr} {v : Value} (hc : X.cell? a = some v) : Y.frozen? a = X.frozen? a := by
  obtain ⟨o, ho, hco⟩ := cells_of_cell hc
  exact World.frozen?_of_block ((h.same _ o ho (.inr hco)).trans ho.symm)
theorem Bk.blk {B : Nat} {X Y : World} (h : Bk B X Y) {b : Nat} {c : Array Value} {t : TypeId} {f : Nat × Nat} (hb : X.heap[b]? = some (.cells c t f)) : Y.heap[b]? = some (.cells c t f) := h.same b _ hb (.inr rfl)
theorem At.bk {κ α : Type} {S : Shape κ α} {B : Nat} {X Y : World} (h : Bk B X Y) : ∀ {t : T κ α}, At S X t → At S Y t
  | .nil, _ => trivial
  | .node _ _ _ _ _, ⟨h1, h2, h3, h4⟩ => ⟨h.blk h1, At.bk h h2, At.bk h h3, h4⟩
theorem KeepsFrom.of_ext {B : Nat} {X Y : World} (h : Ext X Y) : KeepsFrom B X Y := ⟨h.size, fun _ _ _ hb _ => (Ext.same h (lt_of_heap hb)).trans hb⟩
theorem KeepsFrom.of_keeps {B : Nat} {F : Nat → Prop} {X Y : World} (h : Keeps F X Y) (hF : ∀ b o, F b → X.heap[b]? = some o → b < B ∨ o.isCells = true) : KeepsFrom B X Y :=
  ⟨h.size, fun b o hB hb ho => (h.same b (lt_of_heap hb) fun hf => (hF b o hf hb).elim (by omega) (by rw [ho]; intro e; cases e)).trans hb⟩
theorem KeepsFrom.mono {B C : Nat} {X Y : World} (h : KeepsFrom B X Y) (hC : B ≤ C) : KeepsFrom C X Y := ⟨h.size, fun k o hk => h.same k o (Nat.le_trans hC hk)⟩
/-- A call of yield: it returns. -/
def Yd (P : Program) (l : Nat) (args : Array Value) (W : World) (R : Value → World → Prop) : Prop := YieldAt Fence.wide 0 P l args W fun e W' => ∃ v, e = .returned v ∧ R v W'
/-- **The iterator 'function gf with the captured lb' gives xs**, in every world that meets Pre. -/
def Seq (P : Program) (gf : FuncId) (lb : Array Value) (xs : List (Array Value)) (Pre : World → Prop) : Prop :=
  ∀ (B l : Nat) (J X : Nat → World → Prop) (W : World), B ≤ W.heap.size → (∀ k W W', J k W → Bk B W W' → J k W') → (∀ k W W', X k W → Bk B W W' → X k W') → (∀ k W, J k W → Pre W) →
    (∀ k (hk : k < xs.length) W, J k W → Yd P l xs[k] W fun v W' => KeepsFrom B W W' ∧ ((v = .bool true ∧ J (k + 1) W') ∨ (v = .bool false ∧ X (k + 1) W'))) →
    J 0 W → Calls P gf (#[.func (.yield l) #[] #[]] ++ lb) W fun e W' => (∃ v, e = .returned v) ∧ (J xs.length W' ∨ ∃ k, k ≤ xs.length ∧ X k W')
/-- How the body of a round may be left. -/
def roundQ (I : Nat → World → Prop) (Ix : Code → Nat → World → Prop) (B k : Nat) (W : World) : Exit → Act → World → Prop
  | .normal, _, W' => KeepsFrom B W W' ∧ I k W'
  | .ret, _, W' => KeepsFrom B W W' ∧ Ix .ret k W'
  | .exit id, _, W' => KeepsFrom B W W' ∧ Ix (.exit id) k W'
  | .goto t, _, W' => KeepsFrom B W W' ∧ Ix (.goto t) k W'
  | .panic _, _, _ => False
  | .outgrown, _, _ => False
/-- the mark that a function which ranges over a function bears -/
abbrev mark (D : Nat) : Deferred := { target := .collected D, args := #[] }
section
variable {P : Program}
/-- the head of a round: the assignments to the loop's variables, then the body -/
def roundStart (P : Program) (B : Nat) (l : Nat) (assign body : Code) (R : World → Exit → Act → World → Prop) (a : Act) (W : World) : Prop :=
  assign.wpIn (Fence.wide.inRound l) 0 P (Exit.then (fun a₁ W₁ => KeepsFrom B W W₁ ∧ ∀ W₂, Bk B W₁ W₂ → W₂.heap.size = W₁.heap.size → body.wpIn (Fence.wide.inRound l) 0 P (R W₂) a₁ W₂) (fun _ _ _ => False)) a W
theorem range_loop {g : Operand} {ps : Array Tmp} {assign body : Code} {Q : Exit → Act → World → Prop} {a : Act} {w : World} {gf : Nat} {lb : Array Value} {xs : List (Array Value)} {Pre : World → Prop}
    (hg : a.eval g = .func (.func gf) #[] lb) (eg : ∀ args w, (callFunc gf args).run P w = .ok (.enter gf args) w) (hps : ∀ x ∈ xs, x.size = ps.size) (hseq : Seq P gf lb xs Pre)
    (I : Nat → World → Prop) (Ix : Code → Nat → World → Prop) (hI : ∀ k W W', I k W → Bk w.heap.size W W' → I k W') (hIx : ∀ c k W W', Ix c k W → Bk w.heap.size W W' → Ix c k W')
    (hP : ∀ k W, I k W → Pre W) (h0 : I 0 w)
    (hbody : ∀ l k (hk : k < xs.length) W, I k W → w.heap.size ≤ W.heap.size → roundStart P w.heap.size l assign body (roundQ I Ix w.heap.size (k + 1)) { tmps := (ps.zip xs[k]).foldl (fun t (p, v) => t.setIfInBounds p v) a.tmps, defers := [] } W)
    (hdone : ∀ D W, w.heap.size ≤ D → I xs.length W → W.heap[D]? = some (.deferred (some [])) → Q .normal { a with defers := mark D :: a.defers } W)
    (hstop : ∀ D c k W, w.heap.size ≤ D → k ≤ xs.length → Ix c k W → W.heap[D]? = some (.deferred (some [])) → c.wpIn Fence.wide 0 P Q { a with defers := mark D :: a.defers } W) :
    (Code.rangeFunc g ps assign body).wpIn Fence.wide 0 P Q a w := by
  refine wpIn_rangeFunc ?_
  intro fn hfn
  obtain ⟨rec, hrec⟩ : ∃ rec : LoopState → Option Code → Loop, rec = fun st pe => { state := st, pending := pe, fn, tmps := a.tmps, params := ps, assign, body, defers := w.heap.size } := ⟨_, rfl⟩
  obtain ⟨W1, hW1⟩ : ∃ W1, (w.alloc (.deferred (some []))).alloc (.loop (rec .ready none)) = W1 := ⟨_, rfl⟩
  have hL1 : W1.heap[w.heap.size + 1]? = some (.loop (rec .ready none)) := by
    rw [← hW1]; have := World.alloc_heap_new (w.alloc (.deferred (some []))) (.loop (rec .ready none)); rwa [World.size_alloc] at this
  have hK1 : W1.heap[w.heap.size]? = some (.deferred (some [])) := by
    rw [← hW1]; exact (Below.heap_alloc _ _ _ (by simp)).trans (World.alloc_heap_new w _)
  have hE1 : Ext w W1 := by rw [← hW1]; exact ((Keeps.refl _ w).alloc _).alloc _
  have hs1 : W1.heap.size = w.heap.size + 2 := by rw [← hW1]; simp
  refine ⟨w.heap.size + 1, [mark w.heap.size], W1, { target := .fn (.func gf) lb, args := #[.func (.yield (w.heap.size + 1)) #[] #[]] }, W1, gf,
    #[.func (.yield (w.heap.size + 1)) #[] #[]] ++ lb, W1, ?_, ?_, fun f' _ => trivial, ?_, fun h => (by cases h), ?_⟩
  · rw [← hW1, hrec]; exact run_enterLoop_outer _ _ _ _ _
  · simp only [resolve, hg]
    simp [go_sem]
  · simp [invoke, go_sem, eg]
  · refine callsIn_wide.2 ((hseq W1.heap.size (w.heap.size + 1)
      (fun k W => I k W ∧ w.heap.size + 2 ≤ W.heap.size ∧ W.heap[w.heap.size + 1]? = some (.loop (rec .ready none)) ∧ W.heap[w.heap.size]? = some (.deferred (some [])))
      (fun k W => ∃ c, Ix c k W ∧ W.heap[w.heap.size + 1]? = some (.loop (rec .done (some c))) ∧ W.heap[w.heap.size]? = some (.deferred (some [])))
      W1 (Nat.le_refl _)
      (fun k W W' h hb => ⟨hI k W W' h.1 (hb.mono (by omega)), Nat.le_trans h.2.1 hb.size, hb.same _ _ h.2.2.1 (.inl (by omega)), hb.same _ _ h.2.2.2 (.inl (by omega))⟩)
      (fun k W W' h hb => by obtain ⟨c, hc, h1, h2⟩ := h; exact ⟨c, hIx c k W W' hc (hb.mono (by omega)), hb.same _ _ h1 (.inl (by omega)), hb.same _ _ h2 (.inl (by omega))⟩)
      (fun k W h => hP k W h.1)
      ?_ ⟨hI 0 w W1 h0 (Bk.of_ext hE1), by omega, hL1, hK1⟩).mono ?_)
    · -- one round
      rintro k hk W ⟨hi, hsz, hl, hkd⟩
      have hlt : w.heap.size + 1 < W.heap.size := by omega
      have hy := run_yield (P := P) (args := xs[k]) hl (by rw [hrec]; exact hps _ (List.getElem_mem hk))
      rw [hrec] at hy
      refine ⟨fn, _, assign, body, hy, roundIn_of_wpIn hfn ?_⟩
      refine Go.wpIn_mono (hbody (w.heap.size + 1) k hk W hi (by omega)) ?_
      rintro e a₁ W₁ hq
      cases e <;> try exact hq.elim
      obtain ⟨hkf, hq⟩ := hq
      have hl1 := hkf.same _ _ (by omega) hl rfl
      have hkd1 := hkf.same _ _ (Nat.le_refl _) hkd rfl
      have hlt1 : w.heap.size + 1 < W₁.heap.size := lt_of_heap hl1
      have hl2 : (W₁.putObj (w.heap.size + 1) (.loop { rec .ready none with state := .busy })).heap[w.heap.size + 1]? = some (.loop { rec .ready none with state := .busy }) := World.putObj_heap_same hlt1
      have hk2 : (W₁.putObj (w.heap.size + 1) (.loop { rec .ready none with state := .busy })).heap[w.heap.size]? = some (.deferred (some [])) := (World.putObj_heap_other (by omega)).trans hkd1
      refine ⟨_, run_beginRound hl1 (by rw [hrec]), ?_⟩
      refine Go.wpIn_mono (hq _ (Bk.putObj hl1 rfl (by omega)) (by simp)) ?_
      have fin : ∀ (jump : Option Code) (W3 : World), KeepsFrom w.heap.size (W₁.putObj (w.heap.size + 1) (.loop { rec .ready none with state := .busy })) W3 →
          (Instr.endRound (w.heap.size + 1) jump).run P W3 = .ok (.bool jump.isNone) (W3.putObj (w.heap.size + 1) (.loop (rec (if jump.isNone then .ready else .done) jump))) ∧
          Bk w.heap.size W3 (W3.putObj (w.heap.size + 1) (.loop (rec (if jump.isNone then .ready else .done) jump))) ∧
          KeepsFrom W1.heap.size W (W3.putObj (w.heap.size + 1) (.loop (rec (if jump.isNone then .ready else .done) jump))) ∧
          (W3.putObj (w.heap.size + 1) (.loop (rec (if jump.isNone then .ready else .done) jump))).heap[w.heap.size + 1]? = some (.loop (rec (if jump.isNone then .ready else .done) jump)) ∧
          (W3.putObj (w.heap.size + 1) (.loop (rec (if jump.isNone then .ready else .done) jump))).heap[w.heap.size]? = some (.deferred (some [])) := fun jump W3 hk3 => by
        have hl3 := hk3.same _ _ (by omega) hl2 rfl
        have := run_endRound (P := P) jump hl3
        rw [hrec] at this ⊢
        refine ⟨this, Bk.putObj hl3 (by rw [hrec]; rfl) (by omega), ⟨?_, fun b o hb hbo hco => ?_⟩, World.putObj_heap_same (lt_of_heap hl3), (World.putObj_heap_other (by omega)).trans (hk3.same _ _ (Nat.le_refl _) hk2 rfl)⟩
        · have h1 := hkf.size
          have h2 := hk3.size
          simp only [World.putObj_size] at h2 ⊢
          omega
        · rw [World.putObj_heap_other (by omega)]
          exact hk3.same b o (by omega) ((World.putObj_heap_other (by omega)).trans (hkf.same b o (by omega) hbo hco)) hco
      rintro e a3 W3 hp
      cases e with
      | normal =>
        obtain ⟨hk3, hi3⟩ := hp
        obtain ⟨hr, hbk, hkk, hl4, hk4⟩ := fin none W3 hk3
        have hz := hkk.size
        exact ⟨_, _, hr, _, rfl, hkk, .inl ⟨rfl, hI _ _ _ hi3 hbk, by omega, hl4, hk4⟩⟩
      | ret =>
        obtain ⟨hk3, hi3⟩ := hp
        obtain ⟨hr, hbk, hkk, hl4, hk4⟩ := fin (some .ret) W3 hk3
        exact ⟨_, _, hr, _, rfl, hkk, .inr ⟨rfl, .ret, hIx _ _ _ _ hi3 hbk, hl4, hk4⟩⟩
      | exit id =>
        obtain ⟨hk3, hi3⟩ := hp
        obtain ⟨hr, hbk, hkk, hl4, hk4⟩ := fin (some (.exit id)) W3 hk3
        exact ⟨_, _, hr, _, rfl, hkk, .inr ⟨rfl, .exit id, hIx _ _ _ _ hi3 hbk, hl4, hk4⟩⟩
      | goto t =>
        obtain ⟨hk3, hi3⟩ := hp
        obtain ⟨hr, hbk, hkk, hl4, hk4⟩ := fin (some (.goto t)) W3 hk3
        exact ⟨_, _, hr, _, rfl, hkk, .inr ⟨rfl, .goto t, hIx _ _ _ _ hi3 hbk, hl4, hk4⟩⟩
      | panic ch => exact hp.elim
      | outgrown => exact hp.elim
    · -- behind the iterator
      rintro e W2 ⟨⟨v, rfl⟩, (⟨hi, hsz, hl, hk⟩ | ⟨k, hkl, c, hi, hl, hk⟩)⟩
      · exact ⟨none, _, by have := run_endLoop (P := P) hl (by rw [hrec]; simp); rw [hrec] at this; exact this, hdone _ _ (Nat.le_refl _) (hI _ _ _ hi (Bk.putObj hl rfl (by omega))) ((World.putObj_heap_other (by omega)).trans hk)⟩
      · exact ⟨some c, _, by have := run_endLoop (P := P) hl (by rw [hrec]; simp); rw [hrec] at this; exact this, hstop _ c k _ (Nat.le_refl _) hkl (hIx c _ _ _ hi (Bk.putObj hl rfl (by omega))) ((World.putObj_heap_other (by omega)).trans hk)⟩
/-- A function that ranges over a function: its contract from its body. -/
theorem calls_of_marks {f : FuncId} {fn : Func} {c : Code} {args : Array Value} {w : World} {R : Ending → World → Prop} (hf : P.funcs[f]? = some fn) (hb : fn.body = some c)
    (h : c.wpIn Fence.wide 0 P (bodyPostM Fence.wide 0 P fn R) { tmps := args ++ Array.replicate (fn.ntmps - args.size) undef, defers := [] } w) : Calls P f args w R :=
  callsIn_wide.1 (callsIn_of_wp_marks hf hb trivial h rfl)
theorem calls_of_wpIn {f : FuncId} {fn : Func} {c : Code} {args : Array Value} {w : World} {R : Ending → World → Prop} (hf : P.funcs[f]? = some fn) (hb : fn.body = some c)
    (h : c.wpIn Fence.wide 0 P (bodyPost P fn R) { tmps := args ++ Array.replicate (fn.ntmps - args.size) undef, defers := [] } w) : Calls P f args w R :=
  callsIn_wide.1 (callsIn_of_wp hf hb trivial h rfl)
/-- leaving with one mark -/
theorem leave_ret {fn : Func} {R : Ending → World → Prop} {tmps : Array Value} {w : World} {D : Nat} {v : Value} (hD : w.heap[D]? = some (.deferred (some [])))
    (hr : (results fn tmps).run P (w.putObj D (.deferred none)) = .ok v (w.putObj D (.deferred none))) (hR : R (.returned v) (w.putObj D (.deferred none))) : bodyPostM Fence.wide 0 P fn R .ret { tmps := tmps, defers := [mark D] } w :=
  ⟨by simp, .inl ⟨_, _, rfl, run_takeDeferred hD, ⟨v, hr, hR⟩⟩⟩
theorem leave_end {fn : Func} {R : Ending → World → Prop} {tmps : Array Value} {w : World} {D : Nat} {v : Value} (hD : w.heap[D]? = some (.deferred (some [])))
    (hr : (results fn tmps).run P (w.putObj D (.deferred none)) = .ok v (w.putObj D (.deferred none))) (hR : R (.returned v) (w.putObj D (.deferred none))) : bodyPostM Fence.wide 0 P fn R .normal { tmps := tmps, defers := [mark D] } w :=
  ⟨by simp, .inl ⟨_, _, rfl, run_takeDeferred hD, ⟨v, hr, hR⟩⟩⟩
theorem Yd.mono {l : Nat} {args : Array Value} {W : World} {R R' : Value → World → Prop} (h : Yd P l args W R) (hr : ∀ v w, R v w → R' v w) : Yd P l args W R' :=
  YieldAt.mono h fun _ _ ⟨v, hv, hR⟩ => ⟨v, hv, hr _ _ hR⟩
/-- how an iterator's helper ends: all that it had to give was taken; or no more is wanted -/
def GiveP (J X : Nat → World → Prop) (k n : Nat) (e : Ending) (W' : World) : Prop := (e = .returned (.bool true) ∧ J k W') ∨ (e = .returned (.bool false) ∧ ∃ j, j ≤ n ∧ X j W')
theorem Bk.of_heap {B : Nat} {X Y : World} (h : Y.heap = X.heap) (ho : Ost X Y) : Bk B X Y := ⟨by rw [h]; exact Nat.le_refl _, fun _ _ hb _ => by rw [h]; exact hb, ho⟩
end
end Go.Vc
/- Rows of the call's own, of elements of any kind: appending, reading. -/
namespace Go.Vc
open Go.RowKit
/-- a kind of elements: their slices' type, their own type, their cells -/
structure Ek (P : Program) (α : Type) where
  t : TypeId
  e : TypeId
  i : TypeInfo
  z : Value
  size : Nat
  bytes : Nat
  enc : α → List Value
  ht : P.underlying t = some (.slice e)
  hi : P.info? e = some i
  hz : i.zero = some z
  hs : i.size = size
  hb : i.bytes = bytes
  zs : z.cells.size = size
  pos : 0 < size
  bb : bytes ≤ 1000
  len : ∀ x, (enc x).length = size
  one : ∀ x, ∀ u ∈ enc x, u.oneCell' = true
section
variable {P : Program} {α : Type} (E : Ek P α)
/-- the cells of a list -/
def Ek.cells (l : List α) : List Value := l.flatMap E.enc
/-- an own row -/
def Ek.Own (B : Nat) (v : Value) (l : List α) (w : World) : Prop := w.ownsRow B E.e E.size v l.length (E.cells l)
/-- a slice that reads as a list, wherever it lies -/
def Ek.Reads (w : World) (v : Value) (l : List α) : Prop :=
  ∃ a cap, v = .slice a l.length cap ∧ (l.length : Int) ≤ 9223372036854775807 ∧ (a = none → l = []) ∧ ∀ g o s, a = some ⟨g, o, s⟩ → (l ≠ [] → s = none) ∧ ∀ j u, (E.cells l)[j]? = some u → w.cell? ⟨g, o + j, none⟩ = some u
theorem Ek.cells_len (l : List α) : (E.cells l).length = l.length * E.size := by
  unfold Ek.cells
  induction l with
  | nil => simp
  | cons x l ih => rw [List.flatMap_cons, List.length_append, ih, E.len, List.length_cons, Nat.add_mul]; omega
theorem Ek.cells_append (l m : List α) : E.cells (l ++ m) = E.cells l ++ E.cells m := by unfold Ek.cells; rw [List.flatMap_append]
theorem Ek.cells_one (x : α) : E.cells [x] = E.enc x := by unfold Ek.cells; simp
theorem Ek.cells_take (l : List α) (k : Nat) : E.cells (l.take k) = (E.cells l).take (k * E.size) := by
  induction l generalizing k with
  | nil => simp [Ek.cells]
  | cons x l ih =>
    cases k with
    | zero => simp [Ek.cells]
    | succ k =>
      have h := ih k
      unfold Ek.cells at h ⊢
      rw [List.take_succ_cons, List.flatMap_cons, List.flatMap_cons, h, List.take_append]
      have e1 : (E.enc x).take ((k + 1) * E.size) = E.enc x := List.take_of_length_le (by rw [E.len, Nat.add_mul]; omega)
      have e2 : (k + 1) * E.size - (E.enc x).length = k * E.size := by rw [E.len, Nat.add_mul]; omega
      rw [e1, e2]
theorem Ek.cells_drop (l : List α) (k : Nat) : E.cells (l.drop k) = (E.cells l).drop (k * E.size) := by
  induction l generalizing k with
  | nil => simp [Ek.cells]
  | cons x l ih =>
    cases k with
    | zero => simp [Ek.cells]
    | succ k =>
      have h := ih k
      unfold Ek.cells at h ⊢
      rw [List.drop_succ_cons, List.flatMap_cons, h, List.drop_append]
      have e1 : (E.enc x).drop ((k + 1) * E.size) = [] := List.drop_of_length_le (by rw [E.len, Nat.add_mul]; omega)
      have e2 : (k + 1) * E.size - (E.enc x).length = k * E.size := by rw [E.len, Nat.add_mul]; omega
      rw [e1, e2, List.nil_append]
/-- the cells of element i -/
theorem Ek.cells_at (l : List α) (i j : Nat) (hi : i < l.length) (hj : j < E.size) : (E.cells l)[i * E.size + j]? = (E.enc l[i])[j]? := by
  have h1 : E.cells l = E.cells (l.take i) ++ (E.enc l[i] ++ E.cells (l.drop (i + 1))) := by
    rw [← E.cells_one, ← E.cells_append, ← E.cells_append]
    congr 1
    rw [List.singleton_append, List.getElem_cons_drop, List.take_append_drop]
  have h2 : (E.cells (l.take i)).length = i * E.size := by rw [E.cells_len, List.length_take, Nat.min_eq_left (by omega)]
  rw [h1, List.getElem?_append_right (by omega), h2, Nat.add_sub_cancel_left, List.getElem?_append_left (by rw [E.len]; exact hj)]
theorem Ek.cells_oneC (l : List α) : ∀ u ∈ E.cells l, u.oneCell' = true := by
  intro u hu
  obtain ⟨x, _, hx⟩ := List.mem_flatMap.1 hu
  exact E.one x u hx
theorem Ek.Reads.elem {w : World} {g o cap n : Nat} {s} {l : List α} (h : E.Reads w (.slice (some ⟨g, o, s⟩) n cap) l) (i j : Nat) (hi : i < l.length) (hj : j < E.size) : w.cell? ⟨g, o + (i * E.size + j), none⟩ = (E.enc l[i])[j]? := by
  obtain ⟨a, cap', e, _, _, hc⟩ := h
  injection e with e1 e2 e3
  have hj' : j < (E.enc l[i]).length := by rw [E.len]; exact hj
  rw [List.getElem?_eq_getElem hj']
  exact (hc g o s e1.symm).2 _ _ ((E.cells_at l i j hi hj).trans (List.getElem?_eq_getElem hj'))
theorem Ek.Reads.cell_mem {w : World} {g p : Nat} {u : Value} (h : w.cell? ⟨g, p, none⟩ = some u) : g < w.heap.size := World.block_lt_of_cell? _ _ h
theorem Ek.Reads.keeps {F : Nat → Prop} {w w' : World} {v : Value} {l : List α} (h : E.Reads w v l) (k : Keeps F w w') (hF : ∀ g o s n c, v = .slice (some ⟨g, o, s⟩) n c → l ≠ [] → ¬ F g) : E.Reads w' v l := by
  obtain ⟨a, cap, rfl, hn, h0, hc⟩ := h
  refine ⟨a, cap, rfl, hn, h0, fun g o s ha => ⟨(hc g o s ha).1, fun j u hj => ?_⟩⟩
  have h1 := (hc g o s ha).2 j u hj
  have hne : l ≠ [] := by intro e; subst e; simp [Ek.cells] at hj
  have hs : w'.heap[g]? = w.heap[g]? := k.same g (World.block_lt_of_cell? _ _ h1) (hF g o s _ _ (by rw [ha]) hne)
  exact (World.cell?_of_block (w := w) hs).trans h1
theorem Ek.Reads.ext {w w' : World} {v : Value} {l : List α} (h : E.Reads w v l) (k : Ext w w') : E.Reads w' v l := h.keeps E k fun _ _ _ _ _ _ _ hf => hf
theorem Ek.Reads.nil (w : World) (c : Nat) : E.Reads w (.slice none 0 c) [] := ⟨none, c, rfl, by simp, fun _ => rfl, fun _ _ _ h => by cases h⟩
/-- a row of many -/
theorem Ek.reads_row (W : World) (l : List α) (cs : Array Value) (ty : TypeId) (n c : Nat) (hn : n = l.length) (hl : l.length ≤ 1000000) (h : cs.toList = E.cells l) : E.Reads (W.alloc (.cells cs ty)) (.slice (some ⟨W.heap.size, 0, none⟩) n c) l := by
  subst hn
  refine ⟨_, c, rfl, by omega, (fun e => nomatch e), fun g o s e => ?_⟩
  injection e with e
  injection e with e1 e2 e3
  subst e1; subst e2; subst e3
  refine ⟨fun _ => rfl, fun j u hj => ?_⟩
  rw [blk_cell (World.alloc_heap_new W (.cells cs ty)), Nat.zero_add]
  rw [← h] at hj
  rw [← Array.getElem?_toList]; exact hj
/-- the row of what an append's arguments are -/
theorem Ek.reads_new (W : World) (x : α) (cs : Array Value) (ty : TypeId) (h : cs.toList = E.enc x) : E.Reads (W.alloc (.cells cs ty)) (.slice (some ⟨W.heap.size, 0, none⟩) 1 1) [x] := by
  refine ⟨_, 1, rfl, by simp, (fun e => nomatch e), fun g o s e => ?_⟩
  injection e with e
  injection e with e1 e2 e3
  subst e1; subst e2; subst e3
  refine ⟨fun _ => rfl, fun j u hj => ?_⟩
  rw [blk_cell (World.alloc_heap_new W (.cells cs ty)), Nat.zero_add]
  rw [E.cells_one, ← h] at hj
  rw [← Array.getElem?_toList]; exact hj
/-- nothing -/
theorem Ek.Reads.rest (w : World) {g o k c : Nat} {l : List α} (hk : k = 0) (hl : l = []) : E.Reads w (.slice (some ⟨g, o, none⟩) k c) l := by
  subst hk; subst hl
  exact ⟨_, c, rfl, by simp, fun _ => rfl, fun g' o' s e => by
    injection e with e
    injection e with e1 e2 e3
    exact ⟨fun _ => e3.symm, fun j u hj => by simp [Ek.cells] at hj⟩⟩
/-- a part of a slice -/
theorem Ek.Reads.part {w : World} {a : Option Addr} {n cap : Nat} {l : List α} (h : E.Reads w (.slice a n cap) l) (i k c : Nat) (hi : i ≤ l.length) (hk : i + k ≤ l.length) (a' : Option Addr)
    (ha : a' = none → a = none ∨ False) (ha' : ∀ g o s, a' = some ⟨g, o, s⟩ → ∃ o0, a = some ⟨g, o0, s⟩ ∧ o = o0 + i * E.size) : E.Reads w (.slice a' k c) ((l.drop i).take k) := by
  obtain ⟨a0, cap0, e, hn, h0, hc⟩ := h
  injection e with e1 e2 e3
  subst e1
  have hlen : ((l.drop i).take k).length = k := by rw [List.length_take, List.length_drop]; omega
  refine ⟨a', c, by rw [hlen], by rw [hlen]; omega, fun e => ?_, fun g o s hg => ?_⟩
  · rcases ha e with e | e
    · rw [h0 e]; simp
    · exact e.elim
  · obtain ⟨o0, ea, rfl⟩ := ha' g o s hg
    obtain ⟨hs, hcc⟩ := hc g o0 s ea
    refine ⟨fun hne => hs (fun e => hne (by rw [e]; simp)), fun j u hj => ?_⟩
    rw [E.cells_take, E.cells_drop] at hj
    have hj2 : j < k * E.size := by
      rcases Nat.lt_or_ge j (k * E.size) with h | h
      · exact h
      · rw [List.getElem?_eq_none (by rw [List.length_take]; omega)] at hj; cases hj
    rw [List.getElem?_take_of_lt hj2, List.getElem?_drop] at hj
    have := hcc _ _ hj
    rw [← Nat.add_assoc] at this; exact this
/-- an own row is a slice -/
theorem Ek.Own.reads {B : Nat} {v : Value} {l : List α} {w : World} (h : E.Own B v l w) (hl : l.length ≤ 1000000) : E.Reads w v l := by
  rcases h.2 with ⟨rfl, hn⟩ | ⟨g, cap, cur, hv, hb, hg, r1, r2, r3, r4⟩
  · have : l = [] := List.eq_nil_of_length_eq_zero hn
    subst this
    exact Ek.Reads.nil E w 0
  · subst hv
    refine ⟨_, cap, rfl, by omega, (fun e => nomatch e), fun g' o s e => ?_⟩
    injection e with e
    injection e with e1 e2 e3
    subst e1; subst e2; subst e3
    refine ⟨fun _ => rfl, fun j u hj => ?_⟩
    have hc := h.cells (g := g) rfl j u hj
    rw [Addr.add_lit] at hc; exact hc
theorem Ek.Own.nil (B : Nat) (w : World) : E.Own B (.slice none 0 0) [] w := World.ownsRow_nil w B _ _
theorem Ek.Own.lt {B : Nat} {v : Value} {l : List α} {w : World} (h : E.Own B v l w) {g : Nat} (hg : v.ownBlock = some g) : B ≤ g ∧ g < w.heap.size := World.ownsRow.lt h g hg
theorem Ek.Own.kind {B : Nat} {v : Value} {l : List α} {w : World} (h : E.Own B v l w) {g : Nat} (hg : v.ownBlock = some g) : ∃ c f, w.heap[g]? = some (.cells c E.e f) := Lib.ownsRow_kind h g hg
/-- **append(own, slice...)** as it runs -/
theorem Ek.run {w : World} (B : Nat) (v : Value) (l m : List α) (u : Value) (ty : TypeId) (hown : E.Own B v l w) (hx : E.Reads w u m) (hlen : l.length + m.length ≤ 1000000) (hB : B ≤ w.heap.size) :
    ∃ v' w', (Builtin.append_ #[E.t, E.t] ty #[v, u]).run P w = .ok v' w' ∧ E.Own B v' (l ++ m) w' ∧ Keeps (fun b => v.ownBlock = some b) w w' ∧ (v' = .slice none 0 0 ↔ v = .slice none 0 0 ∧ m = []) ∧ (v'.ownBlock = v.ownBlock ∨ v'.ownBlock = some w.heap.size) := by
  obtain ⟨a, cap, rfl, _, h0, hc⟩ := hx
  cases a with
  | none =>
    have hm := h0 rfl
    subst hm
    refine ⟨v, w, ?_, by rw [List.append_nil]; exact hown, Keeps.refl _ w, by simp, .inl rfl⟩
    rcases hown.2 with ⟨rfl, hn⟩ | ⟨g, cap', cur, hv, hb, hg, r1, r2, r3, r4⟩
    · simp [Builtin.append_, run_underlying E.ht, sizeOf, typeInfo, E.hi, Builtin.lenOf, Builtin.firstCells]
    · subst hv
      have hst := run_storeCells_cells (P := P) g (l.length * E.i.size) [] 0 w (by simp) (by simp) (by simp)
      simp [Builtin.append_, run_underlying E.ht, sizeOf, typeInfo, E.hi, Builtin.lenOf, Builtin.firstCells, loadCells, r1, Addr.add_lit] at hst ⊢
      rw [hst]
      simp [World.setCells]
  | some ad =>
    obtain ⟨g, o, s⟩ := ad
    obtain ⟨hs0, hcc⟩ := hc g o s rfl
    have hb63 : l.length + m.length ≤ maxLen := by unfold maxLen; omega
    obtain ⟨v', w', h1, h2, h3, h4⟩ := run_append_own (P := P) w B E.t ty E.e E.i E.z E.size E.bytes E.ht E.hi E.hz E.hs E.hb E.zs E.pos v l.length (E.cells l) hown ⟨g, o, s⟩ m.length cap (E.cells m) (E.cells_len m)
      (fun j u hj => by have := hcc j u hj; obtain rfl := hs0 (fun e => by rw [e] at hj; simp [Ek.cells] at hj); rw [Addr.add_lit]; exact this) (E.cells_oneC m) hb63 (by have := Nat.mul_le_mul hlen E.bb; omega) hB
    refine ⟨v', w', h1, ?_, ⟨h3.size, fun i hi hf => h3.block i hi (fun e => hf e.symm), h3.os, h3.output⟩, by rw [h4]; simp, ?_⟩
    · unfold Ek.Own
      rw [List.length_append, E.cells_append]; exact h2
    · have hnews : ∀ j u, (E.cells m)[j]? = some u → w.cell? ((⟨g, o, s⟩ : Addr).add j) = some u := fun j u hj => by have := hcc j u hj; obtain rfl := hs0 (fun e => by rw [e] at hj; simp [Ek.cells] at hj); rw [Addr.add_lit]; exact this
      have hl : (E.cells m).length = m.length * E.i.size := by rw [E.hs]; exact E.cells_len m
      have hbb : (l.length + m.length) * E.i.bytes ≤ 140737488355328 := by rw [E.hb]; have := Nat.mul_le_mul hlen E.bb; omega
      rcases hown.2 with ⟨rfl, hn⟩ | ⟨g1, cap1, cur, rfl, hb, hg, r1, r2, r3, r4⟩
      · rcases Nat.eq_zero_or_pos m.length with h0 | h0
        · have : m = [] := List.eq_nil_of_length_eq_zero h0
          exact .inl (by rw [h4.2 ⟨rfl, h0⟩])
        · have hr := run_append_nil (P := P) w E.t ty E.e E.i E.z E.ht E.hi E.hz ⟨g, o, s⟩ m.length cap (E.cells m) hl hnews h0 (by omega) (by rw [hn, Nat.zero_add] at hbb; omega)
          rw [hr] at h1
          injection h1 with h1 _
          exact .inr (by rw [← h1]; rfl)
      · by_cases hroom : l.length + m.length ≤ cap1
        · have hfit : l.length * E.i.size + (E.cells m).length ≤ cur.size := by rw [hl, r3, ← E.hs, ← Nat.add_mul]; exact Nat.mul_le_mul_right _ hroom
          have hr := run_append_room (P := P) w E.t ty E.e E.i E.ht E.hi g1 l.length cap1 cur hg ⟨g, o, s⟩ m.length cap (E.cells m) hl hnews (E.cells_oneC m) hroom hfit
          rw [hr] at h1
          injection h1 with h1 _
          exact .inl (by rw [← h1]; rfl)
        · have holds : ∀ j u, (E.cells l)[j]? = some u → w.cell? ((⟨g1, 0, none⟩ : Addr).add j) = some u := hown.cells (g := g1) rfl
          have hr := run_append_grow (P := P) w E.t ty E.e E.i E.z E.ht E.hi E.hz ⟨g1, 0, none⟩ l.length cap1 (E.cells l) (by rw [E.hs]; exact hown.1) holds ⟨g, o, s⟩ m.length cap (E.cells m) hl hnews (by omega) (by omega) (growslice_fits (by omega) hbb)
          rw [hr] at h1
          injection h1 with h1 _
          exact .inr (by rw [← h1]; rfl)
theorem Ek.app {F : Fence} {n : Nat} {w : World} {ops : Array Oper} {rest : List Oper} {o : Oper} {a : Act} {Q : Exit → Act → World → Prop}
    (hg : o.guard = none) (s x : Operand) (hop : o.op = Op.call { callee := Callee.builtin Builtin.append, args := #[s, x], argTypes := #[E.t, E.t] })
    (B : Nat) (v : Value) (l m : List α) (hs : a.eval s = v) (hown : E.Own B v l w) (hx : E.Reads w (a.eval x) m) (hlen : l.length + m.length ≤ 1000000) (hB : B ≤ w.heap.size)
    (hK : ∀ v' w', E.Own B v' (l ++ m) w' → Keeps (fun b => v.ownBlock = some b) w w' → (v' = .slice none 0 0 ↔ v = .slice none 0 0 ∧ m = []) → (v'.ownBlock = v.ownBlock ∨ v'.ownBlock = some w.heap.size) → wpListIn F n P ops Q rest (a.put o.dst v') w') :
    wpListIn F n P ops Q (o :: rest) a w := by
  refine wpListIn_plain hg fun K hK' => ?_
  obtain ⟨v', w', hrun, r1, r2, r3, r4⟩ := E.run B v l m (a.eval x) o.type hown hx hlen hB
  obtain ⟨ax, cx, ex, _⟩ := hx
  unfold Oper.wpIn
  refine ⟨?_, ?_⟩
  · simp [Oper.about, hop, resolve, Target.leads, Sem.run_pure]
  · rw [Oper.semAt_plain F _ _ (by rw [hop]; intro c hc'; cases hc')]
    rw [ex] at hrun
    simp [execOp, hop, resolve, invoke, builtin, hs, ex, hrun, Result.andThen]
    exact hK' _ _ (hK v' w' r1 r2 r3 r4)
/-- the same, of one operation -/
theorem Ek.appO {F : Fence} {n : Nat} {w : World} {o : Oper} {a : Act} {K : Act → World → Prop} {Q : Exit → Act → World → Prop}
    (s x : Operand) (hop : o.op = Op.call { callee := Callee.builtin Builtin.append, args := #[s, x], argTypes := #[E.t, E.t] })
    (B : Nat) (v : Value) (l m : List α) (hs : a.eval s = v) (hown : E.Own B v l w) (hx : E.Reads w (a.eval x) m) (hlen : l.length + m.length ≤ 1000000) (hB : B ≤ w.heap.size)
    (hK : ∀ v' w', E.Own B v' (l ++ m) w' → Keeps (fun b => v.ownBlock = some b) w w' → (v' = .slice none 0 0 ↔ v = .slice none 0 0 ∧ m = []) → (v'.ownBlock = v.ownBlock ∨ v'.ownBlock = some w.heap.size) → K (a.put o.dst v') w') :
    o.wpIn F n P a w K Q := by
  obtain ⟨v', w', hrun, r1, r2, r3, r4⟩ := E.run B v l m (a.eval x) o.type hown hx hlen hB
  obtain ⟨ax, cx, ex, _⟩ := hx
  unfold Oper.wpIn
  refine ⟨?_, ?_⟩
  · simp [Oper.about, hop, resolve, Target.leads, Sem.run_pure]
  · rw [Oper.semAt_plain F _ _ (by rw [hop]; intro c hc'; cases hc')]
    rw [ex] at hrun
    simp [execOp, hop, resolve, invoke, builtin, hs, ex, hrun, Result.andThen]
    exact hK v' w' r1 r2 r3 r4
/-- the same in a region that draws -/
theorem Ek.hl_app {F : Fence} {n i : Nat} {t : Way} {ops : List Oper} {N : Act → World → Prop} {S : World → Prop} {w : World} {o : Oper} {a : Act}
    (ho : nth ops i = some o) (hg : Region.wanted o (yielded ops.toArray a.tmps) = true) (hlo : loud o.op = true)
    (s x : Operand) (hop : o.op = Op.call { callee := Callee.builtin Builtin.append, args := #[s, x], argTypes := #[E.t, E.t] })
    (B : Nat) (v : Value) (l m : List α) (hs : a.eval s = v) (hown : E.Own B v l w) (hx : E.Reads w (a.eval x) m) (hlen : l.length + m.length ≤ 1000000) (hB : B ≤ w.heap.size)
    (hK : ∀ v' w', E.Own B v' (l ++ m) w' → Keeps (fun b => v.ownBlock = some b) w w' → (v' = .slice none 0 0 ↔ v = .slice none 0 0 ∧ m = []) → (v'.ownBlock = v.ownBlock ∨ v'.ownBlock = some w.heap.size) →
      (needS ops.toArray i = true → S w') ∧ HL F n P ops.toArray N S t (a.put o.dst v') w') : HL F n P ops.toArray N S (.op i t) a w :=
  hl_e ho hg hlo fun _ hk => E.appO s x hop B v l m hs hown hx hlen hB fun v' w' h1 h2 h3 h4 => hk _ _ (hK v' w' h1 h2 h3 h4)
theorem Ek.app' {w : World} {ops : Array Oper} {rest : List Oper} {o : Oper} {a : Act} {Q : Exit → Act → World → Prop}
    (hg : o.guard = none) (s x : Operand) (hop : o.op = Op.call { callee := Callee.builtin Builtin.append, args := #[s, x], argTypes := #[E.t, E.t] })
    (B : Nat) (v : Value) (l m : List α) (hs : a.eval s = v) (hown : E.Own B v l w) (hx : E.Reads w (a.eval x) m) (hlen : l.length + m.length ≤ 1000000) (hB : B ≤ w.heap.size)
    (hK : ∀ v' w', E.Own B v' (l ++ m) w' → Keeps (fun b => v.ownBlock = some b) w w' → (v' = .slice none 0 0 ↔ v = .slice none 0 0 ∧ m = []) → (v'.ownBlock = v.ownBlock ∨ v'.ownBlock = some w.heap.size) → wpList P ops Q rest (a.put o.dst v') w') :
    wpList P ops Q (o :: rest) a w := by
  refine wpList_plain hg fun K hK' => ?_
  obtain ⟨v', w', hrun, r1, r2, r3, r4⟩ := E.run B v l m (a.eval x) o.type hown hx hlen hB
  obtain ⟨ax, cx, ex, _⟩ := hx
  unfold Oper.wp
  rw [ex] at hrun
  simp [execOp, hop, resolve, invoke, builtin, hs, ex, hrun, Result.andThen]
  exact hK' _ _ (hK v' w' r1 r2 r3 r4)
theorem Ek.Own.form {B : Nat} {v : Value} {l : List α} {w : World} (h : E.Own B v l w) : v = .slice none 0 0 ∨ ∃ g cap, v = .slice (some ⟨g, 0, none⟩) l.length cap ∧ l.length ≤ cap := by
  rcases h.2 with ⟨rfl, _⟩ | ⟨g, cap, cur, rfl, hb, hg, r1, _⟩
  · exact .inl rfl
  · exact .inr ⟨g, cap, rfl, r1⟩
theorem Ek.Own.slice {B : Nat} {v : Value} {l : List α} {w : World} (h : E.Own B v l w) : ∃ a cap, v = .slice a l.length cap ∧ (a = none → l = []) ∧ l.length ≤ cap := by
  rcases h.2 with ⟨rfl, hn⟩ | ⟨g, cap, cur, rfl, hb, hg, r1, _⟩
  · have : l = [] := List.eq_nil_of_length_eq_zero hn
    subst this; exact ⟨none, 0, rfl, fun _ => rfl, Nat.le_refl _⟩
  · exact ⟨_, cap, rfl, (fun e => nomatch e), r1⟩
theorem Ek.Own.keeps {F : Nat → Prop} {B : Nat} {v : Value} {l : List α} {w w' : World} (h : E.Own B v l w) (k : Keeps F w w') (hF : ∀ g, v.ownBlock = some g → ¬ F g) : E.Own B v l w' := by
  refine ⟨h.1, ?_⟩
  rcases h.2 with h0 | ⟨g, cap, cur, rfl, hb, hg, r⟩
  · exact .inl h0
  · exact .inr ⟨g, cap, cur, rfl, hb, (k.same g (lt_of_heap hg) (hF g rfl)).trans hg, r⟩
theorem Ek.Own.ext {B : Nat} {v : Value} {l : List α} {w w' : World} (h : E.Own B v l w) (k : Ext w w') : E.Own B v l w' := h.keeps E k fun _ _ hf => hf
theorem Ek.Own.bk {B C : Nat} {v : Value} {l : List α} {w w' : World} (h : E.Own B v l w) (k : Bk C w w') : E.Own B v l w' := by
  refine ⟨h.1, ?_⟩
  rcases h.2 with h0 | ⟨g, cap, cur, rfl, hb, hg, r⟩
  · exact .inl h0
  · exact .inr ⟨g, cap, cur, rfl, hb, k.same g _ hg (.inr rfl), r⟩
/-- the first of an own row, the others -/
theorem Ek.Own.front {B g n cap : Nat} {l : List α} {w : World} (h : E.Own B (.slice (some ⟨g, 0, none⟩) n cap) l w) (hl : l.length ≤ 1000000) (i c : Nat) (hi : i ≤ l.length) : E.Reads w (.slice (some ⟨g, 0, none⟩) i c) (l.take i) := by
  have := (h.reads E hl).part E 0 i c (Nat.zero_le _) (by omega) (some ⟨g, 0, none⟩) (fun e => nomatch e) (fun g' o s e => ⟨0, by injection e with e; injection e with e1 e2 e3; subst e1; subst e3; rfl, by injection e with e; injection e with e1 e2 e3; rw [← e2]; simp⟩)
  rwa [List.drop_zero] at this
theorem Ek.Own.suffix {B g n cap : Nat} {l : List α} {w : World} (h : E.Own B (.slice (some ⟨g, 0, none⟩) n cap) l w) (hl : l.length ≤ 1000000) (i k c : Nat) (hi : i + k = l.length) (o : Nat) (ho : o = i * E.size) : E.Reads w (.slice (some ⟨g, o, none⟩) k c) (l.drop i) := by
  have := (h.reads E hl).part E i k c (by omega) (by omega) (some ⟨g, o, none⟩) (fun e => nomatch e) (fun g' o' s e => ⟨0, by injection e with e; injection e with e1 e2 e3; subst e1; subst e3; rfl, by injection e with e; injection e with e1 e2 e3; rw [← e2, ho]; simp⟩)
  rwa [List.take_of_length_le (by rw [List.length_drop]; omega)] at this
/-- a cell of an own row set -/
theorem Ek.Own.set {B : Nat} {v : Value} {l : List α} {w : World} (h : E.Own B v l w) {g : Nat} (hg : v.ownBlock = some g) (i j : Nat) (u : Value) (x : α) (hi : i < l.length) (hj : j < E.size) (hx : E.enc x = (E.enc l[i]).set j u) :
    E.Own B v (l.set i x) (w.setCell ⟨g, i * E.size + j, none⟩ u) := by
  have hc : E.cells (l.set i x) = (E.cells l).set (i * E.size + j) u := by
    have h1 : E.cells l = E.cells (l.take i) ++ (E.enc l[i] ++ E.cells (l.drop (i + 1))) := by
      rw [← E.cells_one, ← E.cells_append, ← E.cells_append]
      congr 1
      rw [List.singleton_append, List.getElem_cons_drop, List.take_append_drop]
    have h2 : (E.cells (l.take i)).length = i * E.size := by rw [E.cells_len, List.length_take, Nat.min_eq_left (by omega)]
    have h3 : l.set i x = l.take i ++ (x :: l.drop (i + 1)) := by rw [List.set_eq_take_append_cons_drop, if_pos hi]
    have h4 : x :: l.drop (i + 1) = [x] ++ l.drop (i + 1) := rfl
    rw [h3, h4, E.cells_append, E.cells_append, E.cells_one, hx, h1, List.set_append_right _ _ (by omega), h2, Nat.add_sub_cancel_left, List.set_append_left _ _ (by rw [E.len]; exact hj)]
  have hn : l.length = (l.set i x).length := by rw [List.length_set]
  rcases h.2 with ⟨rfl, _⟩ | ⟨g', cap, cur, rfl, hb, hgc, r1, r2, r3, r4⟩
  · cases hg
  · simp only [Value.ownBlock, Option.some.injEq] at hg
    subst hg
    refine ⟨?_, .inr ⟨g', cap, cur.setIfInBounds (i * E.size + j) u, by rw [← hn], hb, heap_set hgc _ _, by rw [← hn]; exact r1, r2, by rw [Array.size_setIfInBounds]; exact r3, ?_⟩⟩
    · rw [hc, List.length_set, ← hn]; exact h.1
    · have hlt : i * E.size + j < l.length * E.size := by
        have : (i + 1) * E.size ≤ l.length * E.size := Nat.mul_le_mul_right _ hi
        rw [Nat.add_mul] at this; omega
      rw [hc, List.length_set, Array.toList_setIfInBounds, List.take_set, r4]
/-- what the call found stays when an own row grows -/
theorem Ek.Own.grow {B : Nat} {v : Value} {l : List α} {w0 w w' : World} (h : E.Own B v l w) (hE : Ext w0 w) (hB : w0.heap.size ≤ B) (k : Keeps (fun b => v.ownBlock = some b) w w') : Ext w0 w' :=
  ⟨Nat.le_trans hE.size k.size, fun i hi _ => (k.same i (Nat.lt_of_lt_of_le hi hE.size) (fun hf => absurd (h.lt E hf).1 (by omega))).trans (Ext.same hE hi), (hE.ost).trans k.ost⟩
theorem Ek.Own.mono {B C : Nat} {v : Value} {l : List α} {w : World} (h : E.Own B v l w) (hC : C ≤ B) : E.Own C v l w := by
  refine ⟨h.1, ?_⟩
  rcases h.2 with h0 | ⟨g, cap, cur, rfl, hb, r⟩
  · exact .inl h0
  · exact .inr ⟨g, cap, cur, rfl, Nat.le_trans hC hb, r⟩
end
theorem ext_bk {w W W' : World} {C : Nat} (h : Ext w W) (k : Bk C W W') (hC : w.heap.size ≤ C) : Ext w W' :=
  ⟨Nat.le_trans h.size k.size, fun i hi _ => by
    obtain ⟨o, ho⟩ : ∃ o, w.heap[i]? = some o := ⟨_, Array.getElem?_eq_getElem hi⟩
    rw [ho]
    exact k.same i o ((Ext.same h hi).trans ho) (.inl (Nat.lt_of_lt_of_le hi hC)), (h.ost).trans k.ost⟩
/-- a block of cells -/
def CellsAt (W : World) (i : Nat) : Prop := ∃ c ty f, W.heap[i]? = some (.cells c ty f)
/-- what changed are cells, of blocks from n on -/
def Mut (n : Nat) (W W' : World) : Prop := Keeps (fun i => n ≤ i ∧ CellsAt W i) W W'
theorem Mut.refl (n : Nat) (W : World) : Mut n W W := Keeps.refl _ W
theorem Mut.step {n : Nat} {W X Y : World} {G : Nat → Prop} (h : Mut n W X) (k : Keeps G X Y) (hG : ∀ i, G i → n ≤ i ∧ CellsAt X i) : Mut n W Y :=
  ⟨Nat.le_trans h.size k.size, fun i hi hf => by
    have e := h.same i hi hf
    rw [k.same i (Nat.lt_of_lt_of_le hi h.size) (fun hg => hf ⟨(hG i hg).1, by
      obtain ⟨c, ty, f, hc⟩ := (hG i hg).2
      exact ⟨c, ty, f, by rw [← e]; exact hc⟩⟩), e], (h.ost).trans k.ost⟩
theorem Mut.ext {n : Nat} {W X Y : World} (h : Mut n W X) (k : Ext X Y) : Mut n W Y := h.step k fun _ hf => hf.elim
theorem Mut.of_ext {n : Nat} {W X : World} (k : Ext W X) : Mut n W X := (Mut.refl n W).ext k
theorem Mut.trans {n : Nat} {W X Y : World} (h : Mut n W X) (k : Mut n X Y) : Mut n W Y := h.step k fun _ hf => hf
theorem Mut.toExt {n : Nat} {w W W' : World} (h : Mut n W W') (k : Ext w W) (hn : w.heap.size ≤ n) : Ext w W' :=
  ⟨Nat.le_trans k.size h.size, fun i hi _ => (h.same i (Nat.lt_of_lt_of_le hi k.size) (fun hf => absurd hf.1 (by omega))).trans (Ext.same k hi), (k.ost).trans h.ost⟩
theorem Mut.toFrom {n B : Nat} {W W' : World} (h : Mut n W W') : KeepsFrom B W W' :=
  KeepsFrom.of_keeps h fun b o hf hb => .inr (by
    obtain ⟨c, ty, f, hc⟩ := hf.2
    rw [hb] at hc; injection hc with hc; rw [hc]; rfl)
theorem Mut.cell {n : Nat} {W W' X : World} (h : Mut n W W') {b : Nat} {c : Array Value} {ty : TypeId} {f : Nat × Nat} (hb : W'.heap[b]? = some (.cells c ty f)) (hn : n ≤ b) (i : Nat) (v : Value) (hX : X = W'.setCell ⟨b, i, none⟩ v) : Mut n W X := by
  subst hX
  exact h.step ((Only.refl [b] W').setCell (by simp) v).keeps fun j hj => by rw [List.mem_singleton] at hj; subst hj; exact ⟨hn, c, ty, f, hb⟩
theorem Mut.own {P : Program} {α : Type} (E : Ek P α) {n B : Nat} {W X Y : World} {v : Value} {l : List α} (h : Mut n W X) (ho : E.Own B v l X) (hB : n ≤ B) (k : Keeps (fun b => v.ownBlock = some b) X Y) : Mut n W Y :=
  h.step k fun i hi => ⟨Nat.le_trans hB (ho.lt E hi).1, by obtain ⟨c, f, hc⟩ := ho.kind E hi; exact ⟨c, _, f, hc⟩⟩
end Go.Vc
/- The plain data of package api. -/
namespace Go.Vc
structure Plc where
  tr : Int
  id : Int
  cl : Int
  dp : Int
  tp : Int
  fn : Int
  deriving DecidableEq
structure Spn where
  tr : Int
  id : Int
  pa : Int
  rv : Int
  sv : ByteArray
  op : ByteArray
  st : Int
  du : Int
  gone : Bool
  deriving DecidableEq
/-- a span, a place as the machine holds them -/
abbrev spnV (x : Spn) : Value := .agg #[.int .i64 x.tr, .int .i64 x.id, .int .i64 x.pa, .int .i64 x.rv, .string x.sv, .string x.op, .int .i64 x.st, .int .i64 x.du, .bool x.gone]
abbrev plcV (x : Plc) : Value := .agg #[.int .i64 x.tr, .int .i64 x.id, .int .i64 x.cl, .int .i64 x.dp, .int .i64 x.tp, .int .i64 x.fn]
/-- a number of the machine -/
abbrev I64 (n : Int) : Prop := -9223372036854775808 ≤ n ∧ n ≤ 9223372036854775807
/-- a span that the machine may hold -/
structure Spn.Fits (x : Spn) : Prop where
  tr : I64 x.tr
  id : I64 x.id
  pa : I64 x.pa
  rv : I64 x.rv
  st : I64 x.st
  du : I64 x.du
  sv : x.sv.size ≤ 9223372036854775807
  op : x.op.size ≤ 9223372036854775807
structure Plc.Fits (x : Plc) : Prop where
  tr : I64 x.tr
  id : I64 x.id
  cl : I64 x.cl
  dp : I64 x.dp
  tp : I64 x.tp
  fn : I64 x.fn
end Go.Vc
/-
  DERIVED: THE SHELF's CONTRACTS AT THIS DUMP, IN PLAIN WORDS (tools/lay-plain.mjs out of 'TryzShelf.lean', which tools/lay-shelf.mjs wrote): THE SAME DECLARATIONS UNDER THE SAME NAMES: 'import', 'namespace', 'open', 'def', 'theorem' AND NOTHING ELSE: no command of the shelf's: FOR A HAND-IN. Each laying: the table of numbers ('.._ren') and one theorem, a field a fact of the dump's own or the kernel's comparison; each contract: ONE APPLICATION.
-/
namespace Go.Proofs
open Go.Shelf
def Tryz.lays169_ren : Go.Shelf.Ren := ⟨fun | 169 => 130 | n => n, fun | 70 => 149 | 9 => 9 | 0 => 0 | 72 => 151 | 37 => 131 | 127 => 169 | 3 => 3 | 5 => 5 | n => n, fun | n => n⟩
theorem Tryz.lays169 : Go.Proofs.Lays.n169 Tryz.prog Tryz.lays169_ren := {
  mixed := by kernel_rfl
  f169 := Tryz.func130.trans (congrArg some (by kernel_rfl))
  t0 := Tryz.underlying0
  a0 := Tryz.isAgg0
  z0 := Tryz.sizeOf0
  v0 := Tryz.zeroValue0
  t3 := Tryz.underlying3
  a3 := Tryz.isAgg3
  z3 := Tryz.sizeOf3
  v3 := Tryz.zeroValue3
  t9 := Tryz.underlying9
  a9 := Tryz.isAgg9
  z9 := Tryz.sizeOf9
  v9 := Tryz.zeroValue9
  t37 := Tryz.underlying131
  a37 := Tryz.isAgg131
  z37 := Tryz.sizeOf131
  v37 := Tryz.zeroValue131
  t70 := Tryz.underlying149
  a70 := Tryz.isAgg149
  z70 := Tryz.sizeOf149
  v70 := Tryz.zeroValue149
  t72 := Tryz.underlying151
  a72 := Tryz.isAgg151
  z72 := Tryz.sizeOf151
  v72 := Tryz.zeroValue151
  t127 := Tryz.underlying169
  a127 := Tryz.isAgg169
  z127 := Tryz.sizeOf169
  v127 := Tryz.zeroValue169 }
theorem Tryz.Builder_Extra_169 : Builder.Extra Tryz.prog Tryz.lays169_ren := {
  sizeBuilder := by kernel_rfl
  liesBuilder := by kernel_rfl
  t5 := Tryz.underlying5
  a5 := Tryz.isAgg5
  z5 := Tryz.sizeOf5
  v5 := Tryz.zeroValue5
  infoByte := by kernel_rfl
  cellsByte := by kernel_rfl
  sizeByte := by kernel_rfl
  neB5 := by decide }
open Go.RowKit in
/-- (*strings.Builder).String: "String returns the accumulated string.": OF A BUILDER THAT HOLDS AT LEAST ONE BYTE. ✋ THE MODEL FREEZES THOSE BYTES IN THE BUFFER (unsafe.String): a later write INTO them ends the model's run without an answer; a later append BEHIND them goes on. The statement's order of evaluation is drawn: one draw. (LAID: no walk: one application.) -/
theorem Tryz.Builder_String (B b : Nat) (l : List UInt8) (w : World) (h : Lib.IsBuilder 151 5 B b (Lib.byteCells l) w) (h0 : l ≠ []) :
    Calls Tryz.prog 130 #[.pointer (some ⟨b, 0, none⟩)] w fun e w' => e = .returned (.string ⟨l.toArray⟩) ∧ Below B w w' := Any.Builder_String Tryz.lays169 Tryz.Builder_Extra_169 B b l w h h0
open Go.RowKit in
/-- (*strings.Builder).String OF A BUILDER THAT HOLDS NO BYTE: the empty string. (Its buffer is nil, or a row of which it has taken nothing yet; where that row has NO capacity the model lays one new block for unsafe.SliceData's 'some address'.) One draw. (LAID: no walk: one application.) -/
theorem Tryz.Builder_String_empty (B b : Nat) (w : World) (h : Lib.IsBuilder 151 5 B b [] w) (hBw : B ≤ w.heap.size) :
    Calls Tryz.prog 130 #[.pointer (some ⟨b, 0, none⟩)] w fun e w' => e = .returned (.string ⟨#[]⟩) ∧ Below B w w' := Any.Builder_String_empty Tryz.lays169 Tryz.Builder_Extra_169 B b w h hBw
open Go.RowKit in
/-- (*strings.Builder).String: "String returns the accumulated string.": WHATEVER THE BUILDER HOLDS. (LAID: no walk: one application.) -/
theorem Tryz.Builder_String_any (B b : Nat) (l : List UInt8) (w : World) (h : Lib.IsBuilder 151 5 B b (Lib.byteCells l) w) (hBw : B ≤ w.heap.size) :
    Calls Tryz.prog 130 #[.pointer (some ⟨b, 0, none⟩)] w fun e w' => e = .returned (.string ⟨l.toArray⟩) ∧ Below B w w' := Any.Builder_String_any Tryz.lays169 Tryz.Builder_Extra_169 B b l w h hBw
def Tryz.lays213_ren : Go.Shelf.Ren := ⟨fun | 213 => 117 | 265 => 131 | n => n, fun | 9 => 9 | 3 => 3 | n => n, fun | n => n⟩
theorem Tryz.lays213 : Go.Proofs.Lays.n213 Tryz.prog Tryz.lays213_ren := {
  mixed := by kernel_rfl
  f213 := Tryz.func117.trans (congrArg some (by kernel_rfl))
  f265 := Tryz.func131.trans (congrArg some (by kernel_rfl))
  t3 := Tryz.underlying3
  a3 := Tryz.isAgg3
  z3 := Tryz.sizeOf3
  v3 := Tryz.zeroValue3
  t9 := Tryz.underlying9
  a9 := Tryz.isAgg9
  z9 := Tryz.sizeOf9
  v9 := Tryz.zeroValue9 }
open Go.RowKit in
/-- internal/bytealg.CompareString (what strings.Compare calls): IT RETURNS 'Lib.compareBytes a b'; the world is as it was. (LAID: no walk: one application.) -/
theorem Tryz.bytealg_CompareString (a b : ByteArray) (w : World) :
    Calls Tryz.prog 117 #[.string a, .string b] w fun e w' => e = .returned (.int .i64 (Lib.compareBytes a.data.toList b.data.toList)) ∧ w' = w := Any.bytealg_CompareString Tryz.lays213 a b w
def Tryz.lays106_ren : Go.Shelf.Ren := ⟨fun | 106 => 101 | 213 => 117 | 265 => 131 | n => n, fun | 9 => 9 | 3 => 3 | n => n, fun | n => n⟩
theorem Tryz.lays106 : Go.Proofs.Lays.n106 Tryz.prog Tryz.lays106_ren := {
  mixed := by kernel_rfl
  f106 := Tryz.func101.trans (congrArg some (by kernel_rfl))
  f213 := Tryz.func117.trans (congrArg some (by kernel_rfl))
  f265 := Tryz.func131.trans (congrArg some (by kernel_rfl))
  t3 := Tryz.underlying3
  a3 := Tryz.isAgg3
  z3 := Tryz.sizeOf3
  v3 := Tryz.zeroValue3
  t9 := Tryz.underlying9
  a9 := Tryz.isAgg9
  z9 := Tryz.sizeOf9
  v9 := Tryz.zeroValue9 }
open Go.RowKit in
/-- strings.Compare: "Compare returns an integer comparing two strings lexicographically. The result will be 0 if a == b, -1 if a < b, and +1 if a > b.": IT RETURNS 'Lib.compareBytes a b'; the world is as it was. (LAID: no walk: one application.) -/
theorem Tryz.strings_Compare (a b : ByteArray) (w : World) :
    Calls Tryz.prog 101 #[.string a, .string b] w fun e w' => e = .returned (.int .i64 (Lib.compareBytes a.data.toList b.data.toList)) ∧ w' = w := Any.strings_Compare Tryz.lays106 a b w
def Tryz.lays217_ren : Go.Shelf.Ren := ⟨fun | 217 => 108 | 266 => 123 | n => n, fun | 9 => 9 | 5 => 5 | 3 => 3 | n => n, fun | n => n⟩
theorem Tryz.lays217 : Go.Proofs.Lays.n217 Tryz.prog Tryz.lays217_ren := {
  mixed := by kernel_rfl
  f217 := Tryz.func108.trans (congrArg some (by kernel_rfl))
  f266 := Tryz.func123.trans (congrArg some (by kernel_rfl))
  t3 := Tryz.underlying3
  a3 := Tryz.isAgg3
  z3 := Tryz.sizeOf3
  v3 := Tryz.zeroValue3
  t5 := Tryz.underlying5
  a5 := Tryz.isAgg5
  z5 := Tryz.sizeOf5
  v5 := Tryz.zeroValue5
  t9 := Tryz.underlying9
  a9 := Tryz.isAgg9
  z9 := Tryz.sizeOf9
  v9 := Tryz.zeroValue9 }
open Go.RowKit Go.Lib in
/-- internal/stringslite.IndexByte (what strings.IndexByte calls): IT RETURNS 'Lib.indexByte s c'; the world is as it was. (LAID: no walk: one application.) -/
theorem Tryz.stringslite_IndexByte (s : ByteArray) (c : Int) (w : World) :
    Calls Tryz.prog 108 #[.string s, .int .u8 c] w fun e w' => e = .returned (.int .i64 (Lib.indexByte s.data.toList c.toNat.toUInt8)) ∧ w' = w := Any.stringslite_IndexByte Tryz.lays217 s c w
def Tryz.lays224_ren : Go.Shelf.Ren := ⟨fun | 224 => 110 | n => n, fun | 3 => 3 | n => n, fun | n => n⟩
theorem Tryz.lays224 : Go.Proofs.Lays.n224 Tryz.prog Tryz.lays224_ren := {
  mixed := by kernel_rfl
  f224 := Tryz.func110.trans (congrArg some (by kernel_rfl))
  t3 := Tryz.underlying3
  a3 := Tryz.isAgg3
  z3 := Tryz.sizeOf3
  v3 := Tryz.zeroValue3 }
open Go.RowKit Go.Lib in
/-- internal/bytealg.Cutover: "Cutover reports the number of failures of IndexByte we should tolerate before switching over to Index. n is the number of bytes processed so far.": on amd64: (n + 16) / 8. (LAID: no walk: one application.) -/
theorem Tryz.bytealg_Cutover (n : Int) (h0 : 0 ≤ n) (h1 : n < 4611686018427387904) (w : World) :
    Calls Tryz.prog 110 #[.int .i64 n] w fun e w' => e = .returned (.int .i64 ((n + 16) / 8)) ∧ w' = w := Any.bytealg_Cutover Tryz.lays224 n h0 h1 w
def Tryz.lays314_ren : Go.Shelf.Ren := ⟨fun | 314 => 124 | n => n, fun | 9 => 9 | 51 => 161 | 3 => 3 | 4 => 4 | 5 => 5 | 46 => 136 | n => n, fun | n => n⟩
theorem Tryz.lays314 : Go.Proofs.Lays.n314 Tryz.prog Tryz.lays314_ren := {
  mixed := by kernel_rfl
  f314 := Tryz.func124.trans (congrArg some (by kernel_rfl))
  t3 := Tryz.underlying3
  a3 := Tryz.isAgg3
  z3 := Tryz.sizeOf3
  v3 := Tryz.zeroValue3
  t4 := Tryz.underlying4
  a4 := Tryz.isAgg4
  z4 := Tryz.sizeOf4
  v4 := Tryz.zeroValue4
  t5 := Tryz.underlying5
  a5 := Tryz.isAgg5
  z5 := Tryz.sizeOf5
  v5 := Tryz.zeroValue5
  t9 := Tryz.underlying9
  a9 := Tryz.isAgg9
  z9 := Tryz.sizeOf9
  v9 := Tryz.zeroValue9
  t46 := Tryz.underlying136
  a46 := Tryz.isAgg136
  z46 := Tryz.sizeOf136
  v46 := Tryz.zeroValue136
  t51 := Tryz.underlying161
  a51 := Tryz.isAgg161
  z51 := Tryz.sizeOf161
  v51 := Tryz.zeroValue161 }
open Go.RowKit Go.Lib in
/-- hashStr: "returns the hash and the appropriate multiplicative factor for use in Rabin-Karp algorithm": THE HASH OF ALL OF sep, AND 16777619 ^ len(sep), both in uint32. (LAID: no walk: one application.) -/
theorem Tryz.bytealg_hashStr (sep : ByteArray) (hs : sep.size < 4294967281) (w : World) :
    Calls Tryz.prog 124 #[.string sep] w fun e w' => e = .returned (.tuple #[.int .u32 (RK.H sep.data.toList % 4294967296), .int .u32 (16777619 ^ sep.size % 4294967296)]) ∧ w' = w := Any.bytealg_hashStr Tryz.lays314 sep hs w
def Tryz.lays267_ren : Go.Shelf.Ren := ⟨fun | 267 => 111 | 314 => 124 | n => n, fun | 9 => 9 | 3 => 3 | 146 => 162 | 51 => 161 | 4 => 4 | 5 => 5 | 46 => 136 | n => n, fun | n => n⟩
theorem Tryz.lays267 : Go.Proofs.Lays.n267 Tryz.prog Tryz.lays267_ren := {
  mixed := by kernel_rfl
  f267 := Tryz.func111.trans (congrArg some (by kernel_rfl))
  f314 := Tryz.func124.trans (congrArg some (by kernel_rfl))
  t3 := Tryz.underlying3
  a3 := Tryz.isAgg3
  z3 := Tryz.sizeOf3
  v3 := Tryz.zeroValue3
  t4 := Tryz.underlying4
  a4 := Tryz.isAgg4
  z4 := Tryz.sizeOf4
  v4 := Tryz.zeroValue4
  t5 := Tryz.underlying5
  a5 := Tryz.isAgg5
  z5 := Tryz.sizeOf5
  v5 := Tryz.zeroValue5
  t9 := Tryz.underlying9
  a9 := Tryz.isAgg9
  z9 := Tryz.sizeOf9
  v9 := Tryz.zeroValue9
  t46 := Tryz.underlying136
  a46 := Tryz.isAgg136
  z46 := Tryz.sizeOf136
  v46 := Tryz.zeroValue136
  t51 := Tryz.underlying161
  a51 := Tryz.isAgg161
  z51 := Tryz.sizeOf161
  v51 := Tryz.zeroValue161
  t146 := Tryz.underlying162
  a146 := Tryz.isAgg162
  z146 := Tryz.sizeOf162
  v146 := Tryz.zeroValue162 }
open Go.RowKit Go.Lib in
theorem Tryz.bytealg_IndexRabinKarp (s sep : ByteArray) (h1 : 1 ≤ sep.size) (h2 : sep.size ≤ s.size) (hs : s.size < 4294967281) (w : World) :
    Calls Tryz.prog 111 #[.string s, .string sep] w fun e w' => e = .returned (.int .i64 (Lib.index s.data.toList sep.data.toList)) ∧ w' = w := Any.bytealg_IndexRabinKarp Tryz.lays267 s sep h1 h2 hs w
def Tryz.lays219_ren : Go.Shelf.Ren := ⟨fun | 219 => 97 | 217 => 108 | 225 => 109 | 224 => 110 | 267 => 111 | 266 => 123 | 314 => 124 | n => n, fun | 9 => 9 | 3 => 3 | 4 => 4 | 5 => 5 | 46 => 136 | 146 => 162 | 51 => 161 | n => n, fun | 1 => 0 | n => n⟩
theorem Tryz.lays219 : Go.Proofs.Lays.n219 Tryz.prog Tryz.lays219_ren := {
  mixed := by kernel_rfl
  f217 := Tryz.func108.trans (congrArg some (by kernel_rfl))
  f219 := Tryz.func97.trans (congrArg some (by kernel_rfl))
  f224 := Tryz.func110.trans (congrArg some (by kernel_rfl))
  f225 := Tryz.func109.trans (congrArg some (by kernel_rfl))
  f266 := Tryz.func123.trans (congrArg some (by kernel_rfl))
  f267 := Tryz.func111.trans (congrArg some (by kernel_rfl))
  f314 := Tryz.func124.trans (congrArg some (by kernel_rfl))
  t3 := Tryz.underlying3
  a3 := Tryz.isAgg3
  z3 := Tryz.sizeOf3
  v3 := Tryz.zeroValue3
  t4 := Tryz.underlying4
  a4 := Tryz.isAgg4
  z4 := Tryz.sizeOf4
  v4 := Tryz.zeroValue4
  t5 := Tryz.underlying5
  a5 := Tryz.isAgg5
  z5 := Tryz.sizeOf5
  v5 := Tryz.zeroValue5
  t9 := Tryz.underlying9
  a9 := Tryz.isAgg9
  z9 := Tryz.sizeOf9
  v9 := Tryz.zeroValue9
  t46 := Tryz.underlying136
  a46 := Tryz.isAgg136
  z46 := Tryz.sizeOf136
  v46 := Tryz.zeroValue136
  t51 := Tryz.underlying161
  a51 := Tryz.isAgg161
  z51 := Tryz.sizeOf161
  v51 := Tryz.zeroValue161
  t146 := Tryz.underlying162
  a146 := Tryz.isAgg162
  z146 := Tryz.sizeOf162
  v146 := Tryz.zeroValue162
  g1 := by kernel_rfl }
open Go.RowKit Go.Lib in
/-- internal/stringslite.Index (what strings.Index calls) AT A substr OF ONE BYTE c: IT RETURNS 'Lib.indexByte s c'; the world is as it was. (LAID: no walk: one application.) -/
theorem Tryz.stringslite_Index_one (s : ByteArray) (c : UInt8) (w : World) :
    Calls Tryz.prog 97 #[.string s, .string ⟨#[c]⟩] w fun e w' => e = .returned (.int .i64 (Lib.indexByte s.data.toList c)) ∧ w' = w := Any.stringslite_Index_one Tryz.lays219 s c w
open Go.RowKit Go.Lib in
/-- internal/stringslite.Index (what strings.Index calls) AT A substr OF WHATEVER LENGTH: IT RETURNS 'Lib.index s substr'; the world is as it was. 'm': what internal/bytealg.MaxLen holds: whatever. (LAID: no walk: one application.) -/
theorem Tryz.stringslite_Index (s sub : ByteArray) (m : Int) (w : World) (hs : s.size < 4294967281) (hm : w.cell? ⟨0, 0, none⟩ = some (.int .i64 m)) :
    Calls Tryz.prog 97 #[.string s, .string sub] w fun e w' => e = .returned (.int .i64 (Lib.index s.data.toList sub.data.toList)) ∧ w' = w := Any.stringslite_Index Tryz.lays219 s sub m w hs hm
def Tryz.lays143_ren : Go.Shelf.Ren := ⟨fun | 143 => 76 | 219 => 97 | 217 => 108 | 225 => 109 | 224 => 110 | 267 => 111 | 266 => 123 | 314 => 124 | n => n, fun | 9 => 9 | 3 => 3 | 4 => 4 | 5 => 5 | 46 => 136 | 146 => 162 | 51 => 161 | n => n, fun | 1 => 0 | n => n⟩
theorem Tryz.lays143 : Go.Proofs.Lays.n143 Tryz.prog Tryz.lays143_ren := {
  mixed := by kernel_rfl
  f143 := Tryz.func76.trans (congrArg some (by kernel_rfl))
  f217 := Tryz.func108.trans (congrArg some (by kernel_rfl))
  f219 := Tryz.func97.trans (congrArg some (by kernel_rfl))
  f224 := Tryz.func110.trans (congrArg some (by kernel_rfl))
  f225 := Tryz.func109.trans (congrArg some (by kernel_rfl))
  f266 := Tryz.func123.trans (congrArg some (by kernel_rfl))
  f267 := Tryz.func111.trans (congrArg some (by kernel_rfl))
  f314 := Tryz.func124.trans (congrArg some (by kernel_rfl))
  t3 := Tryz.underlying3
  a3 := Tryz.isAgg3
  z3 := Tryz.sizeOf3
  v3 := Tryz.zeroValue3
  t4 := Tryz.underlying4
  a4 := Tryz.isAgg4
  z4 := Tryz.sizeOf4
  v4 := Tryz.zeroValue4
  t5 := Tryz.underlying5
  a5 := Tryz.isAgg5
  z5 := Tryz.sizeOf5
  v5 := Tryz.zeroValue5
  t9 := Tryz.underlying9
  a9 := Tryz.isAgg9
  z9 := Tryz.sizeOf9
  v9 := Tryz.zeroValue9
  t46 := Tryz.underlying136
  a46 := Tryz.isAgg136
  z46 := Tryz.sizeOf136
  v46 := Tryz.zeroValue136
  t51 := Tryz.underlying161
  a51 := Tryz.isAgg161
  z51 := Tryz.sizeOf161
  v51 := Tryz.zeroValue161
  t146 := Tryz.underlying162
  a146 := Tryz.isAgg162
  z146 := Tryz.sizeOf162
  v146 := Tryz.zeroValue162
  g1 := by kernel_rfl }
open Go.RowKit Go.Lib in
/-- strings.Index: "Index returns the index of the first instance of substr in s, or -1 if substr is not present in s.": AT A substr OF ONE BYTE c: IT RETURNS 'Lib.indexByte s c'; the world is as it was. (LAID: no walk: one application.) -/
theorem Tryz.strings_Index_one (s : ByteArray) (c : UInt8) (w : World) :
    Calls Tryz.prog 76 #[.string s, .string ⟨#[c]⟩] w fun e w' => e = .returned (.int .i64 (Lib.indexByte s.data.toList c)) ∧ w' = w := Any.strings_Index_one Tryz.lays143 s c w
open Go.RowKit Go.Lib in
/-- strings.Index: "Index returns the index of the first instance of substr in s, or -1 if substr is not present in s.": IT RETURNS 'Lib.index s substr'; the world is as it was. (LAID: no walk: one application.) -/
theorem Tryz.strings_Index (s sub : ByteArray) (m : Int) (w : World) (hs : s.size < 4294967281) (hm : w.cell? ⟨0, 0, none⟩ = some (.int .i64 m)) :
    Calls Tryz.prog 76 #[.string s, .string sub] w fun e w' => e = .returned (.int .i64 (Lib.index s.data.toList sub.data.toList)) ∧ w' = w := Any.strings_Index Tryz.lays143 s sub m w hs hm
def Tryz.lays138_ren : Go.Shelf.Ren := ⟨fun | 138 => 75 | 195 => 94 | 218 => 96 | 143 => 76 | 219 => 97 | 217 => 108 | 225 => 109 | 224 => 110 | 267 => 111 | 266 => 123 | 314 => 124 | n => n, fun | 9 => 9 | 3 => 3 | 4 => 4 | 5 => 5 | 0 => 0 | 46 => 136 | 146 => 162 | 51 => 161 | n => n, fun | 1 => 0 | n => n⟩
theorem Tryz.lays138 : Go.Proofs.Lays.n138 Tryz.prog Tryz.lays138_ren := {
  mixed := by kernel_rfl
  f138 := Tryz.func75.trans (congrArg some (by kernel_rfl))
  f143 := Tryz.func76.trans (congrArg some (by kernel_rfl))
  f195 := Tryz.func94.trans (congrArg some (by kernel_rfl))
  f217 := Tryz.func108.trans (congrArg some (by kernel_rfl))
  f218 := Tryz.func96.trans (congrArg some (by kernel_rfl))
  f219 := Tryz.func97.trans (congrArg some (by kernel_rfl))
  f224 := Tryz.func110.trans (congrArg some (by kernel_rfl))
  f225 := Tryz.func109.trans (congrArg some (by kernel_rfl))
  f266 := Tryz.func123.trans (congrArg some (by kernel_rfl))
  f267 := Tryz.func111.trans (congrArg some (by kernel_rfl))
  f314 := Tryz.func124.trans (congrArg some (by kernel_rfl))
  t0 := Tryz.underlying0
  a0 := Tryz.isAgg0
  z0 := Tryz.sizeOf0
  v0 := Tryz.zeroValue0
  t3 := Tryz.underlying3
  a3 := Tryz.isAgg3
  z3 := Tryz.sizeOf3
  v3 := Tryz.zeroValue3
  t4 := Tryz.underlying4
  a4 := Tryz.isAgg4
  z4 := Tryz.sizeOf4
  v4 := Tryz.zeroValue4
  t5 := Tryz.underlying5
  a5 := Tryz.isAgg5
  z5 := Tryz.sizeOf5
  v5 := Tryz.zeroValue5
  t9 := Tryz.underlying9
  a9 := Tryz.isAgg9
  z9 := Tryz.sizeOf9
  v9 := Tryz.zeroValue9
  t46 := Tryz.underlying136
  a46 := Tryz.isAgg136
  z46 := Tryz.sizeOf136
  v46 := Tryz.zeroValue136
  t51 := Tryz.underlying161
  a51 := Tryz.isAgg161
  z51 := Tryz.sizeOf161
  v51 := Tryz.zeroValue161
  t146 := Tryz.underlying162
  a146 := Tryz.isAgg162
  z146 := Tryz.sizeOf162
  v146 := Tryz.zeroValue162
  g1 := by kernel_rfl }
open Go.RowKit Go.Lib in
/-- strings.Count AT A substr OF ONE BYTE ('hp'): "Count counts the number of non-overlapping instances of substr in s.": IT RETURNS 'Lib.countByte s (that byte)'; the world is as it was. ✋ NO CONTRACT HERE YET at an empty substr (utf8.RuneCountInString) or at a longer one (a loop over strings.Index). (LAID: no walk: one application.) -/
theorem Tryz.strings_Count_one (s : ByteArray) (c : UInt8) (w : World) :
    Calls Tryz.prog 75 #[.string s, .string ⟨#[c]⟩] w fun e w' => e = .returned (.int .i64 (Lib.countByte s.data.toList c)) ∧ w' = w := Any.strings_Count_one Tryz.lays138 s c w
open Go.RowKit Go.Lib in
/-- strings.Count AT A substr OF TWO BYTES OR MORE: "Count counts the number of non-overlapping instances of substr in s.": IT RETURNS 'Lib.count s substr'; the world is as it was. (LAID: no walk: one application.) -/
theorem Tryz.strings_Count (s sub : ByteArray) (m : Int) (w : World) (hs : s.size < 4294967281) (hm : w.cell? ⟨0, 0, none⟩ = some (.int .i64 m)) (h2 : 2 ≤ sub.size) :
    Calls Tryz.prog 75 #[.string s, .string sub] w fun e w' => e = .returned (.int .i64 (Lib.countB s sub)) ∧ w' = w := Any.strings_Count Tryz.lays138 s sub m w hs hm h2
def Tryz.laysM219_ren : Go.Shelf.Ren := ⟨fun | 219 => 97 | 217 => 108 | 225 => 109 | 224 => 110 | 267 => 111 | 266 => 123 | 314 => 124 | n => n, fun | 9 => 9 | 3 => 3 | 4 => 4 | 5 => 5 | 46 => 136 | 146 => 162 | 51 => 161 | n => n, fun | 1 => 0 | n => n⟩
theorem Tryz.laysM219 : Go.Proofs.LaysM.n219 Tryz.prog Tryz.laysM219_ren := {
  mixed := by kernel_rfl
  f217 := Tryz.func108.trans (congrArg some (by kernel_rfl))
  f219 := Tryz.func97.trans (congrArg some (by kernel_rfl))
  f224 := Tryz.func110.trans (congrArg some (by kernel_rfl))
  f225 := Tryz.func109.trans (congrArg some (by kernel_rfl))
  f266 := Tryz.func123.trans (congrArg some (by kernel_rfl))
  f267 := Tryz.func111.trans (congrArg some (by kernel_rfl))
  f314 := Tryz.func124.trans (congrArg some (by kernel_rfl))
  t3 := Tryz.underlying3
  a3 := Tryz.isAgg3
  z3 := Tryz.sizeOf3
  v3 := Tryz.zeroValue3
  t4 := Tryz.underlying4
  a4 := Tryz.isAgg4
  z4 := Tryz.sizeOf4
  v4 := Tryz.zeroValue4
  t5 := Tryz.underlying5
  a5 := Tryz.isAgg5
  z5 := Tryz.sizeOf5
  v5 := Tryz.zeroValue5
  t9 := Tryz.underlying9
  a9 := Tryz.isAgg9
  z9 := Tryz.sizeOf9
  v9 := Tryz.zeroValue9
  t46 := Tryz.underlying136
  a46 := Tryz.isAgg136
  z46 := Tryz.sizeOf136
  v46 := Tryz.zeroValue136
  t51 := Tryz.underlying161
  a51 := Tryz.isAgg161
  z51 := Tryz.sizeOf161
  v51 := Tryz.zeroValue161
  t146 := Tryz.underlying162
  a146 := Tryz.isAgg162
  z146 := Tryz.sizeOf162
  v146 := Tryz.zeroValue162
  g1 := by kernel_rfl
  i3 := by kernel_rfl
  i4 := by kernel_rfl
  i5 := by kernel_rfl
  i9 := by kernel_rfl
  i46 := by kernel_rfl
  i51 := by kernel_rfl
  i146 := by kernel_rfl
  m1 := by kernel_rfl
  s1_3 := fun w h => Go.Proofs.cell_of_shapedOpen_int (zero := #[.int .i64 0]) (t := 3) h (of_decide_eq_true (by kernel_rfl)) (by kernel_rfl) rfl (by kernel_rfl) (by kernel_rfl) Tryz.underlying3 }
open Go.RowKit Go.Lib in
theorem Tryz.stringslite_Index_shaped (s sub : ByteArray) (w : World) (h : w.ShapedOpen Tryz.prog) (hs : s.size < 4294967281) :
    Calls Tryz.prog 97 #[.string s, .string sub] w fun e w' => e = .returned (.int .i64 (Lib.index s.data.toList sub.data.toList)) ∧ w' = w := Any.stringslite_Index_shaped Tryz.laysM219 s sub w h hs
def Tryz.laysM143_ren : Go.Shelf.Ren := ⟨fun | 143 => 76 | 219 => 97 | 217 => 108 | 225 => 109 | 224 => 110 | 267 => 111 | 266 => 123 | 314 => 124 | n => n, fun | 9 => 9 | 3 => 3 | 4 => 4 | 5 => 5 | 46 => 136 | 146 => 162 | 51 => 161 | n => n, fun | 1 => 0 | n => n⟩
theorem Tryz.laysM143 : Go.Proofs.LaysM.n143 Tryz.prog Tryz.laysM143_ren := {
  mixed := by kernel_rfl
  f143 := Tryz.func76.trans (congrArg some (by kernel_rfl))
  f217 := Tryz.func108.trans (congrArg some (by kernel_rfl))
  f219 := Tryz.func97.trans (congrArg some (by kernel_rfl))
  f224 := Tryz.func110.trans (congrArg some (by kernel_rfl))
  f225 := Tryz.func109.trans (congrArg some (by kernel_rfl))
  f266 := Tryz.func123.trans (congrArg some (by kernel_rfl))
  f267 := Tryz.func111.trans (congrArg some (by kernel_rfl))
  f314 := Tryz.func124.trans (congrArg some (by kernel_rfl))
  t3 := Tryz.underlying3
  a3 := Tryz.isAgg3
  z3 := Tryz.sizeOf3
  v3 := Tryz.zeroValue3
  t4 := Tryz.underlying4
  a4 := Tryz.isAgg4
  z4 := Tryz.sizeOf4
  v4 := Tryz.zeroValue4
  t5 := Tryz.underlying5
  a5 := Tryz.isAgg5
  z5 := Tryz.sizeOf5
  v5 := Tryz.zeroValue5
  t9 := Tryz.underlying9
  a9 := Tryz.isAgg9
  z9 := Tryz.sizeOf9
  v9 := Tryz.zeroValue9
  t46 := Tryz.underlying136
  a46 := Tryz.isAgg136
  z46 := Tryz.sizeOf136
  v46 := Tryz.zeroValue136
  t51 := Tryz.underlying161
  a51 := Tryz.isAgg161
  z51 := Tryz.sizeOf161
  v51 := Tryz.zeroValue161
  t146 := Tryz.underlying162
  a146 := Tryz.isAgg162
  z146 := Tryz.sizeOf162
  v146 := Tryz.zeroValue162
  g1 := by kernel_rfl
  i3 := by kernel_rfl
  i4 := by kernel_rfl
  i5 := by kernel_rfl
  i9 := by kernel_rfl
  i46 := by kernel_rfl
  i51 := by kernel_rfl
  i146 := by kernel_rfl
  m1 := by kernel_rfl
  s1_3 := fun w h => Go.Proofs.cell_of_shapedOpen_int (zero := #[.int .i64 0]) (t := 3) h (of_decide_eq_true (by kernel_rfl)) (by kernel_rfl) rfl (by kernel_rfl) (by kernel_rfl) Tryz.underlying3 }
open Go.RowKit Go.Lib in
theorem Tryz.strings_Index_shaped (s sub : ByteArray) (w : World) (h : w.ShapedOpen Tryz.prog) (hs : s.size < 4294967281) :
    Calls Tryz.prog 76 #[.string s, .string sub] w fun e w' => e = .returned (.int .i64 (Lib.index s.data.toList sub.data.toList)) ∧ w' = w := Any.strings_Index_shaped Tryz.laysM143 s sub w h hs
def Tryz.laysM138_ren : Go.Shelf.Ren := ⟨fun | 138 => 75 | 195 => 94 | 218 => 96 | 143 => 76 | 219 => 97 | 217 => 108 | 225 => 109 | 224 => 110 | 267 => 111 | 266 => 123 | 314 => 124 | n => n, fun | 9 => 9 | 3 => 3 | 4 => 4 | 5 => 5 | 0 => 0 | 46 => 136 | 146 => 162 | 51 => 161 | n => n, fun | 1 => 0 | n => n⟩
theorem Tryz.laysM138 : Go.Proofs.LaysM.n138 Tryz.prog Tryz.laysM138_ren := {
  mixed := by kernel_rfl
  f138 := Tryz.func75.trans (congrArg some (by kernel_rfl))
  f143 := Tryz.func76.trans (congrArg some (by kernel_rfl))
  f195 := Tryz.func94.trans (congrArg some (by kernel_rfl))
  f217 := Tryz.func108.trans (congrArg some (by kernel_rfl))
  f218 := Tryz.func96.trans (congrArg some (by kernel_rfl))
  f219 := Tryz.func97.trans (congrArg some (by kernel_rfl))
  f224 := Tryz.func110.trans (congrArg some (by kernel_rfl))
  f225 := Tryz.func109.trans (congrArg some (by kernel_rfl))
  f266 := Tryz.func123.trans (congrArg some (by kernel_rfl))
  f267 := Tryz.func111.trans (congrArg some (by kernel_rfl))
  f314 := Tryz.func124.trans (congrArg some (by kernel_rfl))
  t0 := Tryz.underlying0
  a0 := Tryz.isAgg0
  z0 := Tryz.sizeOf0
  v0 := Tryz.zeroValue0
  t3 := Tryz.underlying3
  a3 := Tryz.isAgg3
  z3 := Tryz.sizeOf3
  v3 := Tryz.zeroValue3
  t4 := Tryz.underlying4
  a4 := Tryz.isAgg4
  z4 := Tryz.sizeOf4
  v4 := Tryz.zeroValue4
  t5 := Tryz.underlying5
  a5 := Tryz.isAgg5
  z5 := Tryz.sizeOf5
  v5 := Tryz.zeroValue5
  t9 := Tryz.underlying9
  a9 := Tryz.isAgg9
  z9 := Tryz.sizeOf9
  v9 := Tryz.zeroValue9
  t46 := Tryz.underlying136
  a46 := Tryz.isAgg136
  z46 := Tryz.sizeOf136
  v46 := Tryz.zeroValue136
  t51 := Tryz.underlying161
  a51 := Tryz.isAgg161
  z51 := Tryz.sizeOf161
  v51 := Tryz.zeroValue161
  t146 := Tryz.underlying162
  a146 := Tryz.isAgg162
  z146 := Tryz.sizeOf162
  v146 := Tryz.zeroValue162
  g1 := by kernel_rfl
  i0 := by kernel_rfl
  i3 := by kernel_rfl
  i4 := by kernel_rfl
  i5 := by kernel_rfl
  i9 := by kernel_rfl
  i46 := by kernel_rfl
  i51 := by kernel_rfl
  i146 := by kernel_rfl
  m1 := by kernel_rfl
  s1_3 := fun w h => Go.Proofs.cell_of_shapedOpen_int (zero := #[.int .i64 0]) (t := 3) h (of_decide_eq_true (by kernel_rfl)) (by kernel_rfl) rfl (by kernel_rfl) (by kernel_rfl) Tryz.underlying3 }
open Go.RowKit Go.Lib in
theorem Tryz.strings_Count_shaped (s sub : ByteArray) (w : World) (h : w.ShapedOpen Tryz.prog) (hs : s.size < 4294967281) (h2 : 2 ≤ sub.size) :
    Calls Tryz.prog 75 #[.string s, .string sub] w fun e w' => e = .returned (.int .i64 (Lib.countB s sub)) ∧ w' = w := Any.strings_Count_shaped Tryz.laysM138 s sub w h hs h2
open Go.RowKit Go.Lib in
/-- strings.Count at whatever sep that is not empty: the two roads under one statement. (LAID: no walk: one application.) -/
theorem Tryz.strings_Count_any (s sep : ByteArray) (m : Int) (w : World) (hs : s.size < 4294967281) (hm : w.cell? ⟨0, 0, none⟩ = some (.int .i64 m)) (h1 : 1 ≤ sep.size) :
    Calls Tryz.prog 75 #[.string s, .string sep] w fun e w' => e = .returned (.int .i64 (Lib.countB s sep)) ∧ w' = w := Any.strings_Count_any Tryz.lays138 s sep m w hs hm h1
def Tryz.lays221_ren : Go.Shelf.Ren := ⟨fun | 221 => 50 | 268 => 74 | 138 => 75 | 143 => 76 | 195 => 94 | 197 => 95 | 218 => 96 | 219 => 97 | 260 => 107 | 217 => 108 | 225 => 109 | 224 => 110 | 267 => 111 | 266 => 123 | 314 => 124 | n => n, fun | 9 => 9 | 3 => 3 | 31 => 69 | 4 => 4 | 0 => 0 | 105 => 137 | 21 => 21 | 5 => 5 | 46 => 136 | 119 => 157 | 139 => 160 | 138 => 159 | 146 => 162 | 51 => 161 | n => n, fun | 1 => 0 | 3 => 1 | 4 => 2 | n => n⟩
theorem Tryz.lays221 : Go.Proofs.Lays.n221 Tryz.prog Tryz.lays221_ren := {
  mixed := by kernel_rfl
  f138 := Tryz.func75.trans (congrArg some (by kernel_rfl))
  f143 := Tryz.func76.trans (congrArg some (by kernel_rfl))
  f195 := Tryz.func94.trans (congrArg some (by kernel_rfl))
  f197 := Tryz.func95.trans (congrArg some (by kernel_rfl))
  f217 := Tryz.func108.trans (congrArg some (by kernel_rfl))
  f218 := Tryz.func96.trans (congrArg some (by kernel_rfl))
  f219 := Tryz.func97.trans (congrArg some (by kernel_rfl))
  f221 := Tryz.func50.trans (congrArg some (by kernel_rfl))
  f224 := Tryz.func110.trans (congrArg some (by kernel_rfl))
  f225 := Tryz.func109.trans (congrArg some (by kernel_rfl))
  f260 := Tryz.func107.trans (congrArg some (by kernel_rfl))
  f266 := Tryz.func123.trans (congrArg some (by kernel_rfl))
  f267 := Tryz.func111.trans (congrArg some (by kernel_rfl))
  f268 := Tryz.func74.trans (congrArg some (by kernel_rfl))
  f314 := Tryz.func124.trans (congrArg some (by kernel_rfl))
  t0 := Tryz.underlying0
  a0 := Tryz.isAgg0
  z0 := Tryz.sizeOf0
  v0 := Tryz.zeroValue0
  t3 := Tryz.underlying3
  a3 := Tryz.isAgg3
  z3 := Tryz.sizeOf3
  v3 := Tryz.zeroValue3
  t4 := Tryz.underlying4
  a4 := Tryz.isAgg4
  z4 := Tryz.sizeOf4
  v4 := Tryz.zeroValue4
  t5 := Tryz.underlying5
  a5 := Tryz.isAgg5
  z5 := Tryz.sizeOf5
  v5 := Tryz.zeroValue5
  t9 := Tryz.underlying9
  a9 := Tryz.isAgg9
  z9 := Tryz.sizeOf9
  v9 := Tryz.zeroValue9
  t21 := Tryz.underlying21
  a21 := Tryz.isAgg21
  z21 := Tryz.sizeOf21
  v21 := Tryz.zeroValue21
  t31 := Tryz.underlying69
  a31 := Tryz.isAgg69
  z31 := Tryz.sizeOf69
  v31 := Tryz.zeroValue69
  t46 := Tryz.underlying136
  a46 := Tryz.isAgg136
  z46 := Tryz.sizeOf136
  v46 := Tryz.zeroValue136
  t51 := Tryz.underlying161
  a51 := Tryz.isAgg161
  z51 := Tryz.sizeOf161
  v51 := Tryz.zeroValue161
  t105 := Tryz.underlying137
  a105 := Tryz.isAgg137
  z105 := Tryz.sizeOf137
  v105 := Tryz.zeroValue137
  t119 := Tryz.underlying157
  a119 := Tryz.isAgg157
  z119 := Tryz.sizeOf157
  t138 := Tryz.underlying159
  a138 := Tryz.isAgg159
  z138 := Tryz.sizeOf159
  v138 := Tryz.zeroValue159
  t139 := Tryz.underlying160
  a139 := Tryz.isAgg160
  z139 := Tryz.sizeOf160
  v139 := Tryz.zeroValue160
  t146 := Tryz.underlying162
  a146 := Tryz.isAgg162
  z146 := Tryz.sizeOf162
  v146 := Tryz.zeroValue162
  g1 := by kernel_rfl
  g3 := by kernel_rfl
  g4 := by kernel_rfl }
open Go.RowKit Go.Lib in
theorem Tryz.strings_genSplit (s sep : ByteArray) (sv : Nat) (n : Int) (N : Nat) (m : Int) (w : World) (hs : s.size < 4294967281) (hm : w.cell? ⟨0, 0, none⟩ = some (.int .i64 m)) (h1 : 1 ≤ sep.size) (hsv : sv ≤ sep.size) (hn0 : n ≠ 0) (hn63 : n ≤ 9223372036854775807) (hN : (N : Int) = min (if n < 0 then (Lib.countB s sep : Int) + 1 else n) ((s.size : Int) + 1)) :
    Calls Tryz.prog 50 #[.string s, .string sep, .int .i64 sv, .int .i64 n] w fun e w' =>
      e = .returned (.slice (some ⟨w.heap.size, 0, none⟩) (Lib.splitB sep sv (N - 1) s).length N) ∧ w' = w.alloc (.cells (Lib.cellsOf (Lib.splitB sep sv (N - 1) s) N) 9) := Any.strings_genSplit Tryz.lays221 (by kernel_rfl) s sep sv n N m w hs hm h1 hsv hn0 hn63 hN
def Tryz.lays146_ren : Go.Shelf.Ren := ⟨fun | 146 => 29 | 221 => 50 | 268 => 74 | 138 => 75 | 143 => 76 | 195 => 94 | 197 => 95 | 218 => 96 | 219 => 97 | 260 => 107 | 217 => 108 | 225 => 109 | 224 => 110 | 267 => 111 | 266 => 123 | 314 => 124 | n => n, fun | 9 => 9 | 31 => 69 | 3 => 3 | 4 => 4 | 0 => 0 | 105 => 137 | 21 => 21 | 5 => 5 | 46 => 136 | 119 => 157 | 139 => 160 | 138 => 159 | 146 => 162 | 51 => 161 | n => n, fun | 1 => 0 | 3 => 1 | 4 => 2 | n => n⟩
theorem Tryz.lays146 : Go.Proofs.Lays.n146 Tryz.prog Tryz.lays146_ren := {
  mixed := by kernel_rfl
  f138 := Tryz.func75.trans (congrArg some (by kernel_rfl))
  f143 := Tryz.func76.trans (congrArg some (by kernel_rfl))
  f146 := Tryz.func29.trans (congrArg some (by kernel_rfl))
  f195 := Tryz.func94.trans (congrArg some (by kernel_rfl))
  f197 := Tryz.func95.trans (congrArg some (by kernel_rfl))
  f217 := Tryz.func108.trans (congrArg some (by kernel_rfl))
  f218 := Tryz.func96.trans (congrArg some (by kernel_rfl))
  f219 := Tryz.func97.trans (congrArg some (by kernel_rfl))
  f221 := Tryz.func50.trans (congrArg some (by kernel_rfl))
  f224 := Tryz.func110.trans (congrArg some (by kernel_rfl))
  f225 := Tryz.func109.trans (congrArg some (by kernel_rfl))
  f260 := Tryz.func107.trans (congrArg some (by kernel_rfl))
  f266 := Tryz.func123.trans (congrArg some (by kernel_rfl))
  f267 := Tryz.func111.trans (congrArg some (by kernel_rfl))
  f268 := Tryz.func74.trans (congrArg some (by kernel_rfl))
  f314 := Tryz.func124.trans (congrArg some (by kernel_rfl))
  t0 := Tryz.underlying0
  a0 := Tryz.isAgg0
  z0 := Tryz.sizeOf0
  v0 := Tryz.zeroValue0
  t3 := Tryz.underlying3
  a3 := Tryz.isAgg3
  z3 := Tryz.sizeOf3
  v3 := Tryz.zeroValue3
  t4 := Tryz.underlying4
  a4 := Tryz.isAgg4
  z4 := Tryz.sizeOf4
  v4 := Tryz.zeroValue4
  t5 := Tryz.underlying5
  a5 := Tryz.isAgg5
  z5 := Tryz.sizeOf5
  v5 := Tryz.zeroValue5
  t9 := Tryz.underlying9
  a9 := Tryz.isAgg9
  z9 := Tryz.sizeOf9
  v9 := Tryz.zeroValue9
  t21 := Tryz.underlying21
  a21 := Tryz.isAgg21
  z21 := Tryz.sizeOf21
  v21 := Tryz.zeroValue21
  t31 := Tryz.underlying69
  a31 := Tryz.isAgg69
  z31 := Tryz.sizeOf69
  v31 := Tryz.zeroValue69
  t46 := Tryz.underlying136
  a46 := Tryz.isAgg136
  z46 := Tryz.sizeOf136
  v46 := Tryz.zeroValue136
  t51 := Tryz.underlying161
  a51 := Tryz.isAgg161
  z51 := Tryz.sizeOf161
  v51 := Tryz.zeroValue161
  t105 := Tryz.underlying137
  a105 := Tryz.isAgg137
  z105 := Tryz.sizeOf137
  v105 := Tryz.zeroValue137
  t119 := Tryz.underlying157
  a119 := Tryz.isAgg157
  z119 := Tryz.sizeOf157
  t138 := Tryz.underlying159
  a138 := Tryz.isAgg159
  z138 := Tryz.sizeOf159
  v138 := Tryz.zeroValue159
  t139 := Tryz.underlying160
  a139 := Tryz.isAgg160
  z139 := Tryz.sizeOf160
  v139 := Tryz.zeroValue160
  t146 := Tryz.underlying162
  a146 := Tryz.isAgg162
  z146 := Tryz.sizeOf162
  v146 := Tryz.zeroValue162
  g1 := by kernel_rfl
  g3 := by kernel_rfl
  g4 := by kernel_rfl }
open Go.RowKit Go.Lib in
/-- strings.Split. (LAID: no walk: one application.) -/
theorem Tryz.strings_Split (s sep : ByteArray) (m : Int) (w : World) (hs : s.size < 4294967281) (hm : w.cell? ⟨0, 0, none⟩ = some (.int .i64 m)) (h1 : 1 ≤ sep.size) :
    Calls Tryz.prog 29 #[.string s, .string sep] w fun e w' =>
      e = .returned (.slice (some ⟨w.heap.size, 0, none⟩) (Lib.countB s sep + 1) (Lib.countB s sep + 1)) ∧ w' = w.alloc (.cells ((Lib.splitB sep 0 (Lib.countB s sep) s).map Value.string).toArray 9) := Any.strings_Split Tryz.lays146 (by kernel_rfl) s sep m w hs hm h1
def Tryz.laysM146_ren : Go.Shelf.Ren := ⟨fun | 146 => 29 | 221 => 50 | 268 => 74 | 138 => 75 | 143 => 76 | 195 => 94 | 197 => 95 | 218 => 96 | 219 => 97 | 260 => 107 | 217 => 108 | 225 => 109 | 224 => 110 | 267 => 111 | 266 => 123 | 314 => 124 | n => n, fun | 9 => 9 | 31 => 69 | 3 => 3 | 4 => 4 | 0 => 0 | 105 => 137 | 21 => 21 | 5 => 5 | 46 => 136 | 119 => 157 | 139 => 160 | 138 => 159 | 146 => 162 | 51 => 161 | n => n, fun | 1 => 0 | 3 => 1 | 4 => 2 | n => n⟩
theorem Tryz.laysM146 : Go.Proofs.LaysM.n146 Tryz.prog Tryz.laysM146_ren := {
  mixed := by kernel_rfl
  f138 := Tryz.func75.trans (congrArg some (by kernel_rfl))
  f143 := Tryz.func76.trans (congrArg some (by kernel_rfl))
  f146 := Tryz.func29.trans (congrArg some (by kernel_rfl))
  f195 := Tryz.func94.trans (congrArg some (by kernel_rfl))
  f197 := Tryz.func95.trans (congrArg some (by kernel_rfl))
  f217 := Tryz.func108.trans (congrArg some (by kernel_rfl))
  f218 := Tryz.func96.trans (congrArg some (by kernel_rfl))
  f219 := Tryz.func97.trans (congrArg some (by kernel_rfl))
  f221 := Tryz.func50.trans (congrArg some (by kernel_rfl))
  f224 := Tryz.func110.trans (congrArg some (by kernel_rfl))
  f225 := Tryz.func109.trans (congrArg some (by kernel_rfl))
  f260 := Tryz.func107.trans (congrArg some (by kernel_rfl))
  f266 := Tryz.func123.trans (congrArg some (by kernel_rfl))
  f267 := Tryz.func111.trans (congrArg some (by kernel_rfl))
  f268 := Tryz.func74.trans (congrArg some (by kernel_rfl))
  f314 := Tryz.func124.trans (congrArg some (by kernel_rfl))
  t0 := Tryz.underlying0
  a0 := Tryz.isAgg0
  z0 := Tryz.sizeOf0
  v0 := Tryz.zeroValue0
  t3 := Tryz.underlying3
  a3 := Tryz.isAgg3
  z3 := Tryz.sizeOf3
  v3 := Tryz.zeroValue3
  t4 := Tryz.underlying4
  a4 := Tryz.isAgg4
  z4 := Tryz.sizeOf4
  v4 := Tryz.zeroValue4
  t5 := Tryz.underlying5
  a5 := Tryz.isAgg5
  z5 := Tryz.sizeOf5
  v5 := Tryz.zeroValue5
  t9 := Tryz.underlying9
  a9 := Tryz.isAgg9
  z9 := Tryz.sizeOf9
  v9 := Tryz.zeroValue9
  t21 := Tryz.underlying21
  a21 := Tryz.isAgg21
  z21 := Tryz.sizeOf21
  v21 := Tryz.zeroValue21
  t31 := Tryz.underlying69
  a31 := Tryz.isAgg69
  z31 := Tryz.sizeOf69
  v31 := Tryz.zeroValue69
  t46 := Tryz.underlying136
  a46 := Tryz.isAgg136
  z46 := Tryz.sizeOf136
  v46 := Tryz.zeroValue136
  t51 := Tryz.underlying161
  a51 := Tryz.isAgg161
  z51 := Tryz.sizeOf161
  v51 := Tryz.zeroValue161
  t105 := Tryz.underlying137
  a105 := Tryz.isAgg137
  z105 := Tryz.sizeOf137
  v105 := Tryz.zeroValue137
  t119 := Tryz.underlying157
  a119 := Tryz.isAgg157
  z119 := Tryz.sizeOf157
  t138 := Tryz.underlying159
  a138 := Tryz.isAgg159
  z138 := Tryz.sizeOf159
  v138 := Tryz.zeroValue159
  t139 := Tryz.underlying160
  a139 := Tryz.isAgg160
  z139 := Tryz.sizeOf160
  v139 := Tryz.zeroValue160
  t146 := Tryz.underlying162
  a146 := Tryz.isAgg162
  z146 := Tryz.sizeOf162
  v146 := Tryz.zeroValue162
  g1 := by kernel_rfl
  g3 := by kernel_rfl
  g4 := by kernel_rfl
  i0 := by kernel_rfl
  i3 := by kernel_rfl
  i4 := by kernel_rfl
  i5 := by kernel_rfl
  i9 := by kernel_rfl
  i21 := by kernel_rfl
  i31 := by kernel_rfl
  i46 := by kernel_rfl
  i51 := by kernel_rfl
  i105 := by kernel_rfl
  i138 := by kernel_rfl
  i139 := by kernel_rfl
  i146 := by kernel_rfl
  m1 := by kernel_rfl
  s1_3 := fun w h => Go.Proofs.cell_of_shapedOpen_int (zero := #[.int .i64 0]) (t := 3) h (of_decide_eq_true (by kernel_rfl)) (by kernel_rfl) rfl (by kernel_rfl) (by kernel_rfl) Tryz.underlying3
  m3 := by kernel_rfl
  m4 := by kernel_rfl }
open Go.RowKit Go.Lib in
/-- strings.Split, sep not empty. (LAID: no walk: one application.) -/
theorem Tryz.strings_Split_shaped (s sep : ByteArray) (w : World) (h : w.ShapedOpen Tryz.prog) (hs : s.size < 4294967281) (h1 : 1 ≤ sep.size) :
    Calls Tryz.prog 29 #[.string s, .string sep] w fun e w' =>
      e = .returned (.slice (some ⟨w.heap.size, 0, none⟩) (Lib.countB s sep + 1) (Lib.countB s sep + 1)) ∧ w' = w.alloc (.cells ((Lib.splitB sep 0 (Lib.countB s sep) s).map Value.string).toArray 9) := Any.strings_Split_shaped Tryz.laysM146 s sep w h hs h1
def Tryz.lays260_ren : Go.Shelf.Ren := ⟨fun | 260 => 107 | n => n, fun | 9 => 9 | 21 => 21 | 3 => 3 | 4 => 4 | 5 => 5 | 119 => 157 | 0 => 0 | 46 => 136 | 139 => 160 | 138 => 159 | n => n, fun | 3 => 1 | 4 => 2 | n => n⟩
theorem Tryz.lays260 : Go.Proofs.Lays.n260 Tryz.prog Tryz.lays260_ren := {
  mixed := by kernel_rfl
  f260 := Tryz.func107.trans (congrArg some (by kernel_rfl))
  t0 := Tryz.underlying0
  a0 := Tryz.isAgg0
  z0 := Tryz.sizeOf0
  v0 := Tryz.zeroValue0
  t3 := Tryz.underlying3
  a3 := Tryz.isAgg3
  z3 := Tryz.sizeOf3
  v3 := Tryz.zeroValue3
  t4 := Tryz.underlying4
  a4 := Tryz.isAgg4
  z4 := Tryz.sizeOf4
  v4 := Tryz.zeroValue4
  t5 := Tryz.underlying5
  a5 := Tryz.isAgg5
  z5 := Tryz.sizeOf5
  v5 := Tryz.zeroValue5
  t9 := Tryz.underlying9
  a9 := Tryz.isAgg9
  z9 := Tryz.sizeOf9
  v9 := Tryz.zeroValue9
  t21 := Tryz.underlying21
  a21 := Tryz.isAgg21
  z21 := Tryz.sizeOf21
  v21 := Tryz.zeroValue21
  t46 := Tryz.underlying136
  a46 := Tryz.isAgg136
  z46 := Tryz.sizeOf136
  v46 := Tryz.zeroValue136
  t119 := Tryz.underlying157
  a119 := Tryz.isAgg157
  z119 := Tryz.sizeOf157
  t138 := Tryz.underlying159
  a138 := Tryz.isAgg159
  z138 := Tryz.sizeOf159
  v138 := Tryz.zeroValue159
  t139 := Tryz.underlying160
  a139 := Tryz.isAgg160
  z139 := Tryz.sizeOf160
  v139 := Tryz.zeroValue160
  g3 := by kernel_rfl
  g4 := by kernel_rfl }
open Go.RowKit Go.Lib in
theorem Tryz.utf8_decodeRuneInStringSlow (s : ByteArray) (w : World) (hT : Lib.Utf8Tabs 1 2 w) :
    Calls Tryz.prog 107 #[.string s] w fun e w' => e = .returned (.tuple #[.int .i32 (Lib.decodeGo s).1, .int .i64 (Lib.decodeGo s).2]) ∧ Below w.heap.size w w' := Any.utf8_decodeRuneInStringSlow Tryz.lays260 s w hT
def Tryz.laysNm237_ren : Go.Shelf.Ren := ⟨fun | 37 => 114 | n => n, fun | 3 => 3 | 4 => 4 | n => n, fun | n => n⟩
theorem Tryz.laysNm237 : Go.Proofs.Lays2.n37 Tryz.prog Tryz.laysNm237_ren := {
  mixed := by kernel_rfl
  f37 := Tryz.func114.trans (congrArg some (by kernel_rfl))
  t3 := Tryz.underlying3
  a3 := Tryz.isAgg3
  z3 := Tryz.sizeOf3
  v3 := Tryz.zeroValue3
  t4 := Tryz.underlying4
  a4 := Tryz.isAgg4
  z4 := Tryz.sizeOf4
  v4 := Tryz.zeroValue4 }
open Go.RowKit Go.Lib in
/-- cmp.isNaN[int]: 'x != x': false. (LAID: no walk: one application.) -/
theorem Tryz.cmp_isNaN_int2 (x : Int) (w : World) :
    Calls Tryz.prog 114 #[.int .i64 x] w fun e w' => e = .returned (.bool false) ∧ w' = w := Any.cmp_isNaN_int2 Tryz.laysNm237 x w
end Go.Proofs
/- A builder of text in a writer of package pack: writing, and what it holds. -/
namespace Go.Proofs.YtdonmmjikcbihaaGreatDoor
open Go.RowKit Go.Proofs Go.Vc
attribute [local irreducible] Calls CallsIn Code.wp Code.wpIn
abbrev TW : TypeId := 153
/-- what lay below B is as it was, but for block b -/
abbrev Fresh (B b : Nat) (w w' : World) : Prop := Keeps (fun x => x = b ∨ B ≤ x) w w'
abbrev TB : TypeId := 5
/-- the writer at b holds these bytes, in a row of its own that lies at or beyond B -/
def Wr (B b : Nat) (l : List UInt8) (w : World) : Prop :=
  ∃ p v, (p = .pointer none ∨ p = .pointer (some ⟨b, 0, none⟩)) ∧ w.heap[b]? = some (.cells #[p, v] TW (0, 0)) ∧ w.ownsRow B TB 1 v l.length (Lib.byteCells l) ∧ v.ownBlock ≠ some b ∧ B ≤ w.heap.size
theorem row_keeps {F : Nat → Prop} {w w' : World} {B : Nat} {e : TypeId} {size n : Nat} {v : Value} {xs : List Value} (h : w.ownsRow B e size v n xs) (k : Keeps F w w') (hF : ∀ g, v.ownBlock = some g → ¬ F g) : w'.ownsRow B e size v n xs := by
  refine ⟨h.1, ?_⟩
  rcases h.2 with h0 | ⟨g, cap, cur, rfl, hb, hg, r⟩
  · exact .inl h0
  · exact .inr ⟨g, cap, cur, rfl, hb, (k.same g (lt_of_heap hg) (hF g rfl)).trans hg, r⟩
theorem row_ext {w w' : World} {B : Nat} {e : TypeId} {size n : Nat} {v : Value} {xs : List Value} (h : w.ownsRow B e size v n xs) (k : Ext w w') : w'.ownsRow B e size v n xs := row_keeps h k fun _ _ hf => hf
/-- what an append leaves is kept but for its own row -/
theorem grown_keeps {w w' : World} {row : Option Nat} (h : w.grownBy w' row) : Keeps (fun x => some x = row) w w' := ⟨h.size, fun b hb hf => h.block b hb hf, h.os, h.output⟩
theorem Wr.ext {B b : Nat} {l : List UInt8} {w w' : World} (h : Wr B b l w) (k : Ext w w') : Wr B b l w' := by
  obtain ⟨p, v, hp, hb, ho, hn, hB⟩ := h
  exact ⟨p, v, hp, (Ext.same k (lt_of_heap hb)).trans hb, row_ext ho k, hn, Nat.le_trans hB k.size⟩
set_option maxRecDepth 20000 in
theorem bld_check (B b : Nat) (l : List UInt8) (w : World) (h : Wr B b l w) :
    Calls Tryz.prog 142 #[.pointer (some ⟨b, 0, none⟩)] w fun e w' => e = .returned (.tuple #[]) ∧ (∃ v, w'.heap[b]? = some (.cells #[.pointer (some ⟨b, 0, none⟩), v] TW (0, 0)) ∧ w'.ownsRow B TB 1 v l.length (Lib.byteCells l) ∧ v.ownBlock ≠ some b ∧ B ≤ w'.heap.size) ∧ Fresh B b w w' := by
  obtain ⟨i0, hi, hz⟩ : ∃ i, Tryz.prog.info? 151 = some i ∧ i.size ≠ 0 := ⟨_, rfl, by decide⟩
  obtain ⟨p, v, rfl | rfl, hb, ho, hn, hB⟩ := h
  · have h0 : w.cell? ⟨b, 0, none⟩ = some (.pointer none) := by rw [blk_cell hb]; rfl
    have hsh : w.shape? b = some (TW, 2) := blk_shape hb
    have hfz := blk_free hb 0
    have HP := Lib.hid (show (∃ v, (w.setCell ⟨b, 0, none⟩ (.pointer (some ⟨b, 0, none⟩))).heap[b]? = some (.cells #[.pointer (some ⟨b, 0, none⟩), v] TW (0, 0)) ∧ (w.setCell ⟨b, 0, none⟩ (.pointer (some ⟨b, 0, none⟩))).ownsRow B TB 1 v l.length (Lib.byteCells l) ∧ v.ownBlock ≠ some b ∧ B ≤ (w.setCell ⟨b, 0, none⟩ (.pointer (some ⟨b, 0, none⟩))).heap.size) ∧ Fresh B b w (w.setCell ⟨b, 0, none⟩ (.pointer (some ⟨b, 0, none⟩))) from by
      have ho1 : Only [b] w (w.setCell ⟨b, 0, none⟩ (.pointer (some ⟨b, 0, none⟩))) := (Only.refl [b] w).setCell (by simp) _
      exact ⟨⟨v, heap_set hb 0 _, row_keeps ho ho1.keeps (fun g hg hm => hn (by rw [List.mem_singleton] at hm; rw [← hm]; exact hg)), hn, by rw [ho1.size]; exact hB⟩, ho1.keeps.mono fun i _ hi => .inl (List.mem_singleton.1 hi)⟩)
    clear hb ho hn hB
    go_enter Tryz.func142, Tryz.ntmps142
    go_wp2_with fail
    rw [Lib.run_to_unsafe w ⟨b, 0, none⟩ (by kernel_rfl) (by kernel_rfl) hi hz hsh (Nat.zero_lt_succ 1)]
    simp only [Result.andThen]
    rw [Oper.upon_value]
    go_wp2_with fail
    rw [run_callFunc_extern Tryz.func143 (by kernel_rfl) (by kernel_rfl) (by kernel_rfl) (e := Extern.AbiNoEscape.same) (by kernel_rfl)]
    rw [Lib.run_noEscape]
    simp only [Result.andThen]
    rw [Oper.upon_value]
    go_wp2_with fail
    rw [Lib.run_from_unsafe w ⟨b, 0, none⟩ (by kernel_rfl) (by kernel_rfl) hi hsh (by kernel_rfl)]
    simp only [Result.andThen]
    rw [Oper.upon_value]
    go_wp2_with fail
    go_end0
    exact ⟨rfl, HP.out⟩
  · have h0 : w.cell? ⟨b, 0, none⟩ = some (.pointer (some ⟨b, 0, none⟩)) := by rw [blk_cell hb]; rfl
    have HP := Lib.hid (And.intro hb (And.intro ho (And.intro hn hB)))
    clear hb ho hn hB
    go_enter Tryz.func142, Tryz.ntmps142
    go_wp2_with fail
    rw [Lib.run_neq_ptr_same w _ (by kernel_rfl) hi]
    simp only [Result.andThen]
    rw [Oper.upon_value]
    go_wp2_with fail
    go_end0
    exact ⟨rfl, ⟨v, HP.out⟩, Keeps.refl _ _⟩
theorem size_mk (l : List UInt8) : (⟨l.toArray⟩ : ByteArray).size = l.length := by show l.toArray.size = _; simp
theorem size_list (s : ByteArray) : s.data.toList.length = s.size := by show _ = s.data.size; simp
set_option maxRecDepth 20000 in
theorem bld_write (B b : Nat) (l m : List UInt8) (w : World) (h : Wr B b l w) (hlen : l.length + m.length ≤ 1000000) :
    Calls Tryz.prog 140 #[.pointer (some ⟨b, 0, none⟩), .string ⟨m.toArray⟩] w fun e w' => e = .returned (.tuple #[.int .i64 m.length, .nilIface]) ∧ Wr B b (l ++ m) w' ∧ Fresh B b w w' := by
  obtain ⟨i0, hi, hz0, hz1, hz2⟩ := info_parts (show (Tryz.prog.info? TB).map (fun i => (i.zero, i.size, i.bytes)) = some (some (.int .u8 0), 1, 1) from by kernel_rfl)
  have HI := Lib.hid (And.intro hi (And.intro hz0 (And.intro hz1 hz2)))
  have hsm : (⟨m.toArray⟩ : ByteArray).size = m.length := size_mk m
  have hstr : Lib.strCells ⟨m.toArray⟩ = Lib.byteCells m := rfl
  have HX := Lib.hid (And.intro hlen hstr)
  have H := Lib.hid h
  clear h hi hz0 hz1 hz2 hlen hstr
  go_enter Tryz.func140, Tryz.ntmps140
  go_wp2_with fail
  refine (bld_check B b l _ H.out).mono ?_
  rintro e w1 ⟨rfl, ⟨v, hbk, hown, hne, hB⟩, hb1⟩
  have c0 : w1.cell? ⟨b, 0, none⟩ = some (.pointer (some ⟨b, 0, none⟩)) := by rw [Lib.cell_of_heap hbk]; rfl
  have c1 : w1.cell? ⟨b, 1, none⟩ = some v := by rw [Lib.cell_of_heap hbk]; rfl
  have HS := Lib.hid hsm
  have HB := Lib.hid (And.intro hB (And.intro hbk (And.intro hown (And.intro hne hb1))))
  clear hB hbk hown hne hb1
  go_wp2_with (at_builtin; refine Lib.wpList_append_own_string _ rfl _ _ 131 9 rfl B TB i0 (by kernel_rfl) (by kernel_rfl) HI.out.1 HI.out.2.1 HI.out.2.2.1 HI.out.2.2.2 _ _ _ rfl HB.out.2.2.1 ⟨m.toArray⟩ rfl ?c3 ?c4 ?c5 ?_)
  case c3 => unfold maxLen; have := HX.out.1; omega
  case c4 => have := HX.out.1; omega
  case c5 => exact HB.out.1
  obtain ⟨hB, hbk, hown, hne, hb1⟩ := HB.out
  intro v' w2 hown' hgrow _
  have hlt : b < w1.heap.size := lt_of_heap hbk
  have hb2 : w2.heap[b]? = some (.cells #[.pointer (some ⟨b, 0, none⟩), v] TW (0, 0)) := by
    rw [hgrow.block b hlt (fun e => hne e.symm)]
    exact hbk
  have d0 : w2.cell? ⟨b, 0, none⟩ = some (.pointer (some ⟨b, 0, none⟩)) := by rw [Lib.cell_of_heap hb2]; rfl
  have d1 : w2.cell? ⟨b, 1, none⟩ = some v := by rw [Lib.cell_of_heap hb2]; rfl
  have f1 : w2.frozen? ⟨b, 1, none⟩ = false := Lib.frozen_of_heap hb2 1
  have HP := Lib.hid (show Wr B b (l ++ m) (w2.setCell ⟨b, 1, none⟩ v') ∧ Fresh B b w (w2.setCell ⟨b, 1, none⟩ v') from by
    have ho1 : Only [b] w2 (w2.setCell ⟨b, 1, none⟩ v') := (Only.refl [b] w2).setCell (by simp) _
    have hr : w2.ownsRow B TB 1 v' (l ++ m).length (Lib.byteCells (l ++ m)) := by
      rw [HX.out.2] at hown'
      rw [Lib.byteCells_append, List.length_append, ← hsm]; exact hown'
    have hnb : v'.ownBlock ≠ some b := fun hv => by
      obtain ⟨c, fz, hc⟩ := Lib.ownsRow_kind hr b hv
      rw [hb2] at hc
      injection hc with hc; injection hc with _ hc
      exact absurd hc (by decide)
    exact ⟨⟨_, v', .inr rfl, heap_set hb2 1 _, row_keeps hr ho1.keeps (fun g hg hm => hnb (by rw [List.mem_singleton] at hm; rw [← hm]; exact hg)), hnb, by rw [ho1.size]; exact Nat.le_trans hB hgrow.size⟩,
      hb1.trans (((grown_keeps hgrow).mono fun i _ hi => .inr (hown.lt i hi.symm).1).trans (ho1.keeps.mono fun i _ hi => .inl (List.mem_singleton.1 hi)))⟩)
  obtain ⟨ao, n', cap, rfl⟩ : ∃ ao n' cap, v' = .slice ao n' cap := by
    rcases hown'.2 with ⟨hv, _⟩ | ⟨g, cap, cur, hv, _⟩
    · exact ⟨_, _, _, hv⟩
    · exact ⟨_, _, _, hv⟩
  clear hB hbk hown hne hb1 hown' hgrow hlt hb2 c0 c1 hsm
  go_wp2_with fail
  go_ret2
  exact ⟨rfl, HP.out⟩
theorem put_b (B b : Nat) (l m : List UInt8) (w : World) (h : Wr B b l w) (hlen : l.length + m.length ≤ 1000000) :
    Calls Tryz.prog 135 #[.pointer (some ⟨b, 0, none⟩), .string ⟨m.toArray⟩] w fun e w' => e = .returned (.tuple #[]) ∧ Wr B b (l ++ m) w' ∧ Fresh B b w w' := by
  have H := Lib.hid (And.intro h hlen)
  clear h hlen
  go_enter Tryz.func135, Tryz.ntmps135
  go_wp2_with fail
  refine (bld_write B b l m _ H.out.1 H.out.2).mono ?_
  rintro e w1 ⟨rfl, h1⟩
  have H1 := Lib.hid h1
  clear h1
  go_wp2_with fail
  go_end0
  exact ⟨rfl, H1.out⟩
theorem freeze_keeps {B b : Nat} {w w1 : World} (hh : w1.heap = w.heap) (ho : Ost w w1) {p : Addr} (hp : B ≤ p.block) (n : Nat) : Fresh B b w (w1.freeze p n) := by
  have h := Lib.below_freeze (Below.refl B w1) (p := p) hp n
  exact ⟨by rw [← hh]; exact h.size, fun k _ hk => by rw [← hh]; exact h.block k (Nat.lt_of_not_le fun hl => hk (.inr hl)), ho.trans ⟨h.os, h.output⟩⟩
set_option maxRecDepth 20000 in
theorem bld_string (B b : Nat) (l : List UInt8) (w : World) (h : Wr B b l w) (h0 : l ≠ []) :
    Calls Tryz.prog 130 #[.pointer (some ⟨b, 0, none⟩)] w fun e w' => e = .returned (.string ⟨l.toArray⟩) ∧ Fresh B b w w' := by
  obtain ⟨p, v, hp, hbk, hown, hne, hB⟩ := h
  have hl0 : l.length ≠ 0 := by simpa using h0
  obtain ⟨g, cap, cur, rfl, hbg, hg, hnc, hcm, hcs, htake⟩ : ∃ g cap cur, v = .slice (some ⟨g, 0, none⟩) l.length cap ∧ B ≤ g ∧ w.heap[g]? = some (.cells cur TB (0, 0)) ∧ l.length ≤ cap ∧ cap ≤ maxLen ∧ cur.size = cap * 1 ∧ cur.toList.take (l.length * 1) = Lib.byteCells l := by
    rcases hown.2 with ⟨_, hz⟩ | ⟨g, cap, cur, hv, r⟩
    · exact absurd hz hl0
    · exact ⟨g, cap, cur, hv, r⟩
  have c1 : w.cell? ⟨b, 1, none⟩ = some (.slice (some ⟨g, 0, none⟩) l.length cap) := by
    rw [Lib.cell_of_heap hbk]; rfl
  have hSD : ∀ w, (Builtin.unsafeSliceData_ #[131] 169 #[.slice (some ⟨g, 0, none⟩) l.length cap]).run Tryz.prog w = .ok (.pointer (some ⟨g, 0, none⟩)) w := fun w =>
    Lib.run_unsafeSliceData_row _ _ _ _ _ _ (by omega)
  have hUS : ∀ w1 : World, w1.heap = w.heap → (Builtin.unsafeString_ #[169, 3] 9 #[.pointer (some ⟨g, 0, none⟩), .int .i64 l.length]).run Tryz.prog w1 = .ok (.string ⟨l.toArray⟩) (w1.freeze ⟨g, 0, none⟩ l.length) := by
    intro w1 hh
    refine Lib.run_unsafeString_row w1 169 3 9 TB (by kernel_rfl) (by kernel_rfl) g cur.size (by simp [World.shape?, hh, hg]) l h0 (by omega) (by unfold maxLen at hcm; omega) ?_
    intro j x hx
    have := hown.cells (g := g) rfl j (.int .u8 x.toNat) (by simp [Lib.byteCells, hx])
    simpa [World.cell?, hh] using this
  have HG := Lib.hid (And.intro hbg hUS)
  clear hUS hB hbk hown hne hl0 hbg hg hnc hcm hcs htake hp
  go_enter Tryz.func130, Tryz.ntmps130
  go_wp2_with fail
  refine wp_drawE (way [0, 1, 2, 3, 5, 6, 7, 8, 9, 4, 10, 11]) (by kernel_rfl) (by kernel_rfl) (fun w1 hh hd hf hS => ?_)
  simp only [way]
  go_wp2_with (first | (refine' hl_q rfl rfl rfl (fun _ => ?_) ?_; rotate_left; (go_simp <;> (try go_bits) <;> rfl); (try simp only [Act.put, List.setIfInBounds_toArray, List.set_cons_zero, List.set_cons_succ])) | (refine' hl_rS rfl rfl rfl hS ?_ ?_; rotate_left; (intro w9 hS9; (first | have hc9 := Ext.cells hS9 | have hc9 := Keeps.cells hS9); (go_simp <;> rfl)); (try simp only [Act.put, List.setIfInBounds_toArray, List.set_cons_zero, List.set_cons_succ])) | (refine' hl_r rfl rfl rfl ?_ ?_; rotate_left; (rintro w9 (rfl | hS9); (go_simp <;> rfl); (first | have hc9 := Ext.cells hS9 | have hc9 := Keeps.cells hS9 | (try dsimp only at hS9)); (go_simp <;> rfl)); (try simp only [Act.put, List.setIfInBounds_toArray, List.set_cons_zero, List.set_cons_succ])) | (refine' hl_s rfl rfl ?_; (try simp only [Act.put, List.setIfInBounds_toArray, List.set_cons_zero, List.set_cons_succ])) | (refine hl_e rfl rfl rfl (fun K hK => ?_)) | (with_reducible refine And.intro (fun hn => ?_) ?_; (first | exact hS | exact Keeps.alloc hS _ | exact absurd hn (by rw [show needS _ _ = false from by kernel_rfl]; exact Bool.false_ne_true))) | (refine hl_done ?_) | gi_step)
  rw [HG.out.2 w1 hh]
  have HK := Lib.hid (show Fresh B b w (w1.freeze ⟨g, 0, none⟩ l.length) from freeze_keeps hh hS.ost (p := ⟨g, 0, none⟩) HG.out.1 _)
  clear hS hh hd hf
  simp only [Result.andThen]
  go_wp2_with (first | (refine' hl_q rfl rfl rfl (fun _ => ?_) ?_; rotate_left; (go_simp <;> (try go_bits) <;> rfl); (try simp only [Act.put, List.setIfInBounds_toArray, List.set_cons_zero, List.set_cons_succ])) | (refine' hl_rS rfl rfl rfl hS ?_ ?_; rotate_left; (intro w9 hS9; (first | have hc9 := Ext.cells hS9 | have hc9 := Keeps.cells hS9); (go_simp <;> rfl)); (try simp only [Act.put, List.setIfInBounds_toArray, List.set_cons_zero, List.set_cons_succ])) | (refine' hl_r rfl rfl rfl ?_ ?_; rotate_left; (rintro w9 (rfl | hS9); (go_simp <;> rfl); (first | have hc9 := Ext.cells hS9 | have hc9 := Keeps.cells hS9 | (try dsimp only at hS9)); (go_simp <;> rfl)); (try simp only [Act.put, List.setIfInBounds_toArray, List.set_cons_zero, List.set_cons_succ])) | (refine' hl_s rfl rfl ?_; (try simp only [Act.put, List.setIfInBounds_toArray, List.set_cons_zero, List.set_cons_succ])) | (refine hl_e rfl rfl rfl (fun K hK => ?_)) | (with_reducible refine And.intro (fun hn => ?_) ?_; (first | exact hS | exact Keeps.alloc hS _ | exact absurd hn (by rw [show needS _ _ = false from by kernel_rfl]; exact Bool.false_ne_true))) | (refine hl_done ?_) | gi_step)
  go_ret
  exact ⟨rfl, HK.out⟩
theorem pk_bytes (B b : Nat) (l : List UInt8) (w : World) (h : Wr B b l w) (h0 : l ≠ []) :
    Calls Tryz.prog 116 #[.pointer (some ⟨b, 0, none⟩)] w fun e w' => e = .returned (.string ⟨l.toArray⟩) ∧ Fresh B b w w' := by
  have H := Lib.hid (And.intro h h0)
  clear h h0
  go_enter Tryz.func116, Tryz.ntmps116
  go_wp2_with fail
  refine (bld_string B b l _ H.out.1 H.out.2).mono ?_
  rintro e9 w1 ⟨rfl, h1⟩
  have H1 := Lib.hid h1
  clear h1
  go_wp2_with fail
  go_ret
  exact ⟨rfl, H1.out⟩
end Go.Proofs.YtdonmmjikcbihaaGreatDoor
