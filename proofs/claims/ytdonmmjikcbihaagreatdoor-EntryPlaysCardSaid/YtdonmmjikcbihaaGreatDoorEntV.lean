/- A view that holds what the document's list says. -/
import Derived.Test.YtdonmmjikcbihaaGreatDoorEntO
import Derived.Test.YtdonmmjikcbihaaGreatDoorEntN
import Derived.Test.YtdonmmjikcbihaaGreatDoorRef28e
import Derived.Test.YtdonmmjikcbihaaGreatDoorRef28f
namespace Go.Proofs.YtdonmmjikcbihaaGreatDoor
open Go.RowKit Go.Proofs Go.Vc
attribute [local irreducible] Calls CallsIn Code.wp Code.wpIn
theorem Bnd.mono {m : List (ByteArray × Int)} {N M : Nat} (h : Bnd m N) (k : N ≤ M) : Bnd m M := ⟨Nat.le_trans h.1 k, fun q => by have := h.2 q; omega⟩
theorem bnd_vOut : ∀ (l done : List Spn) {m : List (ByteArray × Int)} {N : Nat}, Bnd m N → Bnd (vOut m done l).1 (N + done.length + 2 * l.length)
  | [], done, m, N, h => h.mono (by omega)
  | x :: l, done, m, N, h => by
    have h1 := h.chg x (d := -1) (.inr rfl)
    simp only [vOut]
    split
    · have := bnd_vOut l (done ++ [x]) h1
      exact this.mono (by simp only [List.length_append, List.length_cons, List.length_nil]; omega)
    · have := bnd_redo h1 done
      exact this.mono (by simp only [List.length_cons]; omega)
theorem bnd_vApply {m : List (ByteArray × Int)} {N : Nat} (h : Bnd m N) (out inn : List Spn) : Bnd (vApply m out inn).1 (N + 2 * out.length + inn.length) := by
  unfold vApply
  have h1 := bnd_vOut out [] h
  split
  · split
    · exact (bnd_redo h1 inn).mono (by simp only [List.length_nil]; omega)
    · exact h1.mono (by simp only [List.length_nil]; omega)
  · exact h.mono (by omega)
/-- the view holds what the list says -/
def VIs (ty : TypeId) (b N : Nat) (L : List Spn) (S : Nat → Prop) (wr : World) : Prop := ∃ m, LMapsi ty b 0 m S wr ∧ EntRel m L ∧ Bnd m N
theorem VIs.keeps {F : Nat → Prop} {ty : TypeId} {b N : Nat} {L : List Spn} {S : Nat → Prop} {w w' : World} (h : VIs ty b N L S w) (k : Keeps F w w') (hF : ∀ i, S i → ¬ F i) : VIs ty b N L S w' := by
  obtain ⟨m, h1, h2, h3⟩ := h
  exact ⟨m, h1.keeps k hF, h2, h3⟩
theorem VIs.ext {ty : TypeId} {b N : Nat} {L : List Spn} {S : Nat → Prop} {w w' : World} (h : VIs ty b N L S w) (k : Ext w w') : VIs ty b N L S w' := h.keeps k fun _ _ hf => hf
theorem VIs.lt {ty : TypeId} {b N : Nat} {L : List Spn} {S : Nat → Prop} {w : World} (h : VIs ty b N L S w) {i : Nat} (hi : S i) : i < w.heap.size := by
  obtain ⟨m, h1, _⟩ := h
  exact h1.lt hi
theorem VIs.new (w : World) (tid : TypeId) : VIs tid w.heap.size 0 [] (fun i => i = w.heap.size) (w.alloc (.cells #[.pointer none, .int .i64 0] tid)) := ⟨[], view_new w tid, EntRel.nil, bnd_nil⟩
def VApp (ty : TypeId) (b N : Nat) (L out inn : List Spn) (S : Nat → Prop) (w : World) (e : Ending) (w' : World) : Prop :=
  e = .returned (.bool (rApply L out inn).2) ∧ (∃ S', VIs ty b (N + 2 * out.length + inn.length) (rApply L out inn).1 S' w' ∧ ∀ i, S' i → S i ∨ w.heap.size ≤ i) ∧ Keeps S w w'
theorem VIs.apply {ty : TypeId} {b N : Nat} {L : List Spn} {S : Nat → Prop} {w : World} (h : VIs ty b N L S w) (hN : N ≤ 10000) {vo vi : Value} {out inn : List Spn} (ho : SpnsAt w vo out) (hi : SpnsAt w vi inn)
    (hso : out ≠ [] → ∀ g, slBlock vo = some g → ¬ S g) (hsi : inn ≠ [] → ∀ g, slBlock vi = some g → ¬ S g) (hfo : ∀ x ∈ out, x.Fits) (hfi : ∀ x ∈ inn, x.Fits) (hlo : out.length ≤ 100) (hli : inn.length ≤ 100) :
    Calls Tryz.prog 9 #[.pointer (some ⟨b, 0, none⟩), .agg #[vo, vi]] w (VApp ty b N L out inn S w) := by
  obtain ⟨m, h1, h2, h3⟩ := h
  refine (vapply_i ty b m S vo vi out inn w N h3 hN h1 ho hi hso hsi hfo hfi hlo hli).mono ?_
  rintro e w' ⟨rfl, ⟨S', hm, hs⟩, hk⟩
  have hr := apply_rel h2 (fun x hx => (hfo x hx).tr) (fun x hx => (hfi x hx).tr)
  exact ⟨by rw [hr.1], ⟨S', ⟨_, hm, hr.2, bnd_vApply h3 out inn⟩, hs⟩, hk⟩
def VAll (L : List Spn) (w : World) (e : Ending) (w' : World) : Prop := AllPost (refAll L) w e w'
theorem VIs.all {ty : TypeId} {b N : Nat} {L : List Spn} {S : Nat → Prop} {w : World} (h : VIs ty b N L S w) (hN : N ≤ 100000) {mx : Int} (hm : w.cell? ⟨0, 0, none⟩ = some (.int .i64 mx)) :
    Calls Tryz.prog 12 #[.pointer (some ⟨b, 0, none⟩)] w (AllPost (refAll L) w) := by
  obtain ⟨m, h1, h2, h3⟩ := h
  exact evall_rel ty b m S w L mx h1 h2 (Nat.le_trans h3.1 hN) hm
end Go.Proofs.YtdonmmjikcbihaaGreatDoor
