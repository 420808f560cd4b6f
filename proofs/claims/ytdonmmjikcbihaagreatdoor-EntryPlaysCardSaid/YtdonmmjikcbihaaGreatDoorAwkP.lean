/- What the law's fixed call comes to (plain). -/
import Derived.Test.YtdonmmjikcbihaaGreatDoorEntO
namespace Go.Proofs.YtdonmmjikcbihaaGreatDoor
open Go Go.Vc
def webB : ByteArray := ⟨#[119, 101, 98]⟩
def getB : ByteArray := ⟨#[103, 101, 116]⟩
def putB : ByteArray := ⟨#[112, 117, 116]⟩
def sp1 : Spn := ⟨2, 1, 0, 0, webB, getB, 0, 0, false⟩
def sp2 : Spn := ⟨1, 1, 0, 0, webB, getB, 0, 0, false⟩
def sp3 : Spn := ⟨1, 2, 0, 0, webB, getB, 0, 0, false⟩
def sp4 : Spn := ⟨1, 3, 0, 0, webB, putB, 0, 0, false⟩
def spA : List Spn := [sp1, sp2, sp3, sp4]
/-- the order over the bytes themselves -/
def eless8 (e : Ent) (x : Spn) : Bool := Op.bytesLess e.sv.data.toList x.sv.data.toList || (decide (e.sv = x.sv) && Op.bytesLess e.op.data.toList x.op.data.toList)
theorem eless_8 (e : Ent) (x : Spn) : eless e x = eless8 e x := by unfold eless eless8; rw [toList_data, toList_data, toList_data, toList_data]
def entIns8 (L : List Spn) (x : Spn) : List Ent → List Ent
  | [] => [⟨x.sv, x.op, trOf L x.sv x.op⟩]
  | e :: E => if eless8 e x then e :: entIns8 L x E else if e.sv = x.sv ∧ e.op = x.op then e :: E else ⟨x.sv, x.op, trOf L x.sv x.op⟩ :: e :: E
theorem entIns_8 (L : List Spn) (x : Spn) : ∀ E, entIns L x E = entIns8 L x E
  | [] => rfl
  | e :: E => by rw [entIns, entIns8, eless_8, entIns_8 L x E]
theorem refAll_8 (L : List Spn) : refAll L = L.foldl (fun E x => entIns8 L x E) [] := by
  unfold refAll
  congr 1
  funext E x; exact entIns_8 L x E
theorem spA_fits : ∀ x ∈ spA, x.Fits := by
  intro x hx
  simp only [spA, List.mem_cons, List.not_mem_nil, or_false] at hx
  rcases hx with rfl | rfl | rfl | rfl <;> exact ⟨by decide, by decide, by decide, by decide, by decide, by decide, by decide, by decide⟩
theorem setA : setL spA = [sp2, sp3, sp4, sp1] := by
  have h := (newest_own spA spA_fits).2
  show (newestL spA).map (·.2) = _
  rw [← h]
  decide
theorem awkOf : refAll (rIn [] (setL spA)) = [⟨webB, getB, [1, 2]⟩, ⟨webB, putB, [1]⟩] := by
  rw [setA, refAll_8]
  decide
theorem awk1 : rApply [] [] spA = (spA, true) := by decide
theorem awk2 : rApply spA [sp2] [] = ([sp1, sp3, sp4], true) := by decide
theorem awk3 : rApply [sp1, sp3, sp4] [sp1] [] = ([sp3, sp4], true) := by decide
theorem awk4 : refAll [sp3, sp4] = [⟨webB, getB, [1]⟩, ⟨webB, putB, [1]⟩] := by
  rw [refAll_8]
  decide
theorem awk5 : rApply [sp3, sp4] [sp1] [] = ([sp3, sp4], false) := by decide
end Go.Proofs.YtdonmmjikcbihaaGreatDoor
