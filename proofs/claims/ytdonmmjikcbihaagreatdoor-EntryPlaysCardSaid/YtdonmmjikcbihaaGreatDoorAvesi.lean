/- Package avl at [string, int]: a map as a list in order. -/
import Derived.Test.YtdonmmjikcbihaaGreatDoorAvldsi
import Derived.Test.YtdonmmjikcbihaaGreatDoorSorted
import Derived.Test.YtdonmmjikcbihaaGreatDoorKeyOrd
namespace Go.Vc
end Go.Vc
namespace Go.Proofs.YtdonmmjikcbihaaGreatDoor
open Go.RowKit Go.Proofs Go.Vc
attribute [local irreducible] Calls CallsIn Code.wp Code.wpIn
/-- a map that holds a list; S: the blocks in which it lies -/
def LMapsi (ty : TypeId) (b o : Nat) (m : List (ByteArray × Int)) (S : Nat → Prop) (w : World) : Prop :=
  ∃ c t, MapAt Ssi w b o c ty t ∧ t.toList = m ∧ Rises cmpS m ∧ ∀ i, S i ↔ (i = b ∨ i ∈ t.blocks)
theorem LMapsi.keeps {F : Nat → Prop} {ty : TypeId} {b o : Nat} {m : List (ByteArray × Int)} {S : Nat → Prop} {w w' : World} (h : LMapsi ty b o m S w) (k : Keeps F w w') (hF : ∀ i, S i → ¬ F i) : LMapsi ty b o m S w' := by
  obtain ⟨c, t, hm, h1, h2, h3⟩ := h
  exact ⟨c, t, hm.keeps k (hF b ((h3 b).2 (.inl rfl))) (fun x hx => hF x ((h3 x).2 (.inr hx))), h1, h2, h3⟩
theorem LMapsi.ext {ty : TypeId} {b o : Nat} {m : List (ByteArray × Int)} {S : Nat → Prop} {w w' : World} (h : LMapsi ty b o m S w) (k : Ext w w') : LMapsi ty b o m S w' := h.keeps k fun _ _ hf => hf
theorem LMapsi.lt {ty : TypeId} {b o : Nat} {m : List (ByteArray × Int)} {S : Nat → Prop} {w : World} (h : LMapsi ty b o m S w) {i : Nat} (hi : S i) : i < w.heap.size := by
  obtain ⟨c, t, hm, h1, h2, h3⟩ := h
  rcases (h3 i).1 hi with rfl | hx
  · exact lt_of_heap hm.blk
  · exact hm.tree.lt i hx
theorem LMapsi.own {ty : TypeId} {b o : Nat} {m : List (ByteArray × Int)} {S : Nat → Prop} {w : World} (h : LMapsi ty b o m S w) : S b := by
  obtain ⟨c, t, hm, h1, h2, h3⟩ := h
  exact (h3 b).2 (.inl rfl)
theorem LMapsi.rises {ty : TypeId} {b o : Nat} {m : List (ByteArray × Int)} {S : Nat → Prop} {w : World} (h : LMapsi ty b o m S w) : Rises cmpS m := by
  obtain ⟨c, t, hm, h1, h2, h3⟩ := h
  exact h2
/-- what a key holds, as the machine has it -/
def getvsi (o : Option Int) : Value := match o with | some v => .int .i64 v | none => .int .i64 0
theorem lget_si (key : ByteArray) {ty : TypeId} {b o : Nat} {m : List (ByteArray × Int)} {S : Nat → Prop} {w : World} (h : LMapsi ty b o m S w) : Calls Tryz.prog 42 #[.pointer (some ⟨b, o, none⟩), .string key] w fun e w' => e = .returned (.tuple #[getvsi (findL cmpS key m), .bool (findL cmpS key m).isSome]) ∧ Ext w w' := by
  obtain ⟨c, t, hm, h1, h2, h3⟩ := h
  have := get_si key t w b o hm.cellR hm.tree
  rw [T.find_toList order_S key t (by rw [h1]; exact h2), h1] at this
  exact this
def LPutsi (key : ByteArray) (val : Int) (ty : TypeId) (b o : Nat) (m : List (ByteArray × Int)) (S : Nat → Prop) (w : World) (e : Ending) (w' : World) : Prop :=
  e = .returned (.bool (findL cmpS key m).isNone) ∧ (∃ S', LMapsi ty b o (putL cmpS key val m) S' w' ∧ ∀ i, S' i → S i ∨ w.heap.size ≤ i) ∧ Keeps S w w'
theorem lput_si (key : ByteArray) (val : Int) {ty : TypeId} {b o : Nat} {m : List (ByteArray × Int)} {S : Nat → Prop} {w : World} (h : LMapsi ty b o m S w) (hs : m.length ≤ 1000000) : Calls Tryz.prog 45 #[.pointer (some ⟨b, o, none⟩), .string key, .int .i64 val] w (LPutsi key val ty b o m S w) := by
  obtain ⟨c, t, hm, h1, h2, h3⟩ := h
  have hsz := T.size_toList t
  rw [h1] at hsz
  refine (mput_si key val hm (by omega)).mono ?_
  rintro e w' ⟨N, hN, rfl, hm', hk⟩
  refine ⟨by rw [T.put_flag, T.find_toList order_S key t (by rw [h1]; exact h2), h1], ⟨fun i => i = b ∨ i ∈ (t.put cmpS N key val).1.blocks, ⟨_, _, hm', ?_, rises_putL order_S _ _ _ h2, fun i => Iff.rfl⟩, ?_⟩, hk.mono fun i _ hi => (h3 i).2 hi⟩
  · rw [T.put_toList order_S _ _ _ _ (by rw [h1]; exact h2), h1]
  · rintro i (rfl | hi)
    · exact .inl ((h3 i).2 (.inl rfl))
    · rcases T.put_blocks _ _ _ _ _ i hi with hi | rfl
      · exact .inl ((h3 i).2 (.inr hi))
      · exact .inr hN
def LDropsi (key : ByteArray) (ty : TypeId) (b o : Nat) (m : List (ByteArray × Int)) (S : Nat → Prop) (w : World) (e : Ending) (w' : World) : Prop :=
  e = .returned (.bool (findL cmpS key m).isSome) ∧ (∃ S', LMapsi ty b o (dropL cmpS key m) S' w' ∧ ∀ i, S' i → S i) ∧ Keeps S w w'
theorem ldrop_si (key : ByteArray) {ty : TypeId} {b o : Nat} {m : List (ByteArray × Int)} {S : Nat → Prop} {w : World} (h : LMapsi ty b o m S w) (hs : m.length ≤ 1000000) : Calls Tryz.prog 44 #[.pointer (some ⟨b, o, none⟩), .string key] w (LDropsi key ty b o m S w) := by
  obtain ⟨c, t, hm, h1, h2, h3⟩ := h
  have hsz := T.size_toList t
  rw [h1] at hsz
  refine (mdrop_si key hm (by omega)).mono ?_
  rintro e w' ⟨rfl, hm', hk⟩
  refine ⟨by rw [T.drop_flag, T.find_toList order_S key t (by rw [h1]; exact h2), h1], ⟨fun i => i = b ∨ i ∈ (t.drop cmpS key).1.blocks, ⟨_, _, hm', ?_, rises_dropL _ _ h2, fun i => Iff.rfl⟩, ?_⟩, hk.keeps.mono fun i _ hi => (h3 i).2 (by simpa using hi)⟩
  · rw [T.drop_toList order_S _ _ (by rw [h1]; exact h2), h1]
  · rintro i (rfl | hi)
    · exact (h3 i).2 (.inl rfl)
    · exact (h3 i).2 (.inr (T.drop_blocks _ _ _ i hi))
end Go.Proofs.YtdonmmjikcbihaaGreatDoor
