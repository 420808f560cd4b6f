/- Package avl at [string, int]: the map's own functions. -/
import Derived.Test.YtdonmmjikcbihaaGreatDoorAvlbsi
import Derived.Test.YtdonmmjikcbihaaGreatDoorRange
import Derived.Deep.LoopGhost
namespace Go.Proofs.YtdonmmjikcbihaaGreatDoor
open Go.RowKit Go.Proofs Go.Vc
attribute [local irreducible] Calls CallsIn Code.wp Code.wpIn
theorem top_si (t : T ByteArray Int) (w : World) (b o : Nat) (h : w.cell? ⟨b, o, none⟩ = some (.pointer t.ptr)) : Calls Tryz.prog 65 #[.pointer (some ⟨b, o, none⟩)] w fun e w' => e = .returned (.pointer t.ptr) ∧ w = w' := by
  go_enter Tryz.func65, Tryz.ntmps65
  go_wp2_with fail
  go_ret
  exact ⟨rfl, rfl⟩
theorem topnil_si (w : World) : Calls Tryz.prog 65 #[.pointer none] w fun e w' => e = .returned (.pointer none) ∧ w = w' := by
  go_enter Tryz.func65, Tryz.ntmps65
  go_wp2_with fail
  go_ret
  exact ⟨rfl, rfl⟩
/-- what Get leaves -/
def Getsi (r : Option Int) (w : World) (e : Ending) (w' : World) : Prop :=
  e = .returned (.tuple #[(match r with | some v => .int .i64 v | none => .int .i64 0), .bool r.isSome]) ∧ Ext w w'
theorem get_si (key : ByteArray) (t : T ByteArray Int) (w : World) (b o : Nat) (hb : w.cell? ⟨b, o, none⟩ = some (.pointer t.ptr)) (h : At Ssi w t) : Calls Tryz.prog 42 #[.pointer (some ⟨b, o, none⟩), .string key] w (Getsi (t.find cmpS key) w) := by
  have H := Lib.hid h
  clear h
  go_enter Tryz.func42, Tryz.ntmps42
  go_wp2_with fail
  refine (top_si t _ b o hb).mono ?_
  rintro e9 w9 ⟨rfl, rfl⟩
  go_wp2_with fail
  go_loopg [6] t.size (fun k p wr => wr = w ∧ ∃ t', p = .pointer t'.ptr ∧ At Ssi w t' ∧ t'.find cmpS key = t.find cmpS key ∧ t'.size ≤ k)
  case atStart => exact ⟨rfl, t, rfl, H.out, rfl, Nat.le_refl _⟩
  case round =>
    obtain ⟨rfl, t', rfl, h', hf, hk⟩ := hrel
    have HF := Lib.hid hf
    clear hf
    cases t' with
    | nil =>
      simp only [T.ptr_nil]
      go_wp2_with fail
      go_ret2
      rw [← HF.out]
      exact ⟨rfl, Keeps.refl _ _⟩
    | node c k v l r =>
      have hc := blk_cell h'.1
      simp only [Ssi_cells] at hc
      simp only [T.ptr_node]
      have H' := Lib.hid h'
      clear h'
      simp only [T.size] at hk
      cases hcmp : cmpS key k with
      | lt =>
        obtain ⟨f1, f2, f3⟩ := cmpS_lt' hcmp
        have HF : RowKit.Hid (l.find cmpS key = t.find cmpS key) := by have := HF.out; simp only [T.find, hcmp] at this; exact Lib.hid this
        clear hcmp
        go_wp2_with fail
        go_roundg l.size
        case measure => omega
        case rel => exact ⟨rfl, l, rfl, H'.out.2.1, HF.out, Nat.le_refl _⟩
      | gt =>
        obtain ⟨f1, f2, f3⟩ := cmpS_gt' hcmp
        have HF : RowKit.Hid (r.find cmpS key = t.find cmpS key) := by have := HF.out; simp only [T.find, hcmp] at this; exact Lib.hid this
        clear hcmp
        go_wp2_with fail
        go_roundg r.size
        case measure => omega
        case rel => exact ⟨rfl, r, rfl, H'.out.2.2.1, HF.out, Nat.le_refl _⟩
      | eq =>
        obtain ⟨f1, f2, f3⟩ := cmpS_eq' hcmp
        have HF : RowKit.Hid (some v = t.find cmpS key) := by have := HF.out; simp only [T.find, hcmp] at this; exact Lib.hid this
        clear hcmp
        go_wp2_with fail
        go_ret2
        rw [← HF.out]
        exact ⟨rfl, Keeps.refl _ _⟩
/-- what the map's Put leaves -/
def MapPutsi (key : ByteArray) (val : Int) (t : T ByteArray Int) (b o : Nat) (c : Array Value) (ty : TypeId) (w : World) (e : Ending) (w' : World) : Prop :=
  ∃ N, w.heap.size ≤ N ∧ e = .returned (.bool (t.put cmpS N key val).2) ∧ MapAt Ssi w' b o (mapCells c o (t.put cmpS N key val).1) ty (t.put cmpS N key val).1 ∧ Keeps (fun x => x = b ∨ x ∈ t.blocks) w w'
theorem mput_si (key : ByteArray) (val : Int) {t : T ByteArray Int} {w : World} {b o : Nat} {c : Array Value} {ty : TypeId} (h : MapAt Ssi w b o c ty t) (hs : t.size + 1 ≤ 1099511627776) :
    Calls Tryz.prog 45 #[.pointer (some ⟨b, o, none⟩), .string key, .int .i64 val] w (MapPutsi key val t b o c ty w) := by
  have hr := h.cellR
  have hm := h.cellM
  have hz := blk_free h.blk
  have hs' : (t.size : Int) + 1 ≤ 1099511627776 := by omega
  have H := Lib.hid h
  clear h
  go_enter Tryz.func45, Tryz.ntmps45
  go_wp2_with fail
  refine (put_si key val t _ H.out.tree hs).mono ?_
  rintro e9 w1 ⟨N, hN, rfl, a1, k1⟩
  have hb1 := k1.same b (lt_of_heap H.out.blk) H.out.own
  have hlt := lt_of_heap H.out.blk
  have hr1 : w1.cell? ⟨b, o, none⟩ = some (.pointer t.ptr) := (World.cell?_of_block (w := w) hb1).trans hr
  have hm1 : w1.cell? ⟨b, o + 1, none⟩ = some (.int .i64 t.size) := (World.cell?_of_block (w := w) hb1).trans hm
  have hz1 := blk_free (hb1.trans H.out.blk)
  have hnb : b ∉ (t.put cmpS N key val).1.blocks := fun hx => (T.put_blocks _ _ _ _ _ _ hx).elim H.out.own (by omega)
  have hsz := T.put_size cmpS N key val t
  have R := Lib.hid (And.intro hb1 (And.intro a1 (And.intro hnb hsz)))
  have K1 := Lib.hid k1
  clear hb1 a1 hnb hsz k1
  cases hf : (t.put cmpS N key val).2 with
  | true =>
    go_wp2_with fail
    go_ret
    obtain ⟨hb1, a1, hnb, hsz⟩ := R.out
    rw [hf] at hsz
    obtain ⟨m1, o1⟩ := H.out.set2 hb1 a1 hnb ((t.size : Int) + 1) (by simp at hsz; omega)
    exact ⟨N, hN, by rw [hf]; rfl, m1, (K1.out.mono fun _ _ hx => .inr hx).andThen o1.keeps fun x _ hx => .inl (by simpa using hx)⟩
  | false =>
    go_wp2_with fail
    go_ret
    obtain ⟨hb1, a1, hnb, hsz⟩ := R.out
    rw [hf] at hsz
    obtain ⟨m1, o1⟩ := H.out.set1 hb1 a1 hnb (by simpa using hsz)
    exact ⟨N, hN, by rw [hf]; rfl, m1, (K1.out.mono fun _ _ hx => .inr hx).andThen o1.keeps fun x _ hx => .inl (by simpa using hx)⟩
/-- what the map's Drop leaves -/
def MapDropsi (key : ByteArray) (t : T ByteArray Int) (b o : Nat) (c : Array Value) (ty : TypeId) (w : World) (e : Ending) (w' : World) : Prop :=
  e = .returned (.bool (t.drop cmpS key).2) ∧ MapAt Ssi w' b o (mapCells c o (t.drop cmpS key).1) ty (t.drop cmpS key).1 ∧ Only (b :: t.blocks) w w'
theorem mdrop_si (key : ByteArray) {t : T ByteArray Int} {w : World} {b o : Nat} {c : Array Value} {ty : TypeId} (h : MapAt Ssi w b o c ty t) (hs : t.size ≤ 1099511627776) :
    Calls Tryz.prog 44 #[.pointer (some ⟨b, o, none⟩), .string key] w (MapDropsi key t b o c ty w) := by
  have hr := h.cellR
  have hm := h.cellM
  have hz := blk_free h.blk
  have hs' : (t.size : Int) ≤ 1099511627776 := by omega
  have hs0 : 0 ≤ (t.size : Int) := by omega
  have H := Lib.hid h
  clear h
  go_enter Tryz.func44, Tryz.ntmps44
  go_wp2_with fail
  refine (drop_si key t _ H.out.tree hs).mono ?_
  rintro e9 w1 ⟨rfl, a1, o1⟩
  have hb1 := o1.same b H.out.own
  have hlt := lt_of_heap H.out.blk
  have hr1 : w1.cell? ⟨b, o, none⟩ = some (.pointer t.ptr) := (World.cell?_of_block (w := w) hb1).trans hr
  have hm1 : w1.cell? ⟨b, o + 1, none⟩ = some (.int .i64 t.size) := (World.cell?_of_block (w := w) hb1).trans hm
  have hz1 := blk_free (hb1.trans H.out.blk)
  have hnb : b ∉ (t.drop cmpS key).1.blocks := fun hx => H.out.own (T.drop_blocks _ _ _ _ hx)
  have hsz := T.drop_size cmpS key t
  have R := Lib.hid (And.intro hb1 (And.intro a1 (And.intro hnb hsz)))
  have O1 := Lib.hid o1
  clear hb1 a1 hnb hsz o1
  cases hf : (t.drop cmpS key).2 with
  | true =>
    go_wp2_with fail
    go_ret
    obtain ⟨hb1, a1, hnb, hsz⟩ := R.out
    rw [hf] at hsz
    obtain ⟨m1, o2⟩ := H.out.set2 hb1 a1 hnb ((t.size : Int) - 1) (by simp at hsz; omega)
    exact ⟨by rw [hf]; rfl, m1, (O1.out.mono fun _ hx => List.mem_cons_of_mem _ hx).trans (o2.mono fun x hx => by simp at hx; simp [hx])⟩
  | false =>
    go_wp2_with fail
    go_ret
    obtain ⟨hb1, a1, hnb, hsz⟩ := R.out
    rw [hf] at hsz
    obtain ⟨m1, o2⟩ := H.out.set1 hb1 a1 hnb (by simpa using hsz)
    exact ⟨by rw [hf]; rfl, m1, (O1.out.mono fun _ hx => List.mem_cons_of_mem _ hx).trans (o2.mono fun x hx => by simp at hx; simp [hx])⟩
end Go.Proofs.YtdonmmjikcbihaaGreatDoor
