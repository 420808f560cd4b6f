/- Package avl at [string, gossamer/api.Span]: the map's own functions. -/
import Derived.Test.YtdonmmjikcbihaaGreatDoorAvlbss
import Derived.Test.YtdonmmjikcbihaaGreatDoorRange
import Derived.Deep.LoopGhost
namespace Go.Proofs.YtdonmmjikcbihaaGreatDoor
open Go.RowKit Go.Proofs Go.Vc
attribute [local irreducible] Calls CallsIn Code.wp Code.wpIn
theorem top_ss (t : T ByteArray Spn) (w : World) (b o : Nat) (h : w.cell? ⟨b, o, none⟩ = some (.pointer t.ptr)) : Calls Tryz.prog 86 #[.pointer (some ⟨b, o, none⟩)] w fun e w' => e = .returned (.pointer t.ptr) ∧ w = w' := by
  go_enter Tryz.func86, Tryz.ntmps86
  go_wp2_with fail
  go_ret
  exact ⟨rfl, rfl⟩
theorem topnil_ss (w : World) : Calls Tryz.prog 86 #[.pointer none] w fun e w' => e = .returned (.pointer none) ∧ w = w' := by
  go_enter Tryz.func86, Tryz.ntmps86
  go_wp2_with fail
  go_ret
  exact ⟨rfl, rfl⟩
/-- what Get leaves -/
def Getss (r : Option Spn) (w : World) (e : Ending) (w' : World) : Prop :=
  e = .returned (.tuple #[(match r with | some v => .agg #[.int .i64 v.tr, .int .i64 v.id, .int .i64 v.pa, .int .i64 v.rv, .string v.sv, .string v.op, .int .i64 v.st, .int .i64 v.du, .bool v.gone] | none => .agg #[.int .i64 0, .int .i64 0, .int .i64 0, .int .i64 0, .string ⟨#[]⟩, .string ⟨#[]⟩, .int .i64 0, .int .i64 0, .bool false]), .bool r.isSome]) ∧ Ext w w'
theorem get_ss (key : ByteArray) (t : T ByteArray Spn) (w : World) (b o : Nat) (hb : w.cell? ⟨b, o, none⟩ = some (.pointer t.ptr)) (h : At Sss w t) : Calls Tryz.prog 58 #[.pointer (some ⟨b, o, none⟩), .string key] w (Getss (t.find cmpS key) w) := by
  obtain ⟨wa, hwa⟩ : ∃ wa, wa = w.alloc (.cells #[.int .i64 0, .int .i64 0, .int .i64 0, .int .i64 0, .string ⟨#[]⟩, .string ⟨#[]⟩, .int .i64 0, .int .i64 0, .bool false] 48) := ⟨_, rfl⟩
  have hE : Ext w wa := by rw [hwa]; exact (Keeps.refl _ w).alloc _
  have hN : wa.heap[w.heap.size]? = some (.cells #[.int .i64 0, .int .i64 0, .int .i64 0, .int .i64 0, .string ⟨#[]⟩, .string ⟨#[]⟩, .int .i64 0, .int .i64 0, .bool false] 48) := by rw [hwa]; exact World.alloc_heap_new w _
  have hb' : wa.cell? ⟨b, o, none⟩ = some (.pointer t.ptr) := (Ext.cells hE b o (by rw [hb]; rfl)).trans hb
  have H := Lib.hid (h.ext hE)
  have hcN := blk_cell hN
  have hzN := blk_free hN
  have hltN := lt_of_heap hN
  have HE := Lib.hid hE
  clear h hE hN
  go_enter Tryz.func58, Tryz.ntmps58
  go_wp2_with fail
  rw [← hwa]
  have HW := Lib.hid hwa
  clear hwa
  refine (top_ss t _ b o hb').mono ?_
  rintro e9 w9 ⟨rfl, rfl⟩
  go_wp2_with fail
  go_loopg [6] t.size (fun k p wr => wr = wa ∧ ∃ t', p = .pointer t'.ptr ∧ At Sss wa t' ∧ t'.find cmpS key = t.find cmpS key ∧ t'.size ≤ k)
  case atStart => exact ⟨rfl, t, rfl, H.out, rfl, Nat.le_refl _⟩
  case round =>
    obtain ⟨rfl, t', rfl, h', hf, hk⟩ := hrel
    have HF := Lib.hid hf
    clear hf
    cases t' with
    | nil =>
      simp only [T.ptr_nil]
      go_wp2_with fail
      refine bodyPost_ret (v := .tuple #[.agg #[.int .i64 0, .int .i64 0, .int .i64 0, .int .i64 0, .string ⟨#[]⟩, .string ⟨#[]⟩, .int .i64 0, .int .i64 0, .bool false], .bool false]) (by simp [results, Tryz.results58, go_sem, hcN, hltN]) rfl ?_
      rw [← HF.out]
      refine ⟨rfl, ?_⟩
      (repeat' (first | with_reducible refine Keeps.alloc ?_ _ | (with_reducible refine Keeps.setCell ?_ ?_ _; rotate_left; (intro h9; exact absurd h9 (Nat.lt_irrefl _))) | exact HE.out))
    | node c k v l r =>
      have hc := blk_cell h'.1
      simp only [Sss_cells] at hc
      simp only [T.ptr_node]
      have hlc := lt_of_heap h'.1
      have H' := Lib.hid h'
      clear h'
      simp only [T.size] at hk
      cases hcmp : cmpS key k with
      | lt =>
        obtain ⟨f1, f2, f3⟩ := cmpS_lt' hcmp
        have HF : RowKit.Hid (l.find cmpS key = t.find cmpS key) := by have := HF.out; simp only [T.find, hcmp] at this; exact Lib.hid this
        clear hcmp
        go_wp2_with fail
        go_roundg l.size
        case measure => omega
        case rel => exact ⟨rfl, l, rfl, H'.out.2.1, HF.out, Nat.le_refl _⟩
      | gt =>
        obtain ⟨f1, f2, f3⟩ := cmpS_gt' hcmp
        have HF : RowKit.Hid (r.find cmpS key = t.find cmpS key) := by have := HF.out; simp only [T.find, hcmp] at this; exact Lib.hid this
        clear hcmp
        go_wp2_with fail
        go_roundg r.size
        case measure => omega
        case rel => exact ⟨rfl, r, rfl, H'.out.2.2.1, HF.out, Nat.le_refl _⟩
      | eq =>
        obtain ⟨f1, f2, f3⟩ := cmpS_eq' hcmp
        have HF : RowKit.Hid (some v = t.find cmpS key) := by have := HF.out; simp only [T.find, hcmp] at this; exact Lib.hid this
        clear hcmp
        go_wp2_with fail
        refine bodyPost_ret (v := .tuple #[.agg #[.int .i64 v.tr, .int .i64 v.id, .int .i64 v.pa, .int .i64 v.rv, .string v.sv, .string v.op, .int .i64 v.st, .int .i64 v.du, .bool v.gone], .bool true]) (by simp [results, Tryz.results58, go_sem, hcN, hltN]) rfl ?_
        rw [← HF.out]
        refine ⟨rfl, ?_⟩
        (repeat' (first | with_reducible refine Keeps.alloc ?_ _ | (with_reducible refine Keeps.setCell ?_ ?_ _; rotate_left; (intro h9; exact absurd h9 (Nat.lt_irrefl _))) | exact HE.out))
/-- what the map's Put leaves -/
def MapPutss (key : ByteArray) (val : Spn) (t : T ByteArray Spn) (b o : Nat) (c : Array Value) (ty : TypeId) (w : World) (e : Ending) (w' : World) : Prop :=
  ∃ N, w.heap.size ≤ N ∧ e = .returned (.bool (t.put cmpS N key val).2) ∧ MapAt Sss w' b o (mapCells c o (t.put cmpS N key val).1) ty (t.put cmpS N key val).1 ∧ Keeps (fun x => x = b ∨ x ∈ t.blocks) w w'
theorem mput_ss (key : ByteArray) (val : Spn) {t : T ByteArray Spn} {w : World} {b o : Nat} {c : Array Value} {ty : TypeId} (h : MapAt Sss w b o c ty t) (hs : t.size + 1 ≤ 1099511627776) :
    Calls Tryz.prog 61 #[.pointer (some ⟨b, o, none⟩), .string key, .agg #[.int .i64 val.tr, .int .i64 val.id, .int .i64 val.pa, .int .i64 val.rv, .string val.sv, .string val.op, .int .i64 val.st, .int .i64 val.du, .bool val.gone]] w (MapPutss key val t b o c ty w) := by
  have hr := h.cellR
  have hlt0 := lt_of_heap h.blk
  have hs' : (t.size : Int) + 1 ≤ 1099511627776 := by omega
  have H0 := Lib.hid h
  clear h
  go_enter Tryz.func61, Tryz.ntmps61
  go_wp2_with fail
  refine wp_drawE (way [0, 1, 2, 3, 4, 5, 6, 7, 8, 9, 10, 11]) (by kernel_rfl) (by kernel_rfl) (fun wb hh hd hf hS => ?_)
  simp only [way]
  have hE : Ext w wb := ((Keeps.refl _ w).alloc _).trans hS
  have H := Lib.hid (H0.out.ext hE)
  have HE := Lib.hid hE
  clear hE hh
  go_wp2_with (first | (refine' hl_q rfl rfl rfl (fun _ => ?_) ?_; rotate_left; (go_simp <;> (try go_bits) <;> rfl); (try simp only [Act.put, List.setIfInBounds_toArray, List.set_cons_zero, List.set_cons_succ])) | (refine' hl_rS rfl rfl rfl hS ?_ ?_; rotate_left; (intro w9 hS9; (first | have hc9 := Ext.cells hS9 | have hc9 := Keeps.cells hS9); (go_simp <;> rfl)); (try simp only [Act.put, List.setIfInBounds_toArray, List.set_cons_zero, List.set_cons_succ])) | (refine' hl_r rfl rfl rfl ?_ ?_; rotate_left; (rintro w9 (rfl | hS9); (go_simp <;> rfl); (first | have hc9 := Ext.cells hS9 | have hc9 := Keeps.cells hS9 | (try dsimp only at hS9)); (go_simp <;> rfl)); (try simp only [Act.put, List.setIfInBounds_toArray, List.set_cons_zero, List.set_cons_succ])) | (refine' hl_s rfl rfl ?_; (try simp only [Act.put, List.setIfInBounds_toArray, List.set_cons_zero, List.set_cons_succ])) | (refine hl_e rfl rfl rfl (fun K hK => ?_)) | (with_reducible refine And.intro (fun hn => ?_) ?_; (first | exact hS | exact Keeps.alloc hS _ | exact absurd hn (by rw [show needS _ _ = false from by kernel_rfl]; exact Bool.false_ne_true))) | (refine hl_done ?_) | gi_step)
  refine callsIn_wide.2 ((put_ss key val t _ H.out.tree hs).mono ?_)
  rintro e9 w1 ⟨N, hN, rfl, a1, k1⟩
  have hb1 := k1.same b (lt_of_heap H.out.blk) H.out.own
  have hlt := lt_of_heap H.out.blk
  have hr1 : w1.cell? ⟨b, o, none⟩ = some (.pointer t.ptr) := (World.cell?_of_block (w := wb) hb1).trans H.out.cellR
  have hm1 : w1.cell? ⟨b, o + 1, none⟩ = some (.int .i64 t.size) := (World.cell?_of_block (w := wb) hb1).trans H.out.cellM
  have hz1 := blk_free (hb1.trans H.out.blk)
  have hnb : b ∉ (t.put cmpS N key val).1.blocks := fun hx => (T.put_blocks _ _ _ _ _ _ hx).elim H.out.own (by omega)
  have hsz := T.put_size cmpS N key val t
  have R := Lib.hid (And.intro hb1 (And.intro a1 (And.intro hnb hsz)))
  have K1 := Lib.hid k1
  clear hb1 a1 hnb hsz k1 hd hf hS
  cases hf : (t.put cmpS N key val).2 with
  | true =>
    go_wp2_with (first | (refine' hl_q rfl rfl rfl (fun _ => ?_) ?_; rotate_left; (go_simp <;> (try go_bits) <;> rfl); (try simp only [Act.put, List.setIfInBounds_toArray, List.set_cons_zero, List.set_cons_succ])) | (refine' hl_rS rfl rfl rfl hS ?_ ?_; rotate_left; (intro w9 hS9; (first | have hc9 := Ext.cells hS9 | have hc9 := Keeps.cells hS9); (go_simp <;> rfl)); (try simp only [Act.put, List.setIfInBounds_toArray, List.set_cons_zero, List.set_cons_succ])) | (refine' hl_r rfl rfl rfl ?_ ?_; rotate_left; (rintro w9 (rfl | hS9); (go_simp <;> rfl); (first | have hc9 := Ext.cells hS9 | have hc9 := Keeps.cells hS9 | (try dsimp only at hS9)); (go_simp <;> rfl)); (try simp only [Act.put, List.setIfInBounds_toArray, List.set_cons_zero, List.set_cons_succ])) | (refine' hl_s rfl rfl ?_; (try simp only [Act.put, List.setIfInBounds_toArray, List.set_cons_zero, List.set_cons_succ])) | (refine hl_e rfl rfl rfl (fun K hK => ?_)) | (with_reducible refine And.intro (fun hn => ?_) ?_; (first | exact hS | exact Keeps.alloc hS _ | exact absurd hn (by rw [show needS _ _ = false from by kernel_rfl]; exact Bool.false_ne_true))) | (refine hl_done ?_) | gi_step)
    go_ret
    obtain ⟨hb1, a1, hnb, hsz⟩ := R.out
    rw [hf] at hsz
    obtain ⟨m1, o1⟩ := H.out.set2 hb1 a1 hnb ((t.size : Int) + 1) (by simp at hsz; omega)
    exact ⟨N, Nat.le_trans HE.out.size hN, by rw [hf]; rfl, m1, (HE.out.keeps.andThen (K1.out.mono fun _ _ hx => .inr hx) fun _ _ hx => hx).andThen o1.keeps fun x _ hx => .inl (by simpa using hx)⟩
  | false =>
    go_wp2_with (first | (refine' hl_q rfl rfl rfl (fun _ => ?_) ?_; rotate_left; (go_simp <;> (try go_bits) <;> rfl); (try simp only [Act.put, List.setIfInBounds_toArray, List.set_cons_zero, List.set_cons_succ])) | (refine' hl_rS rfl rfl rfl hS ?_ ?_; rotate_left; (intro w9 hS9; (first | have hc9 := Ext.cells hS9 | have hc9 := Keeps.cells hS9); (go_simp <;> rfl)); (try simp only [Act.put, List.setIfInBounds_toArray, List.set_cons_zero, List.set_cons_succ])) | (refine' hl_r rfl rfl rfl ?_ ?_; rotate_left; (rintro w9 (rfl | hS9); (go_simp <;> rfl); (first | have hc9 := Ext.cells hS9 | have hc9 := Keeps.cells hS9 | (try dsimp only at hS9)); (go_simp <;> rfl)); (try simp only [Act.put, List.setIfInBounds_toArray, List.set_cons_zero, List.set_cons_succ])) | (refine' hl_s rfl rfl ?_; (try simp only [Act.put, List.setIfInBounds_toArray, List.set_cons_zero, List.set_cons_succ])) | (refine hl_e rfl rfl rfl (fun K hK => ?_)) | (with_reducible refine And.intro (fun hn => ?_) ?_; (first | exact hS | exact Keeps.alloc hS _ | exact absurd hn (by rw [show needS _ _ = false from by kernel_rfl]; exact Bool.false_ne_true))) | (refine hl_done ?_) | gi_step)
    go_ret
    obtain ⟨hb1, a1, hnb, hsz⟩ := R.out
    rw [hf] at hsz
    obtain ⟨m1, o1⟩ := H.out.set1 hb1 a1 hnb (by simpa using hsz)
    exact ⟨N, Nat.le_trans HE.out.size hN, by rw [hf]; rfl, m1, (HE.out.keeps.andThen (K1.out.mono fun _ _ hx => .inr hx) fun _ _ hx => hx).andThen o1.keeps fun x _ hx => .inl (by simpa using hx)⟩
end Go.Proofs.YtdonmmjikcbihaaGreatDoor
