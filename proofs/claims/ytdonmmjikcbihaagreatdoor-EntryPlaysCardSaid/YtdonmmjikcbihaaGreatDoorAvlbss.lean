/- Package avl at [string, gossamer/api.Span]: put, least, drop. -/
import Derived.Test.YtdonmmjikcbihaaGreatDoorAvlass
import Derived.WalkLawsBesides
namespace Go.Proofs.YtdonmmjikcbihaaGreatDoor
open Go.RowKit Go.Proofs Go.Vc
attribute [local irreducible] Calls CallsIn Code.wp Code.wpIn
theorem valset_ss (k : ByteArray) (v val : Spn) (l h : Value) (d : Int) : (((((((((Sss.cells k v l h d).setIfInBounds 1 (.int .i64 val.tr)).setIfInBounds 2 (.int .i64 val.id)).setIfInBounds 3 (.int .i64 val.pa)).setIfInBounds 4 (.int .i64 val.rv)).setIfInBounds 5 (.string val.sv)).setIfInBounds 6 (.string val.op)).setIfInBounds 7 (.int .i64 val.st)).setIfInBounds 8 (.int .i64 val.du)).setIfInBounds 9 (.bool val.gone) = Sss.cells k val l h d := by simp [Sss_cells]
/-- what put leaves -/
def Putss (key : ByteArray) (val : Spn) (t : T ByteArray Spn) (w : World) (e : Ending) (w' : World) : Prop :=
  ∃ N, w.heap.size ≤ N ∧ e = .returned (.tuple #[.pointer (t.put cmpS N key val).1.ptr, .bool (t.put cmpS N key val).2]) ∧ At Sss w' (t.put cmpS N key val).1 ∧ Keeps (· ∈ t.blocks) w w'
set_option maxHeartbeats 1000000 in
theorem put_ss (key : ByteArray) (val : Spn) (t : T ByteArray Spn) : ∀ w : World, At Sss w t → t.size + 1 ≤ 1099511627776 →
    Calls Tryz.prog 88 #[.pointer t.ptr, .string key, .agg #[.int .i64 val.tr, .int .i64 val.id, .int .i64 val.pa, .int .i64 val.rv, .string val.sv, .string val.op, .int .i64 val.st, .int .i64 val.du, .bool val.gone]] w (Putss key val t w) := by
  induction t with
  | nil =>
    intro w _ _
    simp only [T.ptr_nil, T.ptr_node]
    go_enter Tryz.func88, Tryz.ntmps88
    go_wp2_with fail
    go_ret2
    refine ⟨w.heap.size + 1, Nat.le_succ _, rfl, ⟨?_, trivial, trivial, by simp [T.blocks], by simp [T.blocks], by simp [T.blocks]⟩, ((Keeps.refl _ w).alloc _).alloc _⟩
    have := World.alloc_heap_new (w.alloc (.cells #[.int .i64 val.tr, .int .i64 val.id, .int .i64 val.pa, .int .i64 val.rv, .string val.sv, .string val.op, .int .i64 val.st, .int .i64 val.du, .bool val.gone] 48)) (.cells (Sss.cells key val (.pointer none) (.pointer none) 1) Sss.ty)
    rw [World.size_alloc] at this
    exact this
  | node b k v l r ihl ihr =>
    intro w h hs
    have hc := blk_cell h.1
    have hz := blk_free h.1
    have hlt := lt_of_heap h.1
    have hne : b ≠ w.heap.size := Nat.ne_of_lt hlt
    simp only [Sss_cells] at hc
    simp only [T.ptr_nil, T.ptr_node]
    have H := Lib.hid h
    simp only [T.size] at hs
    have IL := Lib.hid ihl
    have IR := Lib.hid ihr
    clear h ihl ihr
    cases hk : cmpS key k with
    | lt =>
      obtain ⟨f1, f2⟩ := cmpS_lt hk
      have hp : ∀ N, (T.node b k v l r).put cmpS N key val = (T.level (T.node b k v (l.put cmpS N key val).1 r), (l.put cmpS N key val).2) := fun N => by rw [T.put, hk]
      have HK := Lib.hid hp
      clear hk hp
      go_enter Tryz.func88, Tryz.ntmps88
      go_wp2_with fail
      refine wp_drawE (way [0, 1, 2, 3, 4, 5, 6, 7, 8, 9, 10, 11, 12, 13, 14]) (by kernel_rfl) (by kernel_rfl) (fun wb hh hd hf hS => ?_)
      simp only [way]
      have hE : Ext w wb := ((Keeps.refl _ w).alloc _).trans hS
      have H1 := Lib.hid (H.out.ext hE)
      have HE := Lib.hid hE
      clear hE hh
      go_wp2_with (first | (refine' hl_q rfl rfl rfl (fun _ => ?_) ?_; rotate_left; (go_simp <;> (try go_bits) <;> rfl); (try simp only [Act.put, List.setIfInBounds_toArray, List.set_cons_zero, List.set_cons_succ])) | (refine' hl_rS rfl rfl rfl hS ?_ ?_; rotate_left; (intro w9 hS9; (first | have hc9 := Ext.cells hS9 | have hc9 := Keeps.cells hS9); (go_simp <;> rfl)); (try simp only [Act.put, List.setIfInBounds_toArray, List.set_cons_zero, List.set_cons_succ])) | (refine' hl_r rfl rfl rfl ?_ ?_; rotate_left; (rintro w9 (rfl | hS9); (go_simp <;> rfl); (first | have hc9 := Ext.cells hS9 | have hc9 := Keeps.cells hS9 | (try dsimp only at hS9)); (go_simp <;> rfl)); (try simp only [Act.put, List.setIfInBounds_toArray, List.set_cons_zero, List.set_cons_succ])) | (refine' hl_s rfl rfl ?_; (try simp only [Act.put, List.setIfInBounds_toArray, List.set_cons_zero, List.set_cons_succ])) | (refine hl_e rfl rfl rfl (fun K hK => ?_)) | (with_reducible refine And.intro (fun hn => ?_) ?_; (first | exact hS | exact Keeps.alloc hS _ | exact absurd hn (by rw [show needS _ _ = false from by kernel_rfl]; exact Bool.false_ne_true))) | (refine hl_done ?_) | gi_step)
      refine callsIn_wide.2 ((IL.out _ H1.out.2.1 (by omega)).mono ?_)
      rintro e9 w1 ⟨N, hN, rfl, a1, k1⟩
      have hb1 := (k1.same b (lt_of_heap H1.out.1) H1.out.2.2.2.1).trans H1.out.1
      have hc1 := blk_cell hb1
      have hz1 := blk_free hb1
      simp only [Sss_cells] at hc1
      clear hb1 hd hf hS
      have hbl := fun x hx => (T.put_blocks cmpS N key val l x hx)
      have HB := Lib.hid hbl
      clear hbl
      have n2 := H1.out.nd.low k1 (fun _ hx => hx) a1 (fun x hx => (HB.out x hx).elim .inl (fun e => .inr (e ▸ hN)))
      have N2 := Lib.hid n2
      clear n2
      go_wp2_with (first | (refine' hl_q rfl rfl rfl (fun _ => ?_) ?_; rotate_left; (go_simp <;> (try go_bits) <;> rfl); (try simp only [Act.put, List.setIfInBounds_toArray, List.set_cons_zero, List.set_cons_succ])) | (refine' hl_rS rfl rfl rfl hS ?_ ?_; rotate_left; (intro w9 hS9; (first | have hc9 := Ext.cells hS9 | have hc9 := Keeps.cells hS9); (go_simp <;> rfl)); (try simp only [Act.put, List.setIfInBounds_toArray, List.set_cons_zero, List.set_cons_succ])) | (refine' hl_r rfl rfl rfl ?_ ?_; rotate_left; (rintro w9 (rfl | hS9); (go_simp <;> rfl); (first | have hc9 := Ext.cells hS9 | have hc9 := Keeps.cells hS9 | (try dsimp only at hS9)); (go_simp <;> rfl)); (try simp only [Act.put, List.setIfInBounds_toArray, List.set_cons_zero, List.set_cons_succ])) | (refine' hl_s rfl rfl ?_; (try simp only [Act.put, List.setIfInBounds_toArray, List.set_cons_zero, List.set_cons_succ])) | (refine hl_e rfl rfl rfl (fun K hK => ?_)) | (with_reducible refine And.intro (fun hn => ?_) ?_; (first | exact hS | exact Keeps.alloc hS _ | exact absurd hn (by rw [show needS _ _ = false from by kernel_rfl]; exact Bool.false_ne_true))) | (refine hl_done ?_) | gi_step)
      refine (level_ss _ N2.out (by have := T.put_size_le cmpS N key val l; omega)).mono ?_
      rintro e9 w3 ⟨rfl, a3, o3⟩
      go_wp2_with fail
      go_ret2
      refine ⟨N, Nat.le_trans HE.out.size hN, by rw [HK.out]; rfl, by rw [HK.out]; exact a3, ?_⟩
      refine (HE.out.keeps.andThen ((k1.mono fun x _ hx => show x ∈ (T.node b k v l r).blocks by simp [T.blocks, hx]).setCell (fun _ => by simp [T.blocks]) _) fun _ _ hx => hx).andThen o3.keeps fun x hlt hm => ?_
      have hsz := HE.out.size
      simp only [T.blocks, List.mem_cons, List.mem_append] at hm ⊢
      rcases hm with hm | hm | hm
      · exact .inl hm
      · exact (HB.out x hm).elim (fun g => .inr (.inl g)) (fun g => by omega)
      · exact .inr (.inr hm)
    | gt =>
      obtain ⟨f1, f2⟩ := cmpS_gt hk
      have hp : ∀ N, (T.node b k v l r).put cmpS N key val = (T.level (T.node b k v l (r.put cmpS N key val).1), (r.put cmpS N key val).2) := fun N => by rw [T.put, hk]
      have HK := Lib.hid hp
      clear hk hp
      go_enter Tryz.func88, Tryz.ntmps88
      go_wp2_with fail
      refine wp_drawE (way [0, 1, 2, 3, 4, 5, 6, 7, 8, 9, 10, 11, 12, 13, 14]) (by kernel_rfl) (by kernel_rfl) (fun wb hh hd hf hS => ?_)
      simp only [way]
      have hE : Ext w wb := ((Keeps.refl _ w).alloc _).trans hS
      have H1 := Lib.hid (H.out.ext hE)
      have HE := Lib.hid hE
      clear hE hh
      go_wp2_with (first | (refine' hl_q rfl rfl rfl (fun _ => ?_) ?_; rotate_left; (go_simp <;> (try go_bits) <;> rfl); (try simp only [Act.put, List.setIfInBounds_toArray, List.set_cons_zero, List.set_cons_succ])) | (refine' hl_rS rfl rfl rfl hS ?_ ?_; rotate_left; (intro w9 hS9; (first | have hc9 := Ext.cells hS9 | have hc9 := Keeps.cells hS9); (go_simp <;> rfl)); (try simp only [Act.put, List.setIfInBounds_toArray, List.set_cons_zero, List.set_cons_succ])) | (refine' hl_r rfl rfl rfl ?_ ?_; rotate_left; (rintro w9 (rfl | hS9); (go_simp <;> rfl); (first | have hc9 := Ext.cells hS9 | have hc9 := Keeps.cells hS9 | (try dsimp only at hS9)); (go_simp <;> rfl)); (try simp only [Act.put, List.setIfInBounds_toArray, List.set_cons_zero, List.set_cons_succ])) | (refine' hl_s rfl rfl ?_; (try simp only [Act.put, List.setIfInBounds_toArray, List.set_cons_zero, List.set_cons_succ])) | (refine hl_e rfl rfl rfl (fun K hK => ?_)) | (with_reducible refine And.intro (fun hn => ?_) ?_; (first | exact hS | exact Keeps.alloc hS _ | exact absurd hn (by rw [show needS _ _ = false from by kernel_rfl]; exact Bool.false_ne_true))) | (refine hl_done ?_) | gi_step)
      refine callsIn_wide.2 ((IR.out _ H1.out.2.2.1 (by omega)).mono ?_)
      rintro e9 w1 ⟨N, hN, rfl, a1, k1⟩
      have hb1 := (k1.same b (lt_of_heap H1.out.1) H1.out.2.2.2.2.1).trans H1.out.1
      have hc1 := blk_cell hb1
      have hz1 := blk_free hb1
      simp only [Sss_cells] at hc1
      clear hb1 hd hf hS
      have hbl := fun x hx => (T.put_blocks cmpS N key val r x hx)
      have HB := Lib.hid hbl
      clear hbl
      have n2 := H1.out.nd.high k1 (fun _ hx => hx) a1 (fun x hx => (HB.out x hx).elim .inl (fun e => .inr (e ▸ hN)))
      have N2 := Lib.hid n2
      clear n2
      go_wp2_with (first | (refine' hl_q rfl rfl rfl (fun _ => ?_) ?_; rotate_left; (go_simp <;> (try go_bits) <;> rfl); (try simp only [Act.put, List.setIfInBounds_toArray, List.set_cons_zero, List.set_cons_succ])) | (refine' hl_rS rfl rfl rfl hS ?_ ?_; rotate_left; (intro w9 hS9; (first | have hc9 := Ext.cells hS9 | have hc9 := Keeps.cells hS9); (go_simp <;> rfl)); (try simp only [Act.put, List.setIfInBounds_toArray, List.set_cons_zero, List.set_cons_succ])) | (refine' hl_r rfl rfl rfl ?_ ?_; rotate_left; (rintro w9 (rfl | hS9); (go_simp <;> rfl); (first | have hc9 := Ext.cells hS9 | have hc9 := Keeps.cells hS9 | (try dsimp only at hS9)); (go_simp <;> rfl)); (try simp only [Act.put, List.setIfInBounds_toArray, List.set_cons_zero, List.set_cons_succ])) | (refine' hl_s rfl rfl ?_; (try simp only [Act.put, List.setIfInBounds_toArray, List.set_cons_zero, List.set_cons_succ])) | (refine hl_e rfl rfl rfl (fun K hK => ?_)) | (with_reducible refine And.intro (fun hn => ?_) ?_; (first | exact hS | exact Keeps.alloc hS _ | exact absurd hn (by rw [show needS _ _ = false from by kernel_rfl]; exact Bool.false_ne_true))) | (refine hl_done ?_) | gi_step)
      refine (level_ss _ N2.out (by have := T.put_size_le cmpS N key val r; omega)).mono ?_
      rintro e9 w3 ⟨rfl, a3, o3⟩
      go_wp2_with fail
      go_ret2
      refine ⟨N, Nat.le_trans HE.out.size hN, by rw [HK.out]; rfl, by rw [HK.out]; exact a3, ?_⟩
      refine (HE.out.keeps.andThen ((k1.mono fun x _ hx => show x ∈ (T.node b k v l r).blocks by simp [T.blocks, hx]).setCell (fun _ => by simp [T.blocks]) _) fun _ _ hx => hx).andThen o3.keeps fun x hlt hm => ?_
      have hsz := HE.out.size
      simp only [T.blocks, List.mem_cons, List.mem_append] at hm ⊢
      rcases hm with hm | hm | hm
      · exact .inl hm
      · exact .inr (.inl hm)
      · exact (HB.out x hm).elim (fun g => .inr (.inr g)) (fun g => by omega)
    | eq =>
      obtain ⟨f1, f2⟩ := cmpS_eq hk
      have hp : ∀ N, (T.node b k v l r).put cmpS N key val = (T.level (T.node b k val l r), false) := fun N => by rw [T.put, hk]
      have HK := Lib.hid hp
      clear hk hp
      go_enter Tryz.func88, Tryz.ntmps88
      go_wp2_with fail
      have n2 : ∀ X, Keeps (· ∈ [b]) w X → (∃ d, X.heap[b]? = some (.cells (Sss.cells k val (.pointer l.ptr) (.pointer r.ptr) d) Sss.ty (0, 0))) → Nd Sss X b k val l r := fun X hk hb =>
        ⟨hb, H.out.2.1.keeps hk fun _ hx => no_one H.out.2.2.2.1 hx, H.out.2.2.1.keeps hk fun _ hx => no_one H.out.2.2.2.2.1 hx, H.out.2.2.2⟩
      have N2 := Lib.hid n2
      clear n2
      refine Calls.mono (level_ss _ (N2.out _ ?hk ⟨((1 + max l.ht r.ht : Nat) : Int), ?hb⟩) (by omega)) ?hm
      case hk => (repeat' (first | with_reducible refine Keeps.alloc ?_ _ | (with_reducible refine Keeps.setCell ?_ ?_ _; rotate_left; (intro _; simp)) | with_reducible exact Keeps.refl _ _))
      case hb => rw [Below.heap_alloc _ _ _ (by simpa using hlt)]; have hv := (heap_set (heap_set (heap_set (heap_set (heap_set (heap_set (heap_set (heap_set (heap_set H.out.1 1 (.int .i64 val.tr)) 2 (.int .i64 val.id)) 3 (.int .i64 val.pa)) 4 (.int .i64 val.rv)) 5 (.string val.sv)) 6 (.string val.op)) 7 (.int .i64 val.st)) 8 (.int .i64 val.du)) 9 (.bool val.gone)); rw [valset_ss k v val] at hv; exact hv
      case hm =>
        rintro e9 w3 ⟨rfl, a3, o3⟩
        go_wp2_with fail
        go_ret2
        refine ⟨w.heap.size, Nat.le_refl _, by rw [HK.out]; rfl, by rw [HK.out]; exact a3, ?_⟩
        refine Keeps.trans (Keeps.mono (F := (· ∈ [b])) ?_ fun x _ hx => ?_) (o3.mono fun x hx => by simpa [T.blocks] using hx).keeps
        · (repeat' (first | with_reducible refine Keeps.alloc ?_ _ | (with_reducible refine Keeps.setCell ?_ ?_ _; rotate_left; (intro _; simp)) | with_reducible exact Keeps.refl _ _))
        · rw [List.mem_singleton] at hx; simp [T.blocks, hx]
end Go.Proofs.YtdonmmjikcbihaaGreatDoor
