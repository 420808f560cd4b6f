/- Parts of the proof, one behind the other: Avlbss, Avlcss, Avldss, Delta, Delta2, Delta3, Live, SetP, EntO, EntN, Ref9, Ref28, Ref28b. No condition beyond each theorem's own. -/
import Derived.WalkLawsBesides
import Derived.Deep.LoopGhost
import Derived.Lib.LazyBuf
import Derived.Test.YtdonmmjikcbihaaGreatDoorGAC
/- Package avl at [string, gossamer/api.Span]: put, least, drop. -/
namespace Go.Proofs.YtdonmmjikcbihaaGreatDoor
open Go.RowKit Go.Proofs Go.Vc
attribute [local irreducible] Calls CallsIn Code.wp Code.wpIn
theorem valset_ss (k : ByteArray) (v val : Spn) (l h : Value) (d : Int) : (((((((((Sss.cells k v l h d).setIfInBounds 1 (.int .i64 val.tr)).setIfInBounds 2 (.int .i64 val.id)).setIfInBounds 3 (.int .i64 val.pa)).setIfInBounds 4 (.int .i64 val.rv)).setIfInBounds 5 (.string val.sv)).setIfInBounds 6 (.string val.op)).setIfInBounds 7 (.int .i64 val.st)).setIfInBounds 8 (.int .i64 val.du)).setIfInBounds 9 (.bool val.gone) = Sss.cells k val l h d := by simp [Sss_cells]
/-- what put leaves -/
def Putss (key : ByteArray) (val : Spn) (t : T ByteArray Spn) (w : World) (e : Ending) (w' : World) : Prop :=
  ∃ N, w.heap.size ≤ N ∧ e = .returned (.tuple #[.pointer (t.put cmpS N key val).1.ptr, .bool (t.put cmpS N key val).2]) ∧ At Sss w' (t.put cmpS N key val).1 ∧ Keeps (· ∈ t.blocks) w w'
set_option maxHeartbeats 1000000 in
theorem put_ss (key : ByteArray) (val : Spn) (t : T ByteArray Spn) : ∀ w : World, At Sss w t → t.size + 1 ≤ 1099511627776 →
    Calls Tryz.prog 88 #[.pointer t.ptr, .string key, .agg #[.int .i64 val.tr, .int .i64 val.id, .int .i64 val.pa, .int .i64 val.rv, .string val.sv, .string val.op, .int .i64 val.st, .int .i64 val.du, .bool val.gone]] w (Putss key val t w) := by
  induction t with
  | nil =>
    intro w _ _
    simp only [T.ptr_nil]
    go_enter Tryz.func88, Tryz.ntmps88
    go_wp2_with fail
    go_ret2
    refine ⟨w.heap.size + 1, Nat.le_succ _, rfl, ⟨?_, trivial, trivial, by simp [T.blocks], by simp [T.blocks], by simp [T.blocks]⟩, ((Keeps.refl _ w).alloc _).alloc _⟩
    have := World.alloc_heap_new (w.alloc (.cells #[.int .i64 val.tr, .int .i64 val.id, .int .i64 val.pa, .int .i64 val.rv, .string val.sv, .string val.op, .int .i64 val.st, .int .i64 val.du, .bool val.gone] 48)) (.cells (Sss.cells key val (.pointer none) (.pointer none) 1) Sss.ty)
    rw [World.size_alloc] at this
    exact this
  | node b k v l r ihl ihr =>
    intro w h hs
    have hc := blk_cell h.1
    have hz := blk_free h.1
    have hlt := lt_of_heap h.1
    have hne : b ≠ w.heap.size := Nat.ne_of_lt hlt
    simp only [Sss_cells] at hc
    simp only [T.ptr_node]
    have H := Lib.hid h
    simp only [T.size] at hs
    have IL := Lib.hid ihl
    have IR := Lib.hid ihr
    clear h ihl ihr
    cases hk : cmpS key k with
    | lt =>
      obtain ⟨f1, f2⟩ := cmpS_lt hk
      have hp : ∀ N, (T.node b k v l r).put cmpS N key val = (T.level (T.node b k v (l.put cmpS N key val).1 r), (l.put cmpS N key val).2) := fun N => by rw [T.put, hk]
      have HK := Lib.hid hp
      clear hk hp
      go_enter Tryz.func88, Tryz.ntmps88
      go_wp2_with fail
      refine wp_drawE (way [0, 1, 2, 3, 4, 5, 6, 7, 8, 9, 10, 11, 12, 13, 14]) (by kernel_rfl) (by kernel_rfl) (fun wb hh hd hf hS => ?_)
      simp only [way]
      have hE : Ext w wb := ((Keeps.refl _ w).alloc _).trans hS
      have H1 := Lib.hid (H.out.ext hE)
      have HE := Lib.hid hE
      clear hE hh
      go_wp2_with (first | (refine' hl_q rfl rfl rfl (fun _ => ?_) ?_; rotate_left; (go_simp <;> (try go_bits) <;> rfl); (try simp only [Act.put, List.setIfInBounds_toArray, List.set_cons_zero, List.set_cons_succ])) | (refine' hl_rS rfl rfl rfl hS ?_ ?_; rotate_left; (intro w9 hS9; (first | have hc9 := Ext.cells hS9 | have hc9 := Keeps.cells hS9); (go_simp <;> rfl)); (try simp only [Act.put, List.setIfInBounds_toArray, List.set_cons_zero, List.set_cons_succ])) | (refine' hl_r rfl rfl rfl ?_ ?_; rotate_left; (rintro w9 (rfl | hS9); (go_simp <;> rfl); (first | have hc9 := Ext.cells hS9 | have hc9 := Keeps.cells hS9 | (try dsimp only at hS9)); (go_simp <;> rfl)); (try simp only [Act.put, List.setIfInBounds_toArray, List.set_cons_zero, List.set_cons_succ])) | (refine' hl_s rfl rfl ?_; (try simp only [Act.put, List.setIfInBounds_toArray, List.set_cons_zero, List.set_cons_succ])) | (refine hl_e rfl rfl rfl (fun K hK => ?_)) | (with_reducible refine And.intro (fun hn => ?_) ?_; (first | exact hS | exact Keeps.alloc hS _ | exact absurd hn (by rw [show needS _ _ = false from by kernel_rfl]; exact Bool.false_ne_true))) | (refine hl_done ?_) | gi_step)
      refine callsIn_wide.2 ((IL.out _ H1.out.2.1 (by omega)).mono ?_)
      rintro e9 w1 ⟨N, hN, rfl, a1, k1⟩
      have hb1 := (k1.same b (lt_of_heap H1.out.1) H1.out.2.2.2.1).trans H1.out.1
      have hc1 := blk_cell hb1
      have hz1 := blk_free hb1
      simp only [Sss_cells] at hc1
      clear hb1 hd hf hS
      have hbl := fun x hx => (T.put_blocks cmpS N key val l x hx)
      have HB := Lib.hid hbl
      clear hbl
      have n2 := H1.out.nd.low k1 (fun _ hx => hx) a1 (fun x hx => (HB.out x hx).elim .inl (fun e => .inr (e ▸ hN)))
      have N2 := Lib.hid n2
      clear n2
      go_wp2_with (first | (refine' hl_q rfl rfl rfl (fun _ => ?_) ?_; rotate_left; (go_simp <;> (try go_bits) <;> rfl); (try simp only [Act.put, List.setIfInBounds_toArray, List.set_cons_zero, List.set_cons_succ])) | (refine' hl_rS rfl rfl rfl hS ?_ ?_; rotate_left; (intro w9 hS9; (first | have hc9 := Ext.cells hS9 | have hc9 := Keeps.cells hS9); (go_simp <;> rfl)); (try simp only [Act.put, List.setIfInBounds_toArray, List.set_cons_zero, List.set_cons_succ])) | (refine' hl_r rfl rfl rfl ?_ ?_; rotate_left; (rintro w9 (rfl | hS9); (go_simp <;> rfl); (first | have hc9 := Ext.cells hS9 | have hc9 := Keeps.cells hS9 | (try dsimp only at hS9)); (go_simp <;> rfl)); (try simp only [Act.put, List.setIfInBounds_toArray, List.set_cons_zero, List.set_cons_succ])) | (refine' hl_s rfl rfl ?_; (try simp only [Act.put, List.setIfInBounds_toArray, List.set_cons_zero, List.set_cons_succ])) | (refine hl_e rfl rfl rfl (fun K hK => ?_)) | (with_reducible refine And.intro (fun hn => ?_) ?_; (first | exact hS | exact Keeps.alloc hS _ | exact absurd hn (by rw [show needS _ _ = false from by kernel_rfl]; exact Bool.false_ne_true))) | (refine hl_done ?_) | gi_step)
      refine (level_ss _ N2.out (by have := T.put_size_le cmpS N key val l; omega)).mono ?_
      rintro e9 w3 ⟨rfl, a3, o3⟩
      go_wp2_with fail
      go_ret2
      refine ⟨N, Nat.le_trans HE.out.size hN, by rw [HK.out]; rfl, by rw [HK.out]; exact a3, ?_⟩
      refine (HE.out.keeps.andThen ((k1.mono fun x _ hx => show x ∈ (T.node b k v l r).blocks by simp [T.blocks, hx]).setCell (fun _ => by simp [T.blocks]) _) fun _ _ hx => hx).andThen o3.keeps fun x hlt hm => ?_
      have hsz := HE.out.size
      simp only [T.blocks, List.mem_cons, List.mem_append] at hm ⊢
      rcases hm with hm | hm | hm
      · exact .inl hm
      · exact (HB.out x hm).elim (fun g => .inr (.inl g)) (fun g => by omega)
      · exact .inr (.inr hm)
    | gt =>
      obtain ⟨f1, f2⟩ := cmpS_gt hk
      have hp : ∀ N, (T.node b k v l r).put cmpS N key val = (T.level (T.node b k v l (r.put cmpS N key val).1), (r.put cmpS N key val).2) := fun N => by rw [T.put, hk]
      have HK := Lib.hid hp
      clear hk hp
      go_enter Tryz.func88, Tryz.ntmps88
      go_wp2_with fail
      refine wp_drawE (way [0, 1, 2, 3, 4, 5, 6, 7, 8, 9, 10, 11, 12, 13, 14]) (by kernel_rfl) (by kernel_rfl) (fun wb hh hd hf hS => ?_)
      simp only [way]
      have hE : Ext w wb := ((Keeps.refl _ w).alloc _).trans hS
      have H1 := Lib.hid (H.out.ext hE)
      have HE := Lib.hid hE
      clear hE hh
      go_wp2_with (first | (refine' hl_q rfl rfl rfl (fun _ => ?_) ?_; rotate_left; (go_simp <;> (try go_bits) <;> rfl); (try simp only [Act.put, List.setIfInBounds_toArray, List.set_cons_zero, List.set_cons_succ])) | (refine' hl_rS rfl rfl rfl hS ?_ ?_; rotate_left; (intro w9 hS9; (first | have hc9 := Ext.cells hS9 | have hc9 := Keeps.cells hS9); (go_simp <;> rfl)); (try simp only [Act.put, List.setIfInBounds_toArray, List.set_cons_zero, List.set_cons_succ])) | (refine' hl_r rfl rfl rfl ?_ ?_; rotate_left; (rintro w9 (rfl | hS9); (go_simp <;> rfl); (first | have hc9 := Ext.cells hS9 | have hc9 := Keeps.cells hS9 | (try dsimp only at hS9)); (go_simp <;> rfl)); (try simp only [Act.put, List.setIfInBounds_toArray, List.set_cons_zero, List.set_cons_succ])) | (refine' hl_s rfl rfl ?_; (try simp only [Act.put, List.setIfInBounds_toArray, List.set_cons_zero, List.set_cons_succ])) | (refine hl_e rfl rfl rfl (fun K hK => ?_)) | (with_reducible refine And.intro (fun hn => ?_) ?_; (first | exact hS | exact Keeps.alloc hS _ | exact absurd hn (by rw [show needS _ _ = false from by kernel_rfl]; exact Bool.false_ne_true))) | (refine hl_done ?_) | gi_step)
      refine callsIn_wide.2 ((IR.out _ H1.out.2.2.1 (by omega)).mono ?_)
      rintro e9 w1 ⟨N, hN, rfl, a1, k1⟩
      have hb1 := (k1.same b (lt_of_heap H1.out.1) H1.out.2.2.2.2.1).trans H1.out.1
      have hc1 := blk_cell hb1
      have hz1 := blk_free hb1
      simp only [Sss_cells] at hc1
      clear hb1 hd hf hS
      have hbl := fun x hx => (T.put_blocks cmpS N key val r x hx)
      have HB := Lib.hid hbl
      clear hbl
      have n2 := H1.out.nd.high k1 (fun _ hx => hx) a1 (fun x hx => (HB.out x hx).elim .inl (fun e => .inr (e ▸ hN)))
      have N2 := Lib.hid n2
      clear n2
      go_wp2_with (first | (refine' hl_q rfl rfl rfl (fun _ => ?_) ?_; rotate_left; (go_simp <;> (try go_bits) <;> rfl); (try simp only [Act.put, List.setIfInBounds_toArray, List.set_cons_zero, List.set_cons_succ])) | (refine' hl_rS rfl rfl rfl hS ?_ ?_; rotate_left; (intro w9 hS9; (first | have hc9 := Ext.cells hS9 | have hc9 := Keeps.cells hS9); (go_simp <;> rfl)); (try simp only [Act.put, List.setIfInBounds_toArray, List.set_cons_zero, List.set_cons_succ])) | (refine' hl_r rfl rfl rfl ?_ ?_; rotate_left; (rintro w9 (rfl | hS9); (go_simp <;> rfl); (first | have hc9 := Ext.cells hS9 | have hc9 := Keeps.cells hS9 | (try dsimp only at hS9)); (go_simp <;> rfl)); (try simp only [Act.put, List.setIfInBounds_toArray, List.set_cons_zero, List.set_cons_succ])) | (refine' hl_s rfl rfl ?_; (try simp only [Act.put, List.setIfInBounds_toArray, List.set_cons_zero, List.set_cons_succ])) | (refine hl_e rfl rfl rfl (fun K hK => ?_)) | (with_reducible refine And.intro (fun hn => ?_) ?_; (first | exact hS | exact Keeps.alloc hS _ | exact absurd hn (by rw [show needS _ _ = false from by kernel_rfl]; exact Bool.false_ne_true))) | (refine hl_done ?_) | gi_step)
      refine (level_ss _ N2.out (by have := T.put_size_le cmpS N key val r; omega)).mono ?_
      rintro e9 w3 ⟨rfl, a3, o3⟩
      go_wp2_with fail
      go_ret2
      refine ⟨N, Nat.le_trans HE.out.size hN, by rw [HK.out]; rfl, by rw [HK.out]; exact a3, ?_⟩
      refine (HE.out.keeps.andThen ((k1.mono fun x _ hx => show x ∈ (T.node b k v l r).blocks by simp [T.blocks, hx]).setCell (fun _ => by simp [T.blocks]) _) fun _ _ hx => hx).andThen o3.keeps fun x hlt hm => ?_
      have hsz := HE.out.size
      simp only [T.blocks, List.mem_cons, List.mem_append] at hm ⊢
      rcases hm with hm | hm | hm
      · exact .inl hm
      · exact .inr (.inl hm)
      · exact (HB.out x hm).elim (fun g => .inr (.inr g)) (fun g => by omega)
    | eq =>
      obtain ⟨f1, f2⟩ := cmpS_eq hk
      have hp : ∀ N, (T.node b k v l r).put cmpS N key val = (T.level (T.node b k val l r), false) := fun N => by rw [T.put, hk]
      have HK := Lib.hid hp
      clear hk hp
      go_enter Tryz.func88, Tryz.ntmps88
      go_wp2_with fail
      have n2 : ∀ X, Keeps (· ∈ [b]) w X → (∃ d, X.heap[b]? = some (.cells (Sss.cells k val (.pointer l.ptr) (.pointer r.ptr) d) Sss.ty (0, 0))) → Nd Sss X b k val l r := fun X hk hb =>
        ⟨hb, H.out.2.1.keeps hk fun _ hx => no_one H.out.2.2.2.1 hx, H.out.2.2.1.keeps hk fun _ hx => no_one H.out.2.2.2.2.1 hx, H.out.2.2.2⟩
      have N2 := Lib.hid n2
      clear n2
      refine Calls.mono (level_ss _ (N2.out _ ?hk ⟨((1 + max l.ht r.ht : Nat) : Int), ?hb⟩) (by omega)) ?hm
      case hk => (repeat' (first | with_reducible refine Keeps.alloc ?_ _ | (with_reducible refine Keeps.setCell ?_ ?_ _; rotate_left; (intro _; simp)) | with_reducible exact Keeps.refl _ _))
      case hb => rw [Below.heap_alloc _ _ _ (by simpa using hlt)]; have hv := (heap_set (heap_set (heap_set (heap_set (heap_set (heap_set (heap_set (heap_set (heap_set H.out.1 1 (.int .i64 val.tr)) 2 (.int .i64 val.id)) 3 (.int .i64 val.pa)) 4 (.int .i64 val.rv)) 5 (.string val.sv)) 6 (.string val.op)) 7 (.int .i64 val.st)) 8 (.int .i64 val.du)) 9 (.bool val.gone)); rw [valset_ss k v val] at hv; exact hv
      case hm =>
        rintro e9 w3 ⟨rfl, a3, o3⟩
        go_wp2_with fail
        go_ret2
        refine ⟨w.heap.size, Nat.le_refl _, by rw [HK.out]; rfl, by rw [HK.out]; exact a3, ?_⟩
        refine Keeps.trans (Keeps.mono (F := (· ∈ [b])) ?_ fun x _ hx => ?_) (o3.mono fun x hx => by simpa [T.blocks] using hx).keeps
        · (repeat' (first | with_reducible refine Keeps.alloc ?_ _ | (with_reducible refine Keeps.setCell ?_ ?_ _; rotate_left; (intro _; simp)) | with_reducible exact Keeps.refl _ _))
        · rw [List.mem_singleton] at hx; simp [T.blocks, hx]
end Go.Proofs.YtdonmmjikcbihaaGreatDoor
/- Package avl at [string, gossamer/api.Span]: the map's own functions. -/
namespace Go.Proofs.YtdonmmjikcbihaaGreatDoor
open Go.RowKit Go.Proofs Go.Vc
attribute [local irreducible] Calls CallsIn Code.wp Code.wpIn
theorem top_ss (t : T ByteArray Spn) (w : World) (b o : Nat) (h : w.cell? ⟨b, o, none⟩ = some (.pointer t.ptr)) : Calls Tryz.prog 86 #[.pointer (some ⟨b, o, none⟩)] w fun e w' => e = .returned (.pointer t.ptr) ∧ w = w' := by
  go_enter Tryz.func86, Tryz.ntmps86
  go_wp2_with fail
  go_ret
  exact ⟨rfl, rfl⟩
theorem topnil_ss (w : World) : Calls Tryz.prog 86 #[.pointer none] w fun e w' => e = .returned (.pointer none) ∧ w = w' := by
  go_enter Tryz.func86, Tryz.ntmps86
  go_wp2_with fail
  go_ret
  exact ⟨rfl, rfl⟩
/-- what Get leaves -/
def Getss (r : Option Spn) (w : World) (e : Ending) (w' : World) : Prop :=
  e = .returned (.tuple #[(match r with | some v => .agg #[.int .i64 v.tr, .int .i64 v.id, .int .i64 v.pa, .int .i64 v.rv, .string v.sv, .string v.op, .int .i64 v.st, .int .i64 v.du, .bool v.gone] | none => .agg #[.int .i64 0, .int .i64 0, .int .i64 0, .int .i64 0, .string ⟨#[]⟩, .string ⟨#[]⟩, .int .i64 0, .int .i64 0, .bool false]), .bool r.isSome]) ∧ Ext w w'
theorem get_ss (key : ByteArray) (t : T ByteArray Spn) (w : World) (b o : Nat) (hb : w.cell? ⟨b, o, none⟩ = some (.pointer t.ptr)) (h : At Sss w t) : Calls Tryz.prog 58 #[.pointer (some ⟨b, o, none⟩), .string key] w (Getss (t.find cmpS key) w) := by
  obtain ⟨wa, hwa⟩ : ∃ wa, wa = w.alloc (.cells #[.int .i64 0, .int .i64 0, .int .i64 0, .int .i64 0, .string ⟨#[]⟩, .string ⟨#[]⟩, .int .i64 0, .int .i64 0, .bool false] 48) := ⟨_, rfl⟩
  have hE : Ext w wa := by rw [hwa]; exact (Keeps.refl _ w).alloc _
  have hN : wa.heap[w.heap.size]? = some (.cells #[.int .i64 0, .int .i64 0, .int .i64 0, .int .i64 0, .string ⟨#[]⟩, .string ⟨#[]⟩, .int .i64 0, .int .i64 0, .bool false] 48) := by rw [hwa]; exact World.alloc_heap_new w _
  have hb' : wa.cell? ⟨b, o, none⟩ = some (.pointer t.ptr) := (Ext.cells hE b o (by rw [hb]; rfl)).trans hb
  have H := Lib.hid (h.ext hE)
  have hcN := blk_cell hN
  have hzN := blk_free hN
  have hltN := lt_of_heap hN
  have HE := Lib.hid hE
  clear h hE hN
  go_enter Tryz.func58, Tryz.ntmps58
  go_wp2_with fail
  rw [← hwa]
  have HW := Lib.hid hwa
  clear hwa
  refine (top_ss t _ b o hb').mono ?_
  rintro e9 w9 ⟨rfl, rfl⟩
  go_wp2_with fail
  go_loopg [6] t.size (fun k p wr => wr = wa ∧ ∃ t', p = .pointer t'.ptr ∧ At Sss wa t' ∧ t'.find cmpS key = t.find cmpS key ∧ t'.size ≤ k)
  case atStart => exact ⟨rfl, t, rfl, H.out, rfl, Nat.le_refl _⟩
  case round =>
    obtain ⟨rfl, t', rfl, h', hf, hk⟩ := hrel
    have HF := Lib.hid hf
    clear hf
    cases t' with
    | nil =>
      simp only [T.ptr_nil]
      go_wp2_with fail
      refine bodyPost_ret (v := .tuple #[.agg #[.int .i64 0, .int .i64 0, .int .i64 0, .int .i64 0, .string ⟨#[]⟩, .string ⟨#[]⟩, .int .i64 0, .int .i64 0, .bool false], .bool false]) (by simp [results, Tryz.results58, go_sem, hcN, hltN]) rfl ?_
      rw [← HF.out]
      refine ⟨rfl, ?_⟩
      (repeat' (first | with_reducible refine Keeps.alloc ?_ _ | (with_reducible refine Keeps.setCell ?_ ?_ _; rotate_left; (intro h9; exact absurd h9 (Nat.lt_irrefl _))) | exact HE.out))
    | node c k v l r =>
      have hc := blk_cell h'.1
      simp only [Sss_cells] at hc
      simp only [T.ptr_node]
      have hlc := lt_of_heap h'.1
      have H' := Lib.hid h'
      clear h'
      simp only [T.size] at hk
      cases hcmp : cmpS key k with
      | lt =>
        obtain ⟨f1, f2, f3⟩ := cmpS_lt' hcmp
        have HF : RowKit.Hid (l.find cmpS key = t.find cmpS key) := by have := HF.out; simp only [T.find, hcmp] at this; exact Lib.hid this
        clear hcmp
        go_wp2_with fail
        go_roundg l.size
        case measure => omega
        case rel => exact ⟨rfl, l, rfl, H'.out.2.1, HF.out, Nat.le_refl _⟩
      | gt =>
        obtain ⟨f1, f2, f3⟩ := cmpS_gt' hcmp
        have HF : RowKit.Hid (r.find cmpS key = t.find cmpS key) := by have := HF.out; simp only [T.find, hcmp] at this; exact Lib.hid this
        clear hcmp
        go_wp2_with fail
        go_roundg r.size
        case measure => omega
        case rel => exact ⟨rfl, r, rfl, H'.out.2.2.1, HF.out, Nat.le_refl _⟩
      | eq =>
        obtain ⟨f1, f2, f3⟩ := cmpS_eq' hcmp
        have HF : RowKit.Hid (some v = t.find cmpS key) := by have := HF.out; simp only [T.find, hcmp] at this; exact Lib.hid this
        clear hcmp
        go_wp2_with fail
        refine bodyPost_ret (v := .tuple #[.agg #[.int .i64 v.tr, .int .i64 v.id, .int .i64 v.pa, .int .i64 v.rv, .string v.sv, .string v.op, .int .i64 v.st, .int .i64 v.du, .bool v.gone], .bool true]) (by simp [results, Tryz.results58, go_sem, hcN]) rfl ?_
        rw [← HF.out]
        refine ⟨rfl, ?_⟩
        (repeat' (first | with_reducible refine Keeps.alloc ?_ _ | (with_reducible refine Keeps.setCell ?_ ?_ _; rotate_left; (intro h9; exact absurd h9 (Nat.lt_irrefl _))) | exact HE.out))
/-- what the map's Put leaves -/
def MapPutss (key : ByteArray) (val : Spn) (t : T ByteArray Spn) (b o : Nat) (c : Array Value) (ty : TypeId) (w : World) (e : Ending) (w' : World) : Prop :=
  ∃ N, w.heap.size ≤ N ∧ e = .returned (.bool (t.put cmpS N key val).2) ∧ MapAt Sss w' b o (mapCells c o (t.put cmpS N key val).1) ty (t.put cmpS N key val).1 ∧ Keeps (fun x => x = b ∨ x ∈ t.blocks) w w'
theorem mput_ss (key : ByteArray) (val : Spn) {t : T ByteArray Spn} {w : World} {b o : Nat} {c : Array Value} {ty : TypeId} (h : MapAt Sss w b o c ty t) (hs : t.size + 1 ≤ 1099511627776) :
    Calls Tryz.prog 61 #[.pointer (some ⟨b, o, none⟩), .string key, .agg #[.int .i64 val.tr, .int .i64 val.id, .int .i64 val.pa, .int .i64 val.rv, .string val.sv, .string val.op, .int .i64 val.st, .int .i64 val.du, .bool val.gone]] w (MapPutss key val t b o c ty w) := by
  have hr := h.cellR
  have hlt0 := lt_of_heap h.blk
  have hs' : (t.size : Int) + 1 ≤ 1099511627776 := by omega
  have H0 := Lib.hid h
  clear h
  go_enter Tryz.func61, Tryz.ntmps61
  go_wp2_with fail
  refine wp_drawE (way [0, 1, 2, 3, 4, 5, 6, 7, 8, 9, 10, 11]) (by kernel_rfl) (by kernel_rfl) (fun wb hh hd hf hS => ?_)
  simp only [way]
  have hE : Ext w wb := ((Keeps.refl _ w).alloc _).trans hS
  have H := Lib.hid (H0.out.ext hE)
  have HE := Lib.hid hE
  clear hE hh
  go_wp2_with (first | (refine' hl_q rfl rfl rfl (fun _ => ?_) ?_; rotate_left; (go_simp <;> (try go_bits) <;> rfl); (try simp only [Act.put, List.setIfInBounds_toArray, List.set_cons_zero, List.set_cons_succ])) | (refine' hl_rS rfl rfl rfl hS ?_ ?_; rotate_left; (intro w9 hS9; (first | have hc9 := Ext.cells hS9 | have hc9 := Keeps.cells hS9); (go_simp <;> rfl)); (try simp only [Act.put, List.setIfInBounds_toArray, List.set_cons_zero, List.set_cons_succ])) | (refine' hl_r rfl rfl rfl ?_ ?_; rotate_left; (rintro w9 (rfl | hS9); (go_simp <;> rfl); (first | have hc9 := Ext.cells hS9 | have hc9 := Keeps.cells hS9 | (try dsimp only at hS9)); (go_simp <;> rfl)); (try simp only [Act.put, List.setIfInBounds_toArray, List.set_cons_zero, List.set_cons_succ])) | (refine' hl_s rfl rfl ?_; (try simp only [Act.put, List.setIfInBounds_toArray, List.set_cons_zero, List.set_cons_succ])) | (refine hl_e rfl rfl rfl (fun K hK => ?_)) | (with_reducible refine And.intro (fun hn => ?_) ?_; (first | exact hS | exact Keeps.alloc hS _ | exact absurd hn (by rw [show needS _ _ = false from by kernel_rfl]; exact Bool.false_ne_true))) | (refine hl_done ?_) | gi_step)
  refine callsIn_wide.2 ((put_ss key val t _ H.out.tree hs).mono ?_)
  rintro e9 w1 ⟨N, hN, rfl, a1, k1⟩
  have hb1 := k1.same b (lt_of_heap H.out.blk) H.out.own
  have hlt := lt_of_heap H.out.blk
  have hr1 : w1.cell? ⟨b, o, none⟩ = some (.pointer t.ptr) := (World.cell?_of_block (w := wb) hb1).trans H.out.cellR
  have hm1 : w1.cell? ⟨b, o + 1, none⟩ = some (.int .i64 t.size) := (World.cell?_of_block (w := wb) hb1).trans H.out.cellM
  have hz1 := blk_free (hb1.trans H.out.blk)
  have hnb : b ∉ (t.put cmpS N key val).1.blocks := fun hx => (T.put_blocks _ _ _ _ _ _ hx).elim H.out.own (by omega)
  have hsz := T.put_size cmpS N key val t
  have R := Lib.hid (And.intro hb1 (And.intro a1 (And.intro hnb hsz)))
  have K1 := Lib.hid k1
  clear hb1 a1 hnb hsz k1 hd hf hS
  cases hf : (t.put cmpS N key val).2 with
  | true =>
    go_wp2_with (first | (refine' hl_q rfl rfl rfl (fun _ => ?_) ?_; rotate_left; (go_simp <;> (try go_bits) <;> rfl); (try simp only [Act.put, List.setIfInBounds_toArray, List.set_cons_zero, List.set_cons_succ])) | (refine' hl_rS rfl rfl rfl hS ?_ ?_; rotate_left; (intro w9 hS9; (first | have hc9 := Ext.cells hS9 | have hc9 := Keeps.cells hS9); (go_simp <;> rfl)); (try simp only [Act.put, List.setIfInBounds_toArray, List.set_cons_zero, List.set_cons_succ])) | (refine' hl_r rfl rfl rfl ?_ ?_; rotate_left; (rintro w9 (rfl | hS9); (go_simp <;> rfl); (first | have hc9 := Ext.cells hS9 | have hc9 := Keeps.cells hS9 | (try dsimp only at hS9)); (go_simp <;> rfl)); (try simp only [Act.put, List.setIfInBounds_toArray, List.set_cons_zero, List.set_cons_succ])) | (refine' hl_s rfl rfl ?_; (try simp only [Act.put, List.setIfInBounds_toArray, List.set_cons_zero, List.set_cons_succ])) | (refine hl_e rfl rfl rfl (fun K hK => ?_)) | (with_reducible refine And.intro (fun hn => ?_) ?_; (first | exact hS | exact Keeps.alloc hS _ | exact absurd hn (by rw [show needS _ _ = false from by kernel_rfl]; exact Bool.false_ne_true))) | (refine hl_done ?_) | gi_step)
    go_ret
    obtain ⟨hb1, a1, hnb, hsz⟩ := R.out
    rw [hf] at hsz
    obtain ⟨m1, o1⟩ := H.out.set2 hb1 a1 hnb ((t.size : Int) + 1) (by simp at hsz; omega)
    exact ⟨N, Nat.le_trans HE.out.size hN, by rw [hf]; rfl, m1, (HE.out.keeps.andThen (K1.out.mono fun _ _ hx => .inr hx) fun _ _ hx => hx).andThen o1.keeps fun x _ hx => .inl (by simpa using hx)⟩
  | false =>
    go_wp2_with (first | (refine' hl_q rfl rfl rfl (fun _ => ?_) ?_; rotate_left; (go_simp <;> (try go_bits) <;> rfl); (try simp only [Act.put, List.setIfInBounds_toArray, List.set_cons_zero, List.set_cons_succ])) | (refine' hl_rS rfl rfl rfl hS ?_ ?_; rotate_left; (intro w9 hS9; (first | have hc9 := Ext.cells hS9 | have hc9 := Keeps.cells hS9); (go_simp <;> rfl)); (try simp only [Act.put, List.setIfInBounds_toArray, List.set_cons_zero, List.set_cons_succ])) | (refine' hl_r rfl rfl rfl ?_ ?_; rotate_left; (rintro w9 (rfl | hS9); (go_simp <;> rfl); (first | have hc9 := Ext.cells hS9 | have hc9 := Keeps.cells hS9 | (try dsimp only at hS9)); (go_simp <;> rfl)); (try simp only [Act.put, List.setIfInBounds_toArray, List.set_cons_zero, List.set_cons_succ])) | (refine' hl_s rfl rfl ?_; (try simp only [Act.put, List.setIfInBounds_toArray, List.set_cons_zero, List.set_cons_succ])) | (refine hl_e rfl rfl rfl (fun K hK => ?_)) | (with_reducible refine And.intro (fun hn => ?_) ?_; (first | exact hS | exact Keeps.alloc hS _ | exact absurd hn (by rw [show needS _ _ = false from by kernel_rfl]; exact Bool.false_ne_true))) | (refine hl_done ?_) | gi_step)
    go_ret
    obtain ⟨hb1, a1, hnb, hsz⟩ := R.out
    rw [hf] at hsz
    obtain ⟨m1, o1⟩ := H.out.set1 hb1 a1 hnb (by simpa using hsz)
    exact ⟨N, Nat.le_trans HE.out.size hN, by rw [hf]; rfl, m1, (HE.out.keeps.andThen (K1.out.mono fun _ _ hx => .inr hx) fun _ _ hx => hx).andThen o1.keeps fun x _ hx => .inl (by simpa using hx)⟩
end Go.Proofs.YtdonmmjikcbihaaGreatDoor
/- Package avl at [string, gossamer/api.Span]: the iterators. -/
namespace Go.Proofs.YtdonmmjikcbihaaGreatDoor
open Go.RowKit Go.Proofs Go.Vc
attribute [local irreducible] Calls CallsIn Code.wp Code.wpIn
/-- what is handed to yield -/
def encss (x : ByteArray × Spn) : Array Value := #[.string x.1, .agg #[.int .i64 x.2.tr, .int .i64 x.2.id, .int .i64 x.2.pa, .int .i64 x.2.rv, .string x.2.sv, .string x.2.op, .int .i64 x.2.st, .int .i64 x.2.du, .bool x.2.gone]]
set_option maxHeartbeats 2000000 in
theorem give_ss (xs : List (Array Value)) (B l : Nat) (J X : Nat → World → Prop) (hJ : ∀ k W W', J k W → Bk B W W' → J k W')
    (hY : ∀ k (hk : k < xs.length) W, J k W → Yd Tryz.prog l xs[k] W fun v W' => KeepsFrom B W W' ∧ ((v = .bool true ∧ J (k + 1) W') ∨ (v = .bool false ∧ X (k + 1) W')))
    (t : T ByteArray Spn) : (∀ k W, J k W → At Sss W t) → ∀ k0, (∀ i (h : i < t.toList.length), xs[k0 + i]? = some (encss t.toList[i])) → ∀ W, J k0 W →
    Calls Tryz.prog 90 #[.pointer t.ptr, .pointer none, .func (.yield l) #[] #[]] W (GiveP J X (k0 + t.toList.length) xs.length) := by
  induction t with
  | nil =>
    intro _ k0 _ W h
    simp only [T.ptr_nil]
    have H := Lib.hid h
    clear h hJ hY
    go_enter Tryz.func90, Tryz.ntmps90
    go_wp2_with fail
    go_ret
    exact .inl ⟨rfl, H.out⟩
  | node b k v tl tr ihl ihr =>
    intro hA k0 hseg W h
    have hc : ∀ k0 W, J k0 W → (∀ i, W.cell? ⟨b, i, none⟩ = (#[.string k, .int .i64 v.tr, .int .i64 v.id, .int .i64 v.pa, .int .i64 v.rv, .string v.sv, .string v.op, .int .i64 v.st, .int .i64 v.du, .bool v.gone, .pointer tl.ptr, .pointer tr.ptr, .int .i64 ((1 + max tl.ht tr.ht : Nat) : Int)] : Array Value)[i]?) := fun k0 W h => have hb := (hA k0 W h).1; blk_cell hb
    have hlen : (T.node b k v tl tr).toList.length = tl.toList.length + 1 + tr.toList.length := by simp [T.toList]; omega
    have hx : xs[k0 + tl.toList.length]? = some (encss (k, v)) := by
      have := hseg tl.toList.length (by rw [hlen]; omega)
      rw [this]; simp [T.toList]
    have IL := Lib.hid (ihl (fun k W h => (hA k W h).2.1) k0 (fun i hi => by
      have := hseg i (by rw [hlen]; omega)
      rw [this]; simp only [T.toList]; rw [List.getElem_append_left hi]))
    have IR := Lib.hid (ihr (fun k W h => (hA k W h).2.2.1) (k0 + tl.toList.length + 1) (fun i hi => by
      have := hseg (tl.toList.length + 1 + i) (by rw [hlen]; omega)
      rw [show k0 + tl.toList.length + 1 + i = k0 + (tl.toList.length + 1 + i) from by omega, this]
      simp only [T.toList]
      rw [List.getElem_append_right (by omega)]
      simp [show tl.toList.length + 1 + i - tl.toList.length = i + 1 from by omega]))
    obtain ⟨hlt, hxe⟩ := List.getElem?_eq_some_iff.1 hx
    have HY := Lib.hid (fun W h => hxe ▸ hY (k0 + tl.toList.length) hlt W h)
    have HJ := Lib.hid hJ
    have HC := Lib.hid hc
    have HL := Lib.hid (And.intro hlen hlt)
    have hc0 := hc k0 W h
    have H := Lib.hid h
    simp only [T.ptr_node]
    clear ihl ihr hseg hA hY hJ hc hx hlt hxe hlen h
    go_enter Tryz.func90, Tryz.ntmps90
    go_wp2_with fail
    refine wp_drawE (way [0, 1, 2, 3, 4, 5, 6, 7, 8, 9, 10, 11]) (by kernel_rfl) (by kernel_rfl) (fun w1 hh hd hf hS => ?_)
    have H1 := Lib.hid (HJ.out _ _ _ H.out (Bk.of_heap hh hS.ost))
    have hc1 := HC.out _ _ H1.out
    clear hh hd hf hc0
    simp only [way]
    go_wp2_with (first | (refine' hl_q rfl rfl rfl (fun _ => ?_) ?_; rotate_left; (go_simp <;> (try go_bits) <;> rfl); (try simp only [Act.put, List.setIfInBounds_toArray, List.set_cons_zero, List.set_cons_succ])) | (refine' hl_rS rfl rfl rfl hS ?_ ?_; rotate_left; (intro w9 hS9; (first | have hc9 := Ext.cells hS9 | have hc9 := Keeps.cells hS9); (go_simp <;> rfl)); (try simp only [Act.put, List.setIfInBounds_toArray, List.set_cons_zero, List.set_cons_succ])) | (refine' hl_r rfl rfl rfl ?_ ?_; rotate_left; (rintro w9 (rfl | hS9); (go_simp <;> rfl); (first | have hc9 := Ext.cells hS9 | have hc9 := Keeps.cells hS9 | (try dsimp only at hS9)); (go_simp <;> rfl)); (try simp only [Act.put, List.setIfInBounds_toArray, List.set_cons_zero, List.set_cons_succ])) | (refine' hl_s rfl rfl ?_; (try simp only [Act.put, List.setIfInBounds_toArray, List.set_cons_zero, List.set_cons_succ])) | (refine hl_e rfl rfl rfl (fun K hK => ?_)) | (with_reducible refine And.intro (fun hn => ?_) ?_; (first | exact hS | exact Keeps.alloc hS _ | exact absurd hn (by rw [show needS _ _ = false from by kernel_rfl]; exact Bool.false_ne_true))) | (refine hl_done ?_) | gi_step)
    refine wp_draw (way [0, 1, 2, 3, 4, 5, 6, 7, 8, 9, 10, 11, 12, 13, 14, 15, 16, 17, 18, 19, 20, 21, 22, 23, 24, 25, 26, 27]) (fun w' => (∀ i, w'.cell? ⟨b, i, none⟩ = (#[.string k, .int .i64 v.tr, .int .i64 v.id, .int .i64 v.pa, .int .i64 v.rv, .string v.sv, .string v.op, .int .i64 v.st, .int .i64 v.du, .bool v.gone, .pointer tl.ptr, .pointer tr.ptr, .int .i64 ((1 + max tl.ht tr.ht : Nat) : Int)] : Array Value)[i]?)) (by kernel_rfl) (by kernel_rfl) (drew_as fun w2 ho2 hh2 hd2 hf2 => ?_)
    have H2 := Lib.hid (HJ.out _ _ _ H1.out (Bk.of_heap hh2 ho2))
    have hc2 := HC.out _ _ H2.out
    clear ho2 hh2 hd2 hf2 hc1 hS
    simp only [way]
    go_wp2_with (first | (refine' hl_q rfl rfl rfl (fun _ => ?_) ?_; rotate_left; (go_simp <;> (try go_bits) <;> rfl); (try simp only [Act.put, List.setIfInBounds_toArray, List.set_cons_zero, List.set_cons_succ])) | (refine' hl_rS rfl rfl rfl hS ?_ ?_; rotate_left; (intro w9 hS9; (first | have hc9 := Ext.cells hS9 | have hc9 := Keeps.cells hS9); (go_simp <;> rfl)); (try simp only [Act.put, List.setIfInBounds_toArray, List.set_cons_zero, List.set_cons_succ])) | (refine' hl_r rfl rfl rfl ?_ ?_; rotate_left; (rintro w9 (rfl | hS9); (go_simp <;> rfl); (first | have hc9 := Ext.cells hS9 | have hc9 := Keeps.cells hS9 | (try dsimp only at hS9)); (go_simp <;> rfl)); (try simp only [Act.put, List.setIfInBounds_toArray, List.set_cons_zero, List.set_cons_succ])) | (refine' hl_s rfl rfl ?_; (try simp only [Act.put, List.setIfInBounds_toArray, List.set_cons_zero, List.set_cons_succ])) | (refine hl_e rfl rfl rfl (fun K hK => ?_)) | (with_reducible refine And.intro (fun hn => ?_) ?_; (first | exact hS | exact Keeps.alloc hS _ | exact absurd hn (by rw [show needS _ _ = false from by kernel_rfl]; exact Bool.false_ne_true))) | (refine hl_done ?_) | gi_step)
    refine callsIn_wide.2 ((IL.out _ H2.out).mono ?_)
    rintro e9 w3 (⟨rfl, h3⟩ | ⟨rfl, h3⟩)
    · have hc3 := HC.out _ _ h3
      obtain ⟨fn, tmps, assign, body, hy, hR⟩ := HY.out _ h3
      simp only [encss] at hy
      have HR := Lib.hid hR
      clear hR hc2 h3
      go_wp2_with (first | (refine' hl_q rfl rfl rfl (fun _ => ?_) ?_; rotate_left; (go_simp <;> (try go_bits) <;> rfl); (try simp only [Act.put, List.setIfInBounds_toArray, List.set_cons_zero, List.set_cons_succ])) | (refine' hl_rS rfl rfl rfl hS ?_ ?_; rotate_left; (intro w9 hS9; (first | have hc9 := Ext.cells hS9 | have hc9 := Keeps.cells hS9); (go_simp <;> rfl)); (try simp only [Act.put, List.setIfInBounds_toArray, List.set_cons_zero, List.set_cons_succ])) | (refine' hl_r rfl rfl rfl ?_ ?_; rotate_left; (rintro w9 (rfl | hS9); (go_simp <;> rfl); (first | have hc9 := Ext.cells hS9 | have hc9 := Keeps.cells hS9 | (try dsimp only at hS9)); (go_simp <;> rfl)); (try simp only [Act.put, List.setIfInBounds_toArray, List.set_cons_zero, List.set_cons_succ])) | (refine' hl_s rfl rfl ?_; (try simp only [Act.put, List.setIfInBounds_toArray, List.set_cons_zero, List.set_cons_succ])) | (refine hl_e rfl rfl rfl (fun K hK => ?_)) | (with_reducible refine And.intro (fun hn => ?_) ?_; (first | exact hS | exact Keeps.alloc hS _ | exact absurd hn (by rw [show needS _ _ = false from by kernel_rfl]; exact Bool.false_ne_true))) | (refine hl_done ?_) | gi_step)
      refine HR.out.mono ?_
      rintro e9 w4 ⟨v4, rfl, hkf, (⟨rfl, h4⟩ | ⟨rfl, h4⟩)⟩
      · have hc4 := HC.out _ _ h4
        have H4 := Lib.hid h4
        clear hy h4 hkf hc3
        go_wp2_with (first | (refine' hl_q rfl rfl rfl (fun _ => ?_) ?_; rotate_left; (go_simp <;> (try go_bits) <;> rfl); (try simp only [Act.put, List.setIfInBounds_toArray, List.set_cons_zero, List.set_cons_succ])) | (refine' hl_rS rfl rfl rfl hS ?_ ?_; rotate_left; (intro w9 hS9; (first | have hc9 := Ext.cells hS9 | have hc9 := Keeps.cells hS9); (go_simp <;> rfl)); (try simp only [Act.put, List.setIfInBounds_toArray, List.set_cons_zero, List.set_cons_succ])) | (refine' hl_r rfl rfl rfl ?_ ?_; rotate_left; (rintro w9 (rfl | hS9); (go_simp <;> rfl); (first | have hc9 := Ext.cells hS9 | have hc9 := Keeps.cells hS9 | (try dsimp only at hS9)); (go_simp <;> rfl)); (try simp only [Act.put, List.setIfInBounds_toArray, List.set_cons_zero, List.set_cons_succ])) | (refine' hl_s rfl rfl ?_; (try simp only [Act.put, List.setIfInBounds_toArray, List.set_cons_zero, List.set_cons_succ])) | (refine hl_e rfl rfl rfl (fun K hK => ?_)) | (with_reducible refine And.intro (fun hn => ?_) ?_; (first | exact hS | exact Keeps.alloc hS _ | exact absurd hn (by rw [show needS _ _ = false from by kernel_rfl]; exact Bool.false_ne_true))) | (refine hl_done ?_) | gi_step)
        refine callsIn_wide.2 ((IR.out _ H4.out).mono ?_)
        rintro e9 w5 (⟨rfl, h5⟩ | ⟨rfl, h5⟩)
        · have H5 := Lib.hid h5
          clear h5
          go_wp2_with (first | (refine' hl_q rfl rfl rfl (fun _ => ?_) ?_; rotate_left; (go_simp <;> (try go_bits) <;> rfl); (try simp only [Act.put, List.setIfInBounds_toArray, List.set_cons_zero, List.set_cons_succ])) | (refine' hl_rS rfl rfl rfl hS ?_ ?_; rotate_left; (intro w9 hS9; (first | have hc9 := Ext.cells hS9 | have hc9 := Keeps.cells hS9); (go_simp <;> rfl)); (try simp only [Act.put, List.setIfInBounds_toArray, List.set_cons_zero, List.set_cons_succ])) | (refine' hl_r rfl rfl rfl ?_ ?_; rotate_left; (rintro w9 (rfl | hS9); (go_simp <;> rfl); (first | have hc9 := Ext.cells hS9 | have hc9 := Keeps.cells hS9 | (try dsimp only at hS9)); (go_simp <;> rfl)); (try simp only [Act.put, List.setIfInBounds_toArray, List.set_cons_zero, List.set_cons_succ])) | (refine' hl_s rfl rfl ?_; (try simp only [Act.put, List.setIfInBounds_toArray, List.set_cons_zero, List.set_cons_succ])) | (refine hl_e rfl rfl rfl (fun K hK => ?_)) | (with_reducible refine And.intro (fun hn => ?_) ?_; (first | exact hS | exact Keeps.alloc hS _ | exact absurd hn (by rw [show needS _ _ = false from by kernel_rfl]; exact Bool.false_ne_true))) | (refine hl_done ?_) | gi_step)
          go_ret
          exact .inl ⟨rfl, by rw [HL.out.1, show k0 + (tl.toList.length + 1 + tr.toList.length) = k0 + tl.toList.length + 1 + tr.toList.length from by omega]; exact H5.out⟩
        · have H5 := Lib.hid h5
          clear h5
          go_wp2_with (first | (refine' hl_q rfl rfl rfl (fun _ => ?_) ?_; rotate_left; (go_simp <;> (try go_bits) <;> rfl); (try simp only [Act.put, List.setIfInBounds_toArray, List.set_cons_zero, List.set_cons_succ])) | (refine' hl_rS rfl rfl rfl hS ?_ ?_; rotate_left; (intro w9 hS9; (first | have hc9 := Ext.cells hS9 | have hc9 := Keeps.cells hS9); (go_simp <;> rfl)); (try simp only [Act.put, List.setIfInBounds_toArray, List.set_cons_zero, List.set_cons_succ])) | (refine' hl_r rfl rfl rfl ?_ ?_; rotate_left; (rintro w9 (rfl | hS9); (go_simp <;> rfl); (first | have hc9 := Ext.cells hS9 | have hc9 := Keeps.cells hS9 | (try dsimp only at hS9)); (go_simp <;> rfl)); (try simp only [Act.put, List.setIfInBounds_toArray, List.set_cons_zero, List.set_cons_succ])) | (refine' hl_s rfl rfl ?_; (try simp only [Act.put, List.setIfInBounds_toArray, List.set_cons_zero, List.set_cons_succ])) | (refine hl_e rfl rfl rfl (fun K hK => ?_)) | (with_reducible refine And.intro (fun hn => ?_) ?_; (first | exact hS | exact Keeps.alloc hS _ | exact absurd hn (by rw [show needS _ _ = false from by kernel_rfl]; exact Bool.false_ne_true))) | (refine hl_done ?_) | gi_step)
          go_ret
          exact .inr ⟨rfl, H5.out⟩
      · have H4 := Lib.hid h4
        clear hy h4 hkf hc3
        go_wp2_with (first | (refine' hl_q rfl rfl rfl (fun _ => ?_) ?_; rotate_left; (go_simp <;> (try go_bits) <;> rfl); (try simp only [Act.put, List.setIfInBounds_toArray, List.set_cons_zero, List.set_cons_succ])) | (refine' hl_rS rfl rfl rfl hS ?_ ?_; rotate_left; (intro w9 hS9; (first | have hc9 := Ext.cells hS9 | have hc9 := Keeps.cells hS9); (go_simp <;> rfl)); (try simp only [Act.put, List.setIfInBounds_toArray, List.set_cons_zero, List.set_cons_succ])) | (refine' hl_r rfl rfl rfl ?_ ?_; rotate_left; (rintro w9 (rfl | hS9); (go_simp <;> rfl); (first | have hc9 := Ext.cells hS9 | have hc9 := Keeps.cells hS9 | (try dsimp only at hS9)); (go_simp <;> rfl)); (try simp only [Act.put, List.setIfInBounds_toArray, List.set_cons_zero, List.set_cons_succ])) | (refine' hl_s rfl rfl ?_; (try simp only [Act.put, List.setIfInBounds_toArray, List.set_cons_zero, List.set_cons_succ])) | (refine hl_e rfl rfl rfl (fun K hK => ?_)) | (with_reducible refine And.intro (fun hn => ?_) ?_; (first | exact hS | exact Keeps.alloc hS _ | exact absurd hn (by rw [show needS _ _ = false from by kernel_rfl]; exact Bool.false_ne_true))) | (refine hl_done ?_) | gi_step)
        go_ret
        exact .inr ⟨rfl, _, HL.out.2, H4.out⟩
    · have H3 := Lib.hid h3
      clear h3
      go_wp2_with (first | (refine' hl_q rfl rfl rfl (fun _ => ?_) ?_; rotate_left; (go_simp <;> (try go_bits) <;> rfl); (try simp only [Act.put, List.setIfInBounds_toArray, List.set_cons_zero, List.set_cons_succ])) | (refine' hl_rS rfl rfl rfl hS ?_ ?_; rotate_left; (intro w9 hS9; (first | have hc9 := Ext.cells hS9 | have hc9 := Keeps.cells hS9); (go_simp <;> rfl)); (try simp only [Act.put, List.setIfInBounds_toArray, List.set_cons_zero, List.set_cons_succ])) | (refine' hl_r rfl rfl rfl ?_ ?_; rotate_left; (rintro w9 (rfl | hS9); (go_simp <;> rfl); (first | have hc9 := Ext.cells hS9 | have hc9 := Keeps.cells hS9 | (try dsimp only at hS9)); (go_simp <;> rfl)); (try simp only [Act.put, List.setIfInBounds_toArray, List.set_cons_zero, List.set_cons_succ])) | (refine' hl_s rfl rfl ?_; (try simp only [Act.put, List.setIfInBounds_toArray, List.set_cons_zero, List.set_cons_succ])) | (refine hl_e rfl rfl rfl (fun K hK => ?_)) | (with_reducible refine And.intro (fun hn => ?_) ?_; (first | exact hS | exact Keeps.alloc hS _ | exact absurd hn (by rw [show needS _ _ = false from by kernel_rfl]; exact Bool.false_ne_true))) | (refine hl_done ?_) | gi_step)
      go_ret
      exact .inr ⟨rfl, H3.out⟩
theorem seqall_ss (t : T ByteArray Spn) (B0 b o : Nat) : Seq Tryz.prog 89 #[.pointer (some ⟨B0, 0, none⟩)] (t.toList.map encss)
    (fun W => W.cell? ⟨B0, 0, none⟩ = some (.pointer (some ⟨b, o, none⟩)) ∧ W.cell? ⟨b, o, none⟩ = some (.pointer t.ptr) ∧ At Sss W t) := by
  intro B l J X W hB hJ hX hP hY h0
  obtain ⟨h1, h3, h4⟩ := hP 0 W h0
  have hG := give_ss _ B l J X hJ hY t (fun k W h => (hP k W h).2.2) 0 (fun i h => by simp [h]) W h0
  have HG := Lib.hid hG
  clear hG hY hP hJ hX h0 h4
  go_enter Tryz.func89, Tryz.ntmps89
  go_wp2_with fail
  refine (top_ss t _ b o h3).mono ?_
  rintro e9 w9 ⟨rfl, rfl⟩
  go_wp2_with fail
  refine HG.out.mono ?_
  rintro e9 w5 (⟨rfl, h5⟩ | ⟨rfl, h5⟩)
  · have H5 := Lib.hid h5
    clear h5
    go_wp2_with fail
    go_end0
    exact ⟨⟨_, rfl⟩, .inl (by have := H5.out; rwa [Nat.zero_add, ← List.length_map (f := encss)] at this)⟩
  · have H5 := Lib.hid h5
    clear h5
    go_wp2_with fail
    go_end0
    exact ⟨⟨_, rfl⟩, .inr H5.out⟩
theorem seqnil_ss (B0 : Nat) : Seq Tryz.prog 89 #[.pointer (some ⟨B0, 0, none⟩)] [] (fun W => W.cell? ⟨B0, 0, none⟩ = some (.pointer none)) := by
  intro B l J X W hB hJ hX hP hY h0
  have h1 := hP 0 W h0
  have hG := give_ss [] B l J X hJ hY .nil (fun _ _ _ => trivial) 0 (fun i h => by simp [T.toList] at h) W h0
  have HG := Lib.hid hG
  clear hG hY hP hJ hX h0
  go_enter Tryz.func89, Tryz.ntmps89
  go_wp2_with fail
  refine (topnil_ss _).mono ?_
  rintro e9 w9 ⟨rfl, rfl⟩
  go_wp2_with fail
  refine HG.out.mono ?_
  rintro e9 w5 (⟨rfl, h5⟩ | ⟨rfl, h5⟩)
  · have H5 := Lib.hid h5
    clear h5
    go_wp2_with fail
    go_end0
    exact ⟨⟨_, rfl⟩, .inl H5.out⟩
  · have H5 := Lib.hid h5
    clear h5
    go_wp2_with fail
    go_end0
    exact ⟨⟨_, rfl⟩, .inr H5.out⟩
theorem all_ss (w : World) (p : Option Addr) : Calls Tryz.prog 62 #[.pointer p] w fun e w' =>
    e = .returned (.func (.func 89) #[] #[.pointer (some ⟨w.heap.size, 0, none⟩)]) ∧ w' = w.alloc (.cells #[.pointer p] 75) := by
  go_enter Tryz.func62, Tryz.ntmps62
  go_wp2_with fail
  go_ret
  exact ⟨rfl, rfl⟩
end Go.Proofs.YtdonmmjikcbihaaGreatDoor
/- Package delta: the newest of records. -/
namespace Go.Vc
open Go.Proofs.YtdonmmjikcbihaaGreatDoor
/-- a record's key -/
def skey (x : Spn) : ByteArray := num x.tr ++ num x.id
/-- one more record -/
def newStep (m : List (ByteArray × Spn)) (x : Spn) : List (ByteArray × Spn) :=
  if may x then
    match findL cmpS (skey x) m with
    | none => putL cmpS (skey x) (kept x) m
    | some o => if newer (kept x) o then putL cmpS (skey x) (kept x) m else m
  else m
/-- the newest of records, by their keys -/
def newestL (l : List Spn) : List (ByteArray × Spn) := l.foldl newStep []
theorem set9 {w : World} {p : Nat} {ty : TypeId} {c0 c1 c2 c3 c4 c5 c6 c7 c8 : Value} (h : w.heap[p]? = some (.cells #[c0, c1, c2, c3, c4, c5, c6, c7, c8] ty (0, 0))) (a0 a1 a2 a3 a4 a5 a6 a7 a8 : Value) {w' : World}
    (hw : w' = ((((((((w.setCell ⟨p, 0, none⟩ a0).setCell ⟨p, 1, none⟩ a1).setCell ⟨p, 2, none⟩ a2).setCell ⟨p, 3, none⟩ a3).setCell ⟨p, 4, none⟩ a4).setCell ⟨p, 5, none⟩ a5).setCell ⟨p, 6, none⟩ a6).setCell ⟨p, 7, none⟩ a7).setCell ⟨p, 8, none⟩ a8) :
    w'.heap[p]? = some (.cells #[a0, a1, a2, a3, a4, a5, a6, a7, a8] ty (0, 0)) ∧ Only [p] w w' := by
  subst hw
  refine ⟨?_, ?_⟩
  · have h0 := heap_set h 0 a0
    simp only [List.setIfInBounds_toArray, List.set_cons_zero] at h0
    have h1 := heap_set h0 1 a1
    simp only [List.setIfInBounds_toArray, List.set_cons_zero, List.set_cons_succ] at h1
    have h2 := heap_set h1 2 a2
    simp only [List.setIfInBounds_toArray, List.set_cons_zero, List.set_cons_succ] at h2
    have h3 := heap_set h2 3 a3
    simp only [List.setIfInBounds_toArray, List.set_cons_zero, List.set_cons_succ] at h3
    have h4 := heap_set h3 4 a4
    simp only [List.setIfInBounds_toArray, List.set_cons_zero, List.set_cons_succ] at h4
    have h5 := heap_set h4 5 a5
    simp only [List.setIfInBounds_toArray, List.set_cons_zero, List.set_cons_succ] at h5
    have h6 := heap_set h5 6 a6
    simp only [List.setIfInBounds_toArray, List.set_cons_zero, List.set_cons_succ] at h6
    have h7 := heap_set h6 7 a7
    simp only [List.setIfInBounds_toArray, List.set_cons_zero, List.set_cons_succ] at h7
    have h8 := heap_set h7 8 a8
    simp only [List.setIfInBounds_toArray, List.set_cons_zero, List.set_cons_succ] at h8
    exact h8
  · exact (((((((((Only.refl [p] w).setCell (by simp) _).setCell (by simp) _).setCell (by simp) _).setCell (by simp) _).setCell (by simp) _).setCell (by simp) _).setCell (by simp) _).setCell (by simp) _).setCell (by simp) _
theorem newStep_rises (m : List (ByteArray × Spn)) (x : Spn) (h : Rises cmpS m) : Rises cmpS (newStep m x) := by
  unfold newStep
  split
  · split
    · exact rises_putL order_S _ _ _ h
    · split
      · exact rises_putL order_S _ _ _ h
      · exact h
  · exact h
theorem newestL_snoc (l : List Spn) (x : Spn) : newestL (l ++ [x]) = newStep (newestL l) x := by unfold newestL; rw [List.foldl_append]; rfl
theorem putL_len (k : ByteArray) (v : Spn) : ∀ m : List (ByteArray × Spn), (putL cmpS k v m).length ≤ m.length + 1
  | [] => Nat.le_refl _
  | z :: m => by
    have := putL_len k v m
    simp only [putL]; split <;> simp only [List.length_cons] <;> omega
theorem newestL_len (l : List Spn) : (newestL l).length ≤ l.length := by
  unfold newestL
  have : ∀ (l : List Spn) m, (l.foldl newStep m).length ≤ m.length + l.length := by
    intro l
    induction l with
    | nil => exact fun m => Nat.le_refl _
    | cons x l ih =>
      intro m
      have h1 := ih (newStep m x)
      have h2 : (newStep m x).length ≤ m.length + 1 := by
        have := putL_len (skey x) (kept x) m
        unfold newStep; split
        · split
          · exact this
          · split <;> omega
        · omega
      simp only [List.foldl_cons, List.length_cons]; omega
  simpa using this l []
theorem newestL_rises (l : List Spn) : Rises cmpS (newestL l) := by
  unfold newestL
  have : ∀ (l : List Spn) m, Rises cmpS m → Rises cmpS (l.foldl newStep m) := by
    intro l
    induction l with
    | nil => exact fun m h => h
    | cons x l ih => exact fun m h => ih _ (newStep_rises m x h)
  exact this l [] List.Pairwise.nil
theorem putL_all {p : Spn → Prop} {k : ByteArray} {v : Spn} (hv : p v) : ∀ m : List (ByteArray × Spn), (∀ y ∈ m, p y.2) → ∀ y ∈ putL cmpS k v m, p y.2
  | [], _, y, hy => by simp only [putL, List.mem_singleton] at hy; subst hy; exact hv
  | z :: m, h, y, hy => by
    simp only [putL] at hy
    split at hy
    · rw [List.mem_cons] at hy
      rcases hy with rfl | hy
      · exact hv
      · exact h y hy
    · rw [List.mem_cons] at hy
      rcases hy with rfl | hy
      · exact hv
      · exact h y (List.mem_cons_of_mem _ hy)
    · rw [List.mem_cons] at hy
      rcases hy with rfl | hy
      · exact h _ (List.mem_cons_self ..)
      · exact putL_all hv m (fun z hz => h z (List.mem_cons_of_mem _ hz)) y hy
theorem newestL_all {p : Spn → Prop} (l : List Spn) (h : ∀ x ∈ l, may x = true → p (kept x)) : ∀ y ∈ newestL l, p y.2 := by
  unfold newestL
  have : ∀ (l : List Spn) m, (∀ x ∈ l, may x = true → p (kept x)) → (∀ y ∈ m, p y.2) → ∀ y ∈ l.foldl newStep m, p y.2 := by
    intro l
    induction l with
    | nil => exact fun m _ h => h
    | cons x l ih =>
      intro m hl hm
      refine ih _ (fun z hz => hl z (List.mem_cons_of_mem _ hz)) ?_
      unfold newStep
      split
      · rename_i hmay
        have hk := hl x (List.mem_cons_self ..) hmay
        split
        · exact putL_all hk m hm
        · split
          · exact putL_all hk m hm
          · exact hm
      · exact hm
  exact this l [] h (fun y hy => by cases hy)
theorem findL_mem {k : ByteArray} {v : Spn} : ∀ m : List (ByteArray × Spn), findL cmpS k m = some v → ∃ y ∈ m, y.2 = v
  | [], h => by cases h
  | z :: m, h => by
    simp only [findL] at h
    split at h
    · injection h with h; exact ⟨z, List.mem_cons_self .., h⟩
    · obtain ⟨y, hy, e⟩ := findL_mem m h
      exact ⟨y, List.mem_cons_of_mem _ hy, e⟩
end Go.Vc
namespace Go.Proofs.YtdonmmjikcbihaaGreatDoor
open Go.RowKit Go.Proofs Go.Vc
attribute [local irreducible] Calls CallsIn Code.wp Code.wpIn
theorem span_i (x : Spn) (hx : x.Fits) (w : World) : Calls Tryz.prog 59 #[spnV x] w fun e w' => e = .returned (.string (skey x)) ∧ Ext w w' := by
  obtain ⟨wa, hwa⟩ : ∃ wa, wa = w.alloc (.cells (spnC x) 48) := ⟨_, rfl⟩
  have HE := Lib.hid (show Ext w wa from by rw [hwa]; exact (Keeps.refl _ w).alloc _)
  have HX := Lib.hid hx
  clear hx
  go_enter Tryz.func59, Tryz.ntmps59
  go_wp2_with fail
  rw [← hwa]
  clear hwa
  refine (of_i x.tr x.id HX.out.tr HX.out.id _).mono ?_
  rintro e9 w1 ⟨rfl, hE1⟩
  have H1 := Lib.hid (HE.out.trans hE1)
  clear hE1
  go_wp2_with fail
  go_ret
  exact ⟨rfl, H1.out⟩
/-- a map of spans that holds these -/
def SMap (B : Nat) (b : Nat) (m : List (ByteArray × Spn)) (w : World) : Prop :=
  ∃ c t, MapAt Sss w b 0 c 99 t ∧ t.toList = m ∧ B ≤ b ∧ ∀ x ∈ t.blocks, B ≤ x
theorem SMap.ext {B b : Nat} {m : List (ByteArray × Spn)} {w w' : World} (h : SMap B b m w) (k : Ext w w') : SMap B b m w' := by
  obtain ⟨c, t, hm, r⟩ := h
  exact ⟨c, t, hm.ext k, r⟩
/-- what newest leaves -/
def NewPost (l : List Spn) (w : World) (e : Ending) (w' : World) : Prop := ∃ b, e = .returned (.pointer (some ⟨b, 0, none⟩)) ∧ SMap w.heap.size b (newestL l) w' ∧ Ext w w'
theorem newest_i (v : Value) (l : List Spn) (w : World) (h : SpnsAt w v l) (hl : l.length ≤ 1000000) (hf : ∀ x ∈ l, x.Fits) : Calls Tryz.prog 35 #[v] w (NewPost l w) := by
  obtain ⟨a, cap, rfl, hn, h0, hcs⟩ := h
  have hln : ∀ j : Nat, j < l.length → a ≠ none := fun j hj ha => by rw [h0 ha] at hj; exact absurd hj (Nat.not_lt_zero _)
  have hcell : ∀ (wr : World), Ext w wr → ∀ g o s, a = some ⟨g, o, s⟩ → (l ≠ [] → s = none) ∧ ∀ i (h : i < l.length), C9 wr g (o + i * 9) l[i] := fun wr hr g o s ha => ⟨(hcs g o s ha).1, fun i hi => ((hcs g o s ha).2 i hi).keeps hr fun hf => hf⟩
  have HB := Lib.hid (And.intro hcell (And.intro hln (And.intro hl hf)))
  obtain ⟨n, hnl⟩ : ∃ n, n = l.length := ⟨_, rfl⟩
  rw [← hnl] at hn ⊢
  have HNL := Lib.hid hnl
  clear hcell hln hcs h0 hnl hl hf
  obtain ⟨wm, hwm⟩ : ∃ wm, wm = w.alloc (.cells #[.pointer none, .int .i64 0] 99) := ⟨_, rfl⟩
  have hEm : Ext w wm := by rw [hwm]; exact (Keeps.refl _ w).alloc _
  have hNm : wm.heap[w.heap.size]? = some (.cells #[.pointer none, .int .i64 0] 99 (0, 0)) := by rw [hwm]; exact World.alloc_heap_new w _
  obtain ⟨b, hb⟩ : ∃ b, b = w.heap.size := ⟨_, rfl⟩
  rw [← hb] at hNm
  have HM := Lib.hid (And.intro hEm (show SMap w.heap.size b [] wm from ⟨_, .nil, ⟨hNm, rfl, rfl, trivial, by simp [T.blocks]⟩, rfl, by rw [hb]; exact Nat.le_refl _, fun x hx => by simp [T.blocks] at hx⟩))
  clear hEm hNm
  go_enter Tryz.func35, Tryz.ntmps35
  go_wp2_with fail
  rw [← hwm, ← hb]
  have HBB := Lib.hid hb
  clear hwm hb
  go_loopg [10] n (fun k p wr => ∃ j : Nat, p = .int .i64 j ∧ j + k = n ∧ Ext w wr ∧ SMap w.heap.size b (newestL (l.take j)) wr)
  case atStart => exact ⟨0, rfl, Nat.zero_add _, HM.out.1, HM.out.2⟩
  case round =>
    obtain ⟨j, rfl, hj, hE2, c, t, hM, htl, hbB, hblk⟩ := hrel
    by_cases hjn : (j : Int) < n
    · have hjl : j < l.length := by rw [← HNL.out]; omega
      obtain ⟨⟨g, o, s⟩, rfl⟩ := Option.ne_none_iff_exists'.1 (HB.out.2.1 j hjl)
      obtain ⟨hs0, hc9⟩ := HB.out.1 wr hE2 g o s rfl
      obtain rfl := hs0 (ne_nil_of_lt hjl)
      have hy := hc9 j hjl
      obtain ⟨y, hyl⟩ : ∃ y, y = l[j] := ⟨_, rfl⟩
      rw [← hyl] at hy
      unfold C9 at hy
      have HS := Lib.hid (show newestL (l.take (j + 1)) = newStep (newestL (l.take j)) y from by
        rw [hyl, ← newestL_snoc, List.take_append_getElem hjl])
      have HY := Lib.hid (show y.Fits from by rw [hyl]; exact HB.out.2.2.2 _ (List.getElem_mem hjl))
      have hT := hM.tree.lt
      have H2 := Lib.hid (And.intro hE2 (And.intro hM (And.intro htl (And.intro hbB (And.intro hblk (And.intro (lt_of_heap hM.blk) hT))))))
      clear hE2 hc9 hyl hM htl hbB hblk hT
      obtain ⟨wa, hwa⟩ : ∃ wa, wa = wr.alloc (.cells (spnC y) 48) := ⟨_, rfl⟩
      have hEa : Ext wr wa := by rw [hwa]; exact (Keeps.refl _ wr).alloc _
      have hNa : wa.heap[wr.heap.size]? = some (.cells (spnC y) 48 (0, 0)) := by rw [hwa]; exact World.alloc_heap_new wr _
      obtain ⟨p, hp⟩ : ∃ p, p = wr.heap.size := ⟨_, rfl⟩
      rw [← hp] at hNa
      have HA := Lib.hid (And.intro (H2.out.1.trans hEa) (And.intro (H2.out.2.1.ext hEa) (And.intro hNa (show w.heap.size ≤ p from by rw [hp]; exact H2.out.1.size))))
      clear hEa hNa
      go_wp2_with fail
      rw [← hwa, ← hp]
      have HP := Lib.hid hp
      clear hwa hp hy
      refine (may_i y HY.out _).mono ?_
      rintro e9 w2 ⟨rfl, hE3⟩
      have hN2 := (Ext.same hE3 (lt_of_heap HA.out.2.2.1)).trans HA.out.2.2.1
      have hc2 := blk_cell hN2
      have hz2 := blk_free hN2
      have H3 := Lib.hid (And.intro (HA.out.1.trans hE3) (And.intro (HA.out.2.1.ext hE3) hN2))
      clear hE3 hN2
      cases hm : may y
      · rw [mayE_f hm]
        have HN := Lib.hid (show newStep (newestL (l.take j)) y = newestL (l.take j) from by unfold newStep; rw [hm]; rfl)
        clear hm
        go_wp2_with fail
        go_roundg (gk - 1)
        case measure => omega
        case rel => exact ⟨j + 1, by simp, by omega, H3.out.1, c, t, H3.out.2.1, by rw [HS.out, HN.out]; exact H2.out.2.2.1, H2.out.2.2.2.1, H2.out.2.2.2.2.1⟩
      · rw [mayE_t hm]
        have HMY := Lib.hid hm
        clear hm
        go_wp2_with fail
        refine (kept_i y _).mono ?_
        rintro e9 w3 ⟨rfl, hE4⟩
        have hN3 := (Ext.same hE4 (lt_of_heap H3.out.2.2)).trans H3.out.2.2
        have hc3 := blk_cell hN3
        have hz3 := blk_free hN3
        have H4 := Lib.hid (And.intro (H3.out.1.trans hE4) (And.intro (H3.out.2.1.ext hE4) hN3))
        clear hE4 hN3 hc2 hz2
        go_wp2_with fail
        obtain ⟨w4, hw4⟩ : ∃ w4, w4 = _ := ⟨_, rfl⟩
        have h9 := set9 H4.out.2.2 (.int .i64 (kept y).tr) (.int .i64 (kept y).id) (.int .i64 (kept y).pa) (.int .i64 (kept y).rv) (.string (kept y).sv) (.string (kept y).op) (.int .i64 (kept y).st) (.int .i64 (kept y).du) (.bool (kept y).gone) hw4
        rw [← hw4]
        clear hw4 hc3 hz3
        have hpb : p = wr.heap.size := HP.out
        have hM4 : MapAt Sss w4 b 0 c 99 t := H4.out.2.1.keeps h9.2.keeps (fun hm => by rw [List.mem_singleton] at hm; have := H2.out.2.2.2.2.2.1; omega) (fun x hx hm => by rw [List.mem_singleton] at hm; have := H2.out.2.2.2.2.2.2 x hx; omega)
        have hE5 : Ext w w4 := ⟨Nat.le_trans H4.out.1.size (Nat.le_of_eq h9.2.size.symm), fun i hi _ => (h9.2.same i (fun hm => by rw [List.mem_singleton] at hm; have := HA.out.2.2.2; omega)).trans (Ext.same H4.out.1 hi), (H4.out.1.ost).trans h9.2.ost⟩
        have hc4 := blk_cell h9.1
        have H5 := Lib.hid (And.intro hE5 (And.intro hM4 h9.1))
        clear hpb hM4 hE5 h9
        refine (span_i (kept y) (kept_fits HY.out) _).mono ?_
        rintro e9 w5 ⟨rfl, hE6⟩
        have hN6 := (Ext.same hE6 (lt_of_heap H5.out.2.2)).trans H5.out.2.2
        have hc6 := blk_cell hN6
        have H6 := Lib.hid (And.intro (H5.out.1.trans hE6) (And.intro (H5.out.2.1.ext hE6) hN6))
        clear hE6 hN6 hc4
        go_wp2_with fail
        refine (get_ss (skey (kept y)) t _ b 0 H6.out.2.1.cellR H6.out.2.1.tree).mono ?_
        have hfl : t.find cmpS (skey (kept y)) = findL cmpS (skey y) (newestL (l.take j)) := by
          rw [T.find_toList order_S _ _ (by rw [H2.out.2.2.1]; exact newestL_rises _), H2.out.2.2.1]; rfl
        cases hfd : t.find cmpS (skey (kept y)) with
        | none =>
          have HNS := Lib.hid (show newStep (newestL (l.take j)) y = putL cmpS (skey (kept y)) (kept y) (newestL (l.take j)) from by unfold newStep; rw [HMY.out, if_pos rfl, ← hfl, hfd]; rfl)
          clear hfl hfd
          rintro e9 w6 ⟨rfl, hE7⟩
          have hlt6 : p < w6.heap.size := Nat.lt_of_lt_of_le (lt_of_heap H6.out.2.2) hE7.size
          have hN6 := (Ext.same hE7 (lt_of_heap H6.out.2.2)).trans H6.out.2.2
          have hc66 := blk_cell hN6
          have H66 := Lib.hid (And.intro (H6.out.1.trans hE7) (And.intro (H6.out.2.1.ext hE7) hN6))
          clear hE7 hN6 hc6
          go_wp2_with fail
          obtain ⟨w7, hw7⟩ : ∃ w7, w7 = w6.alloc (.cells #[.int .i64 0, .int .i64 0, .int .i64 0, .int .i64 0, .string ⟨#[]⟩, .string ⟨#[]⟩, .int .i64 0, .int .i64 0, .bool false] 48) := ⟨_, rfl⟩
          have hE8 : Ext w6 w7 := by rw [hw7]; exact (Keeps.refl _ w6).alloc _
          rw [← hw7]
          have hN7 := (Ext.same hE8 (lt_of_heap H66.out.2.2)).trans H66.out.2.2
          have H7 := Lib.hid (And.intro (H66.out.1.trans hE8) (H66.out.2.1.ext hE8))
          clear hw7 hE8 hc66 hlt6
          have hc7 := blk_cell hN7
          clear hN7
          refine wp_drawE (way [0, 2, 1, 3]) (by kernel_rfl) (by kernel_rfl) (fun w8 hh hd hf hS => ?_)
          have H8 := Lib.hid (And.intro (H7.out.1.trans hS) (H7.out.2.ext hS))
          clear hh hd hf
          simp only [way]
          go_wp2_with (first | (refine' hl_q rfl rfl rfl (fun _ => ?_) ?_; rotate_left; (go_simp <;> (try go_bits) <;> rfl); (try simp only [Act.put, List.setIfInBounds_toArray, List.set_cons_zero, List.set_cons_succ])) | (refine' hl_rS rfl rfl rfl hS ?_ ?_; rotate_left; (intro w9 hS9; (first | have hc9 := Ext.cells hS9 | have hc9 := Keeps.cells hS9); (go_simp <;> rfl)); (try simp only [Act.put, List.setIfInBounds_toArray, List.set_cons_zero, List.set_cons_succ])) | (refine' hl_r rfl rfl rfl ?_ ?_; rotate_left; (rintro w9 (rfl | hS9); (go_simp <;> rfl); (first | have hc9 := Ext.cells hS9 | have hc9 := Keeps.cells hS9 | (try dsimp only at hS9)); (go_simp <;> rfl)); (try simp only [Act.put, List.setIfInBounds_toArray, List.set_cons_zero, List.set_cons_succ])) | (refine' hl_s rfl rfl ?_; (try simp only [Act.put, List.setIfInBounds_toArray, List.set_cons_zero, List.set_cons_succ])) | (refine hl_e rfl rfl rfl (fun K hK => ?_)) | (with_reducible refine And.intro (fun hn => ?_) ?_; (first | exact hS | exact Keeps.alloc hS _ | exact absurd hn (by rw [show needS _ _ = false from by kernel_rfl]; exact Bool.false_ne_true))) | (refine hl_done ?_) | gi_step)
          refine callsIn_wide.2 ((span_i (kept y) (kept_fits HY.out) _).mono ?_)
          rintro e9 w9 ⟨rfl, hE9⟩
          have H9 := Lib.hid (And.intro (H8.out.1.trans hE9) (H8.out.2.ext hE9))
          have hS9 := hS.trans hE9
          clear hS hE9
          have hS := hS9
          clear hS9
          go_wp2_with (first | (refine' hl_q rfl rfl rfl (fun _ => ?_) ?_; rotate_left; (go_simp <;> (try go_bits) <;> rfl); (try simp only [Act.put, List.setIfInBounds_toArray, List.set_cons_zero, List.set_cons_succ])) | (refine' hl_rS rfl rfl rfl hS ?_ ?_; rotate_left; (intro w9 hS9; (first | have hc9 := Ext.cells hS9 | have hc9 := Keeps.cells hS9); (go_simp <;> rfl)); (try simp only [Act.put, List.setIfInBounds_toArray, List.set_cons_zero, List.set_cons_succ])) | (refine' hl_r rfl rfl rfl ?_ ?_; rotate_left; (rintro w9 (rfl | hS9); (go_simp <;> rfl); (first | have hc9 := Ext.cells hS9 | have hc9 := Keeps.cells hS9 | (try dsimp only at hS9)); (go_simp <;> rfl)); (try simp only [Act.put, List.setIfInBounds_toArray, List.set_cons_zero, List.set_cons_succ])) | (refine' hl_s rfl rfl ?_; (try simp only [Act.put, List.setIfInBounds_toArray, List.set_cons_zero, List.set_cons_succ])) | (refine hl_e rfl rfl rfl (fun K hK => ?_)) | (with_reducible refine And.intro (fun hn => ?_) ?_; (first | exact hS | exact Keeps.alloc hS _ | exact absurd hn (by rw [show needS _ _ = false from by kernel_rfl]; exact Bool.false_ne_true))) | (refine hl_done ?_) | gi_step)
          refine callsIn_wide.2 ((mput_ss (skey (kept y)) (kept y) H9.out.2 (by have h1 := T.size_toList t; rw [H2.out.2.2.1] at h1; have := newestL_len (l.take j); have := HB.out.2.2.1; rw [List.length_take] at *; omega)).mono ?_)
          rintro e9 w10 ⟨N, hN, rfl, hM10, hK10⟩
          have H10 := Lib.hid (show Ext w w10 ∧ SMap w.heap.size b (newestL (l.take (j + 1))) w10 from
            ⟨⟨Nat.le_trans H9.out.1.size hK10.size, fun i hi _ => (hK10.same i (Nat.lt_of_lt_of_le hi H9.out.1.size) (fun hf => hf.elim (fun e => absurd H2.out.2.2.2.1 (by omega)) (fun hm => absurd (H2.out.2.2.2.2.1 i hm) (by omega)))).trans (Ext.same H9.out.1 hi), (H9.out.1.ost).trans hK10.ost⟩,
             _, _, hM10, by rw [T.put_toList order_S _ _ _ _ (by rw [H2.out.2.2.1]; exact newestL_rises _), H2.out.2.2.1, HS.out]; exact HNS.out.symm, H2.out.2.2.2.1,
             fun x hx => (T.put_blocks _ _ _ _ _ x hx).elim (H2.out.2.2.2.2.1 x) (fun e => by rw [e]; exact Nat.le_trans H9.out.1.size hN)⟩)
          clear hM10 hK10 hN hS
          go_wp2_with (first | (refine' hl_q rfl rfl rfl (fun _ => ?_) ?_; rotate_left; (go_simp <;> (try go_bits) <;> rfl); (try simp only [Act.put, List.setIfInBounds_toArray, List.set_cons_zero, List.set_cons_succ])) | (refine' hl_rS rfl rfl rfl hS ?_ ?_; rotate_left; (intro w9 hS9; (first | have hc9 := Ext.cells hS9 | have hc9 := Keeps.cells hS9); (go_simp <;> rfl)); (try simp only [Act.put, List.setIfInBounds_toArray, List.set_cons_zero, List.set_cons_succ])) | (refine' hl_r rfl rfl rfl ?_ ?_; rotate_left; (rintro w9 (rfl | hS9); (go_simp <;> rfl); (first | have hc9 := Ext.cells hS9 | have hc9 := Keeps.cells hS9 | (try dsimp only at hS9)); (go_simp <;> rfl)); (try simp only [Act.put, List.setIfInBounds_toArray, List.set_cons_zero, List.set_cons_succ])) | (refine' hl_s rfl rfl ?_; (try simp only [Act.put, List.setIfInBounds_toArray, List.set_cons_zero, List.set_cons_succ])) | (refine hl_e rfl rfl rfl (fun K hK => ?_)) | (with_reducible refine And.intro (fun hn => ?_) ?_; (first | exact hS | exact Keeps.alloc hS _ | exact absurd hn (by rw [show needS _ _ = false from by kernel_rfl]; exact Bool.false_ne_true))) | (refine hl_done ?_) | gi_step)
          go_roundg (gk - 1)
          case measure => omega
          case rel => exact ⟨j + 1, by simp, by omega, H10.out⟩
        | some old =>
          rintro e9 w6 ⟨rfl, hE7⟩
          have hlt6 : p < w6.heap.size := Nat.lt_of_lt_of_le (lt_of_heap H6.out.2.2) hE7.size
          have hN6 := (Ext.same hE7 (lt_of_heap H6.out.2.2)).trans H6.out.2.2
          have hc66 := blk_cell hN6
          have H66 := Lib.hid (And.intro (H6.out.1.trans hE7) (And.intro (H6.out.2.1.ext hE7) hN6))
          clear hE7 hN6 hc6
          have HFO := Lib.hid (show old.Fits from by
            obtain ⟨q, hq, e⟩ := findL_mem _ (hfl.symm.trans hfd)
            rw [← e]; exact newestL_all (p := Spn.Fits) (l.take j) (fun x hx _ => kept_fits (HB.out.2.2.2 x (List.mem_of_mem_take hx))) q hq)
          have HFD := Lib.hid (hfl.symm.trans hfd)
          clear hfl hfd
          go_wp2_with fail
          obtain ⟨w7, hw7⟩ : ∃ w7, w7 = w6.alloc (.cells (spnC old) 48) := ⟨_, rfl⟩
          have hE8 : Ext w6 w7 := by rw [hw7]; exact (Keeps.refl _ w6).alloc _
          rw [← hw7]
          have HE8 := Lib.hid hE8
          clear hw7 hE8 hc66 hlt6
          refine (newer_i (kept y) old (kept_fits HY.out) HFO.out _).mono ?_
          rintro e9 wn ⟨rfl, hEn⟩
          have hEn6 := HE8.out.trans hEn
          have hN7 := (Ext.same hEn6 (lt_of_heap H66.out.2.2)).trans H66.out.2.2
          have H7 := Lib.hid (And.intro (H66.out.1.trans hEn6) (H66.out.2.1.ext hEn6))
          clear hEn hEn6
          cases hnw : newer (kept y) old
          · have HNS := Lib.hid (show newStep (newestL (l.take j)) y = newestL (l.take j) from by
              unfold newStep; rw [HMY.out, if_pos rfl, HFD.out]; show (if newer (kept y) old = true then _ else _) = _; rw [hnw]; rfl)
            clear hnw hN7
            go_wp2_with fail
            go_roundg (gk - 1)
            case measure => omega
            case rel => exact ⟨j + 1, by simp, by omega, H7.out.1, c, t, H7.out.2, by rw [HS.out, HNS.out]; exact H2.out.2.2.1, H2.out.2.2.2.1, H2.out.2.2.2.2.1⟩
          · have HNS := Lib.hid (show newStep (newestL (l.take j)) y = putL cmpS (skey (kept y)) (kept y) (newestL (l.take j)) from by
              unfold newStep; rw [HMY.out, if_pos rfl, HFD.out]; show (if newer (kept y) old = true then _ else _) = _; rw [hnw]; rfl)
            clear hnw
            have hc77 := blk_cell hN7
            go_wp2_with fail
            clear hc77
            have hc7 := blk_cell hN7
            clear hN7
            refine wp_drawE (way [0, 2, 1, 3]) (by kernel_rfl) (by kernel_rfl) (fun w8 hh hd hf hS => ?_)
            have H8 := Lib.hid (And.intro (H7.out.1.trans hS) (H7.out.2.ext hS))
            clear hh hd hf
            simp only [way]
            go_wp2_with (first | (refine' hl_q rfl rfl rfl (fun _ => ?_) ?_; rotate_left; (go_simp <;> (try go_bits) <;> rfl); (try simp only [Act.put, List.setIfInBounds_toArray, List.set_cons_zero, List.set_cons_succ])) | (refine' hl_rS rfl rfl rfl hS ?_ ?_; rotate_left; (intro w9 hS9; (first | have hc9 := Ext.cells hS9 | have hc9 := Keeps.cells hS9); (go_simp <;> rfl)); (try simp only [Act.put, List.setIfInBounds_toArray, List.set_cons_zero, List.set_cons_succ])) | (refine' hl_r rfl rfl rfl ?_ ?_; rotate_left; (rintro w9 (rfl | hS9); (go_simp <;> rfl); (first | have hc9 := Ext.cells hS9 | have hc9 := Keeps.cells hS9 | (try dsimp only at hS9)); (go_simp <;> rfl)); (try simp only [Act.put, List.setIfInBounds_toArray, List.set_cons_zero, List.set_cons_succ])) | (refine' hl_s rfl rfl ?_; (try simp only [Act.put, List.setIfInBounds_toArray, List.set_cons_zero, List.set_cons_succ])) | (refine hl_e rfl rfl rfl (fun K hK => ?_)) | (with_reducible refine And.intro (fun hn => ?_) ?_; (first | exact hS | exact Keeps.alloc hS _ | exact absurd hn (by rw [show needS _ _ = false from by kernel_rfl]; exact Bool.false_ne_true))) | (refine hl_done ?_) | gi_step)
            refine callsIn_wide.2 ((span_i (kept y) (kept_fits HY.out) _).mono ?_)
            rintro e9 w9 ⟨rfl, hE9⟩
            have H9 := Lib.hid (And.intro (H8.out.1.trans hE9) (H8.out.2.ext hE9))
            have hS9 := hS.trans hE9
            clear hS hE9
            have hS := hS9
            clear hS9
            go_wp2_with (first | (refine' hl_q rfl rfl rfl (fun _ => ?_) ?_; rotate_left; (go_simp <;> (try go_bits) <;> rfl); (try simp only [Act.put, List.setIfInBounds_toArray, List.set_cons_zero, List.set_cons_succ])) | (refine' hl_rS rfl rfl rfl hS ?_ ?_; rotate_left; (intro w9 hS9; (first | have hc9 := Ext.cells hS9 | have hc9 := Keeps.cells hS9); (go_simp <;> rfl)); (try simp only [Act.put, List.setIfInBounds_toArray, List.set_cons_zero, List.set_cons_succ])) | (refine' hl_r rfl rfl rfl ?_ ?_; rotate_left; (rintro w9 (rfl | hS9); (go_simp <;> rfl); (first | have hc9 := Ext.cells hS9 | have hc9 := Keeps.cells hS9 | (try dsimp only at hS9)); (go_simp <;> rfl)); (try simp only [Act.put, List.setIfInBounds_toArray, List.set_cons_zero, List.set_cons_succ])) | (refine' hl_s rfl rfl ?_; (try simp only [Act.put, List.setIfInBounds_toArray, List.set_cons_zero, List.set_cons_succ])) | (refine hl_e rfl rfl rfl (fun K hK => ?_)) | (with_reducible refine And.intro (fun hn => ?_) ?_; (first | exact hS | exact Keeps.alloc hS _ | exact absurd hn (by rw [show needS _ _ = false from by kernel_rfl]; exact Bool.false_ne_true))) | (refine hl_done ?_) | gi_step)
            refine callsIn_wide.2 ((mput_ss (skey (kept y)) (kept y) H9.out.2 (by have h1 := T.size_toList t; rw [H2.out.2.2.1] at h1; have := newestL_len (l.take j); have := HB.out.2.2.1; rw [List.length_take] at *; omega)).mono ?_)
            rintro e9 w10 ⟨N, hN, rfl, hM10, hK10⟩
            have H10 := Lib.hid (show Ext w w10 ∧ SMap w.heap.size b (newestL (l.take (j + 1))) w10 from
              ⟨⟨Nat.le_trans H9.out.1.size hK10.size, fun i hi _ => (hK10.same i (Nat.lt_of_lt_of_le hi H9.out.1.size) (fun hf => hf.elim (fun e => absurd H2.out.2.2.2.1 (by omega)) (fun hm => absurd (H2.out.2.2.2.2.1 i hm) (by omega)))).trans (Ext.same H9.out.1 hi), (H9.out.1.ost).trans hK10.ost⟩,
               _, _, hM10, by rw [T.put_toList order_S _ _ _ _ (by rw [H2.out.2.2.1]; exact newestL_rises _), H2.out.2.2.1, HS.out]; exact HNS.out.symm, H2.out.2.2.2.1,
               fun x hx => (T.put_blocks _ _ _ _ _ x hx).elim (H2.out.2.2.2.2.1 x) (fun e => by rw [e]; exact Nat.le_trans H9.out.1.size hN)⟩)
            clear hM10 hK10 hN hS
            go_wp2_with (first | (refine' hl_q rfl rfl rfl (fun _ => ?_) ?_; rotate_left; (go_simp <;> (try go_bits) <;> rfl); (try simp only [Act.put, List.setIfInBounds_toArray, List.set_cons_zero, List.set_cons_succ])) | (refine' hl_rS rfl rfl rfl hS ?_ ?_; rotate_left; (intro w9 hS9; (first | have hc9 := Ext.cells hS9 | have hc9 := Keeps.cells hS9); (go_simp <;> rfl)); (try simp only [Act.put, List.setIfInBounds_toArray, List.set_cons_zero, List.set_cons_succ])) | (refine' hl_r rfl rfl rfl ?_ ?_; rotate_left; (rintro w9 (rfl | hS9); (go_simp <;> rfl); (first | have hc9 := Ext.cells hS9 | have hc9 := Keeps.cells hS9 | (try dsimp only at hS9)); (go_simp <;> rfl)); (try simp only [Act.put, List.setIfInBounds_toArray, List.set_cons_zero, List.set_cons_succ])) | (refine' hl_s rfl rfl ?_; (try simp only [Act.put, List.setIfInBounds_toArray, List.set_cons_zero, List.set_cons_succ])) | (refine hl_e rfl rfl rfl (fun K hK => ?_)) | (with_reducible refine And.intro (fun hn => ?_) ?_; (first | exact hS | exact Keeps.alloc hS _ | exact absurd hn (by rw [show needS _ _ = false from by kernel_rfl]; exact Bool.false_ne_true))) | (refine hl_done ?_) | gi_step)
            go_roundg (gk - 1)
            case measure => omega
            case rel => exact ⟨j + 1, by simp, by omega, H10.out⟩
    · have : j = l.length := by rw [← HNL.out]; omega
      have HF := Lib.hid (show NewPost l w (.returned (.pointer (some ⟨b, 0, none⟩))) wr from ⟨b, rfl, ⟨c, t, hM, by rw [this, List.take_length] at htl; exact htl, hbB, hblk⟩, hE2⟩)
      clear hE2 hM htl hbB hblk
      go_wp2_with fail
      go_ret
      exact HF.out
end Go.Proofs.YtdonmmjikcbihaaGreatDoor
/- Package delta: sets, and what may become of them. -/
namespace Go.Proofs.YtdonmmjikcbihaaGreatDoor
open Go.RowKit Go.Proofs Go.Vc
attribute [local irreducible] Calls CallsIn Code.wp Code.wpIn
end Go.Proofs.YtdonmmjikcbihaaGreatDoor
/- Package delta: the records of a map; sets. -/
namespace Go.Proofs.YtdonmmjikcbihaaGreatDoor
open Go.RowKit Go.Proofs Go.Vc
attribute [local go_sem] Oper.semAt_some
attribute [local irreducible] Calls CallsIn Code.wp Code.wpIn
theorem row_bk {w w' : World} {B C : Nat} {e : TypeId} {size n : Nat} {v : Value} {xs : List Value} (h : w.ownsRow B e size v n xs) (k : Bk C w w') : w'.ownsRow B e size v n xs := by
  refine ⟨h.1, ?_⟩
  rcases h.2 with h0 | ⟨g, cap, cur, rfl, hb, hg, r⟩
  · exact .inl h0
  · exact .inr ⟨g, cap, cur, rfl, hb, k.same g _ hg (.inr rfl), r⟩
/-- cells of spans, one behind the other -/
def spnCells (l : List Spn) : List Value := l.flatMap fun x => (spnC x).toList
/-- an own row of spans -/
def OwnSpns (B : Nat) (v : Value) (l : List Spn) (w : World) : Prop := w.ownsRow B 48 9 v l.length (spnCells l)
def ValPost (m : List (ByteArray × Spn)) (w : World) (e : Ending) (w' : World) : Prop := ∃ v, e = .returned v ∧ OwnSpns w.heap.size v (m.map (·.2)) w' ∧ Ext w w'
set_option maxRecDepth 20000 in
theorem values_i (b : Nat) (B : Nat) (m : List (ByteArray × Spn)) (w : World) (h : SMap B b m w) (hm : m.length ≤ 1000000) : Calls Tryz.prog 52 #[.pointer (some ⟨b, 0, none⟩)] w (ValPost m w) := by
  refine calls_of_marks Tryz.func52 rfl ?_
  simp only [Tryz.ntmps52, List.size_toArray, List.length_cons, List.length_nil, Nat.reduceAdd, Nat.reduceSub, Array.replicate_succ,
     Array.replicate_zero, List.push_toArray, List.append_toArray, List.nil_append, List.cons_append]
  gi_wp2_with fail
  refine callsIn_wide.2 ((all_ss _ _).mono ?_)
  rintro e9 w1 ⟨rfl, hw1⟩
  gi_wp2_with fail
  obtain ⟨c0, t, hM, htl, hbB, hblk⟩ := h
  have hA : (w.alloc (.cells #[.slice none 0 0] 31)).heap[w.heap.size]? = some (.cells #[.slice none 0 0] 31 (0, 0)) := World.alloc_heap_new w _
  have hsz : (w.alloc (.cells #[.slice none 0 0] 31)).heap.size = w.heap.size + 1 := by show (w.heap.push _).size = _; rw [Array.size_push]
  have hEa : Ext w (w.alloc (.cells #[.slice none 0 0] 31)) := (Keeps.refl _ w).alloc _
  have hEb : Ext (w.alloc (.cells #[.slice none 0 0] 31)) w1 := by rw [hw1]; exact (Keeps.refl _ _).alloc _
  have h1 : w1.heap[w.heap.size]? = some (.cells #[.slice none 0 0] 31 (0, 0)) := (Ext.same hEb (lt_of_heap hA)).trans hA
  have h2 : w1.heap[w.heap.size + 1]? = some (.cells #[.pointer (some ⟨b, 0, none⟩)] 75 (0, 0)) := by rw [hw1, ← hsz]; exact World.alloc_heap_new _ _
  have hs1 : w1.heap.size = w.heap.size + 2 := by rw [hw1]; show (Array.push _ _).size = _; rw [Array.size_push, hsz]
  rw [← hw1]
  clear hw1
  refine range_loop (gf := 89) (lb := #[.pointer (some ⟨w.heap.size + 1, 0, none⟩)]) (xs := t.toList.map encss) (by simp [Act.eval]) (enters_of Tryz.func89 (by kernel_rfl) rfl) (by intro x hx; simp [encss] at hx; obtain ⟨_, _, _, rfl⟩ := hx; rfl) (seqall_ss t (w.heap.size + 1) b 0)
    (fun k W => ∃ v, W.heap[w.heap.size]? = some (.cells #[v] 31 (0, 0)) ∧ OwnSpns w.heap.size v ((m.take k).map (·.2)) W ∧ v.ownBlock ≠ some w.heap.size ∧ W.heap[w.heap.size + 1]? = some (.cells #[.pointer (some ⟨b, 0, none⟩)] 75 (0, 0)) ∧ Ext w W)
    (fun _ _ _ => False) ?_ (fun _ _ _ _ h => h.elim) ?_ ?_ ?_ ?_ (fun _ _ _ _ _ _ h => h.elim)
  · rintro k W W' ⟨v, hv1, hv2, hv3, hv4, hv5⟩ hbk
    exact ⟨v, hbk.same _ _ hv1 (.inr rfl), row_bk hv2 hbk, hv3, hbk.same _ _ hv4 (.inr rfl), ext_bk hv5 hbk (by omega)⟩
  · rintro k W ⟨v, hv1, hv2, hv3, hv4, hv5⟩
    exact ⟨by rw [blk_cell hv4]; rfl, (hM.ext hv5).cellR, (hM.ext hv5).tree⟩
  · exact ⟨_, h1, World.ownsRow_nil _ _ _ _, by simp [Value.ownBlock], h2, hEa.trans hEb⟩
  · rintro l k hk W ⟨v, hv1, hv2, hv3, hv4, hv5⟩ hWs
    unfold roundStart
    have hkl : k < t.toList.length := by simpa using hk
    obtain ⟨⟨qk, q⟩, hq⟩ : ∃ q, q = t.toList[k] := ⟨_, rfl⟩
    have hxk : (t.toList.map encss)[k] = encss (qk, q) := by rw [hq]; simp
    rw [hxk]
    simp only [encss, List.zip_toArray, List.zip_cons_cons, List.zip_nil_right, List.foldl_toArray, List.foldl_cons, List.foldl_nil, List.setIfInBounds_toArray, List.set_cons_zero, List.set_cons_succ]
    have HV := Lib.hid (And.intro hv1 (And.intro hv2 (And.intro hv3 (And.intro hv4 hv5))))
    clear hv1 hv2 hv3 hv4 hv5
    gi_wp2_with fail
    have hE8 : Ext W (W.alloc (.cells (spnC q) 48)) := (Keeps.refl _ W).alloc _
    have hN8 : (W.alloc (.cells (spnC q) 48)).heap[W.heap.size]? = some (.cells (spnC q) 48 (0, 0)) := World.alloc_heap_new W _
    refine ⟨KeepsFrom.of_ext hE8, fun W2 hbk hsz2 => ?_⟩
    have hN9 := hbk.same _ _ hN8 (.inr rfl)
    have hE9 : Ext w W2 := ext_bk (HV.out.2.2.2.2.trans hE8) hbk (by omega)
    have hR9 : OwnSpns w.heap.size v ((m.take k).map (·.2)) W2 := row_bk (row_ext HV.out.2.1 hE8) hbk
    have hv19 : W2.heap[w.heap.size]? = some (.cells #[v] 31 (0, 0)) := hbk.same _ _ ((Ext.same hE8 (lt_of_heap HV.out.1)).trans HV.out.1) (.inr rfl)
    have hv49 : W2.heap[w.heap.size + 1]? = some (.cells #[.pointer (some ⟨b, 0, none⟩)] 75 (0, 0)) := hbk.same _ _ ((Ext.same hE8 (lt_of_heap HV.out.2.2.2.1)).trans HV.out.2.2.2.1) (.inr rfl)
    have hcv := blk_cell hv19
    have hcx := blk_cell hN9
    have hzv := blk_free hv19
    have H9 := Lib.hid (And.intro hE9 (And.intro hR9 (And.intro hv19 (And.intro hv49 hN9))))
    clear hE8 hN8 hbk hN9 hE9 hR9 hv19 hv49 hsz2
    have HS1 := Lib.hid (And.intro hs1 hWs)
    have hlt9 : W.heap.size < W2.heap.size := lt_of_heap H9.out.2.2.2.2
    clear hA hsz hEa hEb h1 h2 hs1 hM hbB hblk hWs
    obtain ⟨i0, hi, hz0, hz1, hz2⟩ := info_parts (show (Tryz.prog.info? 48).map (fun i => (i.zero, i.size, i.bytes)) = some (some (.agg #[.int .i64 0, .int .i64 0, .int .i64 0, .int .i64 0, .string ⟨#[]⟩, .string ⟨#[]⟩, .int .i64 0, .int .i64 0, .bool false]), 9, 88) from by kernel_rfl)
    have HI := Lib.hid (And.intro hi (And.intro hz0 (And.intro hz1 hz2)))
    clear hi hz0 hz1 hz2
    have hlk : ((m.take k).map (·.2)).length = k := by rw [List.length_map, List.length_take, ← htl]; omega
    have hkm : k < m.length := by rw [← htl]; exact hkl
    have hnx : (m.take (k + 1)).map (·.2) = (m.take k).map (·.2) ++ [q] := by
      have e : m[k] = (qk, q) := by rw [hq]; simp only [← htl]
      rw [← List.take_append_getElem hkm, List.map_append, e]; rfl
    obtain ⟨L, hL⟩ : ∃ L, L = (m.take k).map (·.2) := ⟨_, rfl⟩
    rw [← hL] at hlk hnx H9
    obtain ⟨C, hC⟩ : ∃ C, C = spnCells L := ⟨_, rfl⟩
    have hrw : W2.ownsRow w.heap.size 48 9 v k C := by have := H9.out.2.1; unfold OwnSpns at this; rw [hlk, ← hC] at this; exact this
    have HK := Lib.hid (And.intro hlk (And.intro hkm (And.intro hnx (And.intro hC hrw))))
    clear hlk hkm hnx hL hC hrw hq hxk hkl hk htl
    gi_wp2_with (gi_at_builtin; refine wpListIn_append_own _ rfl _ _ 31 rfl w.heap.size 48 i0 (.agg #[.int .i64 0, .int .i64 0, .int .i64 0, .int .i64 0, .string ⟨#[]⟩, .string ⟨#[]⟩, .int .i64 0, .int .i64 0, .bool false]) 9 88 (by kernel_rfl) HI.out.1 HI.out.2.1 HI.out.2.2.1 HI.out.2.2.2 rfl (by decide) v _ _ rfl (HK.out.2.2.2.2.alloc _) ⟨W2.heap.size, 0, none⟩ 1 1 (spnC q).toList rfl rfl ?c1 ?c2 ?c3 ?c4 ?c5 ?_)
    case c2 => simp [Value.oneCell']
    case c3 => unfold maxLen; have := HK.out.2.1; omega
    case c4 => have := HK.out.2.1; omega
    case c5 => have h1 := H9.out.1.size; show w.heap.size ≤ (W2.heap.push _).size; rw [Array.size_push]; omega
    intro v' w' hown' hgrow _
    have hEal : Ext W2 (W2.alloc (.cells (spnC q) 48)) := (Keeps.refl _ W2).alloc _
    have hg : ∀ i, i < W2.heap.size → v.ownBlock ≠ some i → w'.heap[i]? = W2.heap[i]? := fun i hi hv => (hgrow.block i (Nat.lt_of_lt_of_le hi hEal.size) (fun e => hv e.symm)).trans (Ext.same hEal hi)
    have hb1 := (hg _ (lt_of_heap H9.out.2.2.1) HV.out.2.2.1).trans H9.out.2.2.1
    have hcb := blk_cell hb1
    have hzb := blk_free hb1
    have hsz' : W2.heap.size ≤ w'.heap.size := Nat.le_trans hEal.size hgrow.size
    have HG := Lib.hid (And.intro hown' (And.intro hg (And.intro hb1 hsz')))
    have HOS := Lib.hid (hEal.ost.trans ⟨hgrow.os, hgrow.output⟩)
    clear hown' hgrow hEal hg hb1 hcv hcx hzv hsz' hlt9
    obtain ⟨g', cap', rfl⟩ := row_form HG.out.1 (by omega)
    gi_wp2_with fail
    have ho1 : Only [w.heap.size] w' (w'.setCell ⟨w.heap.size, 0, none⟩ (.slice (some ⟨g', 0, none⟩) (k + 1) cap')) := (Only.refl [w.heap.size] w').setCell (by simp) _
    have hnb : g' ≠ w.heap.size := by
      rintro rfl
      obtain ⟨c, fz, hc⟩ := Lib.ownsRow_kind HG.out.1 _ rfl
      rw [HG.out.2.2.1] at hc
      injection hc with hc; injection hc with _ hc
      exact absurd hc (by decide)
    refine ⟨⟨by rw [ho1.size]; exact HG.out.2.2.2, fun i o hi hio hoc => ?_⟩, _, heap_set HG.out.2.2.1 0 _, ?_, by simp [Value.ownBlock]; exact hnb, ?_, ?_⟩
    · have hne : v.ownBlock ≠ some i := fun e => by
        obtain ⟨c, fz, hc⟩ := Lib.ownsRow_kind HK.out.2.2.2.2 i e
        rw [hio] at hc; injection hc with hc; rw [hc] at hoc; cases hoc
      exact (ho1.same i (fun hm => by rw [List.mem_singleton] at hm; have := HS1.out.1; omega)).trans ((HG.out.2.1 i (lt_of_heap hio) hne).trans hio)
    · have hr : w'.ownsRow w.heap.size 48 9 (.slice (some ⟨g', 0, none⟩) (k + 1) cap') ((m.take (k + 1)).map (·.2)).length (spnCells ((m.take (k + 1)).map (·.2))) := by
        rw [HK.out.2.2.1, List.length_append, HK.out.1]
        have e : spnCells (L ++ [q]) = C ++ (spnC q).toList := by rw [HK.out.2.2.2.1]; unfold spnCells; rw [List.flatMap_append]; simp
        rw [e]; exact HG.out.1
      exact row_keeps hr ho1.keeps (fun g hg hm => by rw [List.mem_singleton] at hm; simp only [Value.ownBlock, Option.some.injEq] at hg; omega)
    · exact (ho1.same _ (by simp)).trans ((HG.out.2.1 _ (lt_of_heap H9.out.2.2.2.1) (fun e => by
        obtain ⟨c, fz, hc⟩ := Lib.ownsRow_kind HK.out.2.2.2.2 _ e
        rw [H9.out.2.2.2.1] at hc; injection hc with hc; injection hc with _ hc; exact absurd hc (by decide))).trans H9.out.2.2.2.1)
    · refine ⟨Nat.le_trans H9.out.1.size (by rw [ho1.size]; exact HG.out.2.2.2), fun i hi _ => ?_, (H9.out.1.ost.trans HOS.out).trans ho1.ost⟩
      exact (ho1.same i (fun hm => by rw [List.mem_singleton] at hm; omega)).trans ((HG.out.2.1 i (Nat.lt_of_lt_of_le hi H9.out.1.size) (fun e => absurd (HK.out.2.2.2.2.lt i e).1 (by omega))).trans (Ext.same H9.out.1 hi))
  · rintro D W hD ⟨v, hv1, hv2, hv3, hv4, hv5⟩ hDh
    have hcv := blk_cell hv1
    have hDw : w.heap.size ≤ D := by omega
    have HP := Lib.hid (show ValPost m w (.returned v) (W.putObj D (.deferred none)) from by
      have hbk : Bk w.heap.size W (W.putObj D (.deferred none)) := Bk.putObj hDh rfl hDw
      refine ⟨v, rfl, row_bk ?_ hbk, ext_bk hv5 hbk (Nat.le_refl _)⟩
      have e : m.take (t.toList.map encss).length = m := by rw [List.length_map, htl, List.take_length]
      rw [e] at hv2; exact hv2)
    have HD := Lib.hid hDh
    clear hA hsz hEa hEb h1 h2 hs1 hM hbB hblk hv1 hv2 hv3 hv4 hv5 htl hDh
    simp only [Exit.inBlock, Exit.then]
    gi_wp2_with fail
    refine leave_ret (v := v) HD.out ?_ HP.out
    simp [results, Tryz.results52, go_sem]
theorem own_spns {B : Nat} {v : Value} {l : List Spn} {w : World} (h : OwnSpns B v l w) : spnE.Own B v l w := h
/-- the set of records -/
def setL (l : List Spn) : List Spn := (newestL l).map (·.2)
theorem setL_len (l : List Spn) : (setL l).length ≤ l.length := by unfold setL; rw [List.length_map]; exact newestL_len l
def SetPost (l : List Spn) (w : World) (e : Ending) (w' : World) : Prop := ∃ v, e = .returned v ∧ spnE.Own w.heap.size v (setL l) w' ∧ Ext w w'
theorem dset_i (v : Value) (l : List Spn) (w : World) (h : SpnsAt w v l) (hl : l.length ≤ 1000000) (hf : ∀ x ∈ l, x.Fits) : Calls Tryz.prog 32 #[v] w (SetPost l w) := by
  have H := Lib.hid (newest_i v l w h hl hf)
  have HL := Lib.hid (Nat.le_trans (newestL_len l) hl)
  clear h hl hf
  go_enter Tryz.func32, Tryz.ntmps32
  go_wp2_with fail
  refine H.out.mono ?_
  rintro e9 w1 ⟨b, rfl, hm, hE⟩
  have HE := Lib.hid (And.intro hm hE)
  clear hm hE
  go_wp2_with fail
  refine (values_i b _ _ _ HE.out.1 HL.out).mono ?_
  rintro e9 w2 ⟨v2, rfl, ho, hE2⟩
  have H2 := Lib.hid (show SetPost l w (.returned v2) w2 from ⟨v2, rfl, (own_spns ho).mono spnE HE.out.2.size, HE.out.2.trans hE2⟩)
  clear ho hE2
  go_wp2_with fail
  go_ret
  exact H2.out
end Go.Proofs.YtdonmmjikcbihaaGreatDoor
/- Package store: the records that are alive. -/
namespace Go.Proofs.YtdonmmjikcbihaaGreatDoor
open Go.RowKit Go.Proofs Go.Vc
attribute [local irreducible] Calls CallsIn Code.wp Code.wpIn
theorem live1_i (x : Spn) (w : World) : Calls Tryz.prog 79 (#[spnV x] ++ #[]) w fun e w' => e = .returned (.bool x.gone) ∧ Ext w w' := by
  show Calls _ _ #[spnV x] _ _
  go_enter Tryz.func79, Tryz.ntmps79
  go_wp2_with fail
  go_ret
  exact ⟨rfl, (Keeps.refl _ w).alloc _⟩
theorem own_empty (B : Nat) (w : World) (h : B ≤ w.heap.size) : spnE.Own B (.slice (some ⟨w.heap.size, 0, none⟩) 0 0) [] (w.alloc (.cells #[] 48)) :=
  ⟨rfl, .inr ⟨w.heap.size, 0, #[], rfl, h, World.alloc_heap_new w _, Nat.le_refl _, by decide, rfl, rfl⟩⟩
theorem eql_nil (a : Option Addr) (n c : Nat) (w : World) : (binOp .eql 31 (.slice a n c) (.slice none 0 0)).run Tryz.prog w = .ok (.bool a.isNone) w :=
  run_eql_slice_nil w _ _ a n c spnE.ht
attribute [local go_sem high] eql_nil
def ClonePost (l : List Spn) (w : World) (e : Ending) (w' : World) : Prop := ∃ v, e = .returned v ∧ spnE.Own w.heap.size v l w' ∧ Ext w w'
set_option maxRecDepth 20000 in
theorem clone_i (v : Value) (l : List Spn) (w : World) (h : SpnsAt w v l) (hl : l.length ≤ 1000000) : Calls Tryz.prog 78 #[v] w (ClonePost l w) := by
  have h' := h
  obtain ⟨a, cap, rfl, hn, h0, hju⟩ := h'
  cases a with
  | none =>
    have hl0 := h0 rfl
    subst hl0
    have HF := Lib.hid (show ClonePost [] w (.returned (.slice none 0 0)) w from ⟨_, rfl, Ek.Own.nil spnE _ _, Keeps.refl _ _⟩)
    clear h h0 hju hl
    go_enter Tryz.func78, Tryz.ntmps78
    go_wp2_with fail
    go_ret
    exact HF.out
  | some ad =>
    have hE : Ext w (w.alloc (.cells #[] 48)) := (Keeps.refl _ w).alloc _
    have H := Lib.hid (And.intro (reads_of_spns (h.ext hE)) (And.intro hE hl))
    clear h h0 hju hl hE
    go_enter Tryz.func78, Tryz.ntmps78
    go_wp2_with (at_builtin; refine Ek.app' spnE rfl _ _ rfl w.heap.size (.slice (some ⟨w.heap.size, 0, none⟩) 0 0) [] l rfl (own_empty _ w (Nat.le_refl _)) H.out.1 (by rw [List.length_nil, Nat.zero_add]; exact H.out.2.2) H.out.2.1.size ?_)
    intro v5 w5 hown5 hgr5 _ _
    have H5 := Lib.hid (show ClonePost l w (.returned v5) w5 from ⟨_, rfl, hown5, (own_empty w.heap.size w (Nat.le_refl _)).grow spnE H.out.2.1 (Nat.le_refl _) hgr5⟩)
    clear hown5 hgr5
    go_wp2_with fail
    go_ret
    exact H5.out
/-- where nothing is gone DeleteFunc gives back what it got -/
theorem delete0_i (v : Value) (l : List Spn) (w : World) (h : SpnsAt w v l) (hg : ∀ x ∈ l, x.gone = false) : Calls Tryz.prog 77 #[v, .func (.func 79) #[] #[]] w fun e w' => e = .returned v ∧ Ext w w' := by
  have HI := Lib.hid (indexfunc_live 0 (fun x => x.gone) v l w h (fun x _ w' _ => live1_i x w'))
  have hm : indexOf (fun x => x.gone) l = -1 := indexOf_miss fun i hi => hg _ (List.getElem_mem hi)
  obtain ⟨a, cap, rfl, hn, h0, hju⟩ := h
  obtain ⟨n, hnl⟩ : ∃ n, n = l.length := ⟨_, rfl⟩
  rw [← hnl] at HI ⊢
  clear hn h0 hju hnl hg
  go_enter Tryz.func77, Tryz.ntmps77
  go_wp2_with fail
  refine HI.out.mono ?_
  rintro e9 w1 ⟨rfl, hE1⟩
  rw [hm]
  have HE := Lib.hid hE1
  clear hE1 hm
  go_wp2_with fail
  go_ret
  exact ⟨rfl, HE.out⟩
theorem living0_i (v : Value) (l : List Spn) (w : World) (h : SpnsAt w v l) (hl : l.length ≤ 1000000) (hg : ∀ x ∈ l, x.gone = false) : Calls Tryz.prog 51 #[v] w (ClonePost l w) := by
  have H := Lib.hid (clone_i v l w h hl)
  have HG := Lib.hid (And.intro hg hl)
  clear h hl hg
  go_enter Tryz.func51, Tryz.ntmps51
  go_wp2_with fail
  refine H.out.mono ?_
  rintro e9 w1 ⟨v1, rfl, hown, hE⟩
  have HE := Lib.hid (And.intro hown hE)
  clear hown hE
  go_wp2_with fail
  refine (delete0_i v1 l _ (spns_of_own HE.out.1 HG.out.2) HG.out.1).mono ?_
  rintro e9 w2 ⟨rfl, hE2⟩
  have H2 := Lib.hid (show ClonePost l w (.returned v1) w2 from ⟨v1, rfl, HE.out.1.ext spnE hE2, HE.out.2.trans hE2⟩)
  clear hE2
  go_wp2_with fail
  go_ret
  exact H2.out
def AlivePost (l m : List Spn) (w : World) (e : Ending) (w' : World) : Prop := ∃ v u, e = .returned (.agg #[v, u]) ∧ spnE.Own w.heap.size v l w' ∧ spnE.Own w.heap.size u m w' ∧ Ext w w'
theorem alive0_i (v u : Value) (l m : List Spn) (w : World) (h : SpnsAt w v l) (k : SpnsAt w u m) (hl : l.length ≤ 1000000) (hm : m.length ≤ 1000000) (hg : ∀ x ∈ l, x.gone = false) (hk : ∀ x ∈ m, x.gone = false) : Calls Tryz.prog 31 #[.agg #[v, u]] w (AlivePost l m w) := by
  obtain ⟨wa, hwa⟩ : ∃ wa, wa = (w.alloc (.cells #[v, u] 36)).alloc (.cells #[.slice none 0 0, .slice none 0 0] 36) := ⟨_, rfl⟩
  have hE1 : Ext w (w.alloc (.cells #[v, u] 36)) := (Keeps.refl _ w).alloc _
  have hE : Ext w wa := by rw [hwa]; exact hE1.alloc _
  have hN0 : (w.alloc (.cells #[v, u] 36)).heap[w.heap.size]? = some (.cells #[v, u] 36 (0, 0)) := World.alloc_heap_new w _
  have hN : wa.heap[w.heap.size]? = some (.cells #[v, u] 36 (0, 0)) := by
    rw [hwa]; exact (Ext.same ((Keeps.refl Non _).alloc _) (lt_of_heap hN0)).trans hN0
  have hR : wa.heap[w.heap.size + 1]? = some (.cells #[.slice none 0 0, .slice none 0 0] 36 (0, 0)) := by
    have := World.alloc_heap_new (w.alloc (.cells #[v, u] 36)) (.cells #[.slice none 0 0, .slice none 0 0] 36)
    rw [World.size_alloc] at this; rw [hwa]; exact this
  obtain ⟨c, hc⟩ : ∃ c, c = w.heap.size := ⟨_, rfl⟩
  rw [← hc] at hN hR
  have H := Lib.hid (And.intro (h.ext hE) (And.intro (k.ext hE) (And.intro hE (And.intro hN hR))))
  have HL := Lib.hid (And.intro hl (And.intro hm (And.intro hg hk)))
  have hcw := blk_cell hN
  clear h k hE hE1 hN0 hN hR hl hm hg hk
  go_enter Tryz.func31, Tryz.ntmps31
  go_wp2_with fail
  rw [← hwa, ← hc]
  have HCC := Lib.hid hc
  clear hwa hc
  refine wp_drawE (way [0, 1, 3, 4, 2, 5, 6, 7]) (by kernel_rfl) (by kernel_rfl) (fun w1 hh hd hf hS => ?_)
  have hc1 := blk_cell ((Ext.same hS (lt_of_heap H.out.2.2.2.1)).trans H.out.2.2.2.1)
  clear hh hd hf
  simp only [way]
  go_wp2_with (first | (refine' hl_q rfl rfl rfl (fun _ => ?_) ?_; rotate_left; (go_simp <;> (try go_bits) <;> rfl); (try simp only [Act.put, List.setIfInBounds_toArray, List.set_cons_zero, List.set_cons_succ])) | (refine' hl_rS rfl rfl rfl hS ?_ ?_; rotate_left; (intro w9 hS9; (first | have hc9 := Ext.cells hS9 | have hc9 := Keeps.cells hS9); (go_simp <;> rfl)); (try simp only [Act.put, List.setIfInBounds_toArray, List.set_cons_zero, List.set_cons_succ])) | (refine' hl_r rfl rfl rfl ?_ ?_; rotate_left; (rintro w9 (rfl | hS9); (go_simp <;> rfl); (first | have hc9 := Ext.cells hS9 | have hc9 := Keeps.cells hS9 | (try dsimp only at hS9)); (go_simp <;> rfl)); (try simp only [Act.put, List.setIfInBounds_toArray, List.set_cons_zero, List.set_cons_succ])) | (refine' hl_s rfl rfl ?_; (try simp only [Act.put, List.setIfInBounds_toArray, List.set_cons_zero, List.set_cons_succ])) | (refine hl_e rfl rfl rfl (fun K hK => ?_)) | (with_reducible refine And.intro (fun hn => ?_) ?_; (first | exact hS | exact Keeps.alloc hS _ | exact absurd hn (by rw [show needS _ _ = false from by kernel_rfl]; exact Bool.false_ne_true))) | (refine hl_done ?_) | gi_step)
  refine callsIn_wide.2 ((living0_i v l _ (H.out.1.ext hS) HL.out.1 HL.out.2.2.1).mono ?_)
  rintro e9 w2 ⟨v2, rfl, hown2, hE2⟩
  have hS2 := hS.trans hE2
  have hsz1 := hS.size
  clear hS
  have hS := hS2
  clear hS2
  have hc2 := blk_cell ((Ext.same hS (lt_of_heap H.out.2.2.2.1)).trans H.out.2.2.2.1)
  have H2 := Lib.hid (And.intro hown2 hsz1)
  clear hown2 hE2 hsz1 hc1
  go_wp2_with (first | (refine' hl_q rfl rfl rfl (fun _ => ?_) ?_; rotate_left; (go_simp <;> (try go_bits) <;> rfl); (try simp only [Act.put, List.setIfInBounds_toArray, List.set_cons_zero, List.set_cons_succ])) | (refine' hl_rS rfl rfl rfl hS ?_ ?_; rotate_left; (intro w9 hS9; (first | have hc9 := Ext.cells hS9 | have hc9 := Keeps.cells hS9); (go_simp <;> rfl)); (try simp only [Act.put, List.setIfInBounds_toArray, List.set_cons_zero, List.set_cons_succ])) | (refine' hl_r rfl rfl rfl ?_ ?_; rotate_left; (rintro w9 (rfl | hS9); (go_simp <;> rfl); (first | have hc9 := Ext.cells hS9 | have hc9 := Keeps.cells hS9 | (try dsimp only at hS9)); (go_simp <;> rfl)); (try simp only [Act.put, List.setIfInBounds_toArray, List.set_cons_zero, List.set_cons_succ])) | (refine' hl_s rfl rfl ?_; (try simp only [Act.put, List.setIfInBounds_toArray, List.set_cons_zero, List.set_cons_succ])) | (refine hl_e rfl rfl rfl (fun K hK => ?_)) | (with_reducible refine And.intro (fun hn => ?_) ?_; (first | exact hS | exact Keeps.alloc hS _ | exact absurd hn (by rw [show needS _ _ = false from by kernel_rfl]; exact Bool.false_ne_true))) | (refine hl_done ?_) | gi_step)
  refine callsIn_wide.2 ((living0_i u m _ (H.out.2.1.ext hS) HL.out.2.1 HL.out.2.2.2).mono ?_)
  rintro e9 w3 ⟨u3, rfl, hown3, hE3⟩
  have hS3 := hS.trans hE3
  have hsz2 := hS.size
  clear hS
  have hS := hS3
  clear hS3
  have hN3 := (Ext.same hS (lt_of_heap H.out.2.2.2.2)).trans H.out.2.2.2.2
  have hr3 := blk_cell hN3
  have hz3 := blk_free hN3
  have hl3 := lt_of_heap hN3
  obtain ⟨a2, c2, rfl, _, _⟩ := H2.out.1.slice spnE
  obtain ⟨a3, c3, rfl, _, _⟩ := hown3.slice spnE
  have H3 := Lib.hid (And.intro (H2.out.1.ext spnE hE3) (And.intro hown3 (And.intro hsz2 (And.intro (H.out.2.2.1.trans hS) hN3))))
  clear hown3 hE3 hsz2 hc2 hN3
  go_wp2_with (first | (refine' hl_q rfl rfl rfl (fun _ => ?_) ?_; rotate_left; (go_simp <;> (try go_bits) <;> rfl); (try simp only [Act.put, List.setIfInBounds_toArray, List.set_cons_zero, List.set_cons_succ])) | (refine' hl_rS rfl rfl rfl hS ?_ ?_; rotate_left; (intro w9 hS9; (first | have hc9 := Ext.cells hS9 | have hc9 := Keeps.cells hS9); (go_simp <;> rfl)); (try simp only [Act.put, List.setIfInBounds_toArray, List.set_cons_zero, List.set_cons_succ])) | (refine' hl_r rfl rfl rfl ?_ ?_; rotate_left; (rintro w9 (rfl | hS9); (go_simp <;> rfl); (first | have hc9 := Ext.cells hS9 | have hc9 := Keeps.cells hS9 | (try dsimp only at hS9)); (go_simp <;> rfl)); (try simp only [Act.put, List.setIfInBounds_toArray, List.set_cons_zero, List.set_cons_succ])) | (refine' hl_s rfl rfl ?_; (try simp only [Act.put, List.setIfInBounds_toArray, List.set_cons_zero, List.set_cons_succ])) | (refine hl_e rfl rfl rfl (fun K hK => ?_)) | (with_reducible refine And.intro (fun hn => ?_) ?_; (first | exact hS | exact Keeps.alloc hS _ | exact absurd hn (by rw [show needS _ _ = false from by kernel_rfl]; exact Bool.false_ne_true))) | (refine hl_done ?_) | gi_step)
  obtain ⟨w4, hw4⟩ : ∃ w4, w4 = (w3.setCell ⟨c + 1, 0, none⟩ (.slice a2 l.length c2)).setCell ⟨c + 1, 1, none⟩ (.slice a3 m.length c3) := ⟨_, rfl⟩
  rw [← hw4]
  have hN4 : w4.heap[c + 1]? = some (.cells #[.slice a2 l.length c2, .slice a3 m.length c3] 36 (0, 0)) := by
    rw [hw4]; exact heap_set (heap_set H3.out.2.2.2.2 0 _) 1 _
  have o4 : Only [c + 1] w3 w4 := by rw [hw4]; exact ((Only.refl [c + 1] w3).setCell (by simp) _).setCell (by simp) _
  have hc4 := blk_cell hN4
  have hl4 := lt_of_heap hN4
  have hwc : w.heap.size = c := HCC.out.symm
  have hsz : c + 2 ≤ wa.heap.size := by have := lt_of_heap H.out.2.2.2.2; omega
  have hs12 := H2.out.2
  have hs3 := H3.out.2.2.1
  refine bodyPost_ret (v := .agg #[.slice a2 l.length c2, .slice a3 m.length c3]) (by simp [results, Tryz.results31, go_sem, hc4]) rfl ?_
  refine ⟨_, _, rfl, ?_, ?_, ?_⟩
  · exact (H3.out.1.keeps spnE o4.keeps (fun g hg hm => by rw [List.mem_singleton] at hm; have := (H3.out.1.lt spnE hg).1; omega)).mono spnE (by omega)
  · exact (H3.out.2.1.keeps spnE o4.keeps (fun g hg hm => by rw [List.mem_singleton] at hm; have := (H3.out.2.1.lt spnE hg).1; omega)).mono spnE (by omega)
  · exact ⟨Nat.le_trans H3.out.2.2.2.1.size (Nat.le_of_eq o4.size.symm), fun i hi _ => (o4.same i (fun hm => by rw [List.mem_singleton] at hm; omega)).trans (Ext.same H3.out.2.2.2.1 hi), (H3.out.2.2.2.1.ost).trans o4.ost⟩
end Go.Proofs.YtdonmmjikcbihaaGreatDoor
/- Sets (plain): the document's sets are the newest of records. -/
namespace Go.Proofs.YtdonmmjikcbihaaGreatDoor
open Go Go.Vc
/-- does a record's key stand ahead? -/
def before (a b : Spn) : Bool := decide (a.tr < b.tr) || (decide (a.tr = b.tr) && decide (a.id < b.id))
/-- have two records one key? -/
def oneK (a b : Spn) : Bool := decide (a.tr = b.tr) && decide (a.id = b.id)
def refInsert (l : List Spn) (x : Spn) : List Spn := l.takeWhile (fun y => before y x) ++ x :: l.filter (fun y => before x y)
def refStep (out : List Spn) (x : Spn) : List Spn :=
  if may x then
    match out.find? (fun y => oneK y (kept x)) with
    | none => refInsert out (kept x)
    | some o => if newer (kept x) o then refInsert out (kept x) else out
  else out
def refSet (l : List Spn) : List Spn := l.foldl refStep []
theorem cmp_skey {x y : Spn} (hx : x.Fits) (hy : y.Fits) : cmpS (skey x) (skey y) = if before x y then .lt else if before y x then .gt else .eq := by
  unfold skey
  rw [cmp_num _ _ hx.tr hy.tr]
  have h2 := cmp_num _ _ hx.id hy.id ByteArray.empty ByteArray.empty
  simp only [ByteArray.append_empty] at h2
  rw [h2, order_S.refl]
  unfold before
  by_cases a : x.tr < y.tr
  · simp [a]
  · by_cases b : y.tr < x.tr
    · have : ¬ x.tr = y.tr := by omega
      simp [a, b, this]
    · have e : x.tr = y.tr := by omega
      simp [e]
theorem before_flip {x y : Spn} (h : before x y = true) : before y x = false := by
  unfold before at *
  simp only [Bool.or_eq_true, Bool.and_eq_true, decide_eq_true_eq] at h
  simp only [Bool.or_eq_false_iff, Bool.and_eq_false_iff, decide_eq_false_iff_not]
  omega
theorem oneK_iff (x y : Spn) : oneK x y = (!before x y && !before y x) := by
  unfold oneK before
  by_cases a : x.tr < y.tr
  · have : ¬ x.tr = y.tr := by omega
    simp [a, this]
  · by_cases b : y.tr < x.tr
    · have : ¬ x.tr = y.tr := by omega
      simp [a, b, this]
    · have e : x.tr = y.tr := by omega
      by_cases c : x.id < y.id
      · have : ¬ x.id = y.id := by omega
        simp [e, c, this]
      · by_cases d : y.id < x.id
        · have : ¬ x.id = y.id := by omega
          simp [e, c, d, this]
        · have : x.id = y.id := by omega
          simp [e, this]
theorem before_tr {x y z : Spn} (h : before x y = true) (k : before y z = true) : before x z = true := by
  unfold before at *
  simp only [Bool.or_eq_true, Bool.and_eq_true, decide_eq_true_eq] at *
  omega
/-- a map of records by their own keys -/
structure Own (m : List (ByteArray × Spn)) : Prop where
  up : Rises cmpS m
  key : ∀ y ∈ m, y.1 = skey y.2
  fit : ∀ y ∈ m, y.2.Fits
theorem Own.sorted {m : List (ByteArray × Spn)} (h : Own m) : (m.map (·.2)).Pairwise fun a b => before a b = true := by
  rw [List.pairwise_map]
  refine List.Pairwise.imp_of_mem (fun {a b} ha hb hab => ?_) h.up
  rw [h.key a ha, h.key b hb, cmp_skey (h.fit a ha) (h.fit b hb)] at hab
  cases hc : before a.2 b.2 with
  | true => rfl
  | false => rw [hc] at hab; simp only [Bool.false_eq_true, if_false] at hab; split at hab <;> cases hab
theorem Own.tail {y : ByteArray × Spn} {m : List (ByteArray × Spn)} (h : Own (y :: m)) : Own m :=
  ⟨(List.pairwise_cons.1 h.up).2, fun z hz => h.key z (List.mem_cons_of_mem _ hz), fun z hz => h.fit z (List.mem_cons_of_mem _ hz)⟩
theorem own_find {x : Spn} (hx : x.Fits) : ∀ {m : List (ByteArray × Spn)}, Own m → (m.map (·.2)).find? (fun y => oneK y x) = findL cmpS (skey x) m
  | [], _ => rfl
  | y :: m, h => by
    have hk := h.key y (List.mem_cons_self ..)
    have hf := h.fit y (List.mem_cons_self ..)
    simp only [List.map_cons, List.find?_cons, findL]
    rw [hk, cmp_skey hx hf, own_find hx h.tail, oneK_iff]
    cases h1 : before x y.2 with
    | true => simp
    | false =>
      cases h2 : before y.2 x with
      | true => simp
      | false => simp
theorem own_insert {x : Spn} (hx : x.Fits) : ∀ {m : List (ByteArray × Spn)}, Own m → refInsert (m.map (·.2)) x = (putL cmpS (skey x) x m).map (·.2)
  | [], _ => rfl
  | y :: m, h => by
    have hk := h.key y (List.mem_cons_self ..)
    have hf := h.fit y (List.mem_cons_self ..)
    have hs := h.sorted
    rw [List.map_cons, List.pairwise_cons] at hs
    have ih := own_insert hx h.tail
    unfold refInsert at ih ⊢
    simp only [List.map_cons, List.takeWhile_cons, List.filter_cons, putL]
    rw [hk, cmp_skey hx hf]
    cases h1 : before x y.2 with
    | true =>
      rw [before_flip h1]
      have hall : (m.map (·.2)).filter (fun z => before x z) = m.map (·.2) := List.filter_eq_self.2 fun z hz => before_tr h1 (hs.1 z hz)
      simp [hall]
    | false =>
      cases h2 : before y.2 x with
      | true =>
        simp only [Bool.false_eq_true, if_false, if_true, List.cons_append, List.map_cons, ih]
      | false =>
        have hall : (m.map (·.2)).filter (fun z => before x z) = m.map (·.2) := List.filter_eq_self.2 fun z hz => by
          have hyz := hs.1 z hz
          have e1 : x.tr = y.2.tr ∧ x.id = y.2.id := by
            have : oneK x y.2 = true := by rw [oneK_iff, h1, h2]; rfl
            unfold oneK at this
            simpa using this
          unfold before at hyz ⊢
          rw [e1.1, e1.2]; exact hyz
        simp [hall]
theorem own_put {x : Spn} (hx : x.Fits) {m : List (ByteArray × Spn)} (h : Own m) : Own (putL cmpS (skey x) x m) := by
  have : ∀ {m : List (ByteArray × Spn)}, (∀ y ∈ m, y.1 = skey y.2 ∧ y.2.Fits) → ∀ y ∈ putL cmpS (skey x) x m, y.1 = skey y.2 ∧ y.2.Fits := by
    intro m
    induction m with
    | nil => intro _ y hy; simp only [putL, List.mem_singleton] at hy; subst hy; exact ⟨rfl, hx⟩
    | cons z m ih =>
      intro hm y hy
      simp only [putL] at hy
      split at hy
      · rw [List.mem_cons] at hy
        rcases hy with rfl | hy
        · exact ⟨rfl, hx⟩
        · exact hm y hy
      · rename_i hk
        rw [List.mem_cons] at hy
        rcases hy with rfl | hy
        · exact ⟨(order_S.eq hk).symm, hx⟩
        · exact hm y (List.mem_cons_of_mem _ hy)
      · rw [List.mem_cons] at hy
        rcases hy with rfl | hy
        · exact hm _ (List.mem_cons_self ..)
        · exact ih (fun w hw => hm w (List.mem_cons_of_mem _ hw)) y hy
  have h2 := this fun y hy => ⟨h.key y hy, h.fit y hy⟩
  exact ⟨rises_putL order_S _ _ _ h.up, fun y hy => (h2 y hy).1, fun y hy => (h2 y hy).2⟩
theorem own_step {m : List (ByteArray × Spn)} (h : Own m) {x : Spn} (hx : x.Fits) : Own (newStep m x) ∧ refStep (m.map (·.2)) x = (newStep m x).map (·.2) := by
  have hkf := kept_fits hx
  have hsk : skey (kept x) = skey x := rfl
  unfold newStep refStep
  by_cases hm : may x = true
  · rw [if_pos hm, if_pos hm, own_find hkf h, hsk]
    cases hf : findL cmpS (skey x) m with
    | none => exact ⟨by rw [← hsk]; exact own_put hkf h, by rw [← hsk]; exact own_insert hkf h⟩
    | some o =>
      dsimp only
      by_cases hn : newer (kept x) o = true
      · rw [if_pos hn, if_pos hn]
        exact ⟨by rw [← hsk]; exact own_put hkf h, by rw [← hsk]; exact own_insert hkf h⟩
      · rw [if_neg hn, if_neg hn]; exact ⟨h, rfl⟩
  · rw [if_neg hm, if_neg hm]; exact ⟨h, rfl⟩
theorem newest_own (l : List Spn) (h : ∀ x ∈ l, x.Fits) : Own (newestL l) ∧ refSet l = (newestL l).map (·.2) := by
  unfold newestL refSet
  have : ∀ (l : List Spn) (m : List (ByteArray × Spn)), Own m → (∀ x ∈ l, x.Fits) → Own (l.foldl newStep m) ∧ l.foldl refStep (m.map (·.2)) = (l.foldl newStep m).map (·.2) := by
    intro l
    induction l with
    | nil => exact fun m h _ => ⟨h, rfl⟩
    | cons x l ih =>
      intro m h hl
      have hs := own_step h (hl x (List.mem_cons_self ..))
      have := ih (newStep m x) hs.1 fun y hy => hl y (List.mem_cons_of_mem _ hy)
      rw [List.foldl_cons, List.foldl_cons, hs.2]; exact this
  exact this l [] ⟨List.Pairwise.nil, (fun _ h => nomatch h), (fun _ h => nomatch h)⟩ h
end Go.Proofs.YtdonmmjikcbihaaGreatDoor
/- Package entry: the entries of records. -/
namespace Go.Proofs.YtdonmmjikcbihaaGreatDoor
open Go.RowKit Go.Proofs Go.Vc
attribute [local irreducible] Calls CallsIn Code.wp Code.wpIn
theorem evall_rel (ty : TypeId) (b : Nat) (m : List (ByteArray × Int)) (S : Nat → Prop) (w : World) (L : List Spn) (mx : Int) (h : LMapsi ty b 0 m S w) (hr : EntRel m L) (hl : m.length ≤ 100000)
    (hm : w.cell? ⟨0, 0, none⟩ = some (.int .i64 mx)) : Calls Tryz.prog 12 #[.pointer (some ⟨b, 0, none⟩)] w (AllPost (refAll L) w) := by
  obtain ⟨qs, h1, h2, h3, h4⟩ := all_rel hr
  have hlen : qs.length = m.length := by have := congrArg List.length h1; simpa using this.symm
  have := evall_i ty b m S w qs mx h h1 h2 h3 (by omega) hm
  rw [h4] at this
  exact this
theorem kept_gone (x : Spn) : (kept x).gone = x.gone := rfl
theorem kept_may (x : Spn) : may (kept x) = may x := rfl
theorem setL_all {p : Spn → Prop} (l : List Spn) (h : ∀ x ∈ l, may x = true → p (kept x)) : ∀ x ∈ setL l, p x := by
  intro x hx
  obtain ⟨y, hy, rfl⟩ := List.mem_map.1 hx
  exact newestL_all l h y hy
/-- an empty view -/
theorem view_new (w : World) (tid : TypeId) : LMapsi tid w.heap.size 0 [] (fun i => i = w.heap.size) (w.alloc (.cells #[.pointer none, .int .i64 0] tid)) := by
  have hN := World.alloc_heap_new w (.cells #[.pointer none, .int .i64 0] tid)
  exact ⟨_, .nil, ⟨hN, rfl, rfl, trivial, by simp [T.blocks]⟩, rfl, List.Pairwise.nil, fun i => by simp [T.blocks]⟩
def OfPost (l : List Spn) (w : World) (e : Ending) (w' : World) : Prop := ∃ v, e = .returned v ∧ EntsAt w' v (refAll (rIn [] (setL l))) ∧ Ext w w'
theorem bnd_nil : Bnd [] 0 := ⟨Nat.le_refl _, fun k => by simp [findL]⟩
theorem bnd_redo {m : List (ByteArray × Int)} {N : Nat} (h : Bnd m N) : ∀ l : List Spn, Bnd (redo m l) (N + l.length) := by
  intro l
  induction l generalizing m N with
  | nil => exact h
  | cons x l ih =>
    have := ih (h.chg x (d := 1) (.inl rfl))
    rw [List.length_cons, show N + (l.length + 1) = N + 1 + l.length by omega]; exact this
theorem eof0_i (v : Value) (l : List Spn) (w : World) (mx : Int) (h : SpnsAt w v l) (hl : l.length ≤ 100) (hf : ∀ x ∈ l, x.Fits) (hg : ∀ x ∈ l, x.gone = false) (hm : w.cell? ⟨0, 0, none⟩ = some (.int .i64 mx)) :
    Calls Tryz.prog 15 #[v] w (OfPost l w) := by
  have hsl := setL_len l
  have hsf := setL_all (p := fun x => x.Fits) l fun x hx _ => kept_fits (hf x hx)
  have hsg := setL_all (p := fun x => x.gone = false) l fun x hx _ => hg x hx
  have hsm := setL_all (p := fun x => may x = true) l fun x hx hm => hm
  obtain ⟨wa, hwa⟩ : ∃ wa, wa = w.alloc (.cells #[.pointer none, .int .i64 0] 28) := ⟨_, rfl⟩
  have hE : Ext w wa := by rw [hwa]; exact (Keeps.refl _ w).alloc _
  have hM : LMapsi 28 w.heap.size 0 [] (fun i => i = w.heap.size) wa := by rw [hwa]; exact view_new w _
  obtain ⟨b, hb⟩ : ∃ b, b = w.heap.size := ⟨_, rfl⟩
  rw [← hb] at hM
  have H := Lib.hid (And.intro hE (And.intro (h.ext hE) (And.intro hM (And.intro (show ∀ wr, Ext w wr → wr.cell? ⟨0, 0, none⟩ = some (.int .i64 mx) from fun wr k => (Ext.cells k 0 0 (by rw [hm]; rfl)).trans hm) hf))))
  have HS := Lib.hid (And.intro hsl (And.intro hsf (And.intro hsg (And.intro hsm hl))))
  clear hE h hM hm hf hg hsl hsf hsg hsm hl
  go_enter Tryz.func15, Tryz.ntmps15
  go_wp2_with fail
  rw [← hwa, ← hb]
  have HBB := Lib.hid hb
  clear hwa hb
  refine (dset_i v l _ H.out.2.1 (by have := HS.out.2.2.2.2; omega) H.out.2.2.2.2).mono ?_
  rintro e9 w1 ⟨v1, rfl, hown1, hE1⟩
  obtain ⟨a1, c1, rfl, _, _⟩ := hown1.slice spnE
  have H1 := Lib.hid (And.intro hown1 hE1)
  clear hown1 hE1
  go_wp2_with fail
  refine (alive0_i (.slice none 0 0) (.slice a1 (setL l).length c1) [] (setL l) _ ⟨none, 0, rfl, ⟨by decide, by decide⟩, fun _ => rfl, fun _ _ _ h => nomatch h⟩ (spns_of_own H1.out.1 (by have := HS.out; omega)) (by decide) (by have := HS.out; omega) (fun _ h => nomatch h) HS.out.2.2.1).mono ?_
  rintro e9 w2 ⟨v2, u2, rfl, hv2, hu2, hE2⟩
  have hbn : ∀ {v : Value} {l : List Spn}, spnE.Own w1.heap.size v l w2 → ∀ g, slBlock v = some g → ¬ g = b := fun {v l} ho g hg e => by
    obtain ⟨a, c, rfl, _, _⟩ := ho.slice spnE
    have hg' : (Value.slice a l.length c).ownBlock = some g := by cases a <;> first | (cases hg; done) | exact hg
    have h1 := (ho.lt spnE hg').1
    have h2 := H.out.2.2.1.lt (i := b) rfl
    have h3 := H1.out.2.size
    omega
  have H2 := Lib.hid (And.intro hv2 (And.intro hu2 (And.intro hE2 (And.intro (hbn hv2) (hbn hu2)))))
  clear hv2 hu2 hE2 hbn
  go_wp2_with fail
  refine (vapply_i 28 b [] _ v2 u2 [] (setL l) _ 0 bnd_nil (by decide) (H.out.2.2.1.ext (H1.out.2.trans H2.out.2.2.1)) (spns_of_own H2.out.1 (by decide)) (spns_of_own H2.out.2.1 (by have := HS.out; omega)) (fun _ => H2.out.2.2.2.1) (fun _ => H2.out.2.2.2.2) (fun _ h => nomatch h) HS.out.2.1 (by decide) (by have := HS.out; omega)).mono ?_
  rintro e9 w3 ⟨rfl, ⟨S', hM3, hS3⟩, hK3⟩
  have hE3 : Ext w w3 := ⟨Nat.le_trans (H.out.1.trans (H1.out.2.trans H2.out.2.2.1)).size hK3.size, fun i hi _ => (hK3.same i (Nat.lt_of_lt_of_le hi (H.out.1.trans (H1.out.2.trans H2.out.2.2.1)).size) (fun e => by have := HBB.out; omega)).trans (Ext.same (H.out.1.trans (H1.out.2.trans H2.out.2.2.1)) hi), ((H.out.1.trans (H1.out.2.trans H2.out.2.2.1)).ost).trans hK3.ost⟩
  have hall : (setL l).all may = true := List.all_eq_true.2 HS.out.2.2.2.1
  have hva : vApply [] [] (setL l) = (redo [] (setL l), true) := by unfold vApply; rw [hall]; rfl
  have hra : rApply [] [] (setL l) = (rIn [] (setL l), true) := by unfold rApply; rw [hall]; rfl
  have hrel := (apply_rel EntRel.nil (out := []) (inn := setL l) (fun _ h => nomatch h) (fun x hx => (HS.out.2.1 x hx).tr)).2
  rw [hva, hra] at hrel
  rw [hva] at hM3
  have hbd := (bnd_redo bnd_nil (setL l)).1
  have H3 := Lib.hid (And.intro hM3 (And.intro hE3 (And.intro hrel hbd)))
  rw [hva]
  clear hM3 hS3 hK3 hE3 hall hva hra hrel hbd
  go_wp2_with fail
  refine (evall_rel 28 b _ _ _ _ mx H3.out.1 H3.out.2.2.1 (by have h1 := H3.out.2.2.2; have h2 := HS.out; omega) (H.out.2.2.2.1 _ H3.out.2.1)).mono ?_
  rintro e9 w4 ⟨v4, rfl, hv4, hE4⟩
  have H4 := Lib.hid (show OfPost l w (.returned v4) w4 from ⟨v4, rfl, hv4, H3.out.2.1.trans hE4⟩)
  clear hv4 hE4
  go_wp2_with fail
  go_ret
  exact H4.out
end Go.Proofs.YtdonmmjikcbihaaGreatDoor
/- Package entry: a view that is nil. -/
namespace Go.Proofs.YtdonmmjikcbihaaGreatDoor
open Go.RowKit Go.Proofs Go.Vc
attribute [local go_sem] Oper.semAt_some
attribute [local irreducible] Calls CallsIn Code.wp Code.wpIn
theorem vapplynil_i (vo vi : Value) (out inn : List Spn) (w : World) (ho : SpnsAt w vo out) (hi : SpnsAt w vi inn) (hlo : out.length ≤ 100) (hli : inn.length ≤ 100) :
    Calls Tryz.prog 9 #[.pointer none, .agg #[vo, vi]] w fun e w' => e = .returned (.bool ((out.length : Int) + inn.length == 0)) ∧ Ext w w' := by
  obtain ⟨ao, capo, rfl, _, _, _⟩ := ho
  obtain ⟨ai, capi, rfl, _, _, _⟩ := hi
  obtain ⟨no, hno⟩ : ∃ n, n = out.length := ⟨_, rfl⟩
  obtain ⟨ni, hni⟩ : ∃ n, n = inn.length := ⟨_, rfl⟩
  rw [← hno, ← hni]
  have hno2 : (no : Int) ≤ 100 := by omega
  have hni2 : (ni : Int) ≤ 100 := by omega
  clear hno hni hlo hli
  have HE := Lib.hid (show Ext w (w.alloc (.cells #[.slice ao no capo, .slice ai ni capi] 36)) from (Keeps.refl _ w).alloc _)
  go_enter Tryz.func9, Tryz.ntmps9
  go_wp2_with fail
  go_ret
  exact ⟨rfl, HE.out⟩
theorem evallnil_i (w : World) : Calls Tryz.prog 12 #[.pointer none] w fun e w' => e = .returned (.slice none 0 0) ∧ Ext w w' := by
  refine calls_of_marks Tryz.func12 rfl ?_
  simp only [Tryz.ntmps12, List.size_toArray, List.length_cons, List.length_nil, Nat.reduceAdd, Nat.reduceSub, Array.replicate_succ,
     Array.replicate_zero, List.push_toArray, List.append_toArray, List.nil_append, List.cons_append]
  gi_wp2_with fail
  refine callsIn_wide.2 ((efromnil_i _ _).mono ?_)
  rintro e9 w1 ⟨rfl, hw1⟩
  gi_wp2_with fail
  have hE1 : Ext w w1 := by rw [hw1]; exact (((Keeps.refl _ w).alloc _).alloc _).alloc _
  have hsz : ∀ (w : World) o, (w.alloc o).heap.size = w.heap.size + 1 := fun w o => by show (w.heap.push _).size = _; rw [Array.size_push]
  have h2 : w1.heap[w.heap.size + 2]? = some (.cells #[.pointer none] 88 (0, 0)) := by
    have := World.alloc_heap_new ((w.alloc (.cells #[.slice none 0 0] 38)).alloc (.cells #[.string ⟨#[]⟩] 9)) (.cells #[.pointer none] 88)
    rw [hsz, hsz] at this
    rw [hw1]; exact this
  have h0 : w1.heap[w.heap.size]? = some (.cells #[.slice none 0 0] 38 (0, 0)) := by
    have := World.alloc_heap_new w (.cells #[.slice none 0 0] 38)
    rw [hw1]
    exact (Ext.same (((Keeps.refl Non _).alloc _).alloc _) (lt_of_heap this)).trans this
  rw [← hw1]
  obtain ⟨n, hn⟩ : ∃ n, n = w.heap.size := ⟨_, rfl⟩
  rw [← hn] at h0 h2 ⊢
  clear hw1 hsz
  refine range_loop (gf := 70) (lb := #[.pointer (some ⟨n + 2, 0, none⟩)]) (xs := []) (by simp [Act.eval]) (enters_of Tryz.func70 (by kernel_rfl) rfl) (fun x hx => nomatch hx) (seqnil_si (n + 2))
    (fun k W => W.heap[n]? = some (.cells #[.slice none 0 0] 38 (0, 0)) ∧ W.heap[n + 2]? = some (.cells #[.pointer none] 88 (0, 0)) ∧ Ext w W)
    (fun _ _ _ => False) ?_ (fun _ _ _ _ h => h.elim) ?_ ?_ ?_ ?_ (fun _ _ _ _ _ _ h => h.elim)
  · rintro k W W' ⟨i0, i2, i5⟩ hbk
    exact ⟨hbk.same _ _ i0 (.inr rfl), hbk.same _ _ i2 (.inr rfl), ext_bk i5 hbk hE1.size⟩
  · rintro k W ⟨i0, i2, i5⟩
    rw [blk_cell i2]; rfl
  · exact ⟨h0, h2, hE1⟩
  · rintro lp k hk
    exact absurd hk (Nat.not_lt_zero _)
  · rintro D W hD ⟨i0, i2, i5⟩ hDh
    have hcv := blk_cell i0
    have hDw : w.heap.size ≤ D := Nat.le_trans hE1.size hD
    have HP := Lib.hid (ext_bk i5 (Bk.putObj (o' := .deferred none) hDh rfl hDw) (Nat.le_refl _))
    have HD := Lib.hid hDh
    clear hn hE1 h0 h2 i0 i2 i5 hDh
    simp only [Exit.inBlock, Exit.then]
    gi_wp2_with fail
    refine leave_ret (v := .slice none 0 0) HD.out ?_ ⟨rfl, HP.out⟩
    simp [results, Tryz.results12, go_sem]
end Go.Proofs.YtdonmmjikcbihaaGreatDoor
/- The document's answers for code: which records may be; few records. -/
namespace Go.Proofs.YtdonmmjikcbihaaGreatDoor
open Go.RowKit Go.Proofs Go.Vc
attribute [local irreducible] Calls CallsIn Code.wp Code.wpIn
theorem bget (s : ByteArray) (j : Nat) (h : j < s.size) : s[j] = s.data.toList.getD j 0 := by
  have hl : j < s.data.toList.length := by rw [Array.length_toList]; exact h
  rw [getD_of hl, Array.getElem_toList]; rfl
set_option maxRecDepth 20000 in
theorem rname_i (s : ByteArray) (hs : s.size ≤ 1000000) (w : World) : Calls Tryz.prog 69 #[.string s] w fun e w' => e = .returned (.bool (named s)) ∧ w' = w := by
  have h0 : (0 : Int) ≤ s.size := by omega
  go_enter Tryz.func69, Tryz.ntmps69
  go_wp2_with fail
  go_loopg [3] s.size (fun k p8 wr => ∃ j : Nat, p8 = .int .i64 j ∧ j + k = s.size ∧ (∀ i, i < j → nameByte (s.data.toList.getD i 0) = true) ∧ wr = w)
  case atStart => exact ⟨0, rfl, Nat.zero_add _, fun i hi => absurd hi (Nat.not_lt_zero _), rfl⟩
  case round =>
    obtain ⟨j, rfl, hj, hall, rfl⟩ := hrel
    have HA := Lib.hid hall
    clear hall
    by_cases hjs : j < s.size
    · have hjs' : (j : Int) < s.size := by omega
      have HB := Lib.hid (bget s j hjs)
      go_wp2_with fail
      · rename_i h1 h2
        go_ret
        exact ⟨by rw [named_bad s j hjs (by rw [← HB.out, nameByte, decide_eq_false (p := s[j].toNat ≤ 126) (by omega), Bool.and_false])]; rfl, rfl⟩
      · rename_i h1 h2
        go_roundg (gk - 1)
        case measure => omega
        case rel =>
          refine ⟨j + 1, by simp, by omega, fun i hi => ?_, rfl⟩
          by_cases hij : i = j
          · subst hij; rw [← HB.out, nameByte, decide_eq_true (by omega), decide_eq_true (by omega)]; rfl
          · exact HA.out i (by omega)
      · rename_i h1
        go_ret
        exact ⟨by rw [named_bad s j hjs (by rw [← HB.out, nameByte, decide_eq_false (by omega)]; rfl)]; rfl, rfl⟩
    · have hjs' : ¬ (j : Int) < s.size := by omega
      have hall : s.data.toList.all nameByte = true := named_all s fun i hi => HA.out i (by omega)
      have hnm : named s = (!(s.size == 0) && decide (s.size ≤ 24)) := by unfold named; rw [hall, Bool.true_and]
      have HN := Lib.hid hnm
      clear hall hnm
      go_wp2_with fail
      · go_ret
        have e : (!(s.size == 0) && decide (s.size ≤ 24)) = decide ((s.size : Int) ≤ 24) := by
          have : (s.size == 0) = false := by rw [beq_eq_false_iff_ne]; omega
          rw [this, Bool.not_false, Bool.true_and]
          exact decide_eq_decide.2 (by omega)
        exact ⟨by rw [HN.out, e]; rfl, rfl⟩
      · go_ret
        have e : (!(s.size == 0) && decide (s.size ≤ 24)) = false := by
          have : s.size = 0 := by omega
          rw [this]; rfl
        exact ⟨by rw [HN.out, e]; rfl, rfl⟩
/-- short names -/
def Shrt (x : Spn) : Prop := x.sv.size ≤ 1000000 ∧ x.op.size ≤ 1000000
set_option maxRecDepth 20000 in
theorem rmay_i (x : Spn) (hx : x.Fits) (hs : x.sv.size ≤ 1000000) (ho : x.op.size ≤ 1000000) (w : World) : Calls Tryz.prog 46 #[spnV x] w fun e w' => e = .returned (.int .i64 (mayE x)) ∧ Ext w w' := by
  obtain ⟨wa, hwa⟩ : ∃ wa, wa = w.alloc (.cells (spnC x) 48) := ⟨_, rfl⟩
  have hE : Ext w wa := by rw [hwa]; exact (Keeps.refl _ w).alloc _
  have hN : wa.heap[w.heap.size]? = some (.cells (spnC x) 48 (0, 0)) := by rw [hwa]; exact World.alloc_heap_new w _
  obtain ⟨b, hb⟩ : ∃ b, b = w.heap.size := ⟨_, rfl⟩
  rw [← hb] at hN
  have hc := blk_cell hN
  have HE := Lib.hid hE
  clear hx hE hN
  by_cases h1 : (0 < x.tr ∧ 0 < x.id) ∧ (0 ≤ x.pa ∧ 0 ≤ x.rv)
  · have hm : may x = (named x.sv && (named x.op && (decide (-4611686018427387904 ≤ x.st) && decide (x.st ≤ 4611686018427387903)))) := by
      unfold may; rw [decide_eq_true h1.1.1, decide_eq_true h1.1.2, decide_eq_true h1.2.1, decide_eq_true h1.2.2]; simp only [Bool.true_and, Bool.and_assoc]
    have HM := Lib.hid hm
    clear hm
    obtain ⟨⟨h11, h12⟩, h13, h14⟩ := h1
    go_enter Tryz.func46, Tryz.ntmps46
    go_wp2_with fail
    rw [← hwa, ← hb]
    clear hwa hb
    refine (rname_i x.sv hs _).mono ?_
    rintro e9 w2 ⟨rfl, rfl⟩
    cases hn1 : named x.sv
    · rw [hn1] at HM
      clear hn1
      go_wp2_with fail
      go_ret
      exact ⟨by rw [mayE_f HM.out]; rfl, HE.out⟩
    · rw [hn1] at HM
      clear hn1
      go_wp2_with fail
      refine (rname_i x.op ho _).mono ?_
      rintro e9 w3 ⟨rfl, rfl⟩
      cases hn2 : named x.op
      · rw [hn2] at HM
        clear hn2
        go_wp2_with fail
        go_ret
        exact ⟨by rw [mayE_f HM.out]; rfl, HE.out⟩
      · rw [hn2] at HM
        clear hn2
        by_cases h5 : -4611686018427387904 ≤ x.st
        · by_cases h6 : x.st ≤ 4611686018427387903
          · have HM1 := Lib.hid (mayE_t (x := x) (by rw [HM.out, decide_eq_true h5, decide_eq_true h6]; rfl))
            have h6' : x.st < 4611686018427387904 := by omega
            go_wp2_with fail
            go_ret
            exact ⟨by rw [HM1.out]; rfl, HE.out⟩
          · have HM1 := Lib.hid (mayE_f (x := x) (by rw [HM.out, decide_eq_false h6, Bool.and_false]; rfl))
            have h6' : ¬ x.st < 4611686018427387904 := by omega
            go_wp2_with fail
            go_ret
            exact ⟨by rw [HM1.out]; rfl, HE.out⟩
        · have HM1 := Lib.hid (mayE_f (x := x) (by rw [HM.out, decide_eq_false h5]; rfl))
          have h5' : x.st < -4611686018427387904 := by omega
          go_wp2_with fail
          go_ret
          exact ⟨by rw [HM1.out]; rfl, HE.out⟩
  · have hm : may x = false := by unfold may; simp only [Bool.and_eq_false_iff, decide_eq_false_iff_not]; omega
    have HM := Lib.hid (mayE_f hm)
    clear hm hc
    go_enter Tryz.func46, Tryz.ntmps46
    go_wp2_with fail
    all_goals (go_ret; exact ⟨by rw [HM.out]; rfl, (Keeps.refl _ w).alloc _⟩)
/-- has a record short names? -/
def short (x : Spn) : Bool := decide (x.sv.size ≤ 100) && decide (x.op.size ≤ 100)
theorem short_i (x : Spn) (w : World) : Calls Tryz.prog 30 #[spnV x] w fun e w' => e = .returned (.bool (short x)) ∧ Ext w w' := by
  have HE := Lib.hid (show Ext w (w.alloc (.cells (spnC x) 48)) from (Keeps.refl _ w).alloc _)
  by_cases h1 : (x.sv.size : Int) ≤ 100
  · by_cases h2 : (x.op.size : Int) ≤ 100
    · have HS := Lib.hid (show short x = true from by unfold short; rw [decide_eq_true (by omega), decide_eq_true (by omega)]; rfl)
      go_enter Tryz.func30, Tryz.ntmps30
      go_wp2_with fail
      go_ret
      exact ⟨by rw [HS.out]; rfl, HE.out⟩
    · have HS := Lib.hid (show short x = false from by unfold short; rw [decide_eq_false (p := x.op.size ≤ 100) (by omega), Bool.and_false])
      have h2' : 100 < (x.op.size : Int) := by omega
      go_enter Tryz.func30, Tryz.ntmps30
      go_wp2_with fail
      go_ret
      exact ⟨by rw [HS.out]; rfl, HE.out⟩
  · have HS := Lib.hid (show short x = false from by unfold short; rw [decide_eq_false (p := x.sv.size ≤ 100) (by omega), Bool.false_and])
    have h1' : 100 < (x.sv.size : Int) := by omega
    go_enter Tryz.func30, Tryz.ntmps30
    go_wp2_with fail
    go_ret
    exact ⟨by rw [HS.out]; rfl, HE.out⟩
/-- few records, with short names -/
def fewL (l : List Spn) (most : Nat) : Bool := (l.take most).all short && decide (l.length ≤ most)
set_option maxRecDepth 20000 in
theorem few_i (v : Value) (l : List Spn) (most : Nat) (hm : most ≤ 1000) (w : World) (h : SpnsAt w v l) : Calls Tryz.prog 14 #[v, .int .i64 most] w fun e w' => e = .returned (.bool (fewL l most)) ∧ Ext w w' := by
  have h' := h
  obtain ⟨a, cap, rfl, hn, h0, hju⟩ := h'
  obtain ⟨n, hnl⟩ : ∃ n, n = l.length := ⟨_, rfl⟩
  rw [← hnl] at h hn ⊢
  have HS := Lib.hid (show ∀ wr, Ext w wr → SpnsAt wr (.slice a n cap) l from fun wr k => h.ext k)
  have HNL := Lib.hid hnl
  clear h h0 hju hnl
  go_enter Tryz.func14, Tryz.ntmps14
  go_wp2_with fail
  go_loopg [5] n (fun k p wr => ∃ j : Nat, p = .int .i64 j ∧ j + k = n ∧ j ≤ most ∧ Ext w wr ∧ (l.take j).all short = true)
  case atStart => exact ⟨0, rfl, Nat.zero_add _, Nat.zero_le _, Keeps.refl _ _, rfl⟩
  case round =>
    obtain ⟨j, rfl, hj, hjm, hE, hall⟩ := hrel
    have HA := Lib.hid (And.intro hall hE)
    clear hall
    by_cases hc : (j : Int) < n ∧ (j : Int) < most
    · obtain ⟨hc1, hc2⟩ := hc
      have hjl : j < l.length := by rw [← HNL.out]; omega
      obtain ⟨g, o, rfl, hc9⟩ := (HS.out wr hE).at hjl
      have hy := hc9 j hjl
      obtain ⟨y, hyl⟩ : ∃ y, y = l[j] := ⟨_, rfl⟩
      rw [← hyl] at hy
      unfold C9 at hy
      have htk : l.take (j + 1) = l.take j ++ [y] := by rw [hyl]; exact (List.take_append_getElem hjl).symm
      have hym : y ∈ l.take most := by
        rw [hyl, List.mem_take_iff_getElem]
        exact ⟨j, by omega, rfl⟩
      have HT := Lib.hid (And.intro htk hym)
      clear hc9 hyl htk hym hE
      go_wp2_with fail
      refine (short_i y _).mono ?_
      rintro e9 w2 ⟨rfl, hE2⟩
      have HE2 := Lib.hid (HA.out.2.trans hE2)
      clear hE2 hy
      cases hs : short y
      · have HF := Lib.hid (show fewL l most = false from by
          unfold fewL
          have : (l.take most).all short = false := by rw [List.all_eq_false]; exact ⟨y, HT.out.2, by rw [hs]; simp⟩
          rw [this]; rfl)
        go_wp2_with fail
        go_ret
        exact ⟨by rw [HF.out]; rfl, HE2.out⟩
      · have HF := Lib.hid (show (l.take (j + 1)).all short = true from by rw [HT.out.1, List.all_append, HA.out.1]; simp [hs])
        go_wp2_with fail
        go_roundg (gk - 1)
        case measure => omega
        case rel => exact ⟨j + 1, by simp, by omega, by omega, HE2.out, HF.out⟩
    · have HF := Lib.hid (show fewL l most = decide (n ≤ most) from by
        have hj2 : (l.take most).all short = true := by
          by_cases h : (j : Int) < n
          · have : j = most := by omega
            rw [← this]; exact HA.out.1
          · have : j = l.length := by rw [← HNL.out]; omega
            have h2 := HA.out.1
            rw [this, List.take_length] at h2
            rw [List.all_eq_true] at h2 ⊢
            exact fun x hx => h2 x (List.mem_of_mem_take hx)
        unfold fewL
        rw [hj2, Bool.true_and]
        rw [← HNL.out])
      have HE := Lib.hid hE
      clear hE
      by_cases h1 : (j : Int) < n
      · have h2 : ¬ (j : Int) < most := by omega
        go_wp2_with fail
        go_ret
        exact ⟨by rw [HF.out]; rfl, HE.out⟩
      · go_wp2_with fail
        go_ret
        exact ⟨by rw [HF.out]; rfl, HE.out⟩
theorem dfew_i (vo vi : Value) (lo li : List Spn) (w : World) (ho : SpnsAt w vo lo) (hi : SpnsAt w vi li) : Calls Tryz.prog 8 #[.agg #[vo, vi]] w fun e w' => e = .returned (.bool (fewL lo 12 && fewL li 12)) ∧ Ext w w' := by
  obtain ⟨wa, hwa⟩ : ∃ wa, wa = w.alloc (.cells #[vo, vi] 36) := ⟨_, rfl⟩
  have hE : Ext w wa := by rw [hwa]; exact (Keeps.refl _ w).alloc _
  have hN : wa.heap[w.heap.size]? = some (.cells #[vo, vi] 36 (0, 0)) := by rw [hwa]; exact World.alloc_heap_new w _
  obtain ⟨b, hb⟩ : ∃ b, b = w.heap.size := ⟨_, rfl⟩
  rw [← hb] at hN
  have hc := blk_cell hN
  have H := Lib.hid (And.intro (ho.ext hE) (And.intro (hi.ext hE) (And.intro hE hN)))
  clear ho hi hE hN
  go_enter Tryz.func8, Tryz.ntmps8
  go_wp2_with fail
  rw [← hwa, ← hb]
  clear hwa hb
  refine (few_i vo lo 12 (by decide) _ H.out.1).mono ?_
  rintro e9 w1 ⟨rfl, hE1⟩
  have hc1 := blk_cell ((Ext.same hE1 (lt_of_heap H.out.2.2.2)).trans H.out.2.2.2)
  have HE1 := Lib.hid hE1
  clear hE1 hc
  cases hf : fewL lo 12
  · go_wp2_with fail
    go_ret
    exact ⟨by rw [hf]; rfl, H.out.2.2.1.trans HE1.out⟩
  · have HF := Lib.hid hf
    clear hf
    go_wp2_with fail
    refine (few_i vi li 12 (by decide) _ (H.out.2.1.ext HE1.out)).mono ?_
    rintro e9 w2 ⟨rfl, hE2⟩
    have HE2 := Lib.hid hE2
    clear hE2
    go_wp2_with fail
    go_ret
    exact ⟨by rw [HF.out]; rfl, (H.out.2.2.1.trans HE1.out).trans HE2.out⟩
theorem _root_.Go.Vc.Ek.Reads.at {P : Program} {α : Type} {E : Ek P α} {w : World} {a : Option Addr} {n cap : Nat} {l : List α} (h : E.Reads w (.slice a n cap) l) {j : Nat} (hj : j < l.length) :
    ∃ g o, a = some ⟨g, o, none⟩ ∧ ∀ i (hi : i < l.length) k, k < E.size → w.cell? ⟨g, o + (i * E.size + k), none⟩ = (E.enc l[i])[k]? := by
  have h' := h
  obtain ⟨a1, cap1, e1, _, h0, hc⟩ := h'
  injection e1 with e1 _ _
  subst e1
  cases a with
  | none => rw [h0 rfl] at hj; exact absurd hj (Nat.not_lt_zero _)
  | some ad =>
    obtain ⟨g, o, s⟩ := ad
    obtain rfl := (hc g o s rfl).1 (ne_nil_of_lt hj)
    exact ⟨g, o, rfl, fun i hi k hk => h.elem E i k hi hk⟩
set_option maxRecDepth 20000 in
theorem sameints_i (v u : Value) (l m : List Int) (w : World) (hv : intE.Reads w v l) (hu : intE.Reads w u m) : Calls Tryz.prog 21 #[v, u] w fun e w' => e = .returned (.bool (decide (l = m))) ∧ Ext w w' := by
  have hv' := hv
  have hu' := hu
  obtain ⟨a, cap, rfl, hn, _, hju⟩ := hv'
  obtain ⟨a2, cap2, rfl, hn2, _, hju2⟩ := hu'
  obtain ⟨n, hnl⟩ : ∃ n, n = l.length := ⟨_, rfl⟩
  obtain ⟨n2, hnl2⟩ : ∃ n, n = m.length := ⟨_, rfl⟩
  rw [← hnl] at hv hn ⊢
  rw [← hnl2] at hu hn2 ⊢
  have HS := Lib.hid (And.intro (show ∀ wr, Ext w wr → intE.Reads wr (.slice a n cap) l from fun wr k => hv.ext intE k) (show ∀ wr, Ext w wr → intE.Reads wr (.slice a2 n2 cap2) m from fun wr k => hu.ext intE k))
  have HNL := Lib.hid (And.intro hnl hnl2)
  clear hv hu hju hju2 hnl hnl2
  by_cases hlen : n = n2
  · subst hlen
    go_enter Tryz.func21, Tryz.ntmps21
    go_wp2_with fail
    go_loopg [5] n (fun k p wr => ∃ j : Nat, p = .int .i64 j ∧ j + k = n ∧ Ext w wr ∧ l.take j = m.take j)
    case atStart => exact ⟨0, rfl, Nat.zero_add _, Keeps.refl _ _, rfl⟩
    case round =>
      obtain ⟨j, rfl, hj, hE, hall⟩ := hrel
      by_cases hjn : (j : Int) < n
      · have hjl : j < l.length := by rw [← HNL.out.1]; omega
        have hjm : j < m.length := by rw [← HNL.out.2]; omega
        obtain ⟨g, o, rfl, hc⟩ := (HS.out.1 wr hE).at hjl
        obtain ⟨g2, o2, rfl, hc2⟩ := (HS.out.2 wr hE).at hjm
        obtain ⟨y, hyl⟩ : ∃ y, y = l[j] := ⟨_, rfl⟩
        obtain ⟨z, hzl⟩ : ∃ z, z = m[j] := ⟨_, rfl⟩
        have hy : wr.cell? ⟨g, o + j, none⟩ = some (.int .i64 y) := by have := hc j hjl 0 (by decide); rw [← hyl] at this; simpa [intE] using this
        have hz : wr.cell? ⟨g2, o2 + j, none⟩ = some (.int .i64 z) := by have := hc2 j hjm 0 (by decide); rw [← hzl] at this; simpa [intE] using this
        have HE := Lib.hid (And.intro hE (And.intro hall (And.intro hyl hzl)))
        clear hE hall hyl hzl hc hc2
        by_cases hyz : y = z
        · have hb : (y == z) = true := by rw [hyz]; simp
          have HYZ := Lib.hid hyz
          clear hyz
          go_wp2_with fail
          refine wp_drawE (way [0, 1, 2, 3, 4, 5, 6, 7, 8]) (by kernel_rfl) (by kernel_rfl) (fun w1 hh hd hf hS => ?_)
          have HE1 := Lib.hid (HE.out.1.trans hS)
          simp only [way]
          go_wp2_with (first | (refine' hl_q rfl rfl rfl (fun _ => ?_) ?_; rotate_left; (go_simp <;> (try go_bits) <;> rfl); (try simp only [Act.put, List.setIfInBounds_toArray, List.set_cons_zero, List.set_cons_succ])) | (refine' hl_rS rfl rfl rfl hS ?_ ?_; rotate_left; (intro w9 hS9; (first | have hc9 := Ext.cells hS9 | have hc9 := Keeps.cells hS9); (go_simp <;> rfl)); (try simp only [Act.put, List.setIfInBounds_toArray, List.set_cons_zero, List.set_cons_succ])) | (refine' hl_r rfl rfl rfl ?_ ?_; rotate_left; (rintro w9 (rfl | hS9); (go_simp <;> rfl); (first | have hc9 := Ext.cells hS9 | have hc9 := Keeps.cells hS9 | (try dsimp only at hS9)); (go_simp <;> rfl)); (try simp only [Act.put, List.setIfInBounds_toArray, List.set_cons_zero, List.set_cons_succ])) | (refine' hl_s rfl rfl ?_; (try simp only [Act.put, List.setIfInBounds_toArray, List.set_cons_zero, List.set_cons_succ])) | (refine hl_e rfl rfl rfl (fun K hK => ?_)) | (with_reducible refine And.intro (fun hn => ?_) ?_; (first | exact hS | exact Keeps.alloc hS _ | exact absurd hn (by rw [show needS _ _ = false from by kernel_rfl]; exact Bool.false_ne_true))) | (refine hl_done ?_) | gi_step)
          go_roundg (gk - 1)
          case measure => omega
          case rel => exact ⟨j + 1, by simp, by omega, HE1.out, by rw [← List.take_append_getElem hjl, ← List.take_append_getElem hjm, HE.out.2.1, ← HE.out.2.2.1, ← HE.out.2.2.2, HYZ.out]⟩
        · have hb : (y == z) = false := by simpa using hyz
          have HYZ := Lib.hid hyz
          clear hyz
          go_wp2_with fail
          refine wp_drawE (way [0, 1, 2, 3, 4, 5, 6, 7, 8]) (by kernel_rfl) (by kernel_rfl) (fun w1 hh hd hf hS => ?_)
          have HE1 := Lib.hid (HE.out.1.trans hS)
          simp only [way]
          go_wp2_with (first | (refine' hl_q rfl rfl rfl (fun _ => ?_) ?_; rotate_left; (go_simp <;> (try go_bits) <;> rfl); (try simp only [Act.put, List.setIfInBounds_toArray, List.set_cons_zero, List.set_cons_succ])) | (refine' hl_rS rfl rfl rfl hS ?_ ?_; rotate_left; (intro w9 hS9; (first | have hc9 := Ext.cells hS9 | have hc9 := Keeps.cells hS9); (go_simp <;> rfl)); (try simp only [Act.put, List.setIfInBounds_toArray, List.set_cons_zero, List.set_cons_succ])) | (refine' hl_r rfl rfl rfl ?_ ?_; rotate_left; (rintro w9 (rfl | hS9); (go_simp <;> rfl); (first | have hc9 := Ext.cells hS9 | have hc9 := Keeps.cells hS9 | (try dsimp only at hS9)); (go_simp <;> rfl)); (try simp only [Act.put, List.setIfInBounds_toArray, List.set_cons_zero, List.set_cons_succ])) | (refine' hl_s rfl rfl ?_; (try simp only [Act.put, List.setIfInBounds_toArray, List.set_cons_zero, List.set_cons_succ])) | (refine hl_e rfl rfl rfl (fun K hK => ?_)) | (with_reducible refine And.intro (fun hn => ?_) ?_; (first | exact hS | exact Keeps.alloc hS _ | exact absurd hn (by rw [show needS _ _ = false from by kernel_rfl]; exact Bool.false_ne_true))) | (refine hl_done ?_) | gi_step)
          go_ret
          have e : decide (l = m) = false := by
            rw [decide_eq_false_iff_not]
            rintro rfl
            exact HYZ.out (HE.out.2.2.1.trans HE.out.2.2.2.symm)
          exact ⟨by rw [e]; rfl, HE1.out⟩
      · have HE := Lib.hid (And.intro hE hall)
        clear hE hall
        go_wp2_with fail
        go_ret
        have e : decide (l = m) = true := by
          rw [decide_eq_true_iff]
          have h := HE.out.2
          have e1 : j = l.length := by rw [← HNL.out.1]; omega
          have e2 : j = m.length := by rw [← HNL.out.2]; omega
          conv at h => lhs; rw [e1]
          conv at h => rhs; rw [e2]
          rw [List.take_length, List.take_length] at h; exact h
        exact ⟨by rw [e]; rfl, HE.out.1⟩
  · have hne : ((n : Int) == n2) = false := by rw [beq_eq_false_iff_ne]; omega
    have HL := Lib.hid hlen
    clear hlen
    go_enter Tryz.func21, Tryz.ntmps21
    go_wp2_with fail
    all_goals try (exfalso; have := HL.out; omega)
    go_ret
    have e : decide (l = m) = false := by
      rw [decide_eq_false_iff_not]
      rintro rfl
      exact HL.out (HNL.out.1.trans HNL.out.2.symm)
    exact ⟨by rw [e]; rfl, Keeps.refl _ _⟩
end Go.Proofs.YtdonmmjikcbihaaGreatDoor
/- The document's answers for entry. -/
namespace Go.Proofs.YtdonmmjikcbihaaGreatDoor
open Go.RowKit Go.Proofs Go.Vc
attribute [local irreducible] Calls CallsIn Code.wp Code.wpIn
theorem one_i (x y : Spn) (w : World) : Calls Tryz.prog 26 #[spnV x, spnV y] w fun e w' => e = .returned (.bool (alike x y)) ∧ Ext w w' := by
  obtain ⟨wa, hwa⟩ : ∃ wa, wa = (w.alloc (.cells (spnC x) 48)).alloc (.cells (spnC y) 48) := ⟨_, rfl⟩
  have HE := Lib.hid (show Ext w wa from by rw [hwa]; exact ((Keeps.refl _ w).alloc _).alloc _)
  have hb : ∀ a b : ByteArray, (a.toList == b.toList) = decide (a = b) := fun a b => by
    by_cases h : a = b
    · rw [h]; simp
    · rw [decide_eq_false h, beq_eq_false_iff_ne]; exact fun e => h (bytes_ext e)
  have h1 := hb x.sv y.sv
  have h2 := hb x.op y.op
  clear hb
  have HA := Lib.hid (show alike x y = (decide (x.sv = y.sv) && (decide (x.op = y.op) && decide (x.tr = y.tr))) from by
    unfold alike trip
    simp only [Prod.mk.injEq, Bool.decide_and])
  cases c1 : decide (x.sv = y.sv)
  · rw [c1] at h1 HA
    clear c1
    go_enter Tryz.func26, Tryz.ntmps26
    go_wp2_with fail
    go_ret
    exact ⟨by rw [HA.out]; rfl, by rw [← hwa]; exact HE.out⟩
  · rw [c1] at h1 HA
    clear c1
    cases c2 : decide (x.op = y.op)
    · rw [c2] at h2 HA
      clear c2
      go_enter Tryz.func26, Tryz.ntmps26
      go_wp2_with fail
      go_ret
      exact ⟨by rw [HA.out]; rfl, by rw [← hwa]; exact HE.out⟩
    · rw [c2] at h2 HA
      clear c2
      by_cases c3 : x.tr = y.tr
      · have hb3 : (x.tr == y.tr) = true := by rw [c3]; simp
        have HC := Lib.hid (decide_eq_true c3)
        clear c3
        go_enter Tryz.func26, Tryz.ntmps26
        go_wp2_with fail
        go_ret
        exact ⟨by rw [HA.out, HC.out]; rfl, by rw [← hwa]; exact HE.out⟩
      · have hb3 : (x.tr == y.tr) = false := by rw [beq_eq_false_iff_ne]; exact c3
        have HC := Lib.hid (decide_eq_false c3)
        clear c3
        go_enter Tryz.func26, Tryz.ntmps26
        go_wp2_with fail
        go_ret
        exact ⟨by rw [HA.out, HC.out]; rfl, by rw [← hwa]; exact HE.out⟩
set_option maxRecDepth 20000 in
theorem rmayl_i (v : Value) (l : List Spn) (w : World) (h : SpnsAt w v l) (hf : ∀ x ∈ l, x.Fits ∧ Shrt x) : Calls Tryz.prog 25 #[v] w fun e w' => e = .returned (.bool (l.all may)) ∧ Ext w w' := by
  have h' := h
  obtain ⟨a, cap, rfl, hn, h0, hju⟩ := h'
  obtain ⟨n, hnl⟩ : ∃ n, n = l.length := ⟨_, rfl⟩
  rw [← hnl] at h hn ⊢
  have HS := Lib.hid (And.intro (show ∀ wr, Ext w wr → SpnsAt wr (.slice a n cap) l from fun wr k => h.ext k) hf)
  have HNL := Lib.hid hnl
  clear h h0 hju hnl hf
  go_enter Tryz.func25, Tryz.ntmps25
  go_wp2_with fail
  go_loopg [3] n (fun k p wr => ∃ j : Nat, p = .int .i64 j ∧ j + k = n ∧ Ext w wr ∧ (l.take j).all may = true)
  case atStart => exact ⟨0, rfl, Nat.zero_add _, Keeps.refl _ _, rfl⟩
  case round =>
    obtain ⟨j, rfl, hj, hE, hall⟩ := hrel
    have HA := Lib.hid (And.intro hall hE)
    clear hall
    by_cases hc1 : (j : Int) < n
    · have hjl : j < l.length := by rw [← HNL.out]; omega
      obtain ⟨g, o, rfl, hc9⟩ := (HS.out.1 wr hE).at hjl
      have hy := hc9 j hjl
      obtain ⟨y, hyl⟩ : ∃ y, y = l[j] := ⟨_, rfl⟩
      rw [← hyl] at hy
      unfold C9 at hy
      have HT := Lib.hid (And.intro (show l.take (j + 1) = l.take j ++ [y] from by rw [hyl]; exact (List.take_append_getElem hjl).symm) (show y ∈ l from by rw [hyl]; exact List.getElem_mem hjl))
      clear hc9 hyl hE
      go_wp2_with fail
      refine (rmay_i y (HS.out.2 y HT.out.2).1 (HS.out.2 y HT.out.2).2.1 (HS.out.2 y HT.out.2).2.2 _).mono ?_
      rintro e9 w2 ⟨rfl, hE2⟩
      have HE2 := Lib.hid (HA.out.2.trans hE2)
      clear hE2 hy
      cases hs : may y
      · have HF := Lib.hid (show l.all may = false from by rw [List.all_eq_false]; exact ⟨y, HT.out.2, by rw [hs]; simp⟩)
        rw [mayE_f hs]
        clear hs
        go_wp2_with fail
        go_ret
        exact ⟨by rw [HF.out]; rfl, HE2.out⟩
      · have HF := Lib.hid (show (l.take (j + 1)).all may = true from by rw [HT.out.1, List.all_append, HA.out.1]; simp [hs])
        rw [mayE_t hs]
        clear hs
        go_wp2_with fail
        go_roundg (gk - 1)
        case measure => omega
        case rel => exact ⟨j + 1, by simp, by omega, HE2.out, HF.out⟩
    · have HF := Lib.hid (show l.all may = true from by
        have h2 := HA.out.1
        have : j = l.length := by rw [← HNL.out]; omega
        rw [this, List.take_length] at h2; exact h2)
      have HE := Lib.hid hE
      clear hE
      go_wp2_with fail
      go_ret
      exact ⟨by rw [HF.out]; rfl, HE.out⟩
end Go.Proofs.YtdonmmjikcbihaaGreatDoor
/- The document's answers for entry: Apply. -/
namespace Go.Proofs.YtdonmmjikcbihaaGreatDoor
open Go.RowKit Go.Proofs Go.Vc
attribute [local irreducible] Calls CallsIn Code.wp Code.wpIn
theorem rOut_cons {L L' : List Spn} {x : Spn} (l : List Spn) (h : takeOut L x = some L') : rOut L (x :: l) = rOut L' l := by simp only [rOut]; rw [h]
theorem rOut_none {L : List Spn} {x : Spn} (l : List Spn) (h : takeOut L x = none) : rOut L (x :: l) = none := by simp only [rOut]; rw [h]
theorem rIn_snoc (L l : List Spn) (x : Spn) : rIn L (l ++ [x]) = addIn (rIn L l) x := by unfold rIn; rw [List.foldl_append]; rfl
theorem takeOut_len {L L' : List Spn} {x : Spn} (h : takeOut L x = some L') : L'.length ≤ L.length := by
  unfold takeOut at h
  split at h
  · split at h
    · injection h with h; rw [← h]; exact List.length_eraseP_le
    · cases h
  · injection h with h; rw [h]; exact Nat.le_refl _
theorem rIn_len (L : List Spn) : ∀ l : List Spn, (rIn L l).length ≤ L.length + l.length := by
  intro l
  induction l generalizing L with
  | nil => exact Nat.le_refl _
  | cons x l ih =>
    have h1 := ih (addIn L x)
    have h2 : (addIn L x).length ≤ L.length + 1 := by unfold addIn; split <;> simp
    show (rIn (addIn L x) l).length ≤ _
    rw [List.length_cons]; omega
theorem erase_add {p : Spn → Bool} (y : Spn) : ∀ l : List Spn, (l.any p = true ∨ p y = false) → (l ++ [y]).eraseP p = l.eraseP p ++ [y]
  | [], h => by
    have hy : p y = false := by simpa using h
    rw [List.nil_append, List.eraseP_cons_of_neg (by rw [hy]; simp)]; rfl
  | a :: l, h => by
    by_cases ha : p a = true
    · rw [List.cons_append, List.eraseP_cons_of_pos ha, List.eraseP_cons_of_pos ha]
    · rw [List.cons_append, List.eraseP_cons_of_neg ha, List.eraseP_cons_of_neg ha, erase_add y l (by rw [List.any_cons] at h; simpa [ha] using h)]; rfl
theorem erase_hit {p : Spn → Bool} {y : Spn} (hy : p y = true) : ∀ l : List Spn, l.any p = false → (l ++ [y]).eraseP p = l.eraseP p
  | [], _ => by rw [List.nil_append, List.eraseP_cons_of_pos hy]; rfl
  | a :: l, h => by
    rw [List.any_cons, Bool.or_eq_false_iff] at h
    rw [List.cons_append, List.eraseP_cons_of_neg (by rw [h.1]; simp), List.eraseP_cons_of_neg (by rw [h.1]; simp), erase_hit hy l h.2]
/-- what the document's Apply leaves -/
def RApPost (ty : TypeId) (b : Nat) (vL : Value) (L out inn : List Spn) (w : World) (e : Ending) (w' : World) : Prop :=
  e = .returned (.bool (rApply L out inn).2) ∧ (∃ vL', w'.heap[b]? = some (.cells #[vL'] ty (0, 0)) ∧ SpnsAt w' vL' (rApply L out inn).1 ∧ (vL' = vL ∨ ∀ g, slBlock vL' = some g → w.heap.size ≤ g)) ∧ Keeps (fun i => i = b) w w'
set_option maxHeartbeats 2000000 in
set_option maxRecDepth 20000 in
theorem rapply_i (ty : TypeId) (b : Nat) (vL vo vi : Value) (L out inn : List Spn) (w : World) (hb : w.heap[b]? = some (.cells #[vL] ty (0, 0))) (hL : SpnsAt w vL L) (ho : SpnsAt w vo out) (hi : SpnsAt w vi inn)
    (hbL : slBlock vL ≠ some b) (hfo : ∀ x ∈ out, x.Fits ∧ Shrt x) (hfi : ∀ x ∈ inn, x.Fits ∧ Shrt x) (hlL : L.length ≤ 10000) (hlo : out.length ≤ 100) (hli : inn.length ≤ 100) :
    Calls Tryz.prog 10 #[.pointer (some ⟨b, 0, none⟩), .agg #[vo, vi]] w (RApPost ty b vL L out inn w) := by
  have ho' := ho
  have hi' := hi
  obtain ⟨ao, capo, rfl, hno, h0o, hju⟩ := ho'
  obtain ⟨ai, capi, rfl, hni, h0i, hjv⟩ := hi'
  obtain ⟨no, hnl⟩ : ∃ n, n = out.length := ⟨_, rfl⟩
  obtain ⟨ni, hnl2⟩ : ∃ n, n = inn.length := ⟨_, rfl⟩
  rw [← hnl] at ho
  rw [← hnl2] at hi
  rw [← hnl, ← hnl2]
  have HNL := Lib.hid (And.intro hnl hnl2)
  have hno2 : (no : Int) ≤ 100 := by omega
  have hni2 : (ni : Int) ≤ 100 := by omega
  clear hno h0o hni h0i hnl hnl2 hju hjv
  obtain ⟨wa, hwa⟩ : ∃ wa, wa = w.alloc (.cells #[.slice ao no capo, .slice ai ni capi] 36) := ⟨_, rfl⟩
  have hE : Ext w wa := by rw [hwa]; exact (Keeps.refl _ w).alloc _
  have hNw : wa.heap[w.heap.size]? = some (.cells #[.slice ao no capo, .slice ai ni capi] 36 (0, 0)) := by rw [hwa]; exact World.alloc_heap_new w _
  obtain ⟨c, hc0⟩ : ∃ c, c = w.heap.size := ⟨_, rfl⟩
  rw [← hc0] at hNw
  have HO := Lib.hid (show ∀ wr, Ext wa wr → SpnsAt wr (.slice ao no capo) out from fun wr k => (ho.ext hE).ext k)
  have HI := Lib.hid (show ∀ wr, Ext wa wr → SpnsAt wr (.slice ai ni capi) inn from fun wr k => (hi.ext hE).ext k)
  have HF := Lib.hid (And.intro hfo (And.intro hfi (And.intro hlo (And.intro hli hlL))))
  have HC := Lib.hid (show ∀ wr, Ext wa wr → wr.heap[c]? = some (.cells #[.slice ao no capo, .slice ai ni capi] 36 (0, 0)) ∧ wr.heap[b]? = some (.cells #[vL] ty (0, 0)) from fun wr k => ⟨(Ext.same k (lt_of_heap hNw)).trans hNw, (Ext.same (hE.trans k) (lt_of_heap hb)).trans hb⟩)
  have HLL := Lib.hid (And.intro (hL.ext hE) (And.intro hE hbL))
  have HCW := Lib.hid hc0
  have hcw := blk_cell hNw
  clear hE ho hi hfo hfi hlo hli hNw hb hL hlL hbL
  obtain ⟨ro, hro⟩ : ∃ r, r = out.all may := ⟨_, rfl⟩
  obtain ⟨ri, hri⟩ : ∃ r, r = inn.all may := ⟨_, rfl⟩
  have HR := Lib.hid (And.intro hro hri)
  have HQ0 := Lib.hid (show ∀ wr r, Ext wa wr → (rApply L out inn) = (L, r) → RApPost ty b vL L out inn w (.returned (.bool r)) wr from fun wr r k hr => by
    unfold RApPost
    rw [hr]
    exact ⟨rfl, ⟨vL, (HC.out wr k).2, HLL.out.1.ext k, .inl rfl⟩, (HLL.out.2.1.trans k).mono fun _ _ hf => hf.elim⟩)
  go_enter Tryz.func10, Tryz.ntmps10
  go_wp2_with fail
  rw [← hwa, ← hc0]
  clear hwa hc0
  refine (rmayl_i (.slice ao no capo) out _ (HO.out wa (Keeps.refl _ wa)) HF.out.1).mono ?_
  rintro e9 w1 ⟨rfl, hE1⟩
  rw [← hro]
  have HE1 := Lib.hid hE1
  have hc1 := blk_cell (HC.out w1 hE1).1
  clear hE1 hro
  cases ro
  · go_wp2_with fail
    go_ret
    exact HQ0.out _ _ HE1.out (by unfold rApply; rw [← HR.out.1, Bool.false_and]; rfl)
  go_wp2_with fail
  refine (rmayl_i (.slice ai ni capi) inn _ (HI.out w1 HE1.out) HF.out.2.1).mono ?_
  rintro e9 w2 ⟨rfl, hE2⟩
  rw [← hri]
  have HE2 := Lib.hid (HE1.out.trans hE2)
  have hc2 := blk_cell (HC.out w2 HE2.out).1
  clear hE2 hri hc1 hcw
  cases ri
  · go_wp2_with fail
    go_ret
    exact HQ0.out _ _ HE2.out (by unfold rApply; rw [← HR.out.2, Bool.and_false]; rfl)
  have HVA := Lib.hid (show rApply L out inn = (match rOut L out with | some L' => (rIn L' inn, true) | none => (L, false)) from by unfold rApply; rw [← HR.out.1, ← HR.out.2]; rfl)
  have hb2 := blk_cell (HC.out w2 HE2.out).2
  go_wp2_with fail
  go_loopg [5, 6] no (fun k p5 p6 wr => ∃ (j : Nat) (Lj : List Spn), p6 = .int .i64 j ∧ j + k = no ∧ Ext wa wr ∧ SpnsAt wr p5 Lj ∧ Lj.length ≤ L.length ∧ rOut L out = rOut Lj (out.drop j))
  case atStart => exact ⟨0, L, rfl, Nat.zero_add _, HE2.out, HLL.out.1.ext HE2.out, Nat.le_refl _, by simp⟩
  case round =>
    obtain ⟨j, Lj, rfl, hj, hE, hSj, hlen, hro⟩ := hrel
    have hSj' := hSj
    obtain ⟨aj, capj, rfl, hnj, _, hjk⟩ := hSj'
    obtain ⟨nj, hnjl⟩ : ∃ n, n = Lj.length := ⟨_, rfl⟩
    rw [← hnjl] at hSj hnj
    rw [← hnjl]
    clear hjk
    have hcr := blk_cell (HC.out wr hE).1
    have hbr := blk_cell (HC.out wr hE).2
    by_cases hjn : (j : Int) < no
    · have hjl : j < out.length := by rw [← HNL.out.1]; omega
      obtain ⟨g, o, rfl, hc9⟩ := (HO.out wr hE).at hjl
      have hy := hc9 j hjl
      obtain ⟨x, hxl⟩ : ∃ x, x = out[j] := ⟨_, rfl⟩
      rw [← hxl] at hy
      have HX := Lib.hid (And.intro (show ∀ wr, Ext wa wr → C9 wr g (o + j * 9) x from fun wr k => by
        have h9 := (HO.out wr k).at hjl
        obtain ⟨g', o', e', h9⟩ := h9
        injection e' with e'
        injection e' with e1 e2 _
        subst e1; subst e2
        rw [hxl]; exact h9 j hjl) (show out.drop j = x :: out.drop (j + 1) from by rw [hxl]; exact List.drop_eq_getElem_cons hjl))
      unfold C9 at hy
      have HJ := Lib.hid (And.intro hE (And.intro hSj (And.intro hnjl (And.intro hlen hro))))
      clear hc9 hxl hE hSj hnjl hlen hro
      by_cases hp : x.pa = 0
      · have hp3 : (x.pa != 0) = false := by simpa using hp
        have HP := Lib.hid hp
        clear hp
        go_wp2_with fail
        obtain ⟨w0, hw0⟩ : ∃ w0, w0 = wr := ⟨_, rfl⟩
        subst hw0
        obtain ⟨gk0, hgk0⟩ : ∃ g, g = gk := ⟨_, rfl⟩
        subst hgk0
        go_loopg [7, 8, 9] nj (fun k p7 p8 p9 wq => ∃ (i : Nat), p9 = .int .i64 i ∧ i + k = nj ∧ Ext w0 wq ∧ spnE.Own w0.heap.size p7 ((Lj.take i).eraseP fun y => alike y x) wq ∧ p8 = .bool ((Lj.take i).any fun y => alike y x))
        case atStart => exact ⟨0, rfl, Nat.zero_add _, Keeps.refl _ _, Ek.Own.nil spnE _ _, rfl⟩
        case round =>
          obtain ⟨i, rfl, hi, hEq, hown, rfl⟩ := hrel
          obtain ⟨gone, hgo⟩ : ∃ gn, gn = (Lj.take i).any fun y => alike y x := ⟨_, rfl⟩
          rw [← hgo]
          have hEw := HJ.out.1.trans hEq
          by_cases hij : (i : Int) < nj
          · have hil : i < Lj.length := by rw [← HJ.out.2.2.1]; omega
            obtain ⟨g2, o2, rfl, hc92⟩ := (HJ.out.2.1.ext hEq).at hil
            have hz := hc92 i hil
            obtain ⟨y, hyl⟩ : ∃ y, y = Lj[i] := ⟨_, rfl⟩
            rw [← hyl] at hz
            have hx := HX.out.1 wr hEw
            have hcq := blk_cell (HC.out wr hEw).1
            have HZ := Lib.hid (And.intro hz (And.intro hx (And.intro (HC.out wr hEw).1 (And.intro hEw (And.intro hEq (And.intro hown (And.intro hgo (show Lj.take (i + 1) = Lj.take i ++ [y] from by rw [hyl]; exact (List.take_append_getElem hil).symm))))))))
            unfold C9 at hz hx
            clear hc92 hyl hEw hEq hown hgo hy hcr hbr
            have hcap : i < 100000 := by have := HF.out.2.2.2.2; have := HJ.out.2.2.2.1; omega
            cases gone
            · go_wp2_with fail
              refine wp_drawE (way [0, 1, 2, 3, 4, 5, 6, 7, 8, 9, 10, 11, 12, 13]) (by kernel_rfl) (by kernel_rfl) (fun w1 hh hd hf hS => ?_)
              have hz1 := HZ.out.1.keeps hS (fun hf => hf)
              have hx1 := HZ.out.2.1.keeps hS (fun hf => hf)
              have hc1 := blk_cell ((Ext.same hS (lt_of_heap HZ.out.2.2.1)).trans HZ.out.2.2.1)
              unfold C9 at hz1 hx1
              simp only [way]
              go_wp2_with (first | (refine' hl_q rfl rfl rfl (fun _ => ?_) ?_; rotate_left; (go_simp <;> (try go_bits) <;> rfl); (try simp only [Act.put, List.setIfInBounds_toArray, List.set_cons_zero, List.set_cons_succ])) | (refine' hl_rS rfl rfl rfl hS ?_ ?_; rotate_left; (intro w9 hS9; (first | have hc9 := Ext.cells hS9 | have hc9 := Keeps.cells hS9); (go_simp <;> rfl)); (try simp only [Act.put, List.setIfInBounds_toArray, List.set_cons_zero, List.set_cons_succ])) | (refine' hl_r rfl rfl rfl ?_ ?_; rotate_left; (rintro w9 (rfl | hS9); (go_simp <;> rfl); (first | have hc9 := Ext.cells hS9 | have hc9 := Keeps.cells hS9 | (try dsimp only at hS9)); (go_simp <;> rfl)); (try simp only [Act.put, List.setIfInBounds_toArray, List.set_cons_zero, List.set_cons_succ])) | (refine' hl_s rfl rfl ?_; (try simp only [Act.put, List.setIfInBounds_toArray, List.set_cons_zero, List.set_cons_succ])) | (refine hl_e rfl rfl rfl (fun K hK => ?_)) | (with_reducible refine And.intro (fun hn => ?_) ?_; (first | exact hS | exact Keeps.alloc hS _ | exact absurd hn (by rw [show needS _ _ = false from by kernel_rfl]; exact Bool.false_ne_true))) | (refine hl_done ?_) | gi_step)
              refine callsIn_wide.2 ((one_i y x _).mono ?_)
              rintro e9 w3 ⟨rfl, hE3⟩
              have hS3 := hS.trans hE3
              clear hS hE3
              have hS := hS3
              clear hS3 hz1 hx1 hc1 hh hd hf
              have hz3 := HZ.out.1.keeps hS (fun hf => hf)
              unfold C9 at hz3
              have HE3 := Lib.hid (HZ.out.2.2.2.2.1.trans hS)
              have HOW := Lib.hid (HZ.out.2.2.2.2.2.1.ext spnE hS)
              cases hal : alike y x
              · have HAL := Lib.hid hal
                clear hal
                go_wp2_with (first | (at_builtin; (refine Ek.app' spnE rfl _ _ rfl w0.heap.size u7 ((Lj.take i).eraseP fun y => alike y x) [y] rfl (HOW.out.ext spnE ((Keeps.refl _ _).alloc _)) (Ek.reads_new spnE _ y _ _ rfl) ?c1 ?c2 ?_)) | (refine' hl_q rfl rfl rfl (fun _ => ?_) ?_; rotate_left; (go_simp <;> (try go_bits) <;> rfl); (try simp only [Act.put, List.setIfInBounds_toArray, List.set_cons_zero, List.set_cons_succ])) | (refine' hl_rS rfl rfl rfl hS ?_ ?_; rotate_left; (intro w9 hS9; (first | have hc9 := Ext.cells hS9 | have hc9 := Keeps.cells hS9); (go_simp <;> rfl)); (try simp only [Act.put, List.setIfInBounds_toArray, List.set_cons_zero, List.set_cons_succ])) | (refine' hl_r rfl rfl rfl ?_ ?_; rotate_left; (rintro w9 (rfl | hS9); (go_simp <;> rfl); (first | have hc9 := Ext.cells hS9 | have hc9 := Keeps.cells hS9 | (try dsimp only at hS9)); (go_simp <;> rfl)); (try simp only [Act.put, List.setIfInBounds_toArray, List.set_cons_zero, List.set_cons_succ])) | (refine' hl_s rfl rfl ?_; (try simp only [Act.put, List.setIfInBounds_toArray, List.set_cons_zero, List.set_cons_succ])) | (refine hl_e rfl rfl rfl (fun K hK => ?_)) | (with_reducible refine And.intro (fun hn => ?_) ?_; (first | exact hS | exact Keeps.alloc hS _ | exact absurd hn (by rw [show needS _ _ = false from by kernel_rfl]; exact Bool.false_ne_true))) | (refine hl_done ?_) | gi_step)
                case c1 =>
                  have h1 : ((Lj.take i).eraseP fun y => alike y x).length ≤ (Lj.take i).length := List.length_eraseP_le
                  rw [List.length_take] at h1
                  simp only [List.length_singleton]; omega
                case c2 =>
                  exact Nat.le_trans HE3.out.size ((Keeps.refl Non w3).alloc _).size
                intro v8 w8 hown8 hgr8 _ _
                have H8 := Lib.hid (And.intro hown8 (HOW.out.grow spnE HE3.out (Nat.le_refl _) (⟨Nat.le_trans ((Keeps.refl Non w3).alloc (.cells (spnC y) 48)).size hgr8.size, fun i hi hf => (hgr8.same i (Nat.lt_of_lt_of_le hi ((Keeps.refl Non w3).alloc (.cells (spnC y) 48)).size) hf).trans (Ext.same ((Keeps.refl Non w3).alloc (.cells (spnC y) 48)) hi), (((Keeps.refl Non w3).alloc (.cells (spnC y) 48)).ost).trans hgr8.ost⟩)))
                clear hown8 hgr8
                go_wp2_with fail
                go_roundg (gk - 1)
                case measure => omega
                case rel => exact ⟨i + 1, by simp, by omega, H8.out.2, by rw [HZ.out.2.2.2.2.2.2.2, erase_add y _ (.inr HAL.out)]; exact H8.out.1, by rw [HZ.out.2.2.2.2.2.2.2, List.any_append, ← HZ.out.2.2.2.2.2.2.1]; simp [HAL.out]⟩
              · have HAL := Lib.hid hal
                clear hal
                go_wp2_with (first | (refine' hl_q rfl rfl rfl (fun _ => ?_) ?_; rotate_left; (go_simp <;> (try go_bits) <;> rfl); (try simp only [Act.put, List.setIfInBounds_toArray, List.set_cons_zero, List.set_cons_succ])) | (refine' hl_rS rfl rfl rfl hS ?_ ?_; rotate_left; (intro w9 hS9; (first | have hc9 := Ext.cells hS9 | have hc9 := Keeps.cells hS9); (go_simp <;> rfl)); (try simp only [Act.put, List.setIfInBounds_toArray, List.set_cons_zero, List.set_cons_succ])) | (refine' hl_r rfl rfl rfl ?_ ?_; rotate_left; (rintro w9 (rfl | hS9); (go_simp <;> rfl); (first | have hc9 := Ext.cells hS9 | have hc9 := Keeps.cells hS9 | (try dsimp only at hS9)); (go_simp <;> rfl)); (try simp only [Act.put, List.setIfInBounds_toArray, List.set_cons_zero, List.set_cons_succ])) | (refine' hl_s rfl rfl ?_; (try simp only [Act.put, List.setIfInBounds_toArray, List.set_cons_zero, List.set_cons_succ])) | (refine hl_e rfl rfl rfl (fun K hK => ?_)) | (with_reducible refine And.intro (fun hn => ?_) ?_; (first | exact hS | exact Keeps.alloc hS _ | exact absurd hn (by rw [show needS _ _ = false from by kernel_rfl]; exact Bool.false_ne_true))) | (refine hl_done ?_) | gi_step)
                go_roundg (gk - 1)
                case measure => omega
                case rel => exact ⟨i + 1, by simp, by omega, HE3.out, by rw [HZ.out.2.2.2.2.2.2.2, erase_hit (p := fun y => alike y x) HAL.out _ HZ.out.2.2.2.2.2.2.1.symm]; exact HOW.out, by rw [HZ.out.2.2.2.2.2.2.2, List.any_append]; simp [HAL.out]⟩
            · go_wp2_with fail
              refine wp_drawE (way [0, 1, 2, 3, 4, 5, 6, 7, 8, 9, 10, 11, 12, 13]) (by kernel_rfl) (by kernel_rfl) (fun w1 hh hd hf hS => ?_)
              have HE3 := Lib.hid (HZ.out.2.2.2.2.1.trans hS)
              have HOW := Lib.hid (HZ.out.2.2.2.2.2.1.ext spnE hS)
              have hz1 := HZ.out.1.keeps hS (fun hf => hf)
              unfold C9 at hz1
              clear hh hd hf
              simp only [way]
              go_wp2_with (first | (at_builtin; refine Ek.app' spnE rfl _ _ rfl w0.heap.size u7 ((Lj.take i).eraseP fun y => alike y x) [y] rfl (HOW.out.ext spnE ((Keeps.refl _ _).alloc _)) (Ek.reads_new spnE _ y _ _ rfl) ?c1 ?c2 ?_) | (refine' hl_q rfl rfl rfl (fun _ => ?_) ?_; rotate_left; (go_simp <;> (try go_bits) <;> rfl); (try simp only [Act.put, List.setIfInBounds_toArray, List.set_cons_zero, List.set_cons_succ])) | (refine' hl_rS rfl rfl rfl hS ?_ ?_; rotate_left; (intro w9 hS9; (first | have hc9 := Ext.cells hS9 | have hc9 := Keeps.cells hS9); (go_simp <;> rfl)); (try simp only [Act.put, List.setIfInBounds_toArray, List.set_cons_zero, List.set_cons_succ])) | (refine' hl_r rfl rfl rfl ?_ ?_; rotate_left; (rintro w9 (rfl | hS9); (go_simp <;> rfl); (first | have hc9 := Ext.cells hS9 | have hc9 := Keeps.cells hS9 | (try dsimp only at hS9)); (go_simp <;> rfl)); (try simp only [Act.put, List.setIfInBounds_toArray, List.set_cons_zero, List.set_cons_succ])) | (refine' hl_s rfl rfl ?_; (try simp only [Act.put, List.setIfInBounds_toArray, List.set_cons_zero, List.set_cons_succ])) | (refine hl_e rfl rfl rfl (fun K hK => ?_)) | (with_reducible refine And.intro (fun hn => ?_) ?_; (first | exact hS | exact Keeps.alloc hS _ | exact absurd hn (by rw [show needS _ _ = false from by kernel_rfl]; exact Bool.false_ne_true))) | (refine hl_done ?_) | gi_step)
              case c1 =>
                have h1 : ((Lj.take i).eraseP fun y => alike y x).length ≤ (Lj.take i).length := List.length_eraseP_le
                rw [List.length_take] at h1
                simp only [List.length_singleton]; omega
              case c2 =>
                exact Nat.le_trans HE3.out.size ((Keeps.refl Non w1).alloc _).size
              intro v8 w8 hown8 hgr8 _ _
              have H8 := Lib.hid (And.intro hown8 (HOW.out.grow spnE HE3.out (Nat.le_refl _) (⟨Nat.le_trans ((Keeps.refl Non w1).alloc (.cells (spnC y) 48)).size hgr8.size, fun i hi hf => (hgr8.same i (Nat.lt_of_lt_of_le hi ((Keeps.refl Non w1).alloc (.cells (spnC y) 48)).size) hf).trans (Ext.same ((Keeps.refl Non w1).alloc (.cells (spnC y) 48)) hi), (((Keeps.refl Non w1).alloc (.cells (spnC y) 48)).ost).trans hgr8.ost⟩)))
              clear hown8 hgr8
              go_wp2_with fail
              go_roundg (gk - 1)
              case measure => omega
              case rel => exact ⟨i + 1, by simp, by omega, H8.out.2, by rw [HZ.out.2.2.2.2.2.2.2, erase_add y _ (.inl HZ.out.2.2.2.2.2.2.1.symm)]; exact H8.out.1, by rw [HZ.out.2.2.2.2.2.2.2, List.any_append, ← HZ.out.2.2.2.2.2.2.1]; rfl⟩
          · have hie : i = Lj.length := by rw [← HJ.out.2.2.1]; omega
            have htake : Lj.take i = Lj := by rw [hie, List.take_length]
            rw [htake] at hown hgo
            have HOW := Lib.hid (And.intro hown (And.intro hEw hEq))
            clear hown htake hEw hEq hy hcr hbr
            cases gone
            · have HN := Lib.hid (show rApply L out inn = (L, false) from by
                rw [HVA.out, HJ.out.2.2.2.2, HX.out.2, rOut_none]
                unfold takeOut; rw [if_pos HP.out, if_neg (by rw [← hgo]; simp)])
              clear hgo
              go_wp2_with fail
              go_ret
              exact HQ0.out _ _ HOW.out.2.1 HN.out
            · have hto : takeOut Lj x = some (Lj.eraseP fun y => alike y x) := by unfold takeOut; rw [if_pos HP.out, if_pos hgo.symm]
              have HN := Lib.hid (And.intro (show rOut L out = rOut (Lj.eraseP fun y => alike y x) (out.drop (j + 1)) from by rw [HJ.out.2.2.2.2, HX.out.2, rOut_cons _ hto]) (Nat.le_trans (takeOut_len hto) HJ.out.2.2.2.1))
              clear hgo hto
              go_wp2_with fail
              go_roundg (gk0 - 1)
              case measure => omega
              case rel => exact ⟨j + 1, _, by simp, by omega, HOW.out.2.1, spns_of_own HOW.out.1 (by have := HN.out.2; have := HF.out.2.2.2.2; omega), HN.out.2, HN.out.1⟩
      · have hp3 : (x.pa != 0) = true := by simpa using hp
        have HN := Lib.hid (show rOut L out = rOut Lj (out.drop (j + 1)) from by rw [HJ.out.2.2.2.2, HX.out.2, rOut_cons]; unfold takeOut; rw [if_neg hp])
        clear hp
        go_wp2_with fail
        go_roundg (gk - 1)
        case measure => omega
        case rel => exact ⟨j + 1, Lj, by simp, by omega, HJ.out.1, by have := HJ.out.2.1; exact this, HJ.out.2.2.2.1, HN.out⟩
    · have hje : j = out.length := by rw [← HNL.out.1]; omega
      have HN := Lib.hid (show rApply L out inn = (rIn Lj inn, true) from by rw [HVA.out, hro, hje, List.drop_length]; rfl)
      have HJ := Lib.hid (And.intro hE (And.intro hSj (And.intro hnjl hlen)))
      clear hro hE hSj hnjl hlen hc2 hb2 hje
      go_wp2_with (at_builtin; refine Ek.app' spnE rfl _ _ rfl wr.heap.size (.slice none 0 0) [] Lj rfl (Ek.Own.nil spnE _ _) (reads_of_spns HJ.out.2.1) ?c1 ?c2 ?_)
      case c1 => have := HF.out.2.2.2.2; have := HJ.out.2.2.2; simp; omega
      intro v8 w8 hown8 hgr8 _ _
      have H8 := Lib.hid (And.intro (show spnE.Own wr.heap.size v8 (rIn Lj (inn.take 0)) w8 from hown8) (And.intro ((Ek.Own.nil spnE wr.heap.size wr).grow spnE (HJ.out.1) (HJ.out.1.size) hgr8) hgr8.size))
      clear hown8 hgr8 hcr hbr
      have hc8 := blk_cell (HC.out w8 H8.out.2.1).1
      obtain ⟨w0, hw0⟩ : ∃ w0, w0 = wr := ⟨_, rfl⟩
      subst hw0
      go_wp2_with fail
      go_loopg [10, 11] ni (fun k p10 p11 wr => ∃ (i : Nat), p11 = .int .i64 i ∧ i + k = ni ∧ Ext wa wr ∧ w0.heap.size ≤ wr.heap.size ∧ spnE.Own w0.heap.size p10 (rIn Lj (inn.take i)) wr)
      case atStart => exact ⟨0, rfl, Nat.zero_add _, H8.out.2.1, H8.out.2.2, H8.out.1⟩
      case round =>
        obtain ⟨i, rfl, hi, hEw, hsz, hown⟩ := hrel
        have hcr := blk_cell (HC.out wr hEw).1
        have hbw := (HC.out wr hEw).2
        by_cases hij : (i : Int) < ni
        · have hil : i < inn.length := by rw [← HNL.out.2]; omega
          obtain ⟨g2, o2, rfl, hc92⟩ := (HI.out wr hEw).at hil
          have hz := hc92 i hil
          obtain ⟨y, hyl⟩ : ∃ y, y = inn[i] := ⟨_, rfl⟩
          rw [← hyl] at hz
          have htk : inn.take (i + 1) = inn.take i ++ [y] := by rw [hyl]; exact (List.take_append_getElem hil).symm
          have hrl := rIn_len Lj (inn.take i)
          rw [List.length_take] at hrl
          have HZ := Lib.hid (And.intro hEw (And.intro hsz (And.intro hown (And.intro htk hrl))))
          unfold C9 at hz
          clear hc92 hyl hEw hsz hown htk hrl hbw
          by_cases hp : y.pa = 0
          · have hp3 : (y.pa == 0) = true := by simpa using hp
            have HP := Lib.hid hp
            clear hp
            go_wp2_with (at_builtin; refine Ek.app' spnE rfl _ _ rfl w0.heap.size u10 (rIn Lj (inn.take i)) [y] rfl (HZ.out.2.2.1.ext spnE ((Keeps.refl _ _).alloc _)) (Ek.reads_new spnE _ y _ _ rfl) ?d1 ?d2 ?_)
            case d1 => have := HZ.out.2.2.2.2; have := HF.out.2.2.2.2; have := HJ.out.2.2.2; simp only [List.length_singleton]; omega
            case d2 => exact Nat.le_trans HZ.out.2.1 ((Keeps.refl Non wr).alloc _).size
            intro v9 w9 hown9 hgr9 _ _
            have hEa := (Keeps.refl Non wr).alloc (.cells (spnC y) 48)
            have hgr : Keeps (fun b => u10.ownBlock = some b) wr w9 := ⟨Nat.le_trans hEa.size hgr9.size, fun i hi hf => (hgr9.same i (Nat.lt_of_lt_of_le hi hEa.size) hf).trans (Ext.same hEa hi), (hEa.ost).trans hgr9.ost⟩
            have H9 := Lib.hid (And.intro hown9 (And.intro (HZ.out.2.2.1.grow spnE HZ.out.1 HJ.out.1.size hgr) (Nat.le_trans HZ.out.2.1 hgr.size)))
            clear hown9 hgr9 hEa hgr
            go_wp2_with fail
            go_roundg (gk - 1)
            case measure => omega
            case rel => exact ⟨i + 1, by simp, by omega, H9.out.2.1, H9.out.2.2, by rw [HZ.out.2.2.2.1, rIn_snoc]; unfold addIn; rw [if_pos HP.out]; exact H9.out.1⟩
          · have hp3 : (y.pa == 0) = false := by simpa using hp
            have HP := Lib.hid hp
            clear hp
            go_wp2_with fail
            go_roundg (gk - 1)
            case measure => omega
            case rel => exact ⟨i + 1, by simp, by omega, HZ.out.1, HZ.out.2.1, by rw [HZ.out.2.2.2.1, rIn_snoc]; unfold addIn; rw [if_neg HP.out]; exact HZ.out.2.2.1⟩
        · have hie : i = inn.length := by rw [← HNL.out.2]; omega
          rw [hie, List.take_length] at hown
          have hzb := blk_free hbw
          have hcb := blk_cell hbw
          have hlb := lt_of_heap hbw
          have hrl := rIn_len Lj inn
          obtain ⟨a10, c10, rfl, _, _⟩ := hown.slice spnE
          have HZ := Lib.hid (And.intro hEw (And.intro hsz (And.intro hown (And.intro hbw hrl))))
          clear hEw hsz hown hbw hrl hie
          go_wp2_with fail
          go_ret
          have o9 : Only [b] wr (wr.setCell ⟨b, 0, none⟩ (.slice a10 (rIn Lj inn).length c10)) := (Only.refl [b] wr).setCell (by simp) _
          have hbn : ∀ g, (Value.slice a10 (rIn Lj inn).length c10).ownBlock = some g → g ≠ b := fun g hg e => by
            have h1 := (HZ.out.2.2.1.lt spnE hg).1
            have h2 := lt_of_heap (HC.out wa (Keeps.refl _ _)).2
            have h3 := HJ.out.1.size
            omega
          refine ⟨by rw [HN.out]; rfl, ⟨_, heap_set HZ.out.2.2.2.1 0 _, ?_, .inr fun g hg => ?_⟩, ?_⟩
          · rw [HN.out]
            show SpnsAt _ _ (rIn Lj inn)
            exact spns_of_own (HZ.out.2.2.1.keeps spnE o9.keeps (fun g hg hf => by rw [List.mem_singleton] at hf; exact hbn g hg hf)) (by have := HZ.out.2.2.2.2; have := HF.out.2.2.2; have := HJ.out.2.2.2; omega)
          · have hg' : (Value.slice a10 (rIn Lj inn).length c10).ownBlock = some g := by
              cases a10 <;> first | (cases hg; done) | exact hg
            have h1 := (HZ.out.2.2.1.lt spnE hg').1
            exact Nat.le_trans HLL.out.2.1.size (Nat.le_trans HJ.out.1.size h1)
          · exact ((HLL.out.2.1.trans HZ.out.1).mono fun _ _ hf => hf.elim).trans (o9.keeps.mono fun i _ hi => by simpa using hi)
end Go.Proofs.YtdonmmjikcbihaaGreatDoor
