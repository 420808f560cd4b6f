/- Parts of the proof, one behind the other: Avlbsi, Avlcsi, Avldsi, Avesi, Ent, Ent2, Ent3, Avlass. No condition beyond each theorem's own. -/
import Derived.WalkLawsBesides
import Derived.Deep.LoopGhost
import Derived.Test.YtdonmmjikcbihaaGreatDoorRows
import Derived.Lib.Hide
import Derived.Test.YtdonmmjikcbihaaGreatDoorGAB
/- Package avl at [string, int]: put, least, drop. -/
namespace Go.Proofs.YtdonmmjikcbihaaGreatDoor
open Go.RowKit Go.Proofs Go.Vc
attribute [local irreducible] Calls CallsIn Code.wp Code.wpIn
/-- what put leaves -/
def Putsi (key : ByteArray) (val : Int) (t : T ByteArray Int) (w : World) (e : Ending) (w' : World) : Prop :=
  ∃ N, w.heap.size ≤ N ∧ e = .returned (.tuple #[.pointer (t.put cmpS N key val).1.ptr, .bool (t.put cmpS N key val).2]) ∧ At Ssi w' (t.put cmpS N key val).1 ∧ Keeps (· ∈ t.blocks) w w'
theorem put_si (key : ByteArray) (val : Int) (t : T ByteArray Int) : ∀ w : World, At Ssi w t → t.size + 1 ≤ 1099511627776 →
    Calls Tryz.prog 68 #[.pointer t.ptr, .string key, .int .i64 val] w (Putsi key val t w) := by
  induction t with
  | nil =>
    intro w _ _
    simp only [T.ptr_nil]
    go_enter Tryz.func68, Tryz.ntmps68
    go_wp2_with fail
    go_ret2
    refine ⟨w.heap.size, Nat.le_refl _, rfl, ⟨?_, trivial, trivial, by simp [T.blocks], by simp [T.blocks], by simp [T.blocks]⟩, (Keeps.refl _ w).alloc _⟩
    exact World.alloc_heap_new w _
  | node b k v l r ihl ihr =>
    intro w h hs
    have hc := blk_cell h.1
    have hz := blk_free h.1
    simp only [Ssi_cells] at hc
    simp only [T.ptr_node]
    have H := Lib.hid h
    simp only [T.size] at hs
    have IL := Lib.hid ihl
    have IR := Lib.hid ihr
    clear h ihl ihr
    cases hk : cmpS key k with
    | lt =>
      obtain ⟨f1, f2⟩ := cmpS_lt hk
      have hp : ∀ N, (T.node b k v l r).put cmpS N key val = (T.level (T.node b k v (l.put cmpS N key val).1 r), (l.put cmpS N key val).2) := fun N => by rw [T.put, hk]
      have HK := Lib.hid hp
      clear hk hp
      go_enter Tryz.func68, Tryz.ntmps68
      go_wp2_with fail
      refine (IL.out _ H.out.2.1 (by omega)).mono ?_
      rintro e9 w1 ⟨N, hN, rfl, a1, k1⟩
      have hb1 := (k1.same b (lt_of_heap H.out.1) H.out.2.2.2.1).trans H.out.1
      have hc1 := blk_cell hb1
      have hz1 := blk_free hb1
      simp only [Ssi_cells] at hc1
      clear hb1
      have hbl := fun x hx => (T.put_blocks cmpS N key val l x hx)
      have HB := Lib.hid hbl
      clear hbl
      have n2 := H.out.nd.low k1 (fun _ hx => hx) a1 (fun x hx => (HB.out x hx).elim .inl (fun e => .inr (e ▸ hN)))
      have N2 := Lib.hid n2
      clear n2
      go_wp2_with fail
      refine (level_si _ N2.out (by have := T.put_size_le cmpS N key val l; omega)).mono ?_
      rintro e9 w3 ⟨rfl, a3, o3⟩
      go_wp2_with fail
      go_ret2
      refine ⟨N, hN, by rw [HK.out]; rfl, by rw [HK.out]; exact a3, ?_⟩
      have hlt := lt_of_heap H.out.1
      refine ((k1.mono fun x _ hx => by simp [T.blocks, hx]).setCell (fun _ => by simp [T.blocks]) _).andThen o3.keeps fun x hx hm => ?_
      simp only [T.blocks, List.mem_cons, List.mem_append] at hm ⊢
      rcases hm with hm | hm | hm
      · exact .inl hm
      · exact (HB.out x hm).elim (fun g => .inr (.inl g)) (fun g => by omega)
      · exact .inr (.inr hm)
    | gt =>
      obtain ⟨f1, f2⟩ := cmpS_gt hk
      have hp : ∀ N, (T.node b k v l r).put cmpS N key val = (T.level (T.node b k v l (r.put cmpS N key val).1), (r.put cmpS N key val).2) := fun N => by rw [T.put, hk]
      have HK := Lib.hid hp
      clear hk hp
      go_enter Tryz.func68, Tryz.ntmps68
      go_wp2_with fail
      refine (IR.out _ H.out.2.2.1 (by omega)).mono ?_
      rintro e9 w1 ⟨N, hN, rfl, a1, k1⟩
      have hb1 := (k1.same b (lt_of_heap H.out.1) H.out.2.2.2.2.1).trans H.out.1
      have hc1 := blk_cell hb1
      have hz1 := blk_free hb1
      simp only [Ssi_cells] at hc1
      clear hb1
      have hbl := fun x hx => (T.put_blocks cmpS N key val r x hx)
      have HB := Lib.hid hbl
      clear hbl
      have n2 := H.out.nd.high k1 (fun _ hx => hx) a1 (fun x hx => (HB.out x hx).elim .inl (fun e => .inr (e ▸ hN)))
      have N2 := Lib.hid n2
      clear n2
      go_wp2_with fail
      refine (level_si _ N2.out (by have := T.put_size_le cmpS N key val r; omega)).mono ?_
      rintro e9 w3 ⟨rfl, a3, o3⟩
      go_wp2_with fail
      go_ret2
      refine ⟨N, hN, by rw [HK.out]; rfl, by rw [HK.out]; exact a3, ?_⟩
      have hlt := lt_of_heap H.out.1
      refine ((k1.mono fun x _ hx => by simp [T.blocks, hx]).setCell (fun _ => by simp [T.blocks]) _).andThen o3.keeps fun x hx hm => ?_
      simp only [T.blocks, List.mem_cons, List.mem_append] at hm ⊢
      rcases hm with hm | hm | hm
      · exact .inl hm
      · exact .inr (.inl hm)
      · exact (HB.out x hm).elim (fun g => .inr (.inr g)) (fun g => by omega)
    | eq =>
      obtain ⟨f1, f2⟩ := cmpS_eq hk
      have hp : ∀ N, (T.node b k v l r).put cmpS N key val = (T.level (T.node b k val l r), false) := fun N => by rw [T.put, hk]
      have HK := Lib.hid hp
      clear hk hp
      go_enter Tryz.func68, Tryz.ntmps68
      go_wp2_with fail
      have n2 : ∀ w', Only [b] w w' → (∃ d, w'.heap[b]? = some (.cells (Ssi.cells k val (.pointer l.ptr) (.pointer r.ptr) d) Ssi.ty (0, 0))) → Nd Ssi w' b k val l r := fun w' ho hb =>
        ⟨hb, H.out.2.1.only ho fun _ hx => no_one H.out.2.2.2.1 hx, H.out.2.2.1.only ho fun _ hx => no_one H.out.2.2.2.2.1 hx, H.out.2.2.2⟩
      have N2 := Lib.hid n2
      clear n2
      refine (level_si _ (N2.out _ ((Only.refl [b] w).setCell (by simp) _) ⟨_, (heap_set H.out.1 1 _)⟩) (by omega)).mono ?_
      rintro e9 w3 ⟨rfl, a3, o3⟩
      go_wp2_with fail
      go_ret2
      refine ⟨w.heap.size, Nat.le_refl _, by rw [HK.out]; rfl, by rw [HK.out]; exact a3, ?_⟩
      exact (Only.keeps ((Only.mono ((Only.refl [b] w).setCell (by simp) _) fun x hx => by rw [List.mem_singleton] at hx; simp [T.blocks, hx]))).trans (o3.mono fun x hx => by simpa [T.blocks] using hx).keeps
/-- what least leaves -/
def Leastsi (t : T ByteArray Int) (w : World) (e : Ending) (w' : World) : Prop :=
  ∃ d kc vc lc rc dd, (T.least t).2 = some (d, kc, vc) ∧ e = .returned (.tuple #[.pointer (T.least t).1.ptr, .pointer (some ⟨d, 0, none⟩)]) ∧ At Ssi w' (T.least t).1 ∧
      w'.heap[d]? = some (.cells (Ssi.cells kc vc lc rc dd) Ssi.ty (0, 0)) ∧ Only t.blocks w w'
theorem least_si (l : T ByteArray Int) : ∀ (b : Nat) (k : ByteArray) (v : Int) (r : T ByteArray Int) (w : World), At Ssi w (.node b k v l r) → (T.node b k v l r).size ≤ 1099511627776 →
    Calls Tryz.prog 92 #[.pointer (some ⟨b, 0, none⟩)] w (Leastsi (T.node b k v l r) w) := by
  induction l with
  | nil =>
    intro b k v r w h _
    have hc := blk_cell h.1
    simp only [Ssi_cells, T.ptr_nil] at hc
    have H := Lib.hid h
    clear h
    go_enter Tryz.func92, Tryz.ntmps92
    go_wp2_with fail
    go_ret2
    exact ⟨b, k, v, _, _, _, rfl, rfl, H.out.2.2.1, H.out.1, Only.refl _ _⟩
  | node b' k' v' l' r' ih _ =>
    intro b k v r w h hs
    have hc := blk_cell h.1
    have hz := blk_free h.1
    simp only [Ssi_cells, T.ptr_node] at hc
    simp only [T.size] at hs
    have H := Lib.hid h
    have IH := Lib.hid ih
    clear h ih
    go_enter Tryz.func92, Tryz.ntmps92
    go_wp2_with fail
    refine (IH.out _ _ _ _ _ H.out.2.1 (by simp only [T.size]; omega)).mono ?_
    rintro e9 w1 ⟨d, kc, vc, lc, rc, dd, hd, rfl, a1, hbd, o1⟩
    have hb1 := (o1.same b H.out.2.2.2.1).trans H.out.1
    have hc1 := blk_cell hb1
    have hz1 := blk_free hb1
    simp only [Ssi_cells, T.ptr_node] at hc1
    clear hb1
    have hp := T.least_perm b' k' v' l' r' d kc vc hd
    have hsz := T.least_size b' k' v' l' r'
    simp only [T.size] at hsz
    have n2 := H.out.nd.low o1.keeps (fun _ hx => hx) a1 (fun x hx => .inl (hp.mem_iff.1 (List.mem_cons_of_mem _ hx)))
    have hdb : d ≠ b := fun e => H.out.2.2.2.1 (e ▸ hp.mem_iff.1 List.mem_cons_self)
    have hdn : d ∉ (T.least (T.node b' k' v' l' r')).1.blocks ∧ d ∉ r.blocks := by
      refine ⟨?_, H.out.2.2.2.2.2 d (hp.mem_iff.1 List.mem_cons_self)⟩
      have := hp.nodup_iff.2 H.out.2.1.nodup
      exact (List.nodup_cons.1 this).1
    have HP := Lib.hid (And.intro hd (And.intro hp (And.intro hbd (And.intro n2 (And.intro hdb hdn)))))
    have O1 := Lib.hid o1
    clear hd hp hbd n2 hdb hdn o1 a1
    go_wp2_with fail
    refine (level_si _ HP.out.2.2.2.1 (by omega)).mono ?_
    rintro e9 w3 ⟨rfl, a3, o3⟩
    go_wp2_with fail
    go_ret2
    obtain ⟨hd, hp, hbd, n2, hdb, hdn⟩ := HP.out
    refine ⟨d, kc, vc, lc, rc, dd, hd, rfl, a3, ?_, ?_⟩
    · refine (o3.same d ?_).trans ((heap_set_other _ _ _ _ _ hdb).trans hbd)
      simp only [List.mem_cons, List.mem_append, not_or]
      exact ⟨hdb, hdn⟩
    · refine ((O1.out.mono fun x hx => by rw [T.blocks]; exact List.mem_cons_of_mem _ (List.mem_append_left _ hx)).setCell (by simp [T.blocks]) _).trans (o3.mono fun x hx => ?_)
      simp only [T.blocks, List.mem_cons, List.mem_append] at hx ⊢
      rcases hx with hx | hx | hx
      · exact .inl hx
      · have := hp.mem_iff.1 (List.mem_cons_of_mem _ hx)
        simp only [T.blocks, List.mem_cons, List.mem_append] at this
        exact .inr (.inl this)
      · exact .inr (.inr hx)
theorem drop_si (key : ByteArray) (t : T ByteArray Int) : ∀ w : World, At Ssi w t → t.size ≤ 1099511627776 →
    Calls Tryz.prog 67 #[.pointer t.ptr, .string key] w fun e w' =>
      e = .returned (.tuple #[.pointer (t.drop cmpS key).1.ptr, .bool (t.drop cmpS key).2]) ∧ At Ssi w' (t.drop cmpS key).1 ∧ Only t.blocks w w' := by
  induction t with
  | nil =>
    intro w _ _
    simp only [T.ptr_nil]
    go_enter Tryz.func67, Tryz.ntmps67
    go_wp2_with fail
    go_ret2
    exact ⟨rfl, trivial, Only.refl _ _⟩
  | node b k v l r ihl ihr =>
    intro w h hs
    have hc := blk_cell h.1
    have hz := blk_free h.1
    simp only [Ssi_cells] at hc
    simp only [T.ptr_node]
    have H := Lib.hid h
    simp only [T.size] at hs
    have IL := Lib.hid ihl
    have IR := Lib.hid ihr
    clear h ihl ihr
    cases hk : cmpS key k with
    | lt =>
      obtain ⟨f1, f2⟩ := cmpS_lt hk
      have hp : (T.node b k v l r).drop cmpS key = (T.level (T.node b k v (l.drop cmpS key).1 r), (l.drop cmpS key).2) := T.drop_lt hk
      have HK := Lib.hid hp
      clear hk hp
      go_enter Tryz.func67, Tryz.ntmps67
      go_wp2_with fail
      refine (IL.out _ H.out.2.1 (by omega)).mono ?_
      rintro e9 w1 ⟨rfl, a1, o1⟩
      have hb1 := (o1.same b H.out.2.2.2.1).trans H.out.1
      have hc1 := blk_cell hb1
      have hz1 := blk_free hb1
      simp only [Ssi_cells] at hc1
      clear hb1
      have hbl := T.drop_blocks cmpS key l
      have HB := Lib.hid hbl
      clear hbl
      have n2 := H.out.nd.low o1.keeps (fun _ hx => hx) a1 (fun x hx => .inl (HB.out x hx))
      have N2 := Lib.hid n2
      clear n2
      go_wp2_with fail
      refine (level_si _ N2.out (by have := T.drop_size cmpS key l; omega)).mono ?_
      rintro e9 w3 ⟨rfl, a3, o3⟩
      go_wp2_with fail
      go_ret2
      refine ⟨by rw [HK.out]; rfl, by rw [HK.out]; exact a3, ?_⟩
      refine ((o1.mono fun x hx => by simp [T.blocks, hx]).setCell (by simp [T.blocks]) _).trans (o3.mono fun x hx => ?_)
      simp only [T.blocks, List.mem_cons, List.mem_append] at hx ⊢
      rcases hx with hx | hx | hx
      · exact .inl hx
      · exact .inr (.inl (HB.out x hx))
      · exact .inr (.inr hx)
    | gt =>
      obtain ⟨f1, f2⟩ := cmpS_gt hk
      have hp : (T.node b k v l r).drop cmpS key = (T.level (T.node b k v l (r.drop cmpS key).1), (r.drop cmpS key).2) := T.drop_gt hk
      have HK := Lib.hid hp
      clear hk hp
      go_enter Tryz.func67, Tryz.ntmps67
      go_wp2_with fail
      refine (IR.out _ H.out.2.2.1 (by omega)).mono ?_
      rintro e9 w1 ⟨rfl, a1, o1⟩
      have hb1 := (o1.same b H.out.2.2.2.2.1).trans H.out.1
      have hc1 := blk_cell hb1
      have hz1 := blk_free hb1
      simp only [Ssi_cells] at hc1
      clear hb1
      have hbl := T.drop_blocks cmpS key r
      have HB := Lib.hid hbl
      clear hbl
      have n2 := H.out.nd.high o1.keeps (fun _ hx => hx) a1 (fun x hx => .inl (HB.out x hx))
      have N2 := Lib.hid n2
      clear n2
      go_wp2_with fail
      refine (level_si _ N2.out (by have := T.drop_size cmpS key r; omega)).mono ?_
      rintro e9 w3 ⟨rfl, a3, o3⟩
      go_wp2_with fail
      go_ret2
      refine ⟨by rw [HK.out]; rfl, by rw [HK.out]; exact a3, ?_⟩
      refine ((o1.mono fun x hx => by simp [T.blocks, hx]).setCell (by simp [T.blocks]) _).trans (o3.mono fun x hx => ?_)
      simp only [T.blocks, List.mem_cons, List.mem_append] at hx ⊢
      rcases hx with hx | hx | hx
      · exact .inl hx
      · exact .inr (.inl hx)
      · exact .inr (.inr (HB.out x hx))
    | eq =>
      obtain ⟨f1, f2⟩ := cmpS_eq hk
      cases r with
      | nil =>
        have hp : (T.node b k v l .nil).drop cmpS key = (l, true) := by rw [T.drop, hk]
        have HK := Lib.hid hp
        clear hk hp
        simp only [T.ptr_nil] at hc
        go_enter Tryz.func67, Tryz.ntmps67
        go_wp2_with fail
        go_ret2
        exact ⟨by rw [HK.out]; rfl, by rw [HK.out]; exact H.out.2.1, Only.refl _ _⟩
      | node b' k' v' l' r' =>
        have hp : ∀ d kc vc, (T.least (T.node b' k' v' l' r')).2 = some (d, kc, vc) → (T.node b k v l (.node b' k' v' l' r')).drop cmpS key = (T.level (T.node d kc vc l (T.least (T.node b' k' v' l' r')).1), true) := fun d kc vc hd => by
          rw [T.drop, hk]; simp only [hd]
        have HK := Lib.hid hp
        clear hk hp
        simp only [T.ptr_node] at hc
        go_enter Tryz.func67, Tryz.ntmps67
        go_wp2_with fail
        refine (least_si l' b' k' v' r' _ H.out.2.2.1 (by omega)).mono ?_
        rintro e9 w1 ⟨d, kc, vc, lc, rc, dd, hd, rfl, a1, hbd, o1⟩
        have hb1 := (o1.same b H.out.2.2.2.2.1).trans H.out.1
        have hc1 := blk_cell hb1
        have hcd := blk_cell hbd
        have hzd := blk_free hbd
        simp only [Ssi_cells, T.ptr_node] at hc1 hcd
        clear hb1
        have hpm := T.least_perm b' k' v' l' r' d kc vc hd
        have hsz := T.least_size b' k' v' l' r'
        have hdr : d ∈ (T.node b' k' v' l' r').blocks := hpm.mem_iff.1 List.mem_cons_self
        have hdl : d ∉ l.blocks := fun hx => H.out.2.2.2.2.2 d hx hdr
        have hnd := (List.nodup_cons.1 (hpm.nodup_iff.2 H.out.2.2.1.nodup)).1
        have al : At Ssi w1 l := H.out.2.1.only o1 fun x hx hy => H.out.2.2.2.2.2 x hx hy
        have nt := Nd.took hbd al a1 hdl hnd (fun x hx hy => H.out.2.2.2.2.2 x hx (hpm.mem_iff.1 (List.mem_cons_of_mem _ hy))) rfl
        have hp := HK.out d kc vc hd
        have hdb : d ≠ b := fun e => H.out.2.2.2.2.1 (e ▸ hdr)
        have HP := Lib.hid (And.intro hp (And.intro hpm (And.intro hdr nt)))
        have O1 := Lib.hid o1
        clear hd hpm hdr hdl hnd al nt hp o1 a1 hbd
        go_wp2_with fail
        refine (level_si _ HP.out.2.2.2.1 (by omega)).mono ?_
        rintro e9 w3 ⟨rfl, a3, o3⟩
        go_wp2_with fail
        go_ret2
        obtain ⟨hp, hpm, hdr, _, ot⟩ := HP.out
        refine ⟨by rw [hp]; rfl, by rw [hp]; exact a3, ?_⟩
        refine ((O1.out.mono fun x hx => ?_).trans (ot.mono fun x hx => ?_)).trans (o3.mono fun x hx => ?_)
        · rw [T.blocks]; exact List.mem_cons_of_mem _ (List.mem_append_right _ hx)
        · rw [List.mem_singleton] at hx; rw [hx, T.blocks]; exact List.mem_cons_of_mem _ (List.mem_append_right _ hdr)
        · simp only [List.mem_cons, List.mem_append] at hx
          rw [T.blocks]
          rcases hx with hx | hx | hx
          · rw [hx]; exact List.mem_cons_of_mem _ (List.mem_append_right _ hdr)
          · exact List.mem_cons_of_mem _ (List.mem_append_left _ hx)
          · exact List.mem_cons_of_mem _ (List.mem_append_right _ (hpm.mem_iff.1 (List.mem_cons_of_mem _ hx)))
end Go.Proofs.YtdonmmjikcbihaaGreatDoor
/- Package avl at [string, int]: the map's own functions. -/
namespace Go.Proofs.YtdonmmjikcbihaaGreatDoor
open Go.RowKit Go.Proofs Go.Vc
attribute [local irreducible] Calls CallsIn Code.wp Code.wpIn
theorem top_si (t : T ByteArray Int) (w : World) (b o : Nat) (h : w.cell? ⟨b, o, none⟩ = some (.pointer t.ptr)) : Calls Tryz.prog 65 #[.pointer (some ⟨b, o, none⟩)] w fun e w' => e = .returned (.pointer t.ptr) ∧ w = w' := by
  go_enter Tryz.func65, Tryz.ntmps65
  go_wp2_with fail
  go_ret
  exact ⟨rfl, rfl⟩
theorem topnil_si (w : World) : Calls Tryz.prog 65 #[.pointer none] w fun e w' => e = .returned (.pointer none) ∧ w = w' := by
  go_enter Tryz.func65, Tryz.ntmps65
  go_wp2_with fail
  go_ret
  exact ⟨rfl, rfl⟩
/-- what Get leaves -/
def Getsi (r : Option Int) (w : World) (e : Ending) (w' : World) : Prop :=
  e = .returned (.tuple #[(match r with | some v => .int .i64 v | none => .int .i64 0), .bool r.isSome]) ∧ Ext w w'
theorem get_si (key : ByteArray) (t : T ByteArray Int) (w : World) (b o : Nat) (hb : w.cell? ⟨b, o, none⟩ = some (.pointer t.ptr)) (h : At Ssi w t) : Calls Tryz.prog 42 #[.pointer (some ⟨b, o, none⟩), .string key] w (Getsi (t.find cmpS key) w) := by
  have H := Lib.hid h
  clear h
  go_enter Tryz.func42, Tryz.ntmps42
  go_wp2_with fail
  refine (top_si t _ b o hb).mono ?_
  rintro e9 w9 ⟨rfl, rfl⟩
  go_wp2_with fail
  go_loopg [6] t.size (fun k p wr => wr = w ∧ ∃ t', p = .pointer t'.ptr ∧ At Ssi w t' ∧ t'.find cmpS key = t.find cmpS key ∧ t'.size ≤ k)
  case atStart => exact ⟨rfl, t, rfl, H.out, rfl, Nat.le_refl _⟩
  case round =>
    obtain ⟨rfl, t', rfl, h', hf, hk⟩ := hrel
    have HF := Lib.hid hf
    clear hf
    cases t' with
    | nil =>
      simp only [T.ptr_nil]
      go_wp2_with fail
      go_ret2
      rw [← HF.out]
      exact ⟨rfl, Keeps.refl _ _⟩
    | node c k v l r =>
      have hc := blk_cell h'.1
      simp only [Ssi_cells] at hc
      simp only [T.ptr_node]
      have H' := Lib.hid h'
      clear h'
      simp only [T.size] at hk
      cases hcmp : cmpS key k with
      | lt =>
        obtain ⟨f1, f2, f3⟩ := cmpS_lt' hcmp
        have HF : RowKit.Hid (l.find cmpS key = t.find cmpS key) := by have := HF.out; simp only [T.find, hcmp] at this; exact Lib.hid this
        clear hcmp
        go_wp2_with fail
        go_roundg l.size
        case measure => omega
        case rel => exact ⟨rfl, l, rfl, H'.out.2.1, HF.out, Nat.le_refl _⟩
      | gt =>
        obtain ⟨f1, f2, f3⟩ := cmpS_gt' hcmp
        have HF : RowKit.Hid (r.find cmpS key = t.find cmpS key) := by have := HF.out; simp only [T.find, hcmp] at this; exact Lib.hid this
        clear hcmp
        go_wp2_with fail
        go_roundg r.size
        case measure => omega
        case rel => exact ⟨rfl, r, rfl, H'.out.2.2.1, HF.out, Nat.le_refl _⟩
      | eq =>
        obtain ⟨f1, f2, f3⟩ := cmpS_eq' hcmp
        have HF : RowKit.Hid (some v = t.find cmpS key) := by have := HF.out; simp only [T.find, hcmp] at this; exact Lib.hid this
        clear hcmp
        go_wp2_with fail
        go_ret2
        rw [← HF.out]
        exact ⟨rfl, Keeps.refl _ _⟩
/-- what the map's Put leaves -/
def MapPutsi (key : ByteArray) (val : Int) (t : T ByteArray Int) (b o : Nat) (c : Array Value) (ty : TypeId) (w : World) (e : Ending) (w' : World) : Prop :=
  ∃ N, w.heap.size ≤ N ∧ e = .returned (.bool (t.put cmpS N key val).2) ∧ MapAt Ssi w' b o (mapCells c o (t.put cmpS N key val).1) ty (t.put cmpS N key val).1 ∧ Keeps (fun x => x = b ∨ x ∈ t.blocks) w w'
theorem mput_si (key : ByteArray) (val : Int) {t : T ByteArray Int} {w : World} {b o : Nat} {c : Array Value} {ty : TypeId} (h : MapAt Ssi w b o c ty t) (hs : t.size + 1 ≤ 1099511627776) :
    Calls Tryz.prog 45 #[.pointer (some ⟨b, o, none⟩), .string key, .int .i64 val] w (MapPutsi key val t b o c ty w) := by
  have hr := h.cellR
  have hm := h.cellM
  have hz := blk_free h.blk
  have hs' : (t.size : Int) + 1 ≤ 1099511627776 := by omega
  have H := Lib.hid h
  clear h
  go_enter Tryz.func45, Tryz.ntmps45
  go_wp2_with fail
  refine (put_si key val t _ H.out.tree hs).mono ?_
  rintro e9 w1 ⟨N, hN, rfl, a1, k1⟩
  have hb1 := k1.same b (lt_of_heap H.out.blk) H.out.own
  have hlt := lt_of_heap H.out.blk
  have hr1 : w1.cell? ⟨b, o, none⟩ = some (.pointer t.ptr) := (World.cell?_of_block (w := w) hb1).trans hr
  have hm1 : w1.cell? ⟨b, o + 1, none⟩ = some (.int .i64 t.size) := (World.cell?_of_block (w := w) hb1).trans hm
  have hz1 := blk_free (hb1.trans H.out.blk)
  have hnb : b ∉ (t.put cmpS N key val).1.blocks := fun hx => (T.put_blocks _ _ _ _ _ _ hx).elim H.out.own (by omega)
  have hsz := T.put_size cmpS N key val t
  have R := Lib.hid (And.intro hb1 (And.intro a1 (And.intro hnb hsz)))
  have K1 := Lib.hid k1
  clear hb1 a1 hnb hsz k1
  cases hf : (t.put cmpS N key val).2 with
  | true =>
    go_wp2_with fail
    go_ret
    obtain ⟨hb1, a1, hnb, hsz⟩ := R.out
    rw [hf] at hsz
    obtain ⟨m1, o1⟩ := H.out.set2 hb1 a1 hnb ((t.size : Int) + 1) (by simp at hsz; omega)
    exact ⟨N, hN, by rw [hf]; rfl, m1, (K1.out.mono fun _ _ hx => .inr hx).andThen o1.keeps fun x _ hx => .inl (by simpa using hx)⟩
  | false =>
    go_wp2_with fail
    go_ret
    obtain ⟨hb1, a1, hnb, hsz⟩ := R.out
    rw [hf] at hsz
    obtain ⟨m1, o1⟩ := H.out.set1 hb1 a1 hnb (by simpa using hsz)
    exact ⟨N, hN, by rw [hf]; rfl, m1, (K1.out.mono fun _ _ hx => .inr hx).andThen o1.keeps fun x _ hx => .inl (by simpa using hx)⟩
/-- what the map's Drop leaves -/
def MapDropsi (key : ByteArray) (t : T ByteArray Int) (b o : Nat) (c : Array Value) (ty : TypeId) (w : World) (e : Ending) (w' : World) : Prop :=
  e = .returned (.bool (t.drop cmpS key).2) ∧ MapAt Ssi w' b o (mapCells c o (t.drop cmpS key).1) ty (t.drop cmpS key).1 ∧ Only (b :: t.blocks) w w'
theorem mdrop_si (key : ByteArray) {t : T ByteArray Int} {w : World} {b o : Nat} {c : Array Value} {ty : TypeId} (h : MapAt Ssi w b o c ty t) (hs : t.size ≤ 1099511627776) :
    Calls Tryz.prog 44 #[.pointer (some ⟨b, o, none⟩), .string key] w (MapDropsi key t b o c ty w) := by
  have hr := h.cellR
  have hm := h.cellM
  have hz := blk_free h.blk
  have hs' : (t.size : Int) ≤ 1099511627776 := by omega
  have hs0 : 0 ≤ (t.size : Int) := by omega
  have H := Lib.hid h
  clear h
  go_enter Tryz.func44, Tryz.ntmps44
  go_wp2_with fail
  refine (drop_si key t _ H.out.tree hs).mono ?_
  rintro e9 w1 ⟨rfl, a1, o1⟩
  have hb1 := o1.same b H.out.own
  have hlt := lt_of_heap H.out.blk
  have hr1 : w1.cell? ⟨b, o, none⟩ = some (.pointer t.ptr) := (World.cell?_of_block (w := w) hb1).trans hr
  have hm1 : w1.cell? ⟨b, o + 1, none⟩ = some (.int .i64 t.size) := (World.cell?_of_block (w := w) hb1).trans hm
  have hz1 := blk_free (hb1.trans H.out.blk)
  have hnb : b ∉ (t.drop cmpS key).1.blocks := fun hx => H.out.own (T.drop_blocks _ _ _ _ hx)
  have hsz := T.drop_size cmpS key t
  have R := Lib.hid (And.intro hb1 (And.intro a1 (And.intro hnb hsz)))
  have O1 := Lib.hid o1
  clear hb1 a1 hnb hsz o1
  cases hf : (t.drop cmpS key).2 with
  | true =>
    go_wp2_with fail
    go_ret
    obtain ⟨hb1, a1, hnb, hsz⟩ := R.out
    rw [hf] at hsz
    obtain ⟨m1, o2⟩ := H.out.set2 hb1 a1 hnb ((t.size : Int) - 1) (by simp at hsz; omega)
    exact ⟨by rw [hf]; rfl, m1, (O1.out.mono fun _ hx => List.mem_cons_of_mem _ hx).trans (o2.mono fun x hx => by simp at hx; simp [hx])⟩
  | false =>
    go_wp2_with fail
    go_ret
    obtain ⟨hb1, a1, hnb, hsz⟩ := R.out
    rw [hf] at hsz
    obtain ⟨m1, o2⟩ := H.out.set1 hb1 a1 hnb (by simpa using hsz)
    exact ⟨by rw [hf]; rfl, m1, (O1.out.mono fun _ hx => List.mem_cons_of_mem _ hx).trans (o2.mono fun x hx => by simp at hx; simp [hx])⟩
end Go.Proofs.YtdonmmjikcbihaaGreatDoor
/- Package avl at [string, int]: the iterators. -/
namespace Go.Proofs.YtdonmmjikcbihaaGreatDoor
open Go.RowKit Go.Proofs Go.Vc
attribute [local irreducible] Calls CallsIn Code.wp Code.wpIn
/-- what is handed to yield -/
def encsi (x : ByteArray × Int) : Array Value := #[.string x.1, .int .i64 x.2]
set_option maxHeartbeats 2000000 in
theorem give_si (xs : List (Array Value)) (B l : Nat) (J X : Nat → World → Prop) (hJ : ∀ k W W', J k W → Bk B W W' → J k W')
    (hY : ∀ k (hk : k < xs.length) W, J k W → Yd Tryz.prog l xs[k] W fun v W' => KeepsFrom B W W' ∧ ((v = .bool true ∧ J (k + 1) W') ∨ (v = .bool false ∧ X (k + 1) W')))
    (t : T ByteArray Int) : (∀ k W, J k W → At Ssi W t) → ∀ k0, (∀ i (h : i < t.toList.length), xs[k0 + i]? = some (encsi t.toList[i])) → ∀ W, J k0 W →
    Calls Tryz.prog 71 #[.pointer t.ptr, .pointer none, .func (.yield l) #[] #[]] W (GiveP J X (k0 + t.toList.length) xs.length) := by
  induction t with
  | nil =>
    intro _ k0 _ W h
    simp only [T.ptr_nil]
    have H := Lib.hid h
    clear h hJ hY
    go_enter Tryz.func71, Tryz.ntmps71
    go_wp2_with fail
    go_ret
    exact .inl ⟨rfl, H.out⟩
  | node b k v tl tr ihl ihr =>
    intro hA k0 hseg W h
    have hc : ∀ k0 W, J k0 W → (∀ i, W.cell? ⟨b, i, none⟩ = (#[.string k, .int .i64 v, .pointer tl.ptr, .pointer tr.ptr, .int .i64 ((1 + max tl.ht tr.ht : Nat) : Int)] : Array Value)[i]?) := fun k0 W h => have hb := (hA k0 W h).1; blk_cell hb
    have hlen : (T.node b k v tl tr).toList.length = tl.toList.length + 1 + tr.toList.length := by simp [T.toList]; omega
    have hx : xs[k0 + tl.toList.length]? = some (encsi (k, v)) := by
      have := hseg tl.toList.length (by rw [hlen]; omega)
      rw [this]; simp [T.toList]
    have IL := Lib.hid (ihl (fun k W h => (hA k W h).2.1) k0 (fun i hi => by
      have := hseg i (by rw [hlen]; omega)
      rw [this]; simp only [T.toList]; rw [List.getElem_append_left hi]))
    have IR := Lib.hid (ihr (fun k W h => (hA k W h).2.2.1) (k0 + tl.toList.length + 1) (fun i hi => by
      have := hseg (tl.toList.length + 1 + i) (by rw [hlen]; omega)
      rw [show k0 + tl.toList.length + 1 + i = k0 + (tl.toList.length + 1 + i) from by omega, this]
      simp only [T.toList]
      rw [List.getElem_append_right (by omega)]
      simp [show tl.toList.length + 1 + i - tl.toList.length = i + 1 from by omega]))
    obtain ⟨hlt, hxe⟩ := List.getElem?_eq_some_iff.1 hx
    have HY := Lib.hid (fun W h => hxe ▸ hY (k0 + tl.toList.length) hlt W h)
    have HJ := Lib.hid hJ
    have HC := Lib.hid hc
    have HL := Lib.hid (And.intro hlen hlt)
    have hc0 := hc k0 W h
    have H := Lib.hid h
    simp only [T.ptr_node]
    clear ihl ihr hseg hA hY hJ hc hx hlt hxe hlen h
    go_enter Tryz.func71, Tryz.ntmps71
    go_wp2_with fail
    refine wp_drawE (way [0, 1, 2, 3, 4, 5, 6, 7, 8, 9, 10, 11]) (by kernel_rfl) (by kernel_rfl) (fun w1 hh hd hf hS => ?_)
    have H1 := Lib.hid (HJ.out _ _ _ H.out (Bk.of_heap hh hS.ost))
    have hc1 := HC.out _ _ H1.out
    clear hh hd hf hc0
    simp only [way]
    go_wp2_with (first | (refine' hl_q rfl rfl rfl (fun _ => ?_) ?_; rotate_left; (go_simp <;> (try go_bits) <;> rfl); (try simp only [Act.put, List.setIfInBounds_toArray, List.set_cons_zero, List.set_cons_succ])) | (refine' hl_rS rfl rfl rfl hS ?_ ?_; rotate_left; (intro w9 hS9; (first | have hc9 := Ext.cells hS9 | have hc9 := Keeps.cells hS9); (go_simp <;> rfl)); (try simp only [Act.put, List.setIfInBounds_toArray, List.set_cons_zero, List.set_cons_succ])) | (refine' hl_r rfl rfl rfl ?_ ?_; rotate_left; (rintro w9 (rfl | hS9); (go_simp <;> rfl); (first | have hc9 := Ext.cells hS9 | have hc9 := Keeps.cells hS9 | (try dsimp only at hS9)); (go_simp <;> rfl)); (try simp only [Act.put, List.setIfInBounds_toArray, List.set_cons_zero, List.set_cons_succ])) | (refine' hl_s rfl rfl ?_; (try simp only [Act.put, List.setIfInBounds_toArray, List.set_cons_zero, List.set_cons_succ])) | (refine hl_e rfl rfl rfl (fun K hK => ?_)) | (with_reducible refine And.intro (fun hn => ?_) ?_; (first | exact hS | exact Keeps.alloc hS _ | exact absurd hn (by rw [show needS _ _ = false from by kernel_rfl]; exact Bool.false_ne_true))) | (refine hl_done ?_) | gi_step)
    refine wp_draw (way [0, 1, 2, 3, 4, 5, 6, 7, 8, 9, 10, 11, 12, 13, 14, 15, 16, 17, 18, 19, 20, 21, 22, 23, 24, 25, 26, 27]) (fun w' => (∀ i, w'.cell? ⟨b, i, none⟩ = (#[.string k, .int .i64 v, .pointer tl.ptr, .pointer tr.ptr, .int .i64 ((1 + max tl.ht tr.ht : Nat) : Int)] : Array Value)[i]?)) (by kernel_rfl) (by kernel_rfl) (drew_as fun w2 ho2 hh2 hd2 hf2 => ?_)
    have H2 := Lib.hid (HJ.out _ _ _ H1.out (Bk.of_heap hh2 ho2))
    have hc2 := HC.out _ _ H2.out
    clear ho2 hh2 hd2 hf2 hc1 hS
    simp only [way]
    go_wp2_with (first | (refine' hl_q rfl rfl rfl (fun _ => ?_) ?_; rotate_left; (go_simp <;> (try go_bits) <;> rfl); (try simp only [Act.put, List.setIfInBounds_toArray, List.set_cons_zero, List.set_cons_succ])) | (refine' hl_rS rfl rfl rfl hS ?_ ?_; rotate_left; (intro w9 hS9; (first | have hc9 := Ext.cells hS9 | have hc9 := Keeps.cells hS9); (go_simp <;> rfl)); (try simp only [Act.put, List.setIfInBounds_toArray, List.set_cons_zero, List.set_cons_succ])) | (refine' hl_r rfl rfl rfl ?_ ?_; rotate_left; (rintro w9 (rfl | hS9); (go_simp <;> rfl); (first | have hc9 := Ext.cells hS9 | have hc9 := Keeps.cells hS9 | (try dsimp only at hS9)); (go_simp <;> rfl)); (try simp only [Act.put, List.setIfInBounds_toArray, List.set_cons_zero, List.set_cons_succ])) | (refine' hl_s rfl rfl ?_; (try simp only [Act.put, List.setIfInBounds_toArray, List.set_cons_zero, List.set_cons_succ])) | (refine hl_e rfl rfl rfl (fun K hK => ?_)) | (with_reducible refine And.intro (fun hn => ?_) ?_; (first | exact hS | exact Keeps.alloc hS _ | exact absurd hn (by rw [show needS _ _ = false from by kernel_rfl]; exact Bool.false_ne_true))) | (refine hl_done ?_) | gi_step)
    refine callsIn_wide.2 ((IL.out _ H2.out).mono ?_)
    rintro e9 w3 (⟨rfl, h3⟩ | ⟨rfl, h3⟩)
    · have hc3 := HC.out _ _ h3
      obtain ⟨fn, tmps, assign, body, hy, hR⟩ := HY.out _ h3
      simp only [encsi] at hy
      have HR := Lib.hid hR
      clear hR hc2 h3
      go_wp2_with (first | (refine' hl_q rfl rfl rfl (fun _ => ?_) ?_; rotate_left; (go_simp <;> (try go_bits) <;> rfl); (try simp only [Act.put, List.setIfInBounds_toArray, List.set_cons_zero, List.set_cons_succ])) | (refine' hl_rS rfl rfl rfl hS ?_ ?_; rotate_left; (intro w9 hS9; (first | have hc9 := Ext.cells hS9 | have hc9 := Keeps.cells hS9); (go_simp <;> rfl)); (try simp only [Act.put, List.setIfInBounds_toArray, List.set_cons_zero, List.set_cons_succ])) | (refine' hl_r rfl rfl rfl ?_ ?_; rotate_left; (rintro w9 (rfl | hS9); (go_simp <;> rfl); (first | have hc9 := Ext.cells hS9 | have hc9 := Keeps.cells hS9 | (try dsimp only at hS9)); (go_simp <;> rfl)); (try simp only [Act.put, List.setIfInBounds_toArray, List.set_cons_zero, List.set_cons_succ])) | (refine' hl_s rfl rfl ?_; (try simp only [Act.put, List.setIfInBounds_toArray, List.set_cons_zero, List.set_cons_succ])) | (refine hl_e rfl rfl rfl (fun K hK => ?_)) | (with_reducible refine And.intro (fun hn => ?_) ?_; (first | exact hS | exact Keeps.alloc hS _ | exact absurd hn (by rw [show needS _ _ = false from by kernel_rfl]; exact Bool.false_ne_true))) | (refine hl_done ?_) | gi_step)
      refine HR.out.mono ?_
      rintro e9 w4 ⟨v4, rfl, hkf, (⟨rfl, h4⟩ | ⟨rfl, h4⟩)⟩
      · have hc4 := HC.out _ _ h4
        have H4 := Lib.hid h4
        clear hy h4 hkf hc3
        go_wp2_with (first | (refine' hl_q rfl rfl rfl (fun _ => ?_) ?_; rotate_left; (go_simp <;> (try go_bits) <;> rfl); (try simp only [Act.put, List.setIfInBounds_toArray, List.set_cons_zero, List.set_cons_succ])) | (refine' hl_rS rfl rfl rfl hS ?_ ?_; rotate_left; (intro w9 hS9; (first | have hc9 := Ext.cells hS9 | have hc9 := Keeps.cells hS9); (go_simp <;> rfl)); (try simp only [Act.put, List.setIfInBounds_toArray, List.set_cons_zero, List.set_cons_succ])) | (refine' hl_r rfl rfl rfl ?_ ?_; rotate_left; (rintro w9 (rfl | hS9); (go_simp <;> rfl); (first | have hc9 := Ext.cells hS9 | have hc9 := Keeps.cells hS9 | (try dsimp only at hS9)); (go_simp <;> rfl)); (try simp only [Act.put, List.setIfInBounds_toArray, List.set_cons_zero, List.set_cons_succ])) | (refine' hl_s rfl rfl ?_; (try simp only [Act.put, List.setIfInBounds_toArray, List.set_cons_zero, List.set_cons_succ])) | (refine hl_e rfl rfl rfl (fun K hK => ?_)) | (with_reducible refine And.intro (fun hn => ?_) ?_; (first | exact hS | exact Keeps.alloc hS _ | exact absurd hn (by rw [show needS _ _ = false from by kernel_rfl]; exact Bool.false_ne_true))) | (refine hl_done ?_) | gi_step)
        refine callsIn_wide.2 ((IR.out _ H4.out).mono ?_)
        rintro e9 w5 (⟨rfl, h5⟩ | ⟨rfl, h5⟩)
        · have H5 := Lib.hid h5
          clear h5
          go_wp2_with (first | (refine' hl_q rfl rfl rfl (fun _ => ?_) ?_; rotate_left; (go_simp <;> (try go_bits) <;> rfl); (try simp only [Act.put, List.setIfInBounds_toArray, List.set_cons_zero, List.set_cons_succ])) | (refine' hl_rS rfl rfl rfl hS ?_ ?_; rotate_left; (intro w9 hS9; (first | have hc9 := Ext.cells hS9 | have hc9 := Keeps.cells hS9); (go_simp <;> rfl)); (try simp only [Act.put, List.setIfInBounds_toArray, List.set_cons_zero, List.set_cons_succ])) | (refine' hl_r rfl rfl rfl ?_ ?_; rotate_left; (rintro w9 (rfl | hS9); (go_simp <;> rfl); (first | have hc9 := Ext.cells hS9 | have hc9 := Keeps.cells hS9 | (try dsimp only at hS9)); (go_simp <;> rfl)); (try simp only [Act.put, List.setIfInBounds_toArray, List.set_cons_zero, List.set_cons_succ])) | (refine' hl_s rfl rfl ?_; (try simp only [Act.put, List.setIfInBounds_toArray, List.set_cons_zero, List.set_cons_succ])) | (refine hl_e rfl rfl rfl (fun K hK => ?_)) | (with_reducible refine And.intro (fun hn => ?_) ?_; (first | exact hS | exact Keeps.alloc hS _ | exact absurd hn (by rw [show needS _ _ = false from by kernel_rfl]; exact Bool.false_ne_true))) | (refine hl_done ?_) | gi_step)
          go_ret
          exact .inl ⟨rfl, by rw [HL.out.1, show k0 + (tl.toList.length + 1 + tr.toList.length) = k0 + tl.toList.length + 1 + tr.toList.length from by omega]; exact H5.out⟩
        · have H5 := Lib.hid h5
          clear h5
          go_wp2_with (first | (refine' hl_q rfl rfl rfl (fun _ => ?_) ?_; rotate_left; (go_simp <;> (try go_bits) <;> rfl); (try simp only [Act.put, List.setIfInBounds_toArray, List.set_cons_zero, List.set_cons_succ])) | (refine' hl_rS rfl rfl rfl hS ?_ ?_; rotate_left; (intro w9 hS9; (first | have hc9 := Ext.cells hS9 | have hc9 := Keeps.cells hS9); (go_simp <;> rfl)); (try simp only [Act.put, List.setIfInBounds_toArray, List.set_cons_zero, List.set_cons_succ])) | (refine' hl_r rfl rfl rfl ?_ ?_; rotate_left; (rintro w9 (rfl | hS9); (go_simp <;> rfl); (first | have hc9 := Ext.cells hS9 | have hc9 := Keeps.cells hS9 | (try dsimp only at hS9)); (go_simp <;> rfl)); (try simp only [Act.put, List.setIfInBounds_toArray, List.set_cons_zero, List.set_cons_succ])) | (refine' hl_s rfl rfl ?_; (try simp only [Act.put, List.setIfInBounds_toArray, List.set_cons_zero, List.set_cons_succ])) | (refine hl_e rfl rfl rfl (fun K hK => ?_)) | (with_reducible refine And.intro (fun hn => ?_) ?_; (first | exact hS | exact Keeps.alloc hS _ | exact absurd hn (by rw [show needS _ _ = false from by kernel_rfl]; exact Bool.false_ne_true))) | (refine hl_done ?_) | gi_step)
          go_ret
          exact .inr ⟨rfl, H5.out⟩
      · have H4 := Lib.hid h4
        clear hy h4 hkf hc3
        go_wp2_with (first | (refine' hl_q rfl rfl rfl (fun _ => ?_) ?_; rotate_left; (go_simp <;> (try go_bits) <;> rfl); (try simp only [Act.put, List.setIfInBounds_toArray, List.set_cons_zero, List.set_cons_succ])) | (refine' hl_rS rfl rfl rfl hS ?_ ?_; rotate_left; (intro w9 hS9; (first | have hc9 := Ext.cells hS9 | have hc9 := Keeps.cells hS9); (go_simp <;> rfl)); (try simp only [Act.put, List.setIfInBounds_toArray, List.set_cons_zero, List.set_cons_succ])) | (refine' hl_r rfl rfl rfl ?_ ?_; rotate_left; (rintro w9 (rfl | hS9); (go_simp <;> rfl); (first | have hc9 := Ext.cells hS9 | have hc9 := Keeps.cells hS9 | (try dsimp only at hS9)); (go_simp <;> rfl)); (try simp only [Act.put, List.setIfInBounds_toArray, List.set_cons_zero, List.set_cons_succ])) | (refine' hl_s rfl rfl ?_; (try simp only [Act.put, List.setIfInBounds_toArray, List.set_cons_zero, List.set_cons_succ])) | (refine hl_e rfl rfl rfl (fun K hK => ?_)) | (with_reducible refine And.intro (fun hn => ?_) ?_; (first | exact hS | exact Keeps.alloc hS _ | exact absurd hn (by rw [show needS _ _ = false from by kernel_rfl]; exact Bool.false_ne_true))) | (refine hl_done ?_) | gi_step)
        go_ret
        exact .inr ⟨rfl, _, HL.out.2, H4.out⟩
    · have H3 := Lib.hid h3
      clear h3
      go_wp2_with (first | (refine' hl_q rfl rfl rfl (fun _ => ?_) ?_; rotate_left; (go_simp <;> (try go_bits) <;> rfl); (try simp only [Act.put, List.setIfInBounds_toArray, List.set_cons_zero, List.set_cons_succ])) | (refine' hl_rS rfl rfl rfl hS ?_ ?_; rotate_left; (intro w9 hS9; (first | have hc9 := Ext.cells hS9 | have hc9 := Keeps.cells hS9); (go_simp <;> rfl)); (try simp only [Act.put, List.setIfInBounds_toArray, List.set_cons_zero, List.set_cons_succ])) | (refine' hl_r rfl rfl rfl ?_ ?_; rotate_left; (rintro w9 (rfl | hS9); (go_simp <;> rfl); (first | have hc9 := Ext.cells hS9 | have hc9 := Keeps.cells hS9 | (try dsimp only at hS9)); (go_simp <;> rfl)); (try simp only [Act.put, List.setIfInBounds_toArray, List.set_cons_zero, List.set_cons_succ])) | (refine' hl_s rfl rfl ?_; (try simp only [Act.put, List.setIfInBounds_toArray, List.set_cons_zero, List.set_cons_succ])) | (refine hl_e rfl rfl rfl (fun K hK => ?_)) | (with_reducible refine And.intro (fun hn => ?_) ?_; (first | exact hS | exact Keeps.alloc hS _ | exact absurd hn (by rw [show needS _ _ = false from by kernel_rfl]; exact Bool.false_ne_true))) | (refine hl_done ?_) | gi_step)
      go_ret
      exact .inr ⟨rfl, H3.out⟩
set_option maxHeartbeats 2000000 in
theorem givefrom_si (xs : List (Array Value)) (B l fb : Nat) (fk : ByteArray) (J X : Nat → World → Prop) (hJ : ∀ k W W', J k W → Bk B W W' → J k W')
    (hY : ∀ k (hk : k < xs.length) W, J k W → Yd Tryz.prog l xs[k] W fun v W' => KeepsFrom B W W' ∧ ((v = .bool true ∧ J (k + 1) W') ∨ (v = .bool false ∧ X (k + 1) W')))
    (hfb : ∀ k W, J k W → W.cell? ⟨fb, 0, none⟩ = some (.string fk))
    (t : T ByteArray Int) : (∀ k W, J k W → At Ssi W t) → ∀ k0, (∀ i (h : i < (t.since cmpS fk).length), xs[k0 + i]? = some (encsi (t.since cmpS fk)[i])) → ∀ W, J k0 W →
    Calls Tryz.prog 71 #[.pointer t.ptr, .pointer (some ⟨fb, 0, none⟩), .func (.yield l) #[] #[]] W (GiveP J X (k0 + (t.since cmpS fk).length) xs.length) := by
  induction t with
  | nil =>
    intro _ k0 _ W h
    simp only [T.ptr_nil]
    have H := Lib.hid h
    clear h hJ hY hfb
    go_enter Tryz.func71, Tryz.ntmps71
    go_wp2_with fail
    go_ret
    exact .inl ⟨rfl, H.out⟩
  | node b k v tl tr ihl ihr =>
    intro hA k0 hseg W h
    have hc : ∀ k0 W, J k0 W → (∀ i, W.cell? ⟨b, i, none⟩ = (#[.string k, .int .i64 v, .pointer tl.ptr, .pointer tr.ptr, .int .i64 ((1 + max tl.ht tr.ht : Nat) : Int)] : Array Value)[i]?) := fun k0 W h => have hb := (hA k0 W h).1; blk_cell hb
    have hcf := hfb k0 W h
    have hc0 := hc k0 W h
    cases hk : cmpS k fk with
    | lt =>
      obtain ⟨f1, f2, f3⟩ := cmpS_lt' hk
      have hp : (T.node b k v tl tr).since cmpS fk = tr.since cmpS fk := by rw [T.since, hk]
      rw [hp] at hseg ⊢
      have IR := Lib.hid (ihr (fun k W h => (hA k W h).2.2.1) k0 hseg)
      have HJ := Lib.hid hJ
      have HC := Lib.hid hc
      have H := Lib.hid h
      simp only [T.ptr_node]
      have HF := Lib.hid hfb
      clear ihl ihr hseg hA hY hJ hc h hk hp hfb
      go_enter Tryz.func71, Tryz.ntmps71
      go_wp2_with fail
      refine wp_drawE (way [0, 1, 2, 3, 4, 5, 6, 7, 8, 9, 10, 11]) (by kernel_rfl) (by kernel_rfl) (fun w1 hh hd hf hS => ?_)
      have H1 := Lib.hid (HJ.out _ _ _ H.out (Bk.of_heap hh hS.ost))
      have hc1 := HC.out _ _ H1.out
      have hcf1 := HF.out _ _ H1.out
      have hE := Lib.hid hS
      clear hh hd hf
      simp only [way]
      go_wp2_with (first | (refine' hl_q rfl rfl rfl (fun _ => ?_) ?_; rotate_left; (go_simp <;> (try go_bits) <;> rfl); (try simp only [Act.put, List.setIfInBounds_toArray, List.set_cons_zero, List.set_cons_succ])) | (refine' hl_rS rfl rfl rfl hS ?_ ?_; rotate_left; (intro w9 hS9; (first | have hc9 := Ext.cells hS9 | have hc9 := Keeps.cells hS9); (go_simp <;> rfl)); (try simp only [Act.put, List.setIfInBounds_toArray, List.set_cons_zero, List.set_cons_succ])) | (refine' hl_r rfl rfl rfl ?_ ?_; rotate_left; (rintro w9 (rfl | hS9); (go_simp <;> rfl); (first | have hc9 := Ext.cells hS9 | have hc9 := Keeps.cells hS9 | (try dsimp only at hS9)); (go_simp <;> rfl)); (try simp only [Act.put, List.setIfInBounds_toArray, List.set_cons_zero, List.set_cons_succ])) | (refine' hl_s rfl rfl ?_; (try simp only [Act.put, List.setIfInBounds_toArray, List.set_cons_zero, List.set_cons_succ])) | (refine hl_e rfl rfl rfl (fun K hK => ?_)) | (with_reducible refine And.intro (fun hn => ?_) ?_; (first | exact hS | exact Keeps.alloc hS _ | exact absurd hn (by rw [show needS _ _ = false from by kernel_rfl]; exact Bool.false_ne_true))) | (refine hl_done ?_) | gi_step)
      refine (IR.out _ H1.out).mono ?_
      rintro e9 w5 (⟨rfl, h5⟩ | ⟨rfl, h5⟩)
      · have H5 := Lib.hid h5
        clear h5
        go_wp2_with fail
        go_ret
        exact .inl ⟨rfl, H5.out⟩
      · have H5 := Lib.hid h5
        clear h5
        go_wp2_with fail
        go_ret
        exact .inr ⟨rfl, H5.out⟩
    | eq =>
      obtain ⟨f1, f2, f3⟩ := cmpS_eq' hk
      have hp : (T.node b k v tl tr).since cmpS fk = tl.since cmpS fk ++ (k, v) :: tr.toList := by rw [T.since, hk]
      rw [hp] at hseg ⊢
      have hlen : (tl.since cmpS fk ++ (k, v) :: tr.toList).length = (tl.since cmpS fk).length + 1 + tr.toList.length := by simp; omega
      have hx : xs[k0 + (tl.since cmpS fk).length]? = some (encsi (k, v)) := by
        have := hseg (tl.since cmpS fk).length (by rw [hlen]; omega)
        rw [this]; simp
      have IL := Lib.hid (ihl (fun k W h => (hA k W h).2.1) k0 (fun i hi => by
        have := hseg i (by rw [hlen]; omega)
        rw [this]; rw [List.getElem_append_left hi]))
      have IR := Lib.hid (give_si xs B l J X hJ hY tr (fun k W h => (hA k W h).2.2.1) (k0 + (tl.since cmpS fk).length + 1) (fun i hi => by
        have := hseg ((tl.since cmpS fk).length + 1 + i) (by rw [hlen]; omega)
        rw [show k0 + (tl.since cmpS fk).length + 1 + i = k0 + ((tl.since cmpS fk).length + 1 + i) from by omega, this]
        rw [List.getElem_append_right (by omega)]
        simp [show (tl.since cmpS fk).length + 1 + i - (tl.since cmpS fk).length = i + 1 from by omega]))
      obtain ⟨hlt, hxe⟩ := List.getElem?_eq_some_iff.1 hx
      have HY := Lib.hid (fun W h => hxe ▸ hY (k0 + (tl.since cmpS fk).length) hlt W h)
      have HJ := Lib.hid hJ
      have HC := Lib.hid hc
      have HL := Lib.hid (And.intro hlen hlt)
      have H := Lib.hid h
      have HF := Lib.hid hfb
      simp only [T.ptr_node]
      clear ihl ihr hseg hA hY hJ hc hx hlt hxe hlen h hk hp hfb
      go_enter Tryz.func71, Tryz.ntmps71
      go_wp2_with fail
      refine wp_drawE (way [0, 1, 2, 3, 4, 5, 6, 7, 8, 9, 10, 11]) (by kernel_rfl) (by kernel_rfl) (fun w1 hh hd hf hS => ?_)
      have H1 := Lib.hid (HJ.out _ _ _ H.out (Bk.of_heap hh hS.ost))
      have hc1 := HC.out _ _ H1.out
      have hcf1 := HF.out _ _ H1.out
      clear hh hd hf
      simp only [way]
      go_wp2_with (first | (refine' hl_q rfl rfl rfl (fun _ => ?_) ?_; rotate_left; (go_simp <;> (try go_bits) <;> rfl); (try simp only [Act.put, List.setIfInBounds_toArray, List.set_cons_zero, List.set_cons_succ])) | (refine' hl_rS rfl rfl rfl hS ?_ ?_; rotate_left; (intro w9 hS9; (first | have hc9 := Ext.cells hS9 | have hc9 := Keeps.cells hS9); (go_simp <;> rfl)); (try simp only [Act.put, List.setIfInBounds_toArray, List.set_cons_zero, List.set_cons_succ])) | (refine' hl_r rfl rfl rfl ?_ ?_; rotate_left; (rintro w9 (rfl | hS9); (go_simp <;> rfl); (first | have hc9 := Ext.cells hS9 | have hc9 := Keeps.cells hS9 | (try dsimp only at hS9)); (go_simp <;> rfl)); (try simp only [Act.put, List.setIfInBounds_toArray, List.set_cons_zero, List.set_cons_succ])) | (refine' hl_s rfl rfl ?_; (try simp only [Act.put, List.setIfInBounds_toArray, List.set_cons_zero, List.set_cons_succ])) | (refine hl_e rfl rfl rfl (fun K hK => ?_)) | (with_reducible refine And.intro (fun hn => ?_) ?_; (first | exact hS | exact Keeps.alloc hS _ | exact absurd hn (by rw [show needS _ _ = false from by kernel_rfl]; exact Bool.false_ne_true))) | (refine hl_done ?_) | gi_step)
      refine wp_draw (way [0, 1, 2, 3, 4, 5, 6, 7, 8, 9, 10, 11, 12, 13, 14, 15, 16, 17, 18, 19, 20, 21, 22, 23, 24, 25, 26, 27]) (fun w' => (∀ i, w'.cell? ⟨b, i, none⟩ = (#[.string k, .int .i64 v, .pointer tl.ptr, .pointer tr.ptr, .int .i64 ((1 + max tl.ht tr.ht : Nat) : Int)] : Array Value)[i]?)) (by kernel_rfl) (by kernel_rfl) (drew_as fun w2 ho2 hh2 hd2 hf2 => ?_)
      have H2 := Lib.hid (HJ.out _ _ _ H1.out (Bk.of_heap hh2 ho2))
      have hc2 := HC.out _ _ H2.out
      clear ho2 hh2 hd2 hf2 hc1 hS hc0 hcf hcf1
      simp only [way]
      go_wp2_with (first | (refine' hl_q rfl rfl rfl (fun _ => ?_) ?_; rotate_left; (go_simp <;> (try go_bits) <;> rfl); (try simp only [Act.put, List.setIfInBounds_toArray, List.set_cons_zero, List.set_cons_succ])) | (refine' hl_rS rfl rfl rfl hS ?_ ?_; rotate_left; (intro w9 hS9; (first | have hc9 := Ext.cells hS9 | have hc9 := Keeps.cells hS9); (go_simp <;> rfl)); (try simp only [Act.put, List.setIfInBounds_toArray, List.set_cons_zero, List.set_cons_succ])) | (refine' hl_r rfl rfl rfl ?_ ?_; rotate_left; (rintro w9 (rfl | hS9); (go_simp <;> rfl); (first | have hc9 := Ext.cells hS9 | have hc9 := Keeps.cells hS9 | (try dsimp only at hS9)); (go_simp <;> rfl)); (try simp only [Act.put, List.setIfInBounds_toArray, List.set_cons_zero, List.set_cons_succ])) | (refine' hl_s rfl rfl ?_; (try simp only [Act.put, List.setIfInBounds_toArray, List.set_cons_zero, List.set_cons_succ])) | (refine hl_e rfl rfl rfl (fun K hK => ?_)) | (with_reducible refine And.intro (fun hn => ?_) ?_; (first | exact hS | exact Keeps.alloc hS _ | exact absurd hn (by rw [show needS _ _ = false from by kernel_rfl]; exact Bool.false_ne_true))) | (refine hl_done ?_) | gi_step)
      refine callsIn_wide.2 ((IL.out _ H2.out).mono ?_)
      rintro e9 w3 (⟨rfl, h3⟩ | ⟨rfl, h3⟩)
      · have hc3 := HC.out _ _ h3
        obtain ⟨fn, tmps, assign, body, hy, hR⟩ := HY.out _ h3
        simp only [encsi] at hy
        have HR := Lib.hid hR
        clear hR hc2 h3
        go_wp2_with (first | (refine' hl_q rfl rfl rfl (fun _ => ?_) ?_; rotate_left; (go_simp <;> (try go_bits) <;> rfl); (try simp only [Act.put, List.setIfInBounds_toArray, List.set_cons_zero, List.set_cons_succ])) | (refine' hl_rS rfl rfl rfl hS ?_ ?_; rotate_left; (intro w9 hS9; (first | have hc9 := Ext.cells hS9 | have hc9 := Keeps.cells hS9); (go_simp <;> rfl)); (try simp only [Act.put, List.setIfInBounds_toArray, List.set_cons_zero, List.set_cons_succ])) | (refine' hl_r rfl rfl rfl ?_ ?_; rotate_left; (rintro w9 (rfl | hS9); (go_simp <;> rfl); (first | have hc9 := Ext.cells hS9 | have hc9 := Keeps.cells hS9 | (try dsimp only at hS9)); (go_simp <;> rfl)); (try simp only [Act.put, List.setIfInBounds_toArray, List.set_cons_zero, List.set_cons_succ])) | (refine' hl_s rfl rfl ?_; (try simp only [Act.put, List.setIfInBounds_toArray, List.set_cons_zero, List.set_cons_succ])) | (refine hl_e rfl rfl rfl (fun K hK => ?_)) | (with_reducible refine And.intro (fun hn => ?_) ?_; (first | exact hS | exact Keeps.alloc hS _ | exact absurd hn (by rw [show needS _ _ = false from by kernel_rfl]; exact Bool.false_ne_true))) | (refine hl_done ?_) | gi_step)
        refine HR.out.mono ?_
        rintro e9 w4 ⟨v4, rfl, hkf, (⟨rfl, h4⟩ | ⟨rfl, h4⟩)⟩
        · have hc4 := HC.out _ _ h4
          have H4 := Lib.hid h4
          clear hy h4 hkf hc3
          go_wp2_with (first | (refine' hl_q rfl rfl rfl (fun _ => ?_) ?_; rotate_left; (go_simp <;> (try go_bits) <;> rfl); (try simp only [Act.put, List.setIfInBounds_toArray, List.set_cons_zero, List.set_cons_succ])) | (refine' hl_rS rfl rfl rfl hS ?_ ?_; rotate_left; (intro w9 hS9; (first | have hc9 := Ext.cells hS9 | have hc9 := Keeps.cells hS9); (go_simp <;> rfl)); (try simp only [Act.put, List.setIfInBounds_toArray, List.set_cons_zero, List.set_cons_succ])) | (refine' hl_r rfl rfl rfl ?_ ?_; rotate_left; (rintro w9 (rfl | hS9); (go_simp <;> rfl); (first | have hc9 := Ext.cells hS9 | have hc9 := Keeps.cells hS9 | (try dsimp only at hS9)); (go_simp <;> rfl)); (try simp only [Act.put, List.setIfInBounds_toArray, List.set_cons_zero, List.set_cons_succ])) | (refine' hl_s rfl rfl ?_; (try simp only [Act.put, List.setIfInBounds_toArray, List.set_cons_zero, List.set_cons_succ])) | (refine hl_e rfl rfl rfl (fun K hK => ?_)) | (with_reducible refine And.intro (fun hn => ?_) ?_; (first | exact hS | exact Keeps.alloc hS _ | exact absurd hn (by rw [show needS _ _ = false from by kernel_rfl]; exact Bool.false_ne_true))) | (refine hl_done ?_) | gi_step)
          refine callsIn_wide.2 ((IR.out _ H4.out).mono ?_)
          rintro e9 w5 (⟨rfl, h5⟩ | ⟨rfl, h5⟩)
          · have H5 := Lib.hid h5
            clear h5
            go_wp2_with (first | (refine' hl_q rfl rfl rfl (fun _ => ?_) ?_; rotate_left; (go_simp <;> (try go_bits) <;> rfl); (try simp only [Act.put, List.setIfInBounds_toArray, List.set_cons_zero, List.set_cons_succ])) | (refine' hl_rS rfl rfl rfl hS ?_ ?_; rotate_left; (intro w9 hS9; (first | have hc9 := Ext.cells hS9 | have hc9 := Keeps.cells hS9); (go_simp <;> rfl)); (try simp only [Act.put, List.setIfInBounds_toArray, List.set_cons_zero, List.set_cons_succ])) | (refine' hl_r rfl rfl rfl ?_ ?_; rotate_left; (rintro w9 (rfl | hS9); (go_simp <;> rfl); (first | have hc9 := Ext.cells hS9 | have hc9 := Keeps.cells hS9 | (try dsimp only at hS9)); (go_simp <;> rfl)); (try simp only [Act.put, List.setIfInBounds_toArray, List.set_cons_zero, List.set_cons_succ])) | (refine' hl_s rfl rfl ?_; (try simp only [Act.put, List.setIfInBounds_toArray, List.set_cons_zero, List.set_cons_succ])) | (refine hl_e rfl rfl rfl (fun K hK => ?_)) | (with_reducible refine And.intro (fun hn => ?_) ?_; (first | exact hS | exact Keeps.alloc hS _ | exact absurd hn (by rw [show needS _ _ = false from by kernel_rfl]; exact Bool.false_ne_true))) | (refine hl_done ?_) | gi_step)
            go_ret
            exact .inl ⟨rfl, by rw [HL.out.1, show k0 + ((tl.since cmpS fk).length + 1 + tr.toList.length) = k0 + (tl.since cmpS fk).length + 1 + tr.toList.length from by omega]; exact H5.out⟩
          · have H5 := Lib.hid h5
            clear h5
            go_wp2_with (first | (refine' hl_q rfl rfl rfl (fun _ => ?_) ?_; rotate_left; (go_simp <;> (try go_bits) <;> rfl); (try simp only [Act.put, List.setIfInBounds_toArray, List.set_cons_zero, List.set_cons_succ])) | (refine' hl_rS rfl rfl rfl hS ?_ ?_; rotate_left; (intro w9 hS9; (first | have hc9 := Ext.cells hS9 | have hc9 := Keeps.cells hS9); (go_simp <;> rfl)); (try simp only [Act.put, List.setIfInBounds_toArray, List.set_cons_zero, List.set_cons_succ])) | (refine' hl_r rfl rfl rfl ?_ ?_; rotate_left; (rintro w9 (rfl | hS9); (go_simp <;> rfl); (first | have hc9 := Ext.cells hS9 | have hc9 := Keeps.cells hS9 | (try dsimp only at hS9)); (go_simp <;> rfl)); (try simp only [Act.put, List.setIfInBounds_toArray, List.set_cons_zero, List.set_cons_succ])) | (refine' hl_s rfl rfl ?_; (try simp only [Act.put, List.setIfInBounds_toArray, List.set_cons_zero, List.set_cons_succ])) | (refine hl_e rfl rfl rfl (fun K hK => ?_)) | (with_reducible refine And.intro (fun hn => ?_) ?_; (first | exact hS | exact Keeps.alloc hS _ | exact absurd hn (by rw [show needS _ _ = false from by kernel_rfl]; exact Bool.false_ne_true))) | (refine hl_done ?_) | gi_step)
            go_ret
            exact .inr ⟨rfl, H5.out⟩
        · have H4 := Lib.hid h4
          clear hy h4 hkf hc3
          go_wp2_with (first | (refine' hl_q rfl rfl rfl (fun _ => ?_) ?_; rotate_left; (go_simp <;> (try go_bits) <;> rfl); (try simp only [Act.put, List.setIfInBounds_toArray, List.set_cons_zero, List.set_cons_succ])) | (refine' hl_rS rfl rfl rfl hS ?_ ?_; rotate_left; (intro w9 hS9; (first | have hc9 := Ext.cells hS9 | have hc9 := Keeps.cells hS9); (go_simp <;> rfl)); (try simp only [Act.put, List.setIfInBounds_toArray, List.set_cons_zero, List.set_cons_succ])) | (refine' hl_r rfl rfl rfl ?_ ?_; rotate_left; (rintro w9 (rfl | hS9); (go_simp <;> rfl); (first | have hc9 := Ext.cells hS9 | have hc9 := Keeps.cells hS9 | (try dsimp only at hS9)); (go_simp <;> rfl)); (try simp only [Act.put, List.setIfInBounds_toArray, List.set_cons_zero, List.set_cons_succ])) | (refine' hl_s rfl rfl ?_; (try simp only [Act.put, List.setIfInBounds_toArray, List.set_cons_zero, List.set_cons_succ])) | (refine hl_e rfl rfl rfl (fun K hK => ?_)) | (with_reducible refine And.intro (fun hn => ?_) ?_; (first | exact hS | exact Keeps.alloc hS _ | exact absurd hn (by rw [show needS _ _ = false from by kernel_rfl]; exact Bool.false_ne_true))) | (refine hl_done ?_) | gi_step)
          go_ret
          exact .inr ⟨rfl, _, HL.out.2, H4.out⟩
      · have H3 := Lib.hid h3
        clear h3
        go_wp2_with (first | (refine' hl_q rfl rfl rfl (fun _ => ?_) ?_; rotate_left; (go_simp <;> (try go_bits) <;> rfl); (try simp only [Act.put, List.setIfInBounds_toArray, List.set_cons_zero, List.set_cons_succ])) | (refine' hl_rS rfl rfl rfl hS ?_ ?_; rotate_left; (intro w9 hS9; (first | have hc9 := Ext.cells hS9 | have hc9 := Keeps.cells hS9); (go_simp <;> rfl)); (try simp only [Act.put, List.setIfInBounds_toArray, List.set_cons_zero, List.set_cons_succ])) | (refine' hl_r rfl rfl rfl ?_ ?_; rotate_left; (rintro w9 (rfl | hS9); (go_simp <;> rfl); (first | have hc9 := Ext.cells hS9 | have hc9 := Keeps.cells hS9 | (try dsimp only at hS9)); (go_simp <;> rfl)); (try simp only [Act.put, List.setIfInBounds_toArray, List.set_cons_zero, List.set_cons_succ])) | (refine' hl_s rfl rfl ?_; (try simp only [Act.put, List.setIfInBounds_toArray, List.set_cons_zero, List.set_cons_succ])) | (refine hl_e rfl rfl rfl (fun K hK => ?_)) | (with_reducible refine And.intro (fun hn => ?_) ?_; (first | exact hS | exact Keeps.alloc hS _ | exact absurd hn (by rw [show needS _ _ = false from by kernel_rfl]; exact Bool.false_ne_true))) | (refine hl_done ?_) | gi_step)
        go_ret
        exact .inr ⟨rfl, H3.out⟩
    | gt =>
      obtain ⟨f1, f2, f3⟩ := cmpS_gt' hk
      have hp : (T.node b k v tl tr).since cmpS fk = tl.since cmpS fk ++ (k, v) :: tr.toList := by rw [T.since, hk]
      rw [hp] at hseg ⊢
      have hlen : (tl.since cmpS fk ++ (k, v) :: tr.toList).length = (tl.since cmpS fk).length + 1 + tr.toList.length := by simp; omega
      have hx : xs[k0 + (tl.since cmpS fk).length]? = some (encsi (k, v)) := by
        have := hseg (tl.since cmpS fk).length (by rw [hlen]; omega)
        rw [this]; simp
      have IL := Lib.hid (ihl (fun k W h => (hA k W h).2.1) k0 (fun i hi => by
        have := hseg i (by rw [hlen]; omega)
        rw [this]; rw [List.getElem_append_left hi]))
      have IR := Lib.hid (give_si xs B l J X hJ hY tr (fun k W h => (hA k W h).2.2.1) (k0 + (tl.since cmpS fk).length + 1) (fun i hi => by
        have := hseg ((tl.since cmpS fk).length + 1 + i) (by rw [hlen]; omega)
        rw [show k0 + (tl.since cmpS fk).length + 1 + i = k0 + ((tl.since cmpS fk).length + 1 + i) from by omega, this]
        rw [List.getElem_append_right (by omega)]
        simp [show (tl.since cmpS fk).length + 1 + i - (tl.since cmpS fk).length = i + 1 from by omega]))
      obtain ⟨hlt, hxe⟩ := List.getElem?_eq_some_iff.1 hx
      have HY := Lib.hid (fun W h => hxe ▸ hY (k0 + (tl.since cmpS fk).length) hlt W h)
      have HJ := Lib.hid hJ
      have HC := Lib.hid hc
      have HL := Lib.hid (And.intro hlen hlt)
      have H := Lib.hid h
      have HF := Lib.hid hfb
      simp only [T.ptr_node]
      clear ihl ihr hseg hA hY hJ hc hx hlt hxe hlen h hk hp hfb
      go_enter Tryz.func71, Tryz.ntmps71
      go_wp2_with fail
      refine wp_drawE (way [0, 1, 2, 3, 4, 5, 6, 7, 8, 9, 10, 11]) (by kernel_rfl) (by kernel_rfl) (fun w1 hh hd hf hS => ?_)
      have H1 := Lib.hid (HJ.out _ _ _ H.out (Bk.of_heap hh hS.ost))
      have hc1 := HC.out _ _ H1.out
      have hcf1 := HF.out _ _ H1.out
      clear hh hd hf
      simp only [way]
      go_wp2_with (first | (refine' hl_q rfl rfl rfl (fun _ => ?_) ?_; rotate_left; (go_simp <;> (try go_bits) <;> rfl); (try simp only [Act.put, List.setIfInBounds_toArray, List.set_cons_zero, List.set_cons_succ])) | (refine' hl_rS rfl rfl rfl hS ?_ ?_; rotate_left; (intro w9 hS9; (first | have hc9 := Ext.cells hS9 | have hc9 := Keeps.cells hS9); (go_simp <;> rfl)); (try simp only [Act.put, List.setIfInBounds_toArray, List.set_cons_zero, List.set_cons_succ])) | (refine' hl_r rfl rfl rfl ?_ ?_; rotate_left; (rintro w9 (rfl | hS9); (go_simp <;> rfl); (first | have hc9 := Ext.cells hS9 | have hc9 := Keeps.cells hS9 | (try dsimp only at hS9)); (go_simp <;> rfl)); (try simp only [Act.put, List.setIfInBounds_toArray, List.set_cons_zero, List.set_cons_succ])) | (refine' hl_s rfl rfl ?_; (try simp only [Act.put, List.setIfInBounds_toArray, List.set_cons_zero, List.set_cons_succ])) | (refine hl_e rfl rfl rfl (fun K hK => ?_)) | (with_reducible refine And.intro (fun hn => ?_) ?_; (first | exact hS | exact Keeps.alloc hS _ | exact absurd hn (by rw [show needS _ _ = false from by kernel_rfl]; exact Bool.false_ne_true))) | (refine hl_done ?_) | gi_step)
      refine wp_draw (way [0, 1, 2, 3, 4, 5, 6, 7, 8, 9, 10, 11, 12, 13, 14, 15, 16, 17, 18, 19, 20, 21, 22, 23, 24, 25, 26, 27]) (fun w' => (∀ i, w'.cell? ⟨b, i, none⟩ = (#[.string k, .int .i64 v, .pointer tl.ptr, .pointer tr.ptr, .int .i64 ((1 + max tl.ht tr.ht : Nat) : Int)] : Array Value)[i]?)) (by kernel_rfl) (by kernel_rfl) (drew_as fun w2 ho2 hh2 hd2 hf2 => ?_)
      have H2 := Lib.hid (HJ.out _ _ _ H1.out (Bk.of_heap hh2 ho2))
      have hc2 := HC.out _ _ H2.out
      clear ho2 hh2 hd2 hf2 hc1 hS hc0 hcf hcf1
      simp only [way]
      go_wp2_with (first | (refine' hl_q rfl rfl rfl (fun _ => ?_) ?_; rotate_left; (go_simp <;> (try go_bits) <;> rfl); (try simp only [Act.put, List.setIfInBounds_toArray, List.set_cons_zero, List.set_cons_succ])) | (refine' hl_rS rfl rfl rfl hS ?_ ?_; rotate_left; (intro w9 hS9; (first | have hc9 := Ext.cells hS9 | have hc9 := Keeps.cells hS9); (go_simp <;> rfl)); (try simp only [Act.put, List.setIfInBounds_toArray, List.set_cons_zero, List.set_cons_succ])) | (refine' hl_r rfl rfl rfl ?_ ?_; rotate_left; (rintro w9 (rfl | hS9); (go_simp <;> rfl); (first | have hc9 := Ext.cells hS9 | have hc9 := Keeps.cells hS9 | (try dsimp only at hS9)); (go_simp <;> rfl)); (try simp only [Act.put, List.setIfInBounds_toArray, List.set_cons_zero, List.set_cons_succ])) | (refine' hl_s rfl rfl ?_; (try simp only [Act.put, List.setIfInBounds_toArray, List.set_cons_zero, List.set_cons_succ])) | (refine hl_e rfl rfl rfl (fun K hK => ?_)) | (with_reducible refine And.intro (fun hn => ?_) ?_; (first | exact hS | exact Keeps.alloc hS _ | exact absurd hn (by rw [show needS _ _ = false from by kernel_rfl]; exact Bool.false_ne_true))) | (refine hl_done ?_) | gi_step)
      refine callsIn_wide.2 ((IL.out _ H2.out).mono ?_)
      rintro e9 w3 (⟨rfl, h3⟩ | ⟨rfl, h3⟩)
      · have hc3 := HC.out _ _ h3
        obtain ⟨fn, tmps, assign, body, hy, hR⟩ := HY.out _ h3
        simp only [encsi] at hy
        have HR := Lib.hid hR
        clear hR hc2 h3
        go_wp2_with (first | (refine' hl_q rfl rfl rfl (fun _ => ?_) ?_; rotate_left; (go_simp <;> (try go_bits) <;> rfl); (try simp only [Act.put, List.setIfInBounds_toArray, List.set_cons_zero, List.set_cons_succ])) | (refine' hl_rS rfl rfl rfl hS ?_ ?_; rotate_left; (intro w9 hS9; (first | have hc9 := Ext.cells hS9 | have hc9 := Keeps.cells hS9); (go_simp <;> rfl)); (try simp only [Act.put, List.setIfInBounds_toArray, List.set_cons_zero, List.set_cons_succ])) | (refine' hl_r rfl rfl rfl ?_ ?_; rotate_left; (rintro w9 (rfl | hS9); (go_simp <;> rfl); (first | have hc9 := Ext.cells hS9 | have hc9 := Keeps.cells hS9 | (try dsimp only at hS9)); (go_simp <;> rfl)); (try simp only [Act.put, List.setIfInBounds_toArray, List.set_cons_zero, List.set_cons_succ])) | (refine' hl_s rfl rfl ?_; (try simp only [Act.put, List.setIfInBounds_toArray, List.set_cons_zero, List.set_cons_succ])) | (refine hl_e rfl rfl rfl (fun K hK => ?_)) | (with_reducible refine And.intro (fun hn => ?_) ?_; (first | exact hS | exact Keeps.alloc hS _ | exact absurd hn (by rw [show needS _ _ = false from by kernel_rfl]; exact Bool.false_ne_true))) | (refine hl_done ?_) | gi_step)
        refine HR.out.mono ?_
        rintro e9 w4 ⟨v4, rfl, hkf, (⟨rfl, h4⟩ | ⟨rfl, h4⟩)⟩
        · have hc4 := HC.out _ _ h4
          have H4 := Lib.hid h4
          clear hy h4 hkf hc3
          go_wp2_with (first | (refine' hl_q rfl rfl rfl (fun _ => ?_) ?_; rotate_left; (go_simp <;> (try go_bits) <;> rfl); (try simp only [Act.put, List.setIfInBounds_toArray, List.set_cons_zero, List.set_cons_succ])) | (refine' hl_rS rfl rfl rfl hS ?_ ?_; rotate_left; (intro w9 hS9; (first | have hc9 := Ext.cells hS9 | have hc9 := Keeps.cells hS9); (go_simp <;> rfl)); (try simp only [Act.put, List.setIfInBounds_toArray, List.set_cons_zero, List.set_cons_succ])) | (refine' hl_r rfl rfl rfl ?_ ?_; rotate_left; (rintro w9 (rfl | hS9); (go_simp <;> rfl); (first | have hc9 := Ext.cells hS9 | have hc9 := Keeps.cells hS9 | (try dsimp only at hS9)); (go_simp <;> rfl)); (try simp only [Act.put, List.setIfInBounds_toArray, List.set_cons_zero, List.set_cons_succ])) | (refine' hl_s rfl rfl ?_; (try simp only [Act.put, List.setIfInBounds_toArray, List.set_cons_zero, List.set_cons_succ])) | (refine hl_e rfl rfl rfl (fun K hK => ?_)) | (with_reducible refine And.intro (fun hn => ?_) ?_; (first | exact hS | exact Keeps.alloc hS _ | exact absurd hn (by rw [show needS _ _ = false from by kernel_rfl]; exact Bool.false_ne_true))) | (refine hl_done ?_) | gi_step)
          refine callsIn_wide.2 ((IR.out _ H4.out).mono ?_)
          rintro e9 w5 (⟨rfl, h5⟩ | ⟨rfl, h5⟩)
          · have H5 := Lib.hid h5
            clear h5
            go_wp2_with (first | (refine' hl_q rfl rfl rfl (fun _ => ?_) ?_; rotate_left; (go_simp <;> (try go_bits) <;> rfl); (try simp only [Act.put, List.setIfInBounds_toArray, List.set_cons_zero, List.set_cons_succ])) | (refine' hl_rS rfl rfl rfl hS ?_ ?_; rotate_left; (intro w9 hS9; (first | have hc9 := Ext.cells hS9 | have hc9 := Keeps.cells hS9); (go_simp <;> rfl)); (try simp only [Act.put, List.setIfInBounds_toArray, List.set_cons_zero, List.set_cons_succ])) | (refine' hl_r rfl rfl rfl ?_ ?_; rotate_left; (rintro w9 (rfl | hS9); (go_simp <;> rfl); (first | have hc9 := Ext.cells hS9 | have hc9 := Keeps.cells hS9 | (try dsimp only at hS9)); (go_simp <;> rfl)); (try simp only [Act.put, List.setIfInBounds_toArray, List.set_cons_zero, List.set_cons_succ])) | (refine' hl_s rfl rfl ?_; (try simp only [Act.put, List.setIfInBounds_toArray, List.set_cons_zero, List.set_cons_succ])) | (refine hl_e rfl rfl rfl (fun K hK => ?_)) | (with_reducible refine And.intro (fun hn => ?_) ?_; (first | exact hS | exact Keeps.alloc hS _ | exact absurd hn (by rw [show needS _ _ = false from by kernel_rfl]; exact Bool.false_ne_true))) | (refine hl_done ?_) | gi_step)
            go_ret
            exact .inl ⟨rfl, by rw [HL.out.1, show k0 + ((tl.since cmpS fk).length + 1 + tr.toList.length) = k0 + (tl.since cmpS fk).length + 1 + tr.toList.length from by omega]; exact H5.out⟩
          · have H5 := Lib.hid h5
            clear h5
            go_wp2_with (first | (refine' hl_q rfl rfl rfl (fun _ => ?_) ?_; rotate_left; (go_simp <;> (try go_bits) <;> rfl); (try simp only [Act.put, List.setIfInBounds_toArray, List.set_cons_zero, List.set_cons_succ])) | (refine' hl_rS rfl rfl rfl hS ?_ ?_; rotate_left; (intro w9 hS9; (first | have hc9 := Ext.cells hS9 | have hc9 := Keeps.cells hS9); (go_simp <;> rfl)); (try simp only [Act.put, List.setIfInBounds_toArray, List.set_cons_zero, List.set_cons_succ])) | (refine' hl_r rfl rfl rfl ?_ ?_; rotate_left; (rintro w9 (rfl | hS9); (go_simp <;> rfl); (first | have hc9 := Ext.cells hS9 | have hc9 := Keeps.cells hS9 | (try dsimp only at hS9)); (go_simp <;> rfl)); (try simp only [Act.put, List.setIfInBounds_toArray, List.set_cons_zero, List.set_cons_succ])) | (refine' hl_s rfl rfl ?_; (try simp only [Act.put, List.setIfInBounds_toArray, List.set_cons_zero, List.set_cons_succ])) | (refine hl_e rfl rfl rfl (fun K hK => ?_)) | (with_reducible refine And.intro (fun hn => ?_) ?_; (first | exact hS | exact Keeps.alloc hS _ | exact absurd hn (by rw [show needS _ _ = false from by kernel_rfl]; exact Bool.false_ne_true))) | (refine hl_done ?_) | gi_step)
            go_ret
            exact .inr ⟨rfl, H5.out⟩
        · have H4 := Lib.hid h4
          clear hy h4 hkf hc3
          go_wp2_with (first | (refine' hl_q rfl rfl rfl (fun _ => ?_) ?_; rotate_left; (go_simp <;> (try go_bits) <;> rfl); (try simp only [Act.put, List.setIfInBounds_toArray, List.set_cons_zero, List.set_cons_succ])) | (refine' hl_rS rfl rfl rfl hS ?_ ?_; rotate_left; (intro w9 hS9; (first | have hc9 := Ext.cells hS9 | have hc9 := Keeps.cells hS9); (go_simp <;> rfl)); (try simp only [Act.put, List.setIfInBounds_toArray, List.set_cons_zero, List.set_cons_succ])) | (refine' hl_r rfl rfl rfl ?_ ?_; rotate_left; (rintro w9 (rfl | hS9); (go_simp <;> rfl); (first | have hc9 := Ext.cells hS9 | have hc9 := Keeps.cells hS9 | (try dsimp only at hS9)); (go_simp <;> rfl)); (try simp only [Act.put, List.setIfInBounds_toArray, List.set_cons_zero, List.set_cons_succ])) | (refine' hl_s rfl rfl ?_; (try simp only [Act.put, List.setIfInBounds_toArray, List.set_cons_zero, List.set_cons_succ])) | (refine hl_e rfl rfl rfl (fun K hK => ?_)) | (with_reducible refine And.intro (fun hn => ?_) ?_; (first | exact hS | exact Keeps.alloc hS _ | exact absurd hn (by rw [show needS _ _ = false from by kernel_rfl]; exact Bool.false_ne_true))) | (refine hl_done ?_) | gi_step)
          go_ret
          exact .inr ⟨rfl, _, HL.out.2, H4.out⟩
      · have H3 := Lib.hid h3
        clear h3
        go_wp2_with (first | (refine' hl_q rfl rfl rfl (fun _ => ?_) ?_; rotate_left; (go_simp <;> (try go_bits) <;> rfl); (try simp only [Act.put, List.setIfInBounds_toArray, List.set_cons_zero, List.set_cons_succ])) | (refine' hl_rS rfl rfl rfl hS ?_ ?_; rotate_left; (intro w9 hS9; (first | have hc9 := Ext.cells hS9 | have hc9 := Keeps.cells hS9); (go_simp <;> rfl)); (try simp only [Act.put, List.setIfInBounds_toArray, List.set_cons_zero, List.set_cons_succ])) | (refine' hl_r rfl rfl rfl ?_ ?_; rotate_left; (rintro w9 (rfl | hS9); (go_simp <;> rfl); (first | have hc9 := Ext.cells hS9 | have hc9 := Keeps.cells hS9 | (try dsimp only at hS9)); (go_simp <;> rfl)); (try simp only [Act.put, List.setIfInBounds_toArray, List.set_cons_zero, List.set_cons_succ])) | (refine' hl_s rfl rfl ?_; (try simp only [Act.put, List.setIfInBounds_toArray, List.set_cons_zero, List.set_cons_succ])) | (refine hl_e rfl rfl rfl (fun K hK => ?_)) | (with_reducible refine And.intro (fun hn => ?_) ?_; (first | exact hS | exact Keeps.alloc hS _ | exact absurd hn (by rw [show needS _ _ = false from by kernel_rfl]; exact Bool.false_ne_true))) | (refine hl_done ?_) | gi_step)
        go_ret
        exact .inr ⟨rfl, H3.out⟩

theorem seqfrom_si (t : T ByteArray Int) (fk : ByteArray) (B0 B1 b o : Nat) : Seq Tryz.prog 72 #[.pointer (some ⟨B0, 0, none⟩), .pointer (some ⟨B1, 0, none⟩)] ((t.since cmpS fk).map encsi)
    (fun W => W.cell? ⟨B0, 0, none⟩ = some (.pointer (some ⟨b, o, none⟩)) ∧ W.cell? ⟨B1, 0, none⟩ = some (.string fk) ∧ W.cell? ⟨b, o, none⟩ = some (.pointer t.ptr) ∧ At Ssi W t) := by
  intro B l J X W hB hJ hX hP hY h0
  obtain ⟨h1, h2, h3, h4⟩ := hP 0 W h0
  have hG := givefrom_si _ B l B1 fk J X hJ hY (fun k W h => (hP k W h).2.1) t (fun k W h => (hP k W h).2.2.2) 0 (fun i h => by simp [h]) W h0
  have HG := Lib.hid hG
  clear hG hY hP hJ hX h0 h4 h2
  go_enter Tryz.func72, Tryz.ntmps72
  go_wp2_with fail
  refine (top_si t _ b o h3).mono ?_
  rintro e9 w9 ⟨rfl, rfl⟩
  go_wp2_with fail
  refine HG.out.mono ?_
  rintro e9 w5 (⟨rfl, h5⟩ | ⟨rfl, h5⟩)
  · have H5 := Lib.hid h5
    clear h5
    go_wp2_with fail
    go_end0
    exact ⟨⟨_, rfl⟩, .inl (by have := H5.out; rwa [Nat.zero_add, ← List.length_map (f := encsi)] at this)⟩
  · have H5 := Lib.hid h5
    clear h5
    go_wp2_with fail
    go_end0
    exact ⟨⟨_, rfl⟩, .inr H5.out⟩
theorem from_si (w : World) (p : Option Addr) (fk : ByteArray) : Calls Tryz.prog 48 #[.pointer p, .string fk] w fun e w' =>
    e = .returned (.func (.func 72) #[] #[.pointer (some ⟨w.heap.size, 0, none⟩), .pointer (some ⟨w.heap.size + 1, 0, none⟩)]) ∧ w' = (w.alloc (.cells #[.pointer p] 88)).alloc (.cells #[.string fk] 9) := by
  go_enter Tryz.func48, Tryz.ntmps48
  go_wp2_with fail
  go_ret
  exact ⟨rfl, rfl⟩
theorem seqall_si (t : T ByteArray Int) (B0 b o : Nat) : Seq Tryz.prog 70 #[.pointer (some ⟨B0, 0, none⟩)] (t.toList.map encsi)
    (fun W => W.cell? ⟨B0, 0, none⟩ = some (.pointer (some ⟨b, o, none⟩)) ∧ W.cell? ⟨b, o, none⟩ = some (.pointer t.ptr) ∧ At Ssi W t) := by
  intro B l J X W hB hJ hX hP hY h0
  obtain ⟨h1, h3, h4⟩ := hP 0 W h0
  have hG := give_si _ B l J X hJ hY t (fun k W h => (hP k W h).2.2) 0 (fun i h => by simp [h]) W h0
  have HG := Lib.hid hG
  clear hG hY hP hJ hX h0 h4
  go_enter Tryz.func70, Tryz.ntmps70
  go_wp2_with fail
  refine (top_si t _ b o h3).mono ?_
  rintro e9 w9 ⟨rfl, rfl⟩
  go_wp2_with fail
  refine HG.out.mono ?_
  rintro e9 w5 (⟨rfl, h5⟩ | ⟨rfl, h5⟩)
  · have H5 := Lib.hid h5
    clear h5
    go_wp2_with fail
    go_end0
    exact ⟨⟨_, rfl⟩, .inl (by have := H5.out; rwa [Nat.zero_add, ← List.length_map (f := encsi)] at this)⟩
  · have H5 := Lib.hid h5
    clear h5
    go_wp2_with fail
    go_end0
    exact ⟨⟨_, rfl⟩, .inr H5.out⟩
theorem seqnil_si (B0 : Nat) : Seq Tryz.prog 70 #[.pointer (some ⟨B0, 0, none⟩)] [] (fun W => W.cell? ⟨B0, 0, none⟩ = some (.pointer none)) := by
  intro B l J X W hB hJ hX hP hY h0
  have h1 := hP 0 W h0
  have hG := give_si [] B l J X hJ hY .nil (fun _ _ _ => trivial) 0 (fun i h => by simp [T.toList] at h) W h0
  have HG := Lib.hid hG
  clear hG hY hP hJ hX h0
  go_enter Tryz.func70, Tryz.ntmps70
  go_wp2_with fail
  refine (topnil_si _).mono ?_
  rintro e9 w9 ⟨rfl, rfl⟩
  go_wp2_with fail
  refine HG.out.mono ?_
  rintro e9 w5 (⟨rfl, h5⟩ | ⟨rfl, h5⟩)
  · have H5 := Lib.hid h5
    clear h5
    go_wp2_with fail
    go_end0
    exact ⟨⟨_, rfl⟩, .inl H5.out⟩
  · have H5 := Lib.hid h5
    clear h5
    go_wp2_with fail
    go_end0
    exact ⟨⟨_, rfl⟩, .inr H5.out⟩
theorem all_si (w : World) (p : Option Addr) : Calls Tryz.prog 47 #[.pointer p] w fun e w' =>
    e = .returned (.func (.func 70) #[] #[.pointer (some ⟨w.heap.size, 0, none⟩)]) ∧ w' = w.alloc (.cells #[.pointer p] 88) := by
  go_enter Tryz.func47, Tryz.ntmps47
  go_wp2_with fail
  go_ret
  exact ⟨rfl, rfl⟩
end Go.Proofs.YtdonmmjikcbihaaGreatDoor
/- Package avl at [string, int]: a map as a list in order. -/
namespace Go.Vc
end Go.Vc
namespace Go.Proofs.YtdonmmjikcbihaaGreatDoor
open Go.RowKit Go.Proofs Go.Vc
attribute [local irreducible] Calls CallsIn Code.wp Code.wpIn
/-- a map that holds a list; S: the blocks in which it lies -/
def LMapsi (ty : TypeId) (b o : Nat) (m : List (ByteArray × Int)) (S : Nat → Prop) (w : World) : Prop :=
  ∃ c t, MapAt Ssi w b o c ty t ∧ t.toList = m ∧ Rises cmpS m ∧ ∀ i, S i ↔ (i = b ∨ i ∈ t.blocks)
theorem LMapsi.keeps {F : Nat → Prop} {ty : TypeId} {b o : Nat} {m : List (ByteArray × Int)} {S : Nat → Prop} {w w' : World} (h : LMapsi ty b o m S w) (k : Keeps F w w') (hF : ∀ i, S i → ¬ F i) : LMapsi ty b o m S w' := by
  obtain ⟨c, t, hm, h1, h2, h3⟩ := h
  exact ⟨c, t, hm.keeps k (hF b ((h3 b).2 (.inl rfl))) (fun x hx => hF x ((h3 x).2 (.inr hx))), h1, h2, h3⟩
theorem LMapsi.ext {ty : TypeId} {b o : Nat} {m : List (ByteArray × Int)} {S : Nat → Prop} {w w' : World} (h : LMapsi ty b o m S w) (k : Ext w w') : LMapsi ty b o m S w' := h.keeps k fun _ _ hf => hf
theorem LMapsi.lt {ty : TypeId} {b o : Nat} {m : List (ByteArray × Int)} {S : Nat → Prop} {w : World} (h : LMapsi ty b o m S w) {i : Nat} (hi : S i) : i < w.heap.size := by
  obtain ⟨c, t, hm, h1, h2, h3⟩ := h
  rcases (h3 i).1 hi with rfl | hx
  · exact lt_of_heap hm.blk
  · exact hm.tree.lt i hx
theorem LMapsi.own {ty : TypeId} {b o : Nat} {m : List (ByteArray × Int)} {S : Nat → Prop} {w : World} (h : LMapsi ty b o m S w) : S b := by
  obtain ⟨c, t, hm, h1, h2, h3⟩ := h
  exact (h3 b).2 (.inl rfl)
theorem LMapsi.rises {ty : TypeId} {b o : Nat} {m : List (ByteArray × Int)} {S : Nat → Prop} {w : World} (h : LMapsi ty b o m S w) : Rises cmpS m := by
  obtain ⟨c, t, hm, h1, h2, h3⟩ := h
  exact h2
/-- what a key holds, as the machine has it -/
def getvsi (o : Option Int) : Value := match o with | some v => .int .i64 v | none => .int .i64 0
theorem lget_si (key : ByteArray) {ty : TypeId} {b o : Nat} {m : List (ByteArray × Int)} {S : Nat → Prop} {w : World} (h : LMapsi ty b o m S w) : Calls Tryz.prog 42 #[.pointer (some ⟨b, o, none⟩), .string key] w fun e w' => e = .returned (.tuple #[getvsi (findL cmpS key m), .bool (findL cmpS key m).isSome]) ∧ Ext w w' := by
  obtain ⟨c, t, hm, h1, h2, h3⟩ := h
  have := get_si key t w b o hm.cellR hm.tree
  rw [T.find_toList order_S key t (by rw [h1]; exact h2), h1] at this
  exact this
def LPutsi (key : ByteArray) (val : Int) (ty : TypeId) (b o : Nat) (m : List (ByteArray × Int)) (S : Nat → Prop) (w : World) (e : Ending) (w' : World) : Prop :=
  e = .returned (.bool (findL cmpS key m).isNone) ∧ (∃ S', LMapsi ty b o (putL cmpS key val m) S' w' ∧ ∀ i, S' i → S i ∨ w.heap.size ≤ i) ∧ Keeps S w w'
theorem lput_si (key : ByteArray) (val : Int) {ty : TypeId} {b o : Nat} {m : List (ByteArray × Int)} {S : Nat → Prop} {w : World} (h : LMapsi ty b o m S w) (hs : m.length ≤ 1000000) : Calls Tryz.prog 45 #[.pointer (some ⟨b, o, none⟩), .string key, .int .i64 val] w (LPutsi key val ty b o m S w) := by
  obtain ⟨c, t, hm, h1, h2, h3⟩ := h
  have hsz := T.size_toList t
  rw [h1] at hsz
  refine (mput_si key val hm (by omega)).mono ?_
  rintro e w' ⟨N, hN, rfl, hm', hk⟩
  refine ⟨by rw [T.put_flag, T.find_toList order_S key t (by rw [h1]; exact h2), h1], ⟨fun i => i = b ∨ i ∈ (t.put cmpS N key val).1.blocks, ⟨_, _, hm', ?_, rises_putL order_S _ _ _ h2, fun i => Iff.rfl⟩, ?_⟩, hk.mono fun i _ hi => (h3 i).2 hi⟩
  · rw [T.put_toList order_S _ _ _ _ (by rw [h1]; exact h2), h1]
  · rintro i (rfl | hi)
    · exact .inl ((h3 i).2 (.inl rfl))
    · rcases T.put_blocks _ _ _ _ _ i hi with hi | rfl
      · exact .inl ((h3 i).2 (.inr hi))
      · exact .inr hN
def LDropsi (key : ByteArray) (ty : TypeId) (b o : Nat) (m : List (ByteArray × Int)) (S : Nat → Prop) (w : World) (e : Ending) (w' : World) : Prop :=
  e = .returned (.bool (findL cmpS key m).isSome) ∧ (∃ S', LMapsi ty b o (dropL cmpS key m) S' w' ∧ ∀ i, S' i → S i) ∧ Keeps S w w'
theorem ldrop_si (key : ByteArray) {ty : TypeId} {b o : Nat} {m : List (ByteArray × Int)} {S : Nat → Prop} {w : World} (h : LMapsi ty b o m S w) (hs : m.length ≤ 1000000) : Calls Tryz.prog 44 #[.pointer (some ⟨b, o, none⟩), .string key] w (LDropsi key ty b o m S w) := by
  obtain ⟨c, t, hm, h1, h2, h3⟩ := h
  have hsz := T.size_toList t
  rw [h1] at hsz
  refine (mdrop_si key hm (by omega)).mono ?_
  rintro e w' ⟨rfl, hm', hk⟩
  refine ⟨by rw [T.drop_flag, T.find_toList order_S key t (by rw [h1]; exact h2), h1], ⟨fun i => i = b ∨ i ∈ (t.drop cmpS key).1.blocks, ⟨_, _, hm', ?_, rises_dropL _ _ h2, fun i => Iff.rfl⟩, ?_⟩, hk.keeps.mono fun i _ hi => (h3 i).2 (by simpa using hi)⟩
  · rw [T.drop_toList order_S _ _ (by rw [h1]; exact h2), h1]
  · rintro i (rfl | hi)
    · exact (h3 i).2 (.inl rfl)
    · exact (h3 i).2 (.inr (T.drop_blocks _ _ _ i hi))
end Go.Proofs.YtdonmmjikcbihaaGreatDoor
/- Package entry: keys, counting. -/
namespace Go.Proofs.YtdonmmjikcbihaaGreatDoor
open Go.RowKit Go.Proofs Go.Vc
attribute [local irreducible] Calls CallsIn Code.wp Code.wpIn
theorem named_size {s : ByteArray} (h : named s = true) : s.size ≤ 24 := by
  unfold named at h
  simp only [Bool.and_eq_true, decide_eq_true_eq] at h
  exact h.2
theorem first_i (s o : ByteArray) (hs : s.size ≤ 1000) (ho : o.size ≤ 1000) (w : World) : Calls Tryz.prog 38 #[.string s, .string o] w fun e w' => e = .returned (.string (efirst s o)) ∧ w' = w := by
  go_enter Tryz.func38, Tryz.ntmps38
  go_wp2_with fail
  go_ret
  exact ⟨rfl, rfl⟩
theorem efirst_size (s o : ByteArray) : (efirst s o).size = s.size + o.size + 2 := by
  unfold efirst
  simp only [ByteArray.size_append]
  have : nul.size = 1 := rfl
  omega
theorem key_i (x : Spn) (hx : Goodk (trip x)) (w : World) : Calls Tryz.prog 43 #[spnV x] w fun e w' => e = .returned (.string (ekey x)) ∧ Ext w w' := by
  have hs : x.sv.size ≤ 1000 := by have := named_size hx.1; show (trip x).1.size ≤ _; omega
  have ho : x.op.size ≤ 1000 := by have := named_size hx.2.1; show (trip x).2.1.size ≤ _; omega
  have HX := Lib.hid (show I64 x.tr from hx.2.2)
  have hsz : (efirst x.sv x.op).size ≤ 2002 := by rw [efirst_size]; omega
  clear hx
  obtain ⟨wa, hwa⟩ : ∃ wa, wa = w.alloc (.cells (spnC x) 48) := ⟨_, rfl⟩
  have hE : Ext w wa := by rw [hwa]; exact (Keeps.refl _ w).alloc _
  have hN : wa.heap[w.heap.size]? = some (.cells (spnC x) 48 (0, 0)) := by rw [hwa]; exact World.alloc_heap_new w _
  obtain ⟨c, hc0⟩ : ∃ c, c = w.heap.size := ⟨_, rfl⟩
  rw [← hc0] at hN
  have HE := Lib.hid (And.intro hE hN)
  clear hE hN
  go_enter Tryz.func43, Tryz.ntmps43
  go_wp2_with fail
  rw [← hwa, ← hc0]
  clear hwa hc0
  refine wp_drawE (way [0, 1, 2, 3, 5, 6, 4, 7, 8, 9]) (by kernel_rfl) (by kernel_rfl) (fun w1 hh hd hf hS => ?_)
  have hcx := blk_cell ((Ext.same hS (lt_of_heap HE.out.2)).trans HE.out.2)
  have hca := blk_cell HE.out.2
  simp only [way]
  go_wp2_with (first | (refine' hl_q rfl rfl rfl (fun _ => ?_) ?_; rotate_left; (go_simp <;> (try go_bits) <;> rfl); (try simp only [Act.put, List.setIfInBounds_toArray, List.set_cons_zero, List.set_cons_succ])) | (refine' hl_rS rfl rfl rfl hS ?_ ?_; rotate_left; (intro w9 hS9; (first | have hc9 := Ext.cells hS9 | have hc9 := Keeps.cells hS9); (go_simp <;> rfl)); (try simp only [Act.put, List.setIfInBounds_toArray, List.set_cons_zero, List.set_cons_succ])) | (refine' hl_r rfl rfl rfl ?_ ?_; rotate_left; (rintro w9 (rfl | hS9); (go_simp <;> rfl); (first | have hc9 := Ext.cells hS9 | have hc9 := Keeps.cells hS9 | (try dsimp only at hS9)); (go_simp <;> rfl)); (try simp only [Act.put, List.setIfInBounds_toArray, List.set_cons_zero, List.set_cons_succ])) | (refine' hl_s rfl rfl ?_; (try simp only [Act.put, List.setIfInBounds_toArray, List.set_cons_zero, List.set_cons_succ])) | (refine hl_e rfl rfl rfl (fun K hK => ?_)) | (with_reducible refine And.intro (fun hn => ?_) ?_; (first | exact hS | exact Keeps.alloc hS _ | exact absurd hn (by rw [show needS _ _ = false from by kernel_rfl]; exact Bool.false_ne_true))) | (refine hl_done ?_) | gi_step)
  refine callsIn_wide.2 ((first_i x.sv x.op hs ho _).mono ?_)
  rintro e9 w2 ⟨rfl, rfl⟩
  go_wp2_with (first | (refine' hl_q rfl rfl rfl (fun _ => ?_) ?_; rotate_left; (go_simp <;> (try go_bits) <;> rfl); (try simp only [Act.put, List.setIfInBounds_toArray, List.set_cons_zero, List.set_cons_succ])) | (refine' hl_rS rfl rfl rfl hS ?_ ?_; rotate_left; (intro w9 hS9; (first | have hc9 := Ext.cells hS9 | have hc9 := Keeps.cells hS9); (go_simp <;> rfl)); (try simp only [Act.put, List.setIfInBounds_toArray, List.set_cons_zero, List.set_cons_succ])) | (refine' hl_r rfl rfl rfl ?_ ?_; rotate_left; (rintro w9 (rfl | hS9); (go_simp <;> rfl); (first | have hc9 := Ext.cells hS9 | have hc9 := Keeps.cells hS9 | (try dsimp only at hS9)); (go_simp <;> rfl)); (try simp only [Act.put, List.setIfInBounds_toArray, List.set_cons_zero, List.set_cons_succ])) | (refine' hl_s rfl rfl ?_; (try simp only [Act.put, List.setIfInBounds_toArray, List.set_cons_zero, List.set_cons_succ])) | (refine hl_e rfl rfl rfl (fun K hK => ?_)) | (with_reducible refine And.intro (fun hn => ?_) ?_; (first | exact hS | exact Keeps.alloc hS _ | exact absurd hn (by rw [show needS _ _ = false from by kernel_rfl]; exact Bool.false_ne_true))) | (refine hl_done ?_) | gi_step)
  refine callsIn_wide.2 ((of_i x.tr 0 HX.out (by omega) _).mono ?_)
  rintro e9 w3 ⟨rfl, hE3⟩
  have hsn : (num x.tr ++ num 0).size = 16 := by rw [ByteArray.size_append, num_size, num_size]
  have hS3 := hS.trans hE3
  clear hS
  have hS := hS3
  clear hS3 hE3
  have hadd : ¬ 9223372036854775807 < (efirst x.sv x.op).size + 16 := by omega
  go_wp2_with (first | (refine' hl_q rfl rfl rfl (fun _ => ?_) ?_; rotate_left; (go_simp <;> (try go_bits) <;> rfl); (try simp only [Act.put, List.setIfInBounds_toArray, List.set_cons_zero, List.set_cons_succ])) | (refine' hl_rS rfl rfl rfl hS ?_ ?_; rotate_left; (intro w9 hS9; (first | have hc9 := Ext.cells hS9 | have hc9 := Keeps.cells hS9); (go_simp <;> rfl)); (try simp only [Act.put, List.setIfInBounds_toArray, List.set_cons_zero, List.set_cons_succ])) | (refine' hl_r rfl rfl rfl ?_ ?_; rotate_left; (rintro w9 (rfl | hS9); (go_simp <;> rfl); (first | have hc9 := Ext.cells hS9 | have hc9 := Keeps.cells hS9 | (try dsimp only at hS9)); (go_simp <;> rfl)); (try simp only [Act.put, List.setIfInBounds_toArray, List.set_cons_zero, List.set_cons_succ])) | (refine' hl_s rfl rfl ?_; (try simp only [Act.put, List.setIfInBounds_toArray, List.set_cons_zero, List.set_cons_succ])) | (refine hl_e rfl rfl rfl (fun K hK => ?_)) | (with_reducible refine And.intro (fun hn => ?_) ?_; (first | exact hS | exact Keeps.alloc hS _ | exact absurd hn (by rw [show needS _ _ = false from by kernel_rfl]; exact Bool.false_ne_true))) | (refine hl_done ?_) | gi_step)
  go_ret
  exact ⟨rfl, HE.out.1.trans hS⟩
theorem esplit_i (s o : ByteArray) (t : Int) (hs : s.size ≤ 1000) (ho : o.size ≤ 1000) (ht : I64 t) (w : World) : Calls Tryz.prog 28 #[.string (tkey (s, o, t))] w fun e w' => e = .returned (.tuple #[.string (efirst s o), .int .i64 t]) ∧ Ext w w' := by
  have HT := Lib.hid ht
  obtain ⟨a, ha⟩ : ∃ a, a = efirst s o := ⟨_, rfl⟩
  have hsz : a.size ≤ 2002 := by rw [ha, efirst_size]; omega
  obtain ⟨b, hb⟩ : ∃ b, b = num t ++ num 0 := ⟨_, rfl⟩
  have hbz : b.size = 16 := by rw [hb, ByteArray.size_append, num_size, num_size]
  have hk : tkey (s, o, t) = a ++ b := by rw [ha, hb]; rfl
  rw [hk, ← ha]
  have HB := Lib.hid (And.intro ha hb)
  have hks : (a ++ b).size = a.size + 16 := by rw [ByteArray.size_append, hbz]
  have hhi : (a ++ b).extract a.size (a.size + 16) = b := ByteArray.extract_append_eq_right rfl (by rw [hbz])
  have hlo : (a ++ b).extract 0 a.size = a := ByteArray.extract_append_eq_left rfl
  clear ht hs ho hk ha hb
  obtain ⟨k, hk⟩ : ∃ k, k = a ++ b := ⟨_, rfl⟩
  rw [← hk] at hks hhi hlo ⊢
  clear hk
  go_enter Tryz.func28, Tryz.ntmps28
  go_wp2_with fail
  rw [HB.out.2]
  refine (split_i t 0 HT.out (by omega) _).mono ?_
  rintro e9 w1 ⟨rfl, hE⟩
  have HE := Lib.hid hE
  clear hE
  go_wp2_with fail
  go_ret2
  exact ⟨rfl, HE.out⟩
theorem bad_i (x : Spn) (hx : x.Fits) (w : World) : Calls Tryz.prog 40 (#[spnV x] ++ #[]) w fun e w' => e = .returned (.bool (!may x)) ∧ Ext w w' := by
  have hE : Ext w (w.alloc (.cells (spnC x) 48)) := (Keeps.refl _ w).alloc _
  have HE := Lib.hid hE
  have HX := Lib.hid hx
  clear hE hx
  show Calls _ _ #[spnV x] _ _
  go_enter Tryz.func40, Tryz.ntmps40
  go_wp2_with fail
  refine (may_i x HX.out _).mono ?_
  rintro e9 w1 ⟨rfl, hE1⟩
  have HE1 := Lib.hid (HE.out.trans hE1)
  clear hE1
  cases hm : may x
  · rw [mayE_f hm]
    go_wp2_with fail
    go_ret
    exact ⟨by rw [hm]; rfl, HE1.out⟩
  · rw [mayE_t hm]
    go_wp2_with fail
    go_ret
    exact ⟨by rw [hm]; rfl, HE1.out⟩
theorem any_not_all (l : List Spn) : (!l.any fun x => !may x) = l.all may := by
  induction l with
  | nil => rfl
  | cons x l ih => rw [List.any_cons, List.all_cons, ← ih]; cases may x <;> simp
theorem emay_i (v : Value) (l : List Spn) (w : World) (h : SpnsAt w v l) (hf : ∀ x ∈ l, x.Fits) : Calls Tryz.prog 23 #[v] w fun e w' => e = .returned (.bool (l.all may)) ∧ Ext w w' := by
  have H := Lib.hid (containsfunc_bad 0 (fun x => !may x) v l w h (fun x hx w' _ => bad_i x (hf x hx) w'))
  have HM := Lib.hid (any_not_all l)
  clear h hf
  go_enter Tryz.func23, Tryz.ntmps23
  go_wp2_with fail
  refine H.out.mono ?_
  rintro e9 w1 ⟨rfl, hE1⟩
  have HE := Lib.hid hE1
  clear hE1
  go_wp2_with fail
  go_ret
  exact ⟨by rw [← HM.out]; rfl, HE.out⟩
/-- what change leaves -/
def ChgPost (ty : TypeId) (b : Nat) (m : List (ByteArray × Int)) (S : Nat → Prop) (x : Spn) (d : Int) (w : World) (e : Ending) (w' : World) : Prop :=
  e = .returned (.bool (chg m x d).2) ∧ (∃ S', LMapsi ty b 0 (chg m x d).1 S' w' ∧ ∀ i, S' i → S i ∨ w.heap.size ≤ i) ∧ Keeps S w w'
theorem get_val (o : Option Int) : getvsi o = .int .i64 (o.getD 0) := by cases o <;> rfl
theorem change_i (ty : TypeId) (b : Nat) (m : List (ByteArray × Int)) (S : Nat → Prop) (x : Spn) (d : Int) (w : World) (h : LMapsi ty b 0 m S w) (hx : Goodk (trip x)) (hd : d = 1 ∨ d = -1) (hl : m.length ≤ 100000)
    (hv : -1000000 ≤ (findL cmpS (ekey x) m).getD 0 ∧ (findL cmpS (ekey x) m).getD 0 ≤ 1000000) : Calls Tryz.prog 24 #[.pointer (some ⟨b, 0, none⟩), spnV x, .int .i64 d] w (ChgPost ty b m S x d w) := by
  obtain ⟨wa, hwa⟩ : ∃ wa, wa = w.alloc (.cells (spnC x) 48) := ⟨_, rfl⟩
  have hE : Ext w wa := by rw [hwa]; exact (Keeps.refl _ w).alloc _
  have hN : wa.heap[w.heap.size]? = some (.cells (spnC x) 48 (0, 0)) := by rw [hwa]; exact World.alloc_heap_new w _
  obtain ⟨c, hc0⟩ : ∃ c, c = w.heap.size := ⟨_, rfl⟩
  rw [← hc0] at hN
  have hsz : w.heap.size ≤ wa.heap.size := hE.size
  have hbl : b < w.heap.size := h.lt h.own
  have HE := Lib.hid (And.intro hE (And.intro hN (And.intro (h.ext hE) (And.intro hl hsz))))
  obtain ⟨n, hn⟩ : ∃ n, n = (findL cmpS (ekey x) m).getD 0 := ⟨_, rfl⟩
  rw [← hn] at hv
  have HN := Lib.hid hn
  have HX := Lib.hid hx
  have hd2 : -1 ≤ d ∧ d ≤ 1 := by omega
  clear hE h hl hd hn hx hsz
  have hcw := blk_cell hN
  clear hN
  go_enter Tryz.func24, Tryz.ntmps24
  by_cases hp : x.pa = 0
  · have HP := Lib.hid (show chg m x d = if n + d < 0 then (m, false) else if n + d = 0 then (dropL cmpS (ekey x) m, true) else (putL cmpS (ekey x) (n + d) m, true) from by rw [HN.out]; unfold chg; rw [if_pos hp])
    have hp3 : (x.pa == 0) = true := by simpa using hp
    have HPA := Lib.hid hp
    clear hp
    go_wp2_with fail
    rw [← hwa, ← hc0]
    have HC := Lib.hid hc0
    clear hwa hc0 hp3
    refine wp_drawE (way [0, 1, 2, 3, 4, 5, 6, 7, 8, 9, 10]) (by kernel_rfl) (by kernel_rfl) (fun w1 hh hd1 hf hS => ?_)
    have hc1 := blk_cell ((Ext.same hS (lt_of_heap HE.out.2.1)).trans HE.out.2.1)
    simp only [way]
    go_wp2_with (first | (refine' hl_q rfl rfl rfl (fun _ => ?_) ?_; rotate_left; (go_simp <;> (try go_bits) <;> rfl); (try simp only [Act.put, List.setIfInBounds_toArray, List.set_cons_zero, List.set_cons_succ])) | (refine' hl_rS rfl rfl rfl hS ?_ ?_; rotate_left; (intro w9 hS9; (first | have hc9 := Ext.cells hS9 | have hc9 := Keeps.cells hS9); (go_simp <;> rfl)); (try simp only [Act.put, List.setIfInBounds_toArray, List.set_cons_zero, List.set_cons_succ])) | (refine' hl_r rfl rfl rfl ?_ ?_; rotate_left; (rintro w9 (rfl | hS9); (go_simp <;> rfl); (first | have hc9 := Ext.cells hS9 | have hc9 := Keeps.cells hS9 | (try dsimp only at hS9)); (go_simp <;> rfl)); (try simp only [Act.put, List.setIfInBounds_toArray, List.set_cons_zero, List.set_cons_succ])) | (refine' hl_s rfl rfl ?_; (try simp only [Act.put, List.setIfInBounds_toArray, List.set_cons_zero, List.set_cons_succ])) | (refine hl_e rfl rfl rfl (fun K hK => ?_)) | (with_reducible refine And.intro (fun hn => ?_) ?_; (first | exact hS | exact Keeps.alloc hS _ | exact absurd hn (by rw [show needS _ _ = false from by kernel_rfl]; exact Bool.false_ne_true))) | (refine hl_done ?_) | gi_step)
    refine callsIn_wide.2 ((key_i x HX.out _).mono ?_)
    rintro e9 w2 ⟨rfl, hE2⟩
    have hS2 := hS.trans hE2
    clear hS hE2
    have hS := hS2
    clear hS2
    go_wp2_with (first | (refine' hl_q rfl rfl rfl (fun _ => ?_) ?_; rotate_left; (go_simp <;> (try go_bits) <;> rfl); (try simp only [Act.put, List.setIfInBounds_toArray, List.set_cons_zero, List.set_cons_succ])) | (refine' hl_rS rfl rfl rfl hS ?_ ?_; rotate_left; (intro w9 hS9; (first | have hc9 := Ext.cells hS9 | have hc9 := Keeps.cells hS9); (go_simp <;> rfl)); (try simp only [Act.put, List.setIfInBounds_toArray, List.set_cons_zero, List.set_cons_succ])) | (refine' hl_r rfl rfl rfl ?_ ?_; rotate_left; (rintro w9 (rfl | hS9); (go_simp <;> rfl); (first | have hc9 := Ext.cells hS9 | have hc9 := Keeps.cells hS9 | (try dsimp only at hS9)); (go_simp <;> rfl)); (try simp only [Act.put, List.setIfInBounds_toArray, List.set_cons_zero, List.set_cons_succ])) | (refine' hl_s rfl rfl ?_; (try simp only [Act.put, List.setIfInBounds_toArray, List.set_cons_zero, List.set_cons_succ])) | (refine hl_e rfl rfl rfl (fun K hK => ?_)) | (with_reducible refine And.intro (fun hn => ?_) ?_; (first | exact hS | exact Keeps.alloc hS _ | exact absurd hn (by rw [show needS _ _ = false from by kernel_rfl]; exact Bool.false_ne_true))) | (refine hl_done ?_) | gi_step)
    refine callsIn_wide.2 ((lget_si (ekey x) (HE.out.2.2.1.ext hS)).mono ?_)
    rintro e9 w3 ⟨rfl, hE3⟩
    rw [get_val, ← HN.out]
    have hS3 := hS.trans hE3
    clear hS hE3
    have hS := hS3
    clear hS3
    have hc3 := blk_cell ((Ext.same hS (lt_of_heap HE.out.2.1)).trans HE.out.2.1)
    go_wp2_with (first | (refine' hl_q rfl rfl rfl (fun _ => ?_) ?_; rotate_left; (go_simp <;> (try go_bits) <;> rfl); (try simp only [Act.put, List.setIfInBounds_toArray, List.set_cons_zero, List.set_cons_succ])) | (refine' hl_rS rfl rfl rfl hS ?_ ?_; rotate_left; (intro w9 hS9; (first | have hc9 := Ext.cells hS9 | have hc9 := Keeps.cells hS9); (go_simp <;> rfl)); (try simp only [Act.put, List.setIfInBounds_toArray, List.set_cons_zero, List.set_cons_succ])) | (refine' hl_r rfl rfl rfl ?_ ?_; rotate_left; (rintro w9 (rfl | hS9); (go_simp <;> rfl); (first | have hc9 := Ext.cells hS9 | have hc9 := Keeps.cells hS9 | (try dsimp only at hS9)); (go_simp <;> rfl)); (try simp only [Act.put, List.setIfInBounds_toArray, List.set_cons_zero, List.set_cons_succ])) | (refine' hl_s rfl rfl ?_; (try simp only [Act.put, List.setIfInBounds_toArray, List.set_cons_zero, List.set_cons_succ])) | (refine hl_e rfl rfl rfl (fun K hK => ?_)) | (with_reducible refine And.intro (fun hn => ?_) ?_; (first | exact hS | exact Keeps.alloc hS _ | exact absurd hn (by rw [show needS _ _ = false from by kernel_rfl]; exact Bool.false_ne_true))) | (refine hl_done ?_) | gi_step)
    · rename_i hneg
      go_ret
      unfold ChgPost
      rw [HP.out, if_pos hneg]
      exact ⟨rfl, ⟨S, HE.out.2.2.1.ext hS, fun i hi => .inl hi⟩, (HE.out.1.trans hS).mono fun _ _ hf => hf.elim⟩
    · rename_i hneg hzero
      have HZ := Lib.hid (And.intro hneg hzero)
      clear hneg hzero hh hd1 hf hc1
      refine wp_drawE (way [0, 1, 2, 3, 4, 5]) (by kernel_rfl) (by kernel_rfl) (fun w4 hh hd1 hf hS4 => ?_)
      have hE4 := hS.trans hS4
      clear hS
      have hS := hS4
      clear hS4
      have hc4 := blk_cell ((Ext.same hE4 (lt_of_heap HE.out.2.1)).trans HE.out.2.1)
      simp only [way]
      go_wp2_with (first | (refine' hl_q rfl rfl rfl (fun _ => ?_) ?_; rotate_left; (go_simp <;> (try go_bits) <;> rfl); (try simp only [Act.put, List.setIfInBounds_toArray, List.set_cons_zero, List.set_cons_succ])) | (refine' hl_rS rfl rfl rfl hS ?_ ?_; rotate_left; (intro w9 hS9; (first | have hc9 := Ext.cells hS9 | have hc9 := Keeps.cells hS9); (go_simp <;> rfl)); (try simp only [Act.put, List.setIfInBounds_toArray, List.set_cons_zero, List.set_cons_succ])) | (refine' hl_r rfl rfl rfl ?_ ?_; rotate_left; (rintro w9 (rfl | hS9); (go_simp <;> rfl); (first | have hc9 := Ext.cells hS9 | have hc9 := Keeps.cells hS9 | (try dsimp only at hS9)); (go_simp <;> rfl)); (try simp only [Act.put, List.setIfInBounds_toArray, List.set_cons_zero, List.set_cons_succ])) | (refine' hl_s rfl rfl ?_; (try simp only [Act.put, List.setIfInBounds_toArray, List.set_cons_zero, List.set_cons_succ])) | (refine hl_e rfl rfl rfl (fun K hK => ?_)) | (with_reducible refine And.intro (fun hn => ?_) ?_; (first | exact hS | exact Keeps.alloc hS _ | exact absurd hn (by rw [show needS _ _ = false from by kernel_rfl]; exact Bool.false_ne_true))) | (refine hl_done ?_) | gi_step)
      refine callsIn_wide.2 ((key_i x HX.out _).mono ?_)
      rintro e9 w5 ⟨rfl, hE5⟩
      have hS5 := hS.trans hE5
      have HE5 := Lib.hid (hE4.trans hE5)
      clear hS hE5 hE4
      have hS := hS5
      clear hS5
      go_wp2_with (first | (refine' hl_q rfl rfl rfl (fun _ => ?_) ?_; rotate_left; (go_simp <;> (try go_bits) <;> rfl); (try simp only [Act.put, List.setIfInBounds_toArray, List.set_cons_zero, List.set_cons_succ])) | (refine' hl_rS rfl rfl rfl hS ?_ ?_; rotate_left; (intro w9 hS9; (first | have hc9 := Ext.cells hS9 | have hc9 := Keeps.cells hS9); (go_simp <;> rfl)); (try simp only [Act.put, List.setIfInBounds_toArray, List.set_cons_zero, List.set_cons_succ])) | (refine' hl_r rfl rfl rfl ?_ ?_; rotate_left; (rintro w9 (rfl | hS9); (go_simp <;> rfl); (first | have hc9 := Ext.cells hS9 | have hc9 := Keeps.cells hS9 | (try dsimp only at hS9)); (go_simp <;> rfl)); (try simp only [Act.put, List.setIfInBounds_toArray, List.set_cons_zero, List.set_cons_succ])) | (refine' hl_s rfl rfl ?_; (try simp only [Act.put, List.setIfInBounds_toArray, List.set_cons_zero, List.set_cons_succ])) | (refine hl_e rfl rfl rfl (fun K hK => ?_)) | (with_reducible refine And.intro (fun hn => ?_) ?_; (first | exact hS | exact Keeps.alloc hS _ | exact absurd hn (by rw [show needS _ _ = false from by kernel_rfl]; exact Bool.false_ne_true))) | (refine hl_done ?_) | gi_step)
      refine callsIn_wide.2 ((ldrop_si (ekey x) (HE.out.2.2.1.ext HE5.out) (by have := HE.out.2.2.2.1; omega)).mono ?_)
      rintro e9 w6 ⟨rfl, ⟨S', hM6, hS6⟩, hK6⟩
      have H6 := Lib.hid (show ChgPost ty b m S x d w (.returned (.bool true)) w6 from by
        unfold ChgPost
        rw [HP.out, if_neg (Int.not_lt.2 HZ.out.1), if_pos (by simpa using HZ.out.2)]
        exact ⟨rfl, ⟨S', hM6, fun i hi => .inl (hS6 i hi)⟩, ((HE.out.1.trans HE5.out).mono fun _ _ hf => hf.elim).trans hK6⟩)
      clear hM6 hS6 hK6 hS
      go_wp2_with (first | (refine' hl_q rfl rfl rfl (fun _ => ?_) ?_; rotate_left; (go_simp <;> (try go_bits) <;> rfl); (try simp only [Act.put, List.setIfInBounds_toArray, List.set_cons_zero, List.set_cons_succ])) | (refine' hl_rS rfl rfl rfl hS ?_ ?_; rotate_left; (intro w9 hS9; (first | have hc9 := Ext.cells hS9 | have hc9 := Keeps.cells hS9); (go_simp <;> rfl)); (try simp only [Act.put, List.setIfInBounds_toArray, List.set_cons_zero, List.set_cons_succ])) | (refine' hl_r rfl rfl rfl ?_ ?_; rotate_left; (rintro w9 (rfl | hS9); (go_simp <;> rfl); (first | have hc9 := Ext.cells hS9 | have hc9 := Keeps.cells hS9 | (try dsimp only at hS9)); (go_simp <;> rfl)); (try simp only [Act.put, List.setIfInBounds_toArray, List.set_cons_zero, List.set_cons_succ])) | (refine' hl_s rfl rfl ?_; (try simp only [Act.put, List.setIfInBounds_toArray, List.set_cons_zero, List.set_cons_succ])) | (refine hl_e rfl rfl rfl (fun K hK => ?_)) | (with_reducible refine And.intro (fun hn => ?_) ?_; (first | exact hS | exact Keeps.alloc hS _ | exact absurd hn (by rw [show needS _ _ = false from by kernel_rfl]; exact Bool.false_ne_true))) | (refine hl_done ?_) | gi_step)
      go_ret
      exact H6.out
    · rename_i hneg hzero
      have HZ := Lib.hid (And.intro hneg hzero)
      clear hneg hzero hh hd1 hf hc1
      refine wp_drawE (way [0, 1, 2, 3, 5, 4, 6]) (by kernel_rfl) (by kernel_rfl) (fun w4 hh hd1 hf hS4 => ?_)
      have hE4 := hS.trans hS4
      clear hS
      have hS := hS4
      clear hS4
      have hc4 := blk_cell ((Ext.same hE4 (lt_of_heap HE.out.2.1)).trans HE.out.2.1)
      simp only [way]
      go_wp2_with (first | (refine' hl_q rfl rfl rfl (fun _ => ?_) ?_; rotate_left; (go_simp <;> (try go_bits) <;> rfl); (try simp only [Act.put, List.setIfInBounds_toArray, List.set_cons_zero, List.set_cons_succ])) | (refine' hl_rS rfl rfl rfl hS ?_ ?_; rotate_left; (intro w9 hS9; (first | have hc9 := Ext.cells hS9 | have hc9 := Keeps.cells hS9); (go_simp <;> rfl)); (try simp only [Act.put, List.setIfInBounds_toArray, List.set_cons_zero, List.set_cons_succ])) | (refine' hl_r rfl rfl rfl ?_ ?_; rotate_left; (rintro w9 (rfl | hS9); (go_simp <;> rfl); (first | have hc9 := Ext.cells hS9 | have hc9 := Keeps.cells hS9 | (try dsimp only at hS9)); (go_simp <;> rfl)); (try simp only [Act.put, List.setIfInBounds_toArray, List.set_cons_zero, List.set_cons_succ])) | (refine' hl_s rfl rfl ?_; (try simp only [Act.put, List.setIfInBounds_toArray, List.set_cons_zero, List.set_cons_succ])) | (refine hl_e rfl rfl rfl (fun K hK => ?_)) | (with_reducible refine And.intro (fun hn => ?_) ?_; (first | exact hS | exact Keeps.alloc hS _ | exact absurd hn (by rw [show needS _ _ = false from by kernel_rfl]; exact Bool.false_ne_true))) | (refine hl_done ?_) | gi_step)
      refine callsIn_wide.2 ((key_i x HX.out _).mono ?_)
      rintro e9 w5 ⟨rfl, hE5⟩
      have hS5 := hS.trans hE5
      have HE5 := Lib.hid (hE4.trans hE5)
      clear hS hE5 hE4
      have hS := hS5
      clear hS5
      go_wp2_with (first | (refine' hl_q rfl rfl rfl (fun _ => ?_) ?_; rotate_left; (go_simp <;> (try go_bits) <;> rfl); (try simp only [Act.put, List.setIfInBounds_toArray, List.set_cons_zero, List.set_cons_succ])) | (refine' hl_rS rfl rfl rfl hS ?_ ?_; rotate_left; (intro w9 hS9; (first | have hc9 := Ext.cells hS9 | have hc9 := Keeps.cells hS9); (go_simp <;> rfl)); (try simp only [Act.put, List.setIfInBounds_toArray, List.set_cons_zero, List.set_cons_succ])) | (refine' hl_r rfl rfl rfl ?_ ?_; rotate_left; (rintro w9 (rfl | hS9); (go_simp <;> rfl); (first | have hc9 := Ext.cells hS9 | have hc9 := Keeps.cells hS9 | (try dsimp only at hS9)); (go_simp <;> rfl)); (try simp only [Act.put, List.setIfInBounds_toArray, List.set_cons_zero, List.set_cons_succ])) | (refine' hl_s rfl rfl ?_; (try simp only [Act.put, List.setIfInBounds_toArray, List.set_cons_zero, List.set_cons_succ])) | (refine hl_e rfl rfl rfl (fun K hK => ?_)) | (with_reducible refine And.intro (fun hn => ?_) ?_; (first | exact hS | exact Keeps.alloc hS _ | exact absurd hn (by rw [show needS _ _ = false from by kernel_rfl]; exact Bool.false_ne_true))) | (refine hl_done ?_) | gi_step)
      refine callsIn_wide.2 ((lput_si (ekey x) (n + d) (HE.out.2.2.1.ext HE5.out) (by have := HE.out.2.2.2.1; omega)).mono ?_)
      rintro e9 w6 ⟨rfl, ⟨S', hM6, hS6⟩, hK6⟩
      have H6 := Lib.hid (show ChgPost ty b m S x d w (.returned (.bool true)) w6 from by
        unfold ChgPost
        rw [HP.out, if_neg (Int.not_lt.2 HZ.out.1), if_neg (by simpa using HZ.out.2)]
        exact ⟨rfl, ⟨S', hM6, fun i hi => (hS6 i hi).imp id (fun h => Nat.le_trans (Nat.le_trans HE.out.2.2.2.2 HE5.out.size) h)⟩, ((HE.out.1.trans HE5.out).mono fun _ _ hf => hf.elim).trans hK6⟩)
      clear hM6 hS6 hK6 hS
      go_wp2_with (first | (refine' hl_q rfl rfl rfl (fun _ => ?_) ?_; rotate_left; (go_simp <;> (try go_bits) <;> rfl); (try simp only [Act.put, List.setIfInBounds_toArray, List.set_cons_zero, List.set_cons_succ])) | (refine' hl_rS rfl rfl rfl hS ?_ ?_; rotate_left; (intro w9 hS9; (first | have hc9 := Ext.cells hS9 | have hc9 := Keeps.cells hS9); (go_simp <;> rfl)); (try simp only [Act.put, List.setIfInBounds_toArray, List.set_cons_zero, List.set_cons_succ])) | (refine' hl_r rfl rfl rfl ?_ ?_; rotate_left; (rintro w9 (rfl | hS9); (go_simp <;> rfl); (first | have hc9 := Ext.cells hS9 | have hc9 := Keeps.cells hS9 | (try dsimp only at hS9)); (go_simp <;> rfl)); (try simp only [Act.put, List.setIfInBounds_toArray, List.set_cons_zero, List.set_cons_succ])) | (refine' hl_s rfl rfl ?_; (try simp only [Act.put, List.setIfInBounds_toArray, List.set_cons_zero, List.set_cons_succ])) | (refine hl_e rfl rfl rfl (fun K hK => ?_)) | (with_reducible refine And.intro (fun hn => ?_) ?_; (first | exact hS | exact Keeps.alloc hS _ | exact absurd hn (by rw [show needS _ _ = false from by kernel_rfl]; exact Bool.false_ne_true))) | (refine hl_done ?_) | gi_step)
      go_ret
      exact H6.out
  · have HP := Lib.hid (show chg m x d = (m, true) from by unfold chg; rw [if_neg hp])
    have hp2 : ¬ x.pa = 0 := hp
    have hp3 : (x.pa == 0) = false := by simpa using hp
    go_wp2_with fail
    go_ret
    refine ⟨by rw [HP.out]; rfl, ⟨S, by rw [HP.out, hwa] at *; exact HE.out.2.2.1, fun i hi => .inl hi⟩, by rw [← hwa]; exact HE.out.1.mono fun _ _ hf => hf.elim⟩
end Go.Proofs.YtdonmmjikcbihaaGreatDoor
/- Package entry: Apply. -/
namespace Go.Proofs.YtdonmmjikcbihaaGreatDoor
open Go.RowKit Go.Proofs Go.Vc
attribute [local irreducible] Calls CallsIn Code.wp Code.wpIn
/-- few keys, small counts -/
def Bnd (m : List (ByteArray × Int)) (N : Nat) : Prop := m.length ≤ N ∧ ∀ k, -(N : Int) ≤ (findL cmpS k m).getD 0 ∧ (findL cmpS k m).getD 0 ≤ N
theorem putL_length {κ α : Type} {c : κ → κ → Ordering} (k : κ) (v : α) : ∀ m : List (κ × α), (putL c k v m).length ≤ m.length + 1
  | [] => Nat.le_refl _
  | z :: m => by
    have := putL_length (c := c) k v m
    simp only [putL]; split <;> simp only [List.length_cons] <;> omega
theorem Bnd.chg {m : List (ByteArray × Int)} {N : Nat} (h : Bnd m N) (x : Spn) {d : Int} (hd : d = 1 ∨ d = -1) : Bnd (chg m x d).1 (N + 1) := by
  have h0 := h.2 (ekey x)
  unfold Go.Proofs.YtdonmmjikcbihaaGreatDoor.chg
  split
  · split
    · exact ⟨by have := h.1; dsimp only; omega, fun k => by have := h.2 k; dsimp only; omega⟩
    · split
      · refine ⟨?_, fun k => ?_⟩
        · have := h.1
          have := List.length_filter_le (fun y : ByteArray × Int => cmpS (ekey x) y.1 != .eq) m
          unfold dropL; dsimp only; omega
        · dsimp only
          rw [findL_dropL order_S]
          split
          · simp only [Option.getD_none]; omega
          · have := h.2 k; omega
      · refine ⟨?_, fun k => ?_⟩
        · have := h.1
          have := putL_length (c := cmpS) (ekey x) ((findL cmpS (ekey x) m).getD 0 + d) m
          dsimp only; omega
        · dsimp only
          rw [findL_putL order_S]
          split
          · simp only [Option.getD_some]; omega
          · have := h.2 k; omega
  · exact ⟨by have := h.1; dsimp only; omega, fun k => by have := h.2 k; dsimp only; omega⟩
theorem vOut_snoc (m : List (ByteArray × Int)) (done : List Spn) (x : Spn) (l : List Spn) (h : (chg m x (-1)).2 = true) : vOut m done (x :: l) = vOut (chg m x (-1)).1 (done ++ [x]) l := by
  simp only [vOut]; rw [if_pos h]
theorem vOut_fail (m : List (ByteArray × Int)) (done : List Spn) (x : Spn) (l : List Spn) (h : (chg m x (-1)).2 = false) : vOut m done (x :: l) = (redo (chg m x (-1)).1 done, false) := by
  simp only [vOut]; rw [h]; rfl
theorem redo_snoc (m : List (ByteArray × Int)) (l : List Spn) (x : Spn) : redo m (l ++ [x]) = (chg (redo m l) x 1).1 := by unfold redo; rw [List.foldl_append]; rfl
/-- what Apply leaves -/
def VApPost (ty : TypeId) (b : Nat) (m : List (ByteArray × Int)) (S : Nat → Prop) (out inn : List Spn) (w : World) (e : Ending) (w' : World) : Prop :=
  e = .returned (.bool (vApply m out inn).2) ∧ (∃ S', LMapsi ty b 0 (vApply m out inn).1 S' w' ∧ ∀ i, S' i → S i ∨ w.heap.size ≤ i) ∧ Keeps S w w'
/-- the map on the way -/
def OnWay (ty : TypeId) (b : Nat) (S : Nat → Prop) (w : World) (m : List (ByteArray × Int)) (wr : World) : Prop :=
  (∃ S', LMapsi ty b 0 m S' wr ∧ ∀ i, S' i → S i ∨ w.heap.size ≤ i) ∧ Keeps S w wr
theorem OnWay.ext {ty : TypeId} {b : Nat} {S : Nat → Prop} {w wr wr' : World} {m : List (ByteArray × Int)} (h : OnWay ty b S w m wr) (k : Ext wr wr') : OnWay ty b S w m wr' := by
  obtain ⟨⟨S', hm, hs⟩, hk⟩ := h
  exact ⟨⟨S', hm.ext k, hs⟩, hk.trans (k.mono fun _ _ hf => hf.elim)⟩
theorem OnWay.step {ty : TypeId} {b : Nat} {S : Nat → Prop} {w wr : World} {m : List (ByteArray × Int)} (h : OnWay ty b S w m wr) {x : Spn} {d : Int} {N : Nat} (hx : Goodk (trip x)) (hd : d = 1 ∨ d = -1) (hB : Bnd m N) (hN : N ≤ 100000) :
    Calls Tryz.prog 24 #[.pointer (some ⟨b, 0, none⟩), spnV x, .int .i64 d] wr fun e w' => e = .returned (.bool (chg m x d).2) ∧ OnWay ty b S w (chg m x d).1 w' := by
  obtain ⟨⟨S', hm, hs⟩, hk⟩ := h
  refine (change_i ty b m S' x d wr hm hx hd (by have := hB.1; omega) (by have := hB.2 (ekey x); omega)).mono ?_
  rintro e w' ⟨he, ⟨S2, hm2, hs2⟩, hk2⟩
  refine ⟨he, ⟨S2, hm2, fun i hi => ?_⟩, ⟨Nat.le_trans hk.size hk2.size, fun i hi hf => ?_, (hk.ost).trans hk2.ost⟩⟩
  · rcases hs2 i hi with h | h
    · exact hs i h
    · exact .inr (Nat.le_trans hk.size h)
  · rw [hk2.same i (Nat.lt_of_lt_of_le hi hk.size) (fun h => (hs i h).elim hf (by omega)), hk.same i hi hf]
set_option maxRecDepth 20000 in
theorem vapply_i (ty : TypeId) (b : Nat) (m : List (ByteArray × Int)) (S : Nat → Prop) (vo vi : Value) (out inn : List Spn) (w : World) (N : Nat) (hB : Bnd m N) (hN : N ≤ 10000) (h : LMapsi ty b 0 m S w)
    (ho : SpnsAt w vo out) (hi : SpnsAt w vi inn) (hso : out ≠ [] → ∀ g, slBlock vo = some g → ¬ S g) (hsi : inn ≠ [] → ∀ g, slBlock vi = some g → ¬ S g) (hfo : ∀ x ∈ out, x.Fits) (hfi : ∀ x ∈ inn, x.Fits) (hlo : out.length ≤ 100) (hli : inn.length ≤ 100) :
    Calls Tryz.prog 9 #[.pointer (some ⟨b, 0, none⟩), .agg #[vo, vi]] w (VApPost ty b m S out inn w) := by
  have ho' := ho
  have hi' := hi
  obtain ⟨ao, capo, rfl, hno, h0o, hju⟩ := ho'
  obtain ⟨ai, capi, rfl, hni, h0i, hjv⟩ := hi'
  have hlno : ∀ j : Nat, j < out.length → ao ≠ none := fun j hj ha => by rw [h0o ha] at hj; exact absurd hj (Nat.not_lt_zero _)
  have hlni : ∀ j : Nat, j < inn.length → ai ≠ none := fun j hj ha => by rw [h0i ha] at hj; exact absurd hj (Nat.not_lt_zero _)
  have HL := Lib.hid (And.intro hlno hlni)
  obtain ⟨no, hnl⟩ : ∃ n, n = out.length := ⟨_, rfl⟩
  obtain ⟨ni, hnl2⟩ : ∃ n, n = inn.length := ⟨_, rfl⟩
  rw [← hnl] at ho
  rw [← hnl2] at hi
  rw [← hnl, ← hnl2]
  rw [← hnl] at hso
  rw [← hnl2] at hsi
  have HNL := Lib.hid (And.intro hnl hnl2)
  have hno2 : (no : Int) ≤ 100 := by omega
  have hni2 : (ni : Int) ≤ 100 := by omega
  have hco : (no : Int) ≤ capo := by rw [hnl]; exact hno.2
  clear hno h0o hni h0i hlno hlni hnl hnl2 hju hjv
  obtain ⟨wa, hwa⟩ : ∃ wa, wa = w.alloc (.cells #[.slice ao no capo, .slice ai ni capi] 36) := ⟨_, rfl⟩
  have hE : Ext w wa := by rw [hwa]; exact (Keeps.refl _ w).alloc _
  have hNw : wa.heap[w.heap.size]? = some (.cells #[.slice ao no capo, .slice ai ni capi] 36 (0, 0)) := by rw [hwa]; exact World.alloc_heap_new w _
  obtain ⟨c, hc0⟩ : ∃ c, c = w.heap.size := ⟨_, rfl⟩
  rw [← hc0] at hNw
  have hSc : ¬ S c := fun hs => by have := h.lt hs; omega
  have H0 := Lib.hid (show OnWay ty b S wa m wa from ⟨⟨S, h.ext hE, fun i hi => .inl hi⟩, Keeps.refl _ wa⟩)
  have HO := Lib.hid (show ∀ wr, Keeps S wa wr → SpnsAt wr (.slice ao no capo) out from fun wr k => (ho.ext hE).keeps2 k hso)
  have HI := Lib.hid (show ∀ wr, Keeps S wa wr → SpnsAt wr (.slice ai ni capi) inn from fun wr k => (hi.ext hE).keeps2 k hsi)
  have HF := Lib.hid (And.intro hfo (And.intro hfi (And.intro hlo (And.intro hli (And.intro hB hN)))))
  have HC := Lib.hid (show ∀ wr, Keeps S wa wr → wr.heap[c]? = some (.cells #[.slice ao no capo, .slice ai ni capi] 36 (0, 0)) from fun wr k => (k.same c (lt_of_heap hNw) hSc).trans hNw)
  have HQ := Lib.hid (show ∀ wr r, OnWay ty b S wa (vApply m out inn).1 wr → r = (vApply m out inn).2 → VApPost ty b m S out inn w (.returned (.bool r)) wr from fun wr r ⟨⟨S', h1, h2⟩, h3⟩ hr =>
    ⟨by rw [hr], ⟨S', h1, fun i hi => (h2 i hi).imp id (fun h => Nat.le_trans hE.size h)⟩, (hE.mono fun _ _ hf => hf.elim).trans h3⟩)
  have hcw := blk_cell hNw
  clear hE h ho hi hso hsi hfo hfi hlo hli hB hN hNw hSc
  obtain ⟨ro, hro⟩ : ∃ r, r = out.all may := ⟨_, rfl⟩
  obtain ⟨ri, hri⟩ : ∃ r, r = inn.all may := ⟨_, rfl⟩
  have HR := Lib.hid (And.intro hro hri)
  go_enter Tryz.func9, Tryz.ntmps9
  go_wp2_with fail
  rw [← hwa, ← hc0]
  clear hwa hc0
  refine (emay_i (.slice ao no capo) out _ (HO.out wa (Keeps.refl _ wa)) HF.out.1).mono ?_
  rintro e9 w1 ⟨rfl, hE1⟩
  rw [← hro]
  have HE1 := Lib.hid hE1
  have hc1 := blk_cell (HC.out w1 (hE1.mono fun _ _ hf => hf.elim))
  clear hE1 hro
  cases ro
  · go_wp2_with fail
    go_ret
    refine HQ.out _ _ ?_ ?_
    · unfold vApply; rw [← HR.out.1, Bool.false_and]; exact H0.out.ext HE1.out
    · unfold vApply; rw [← HR.out.1, Bool.false_and]; rfl
  go_wp2_with fail
  refine (emay_i (.slice ai ni capi) inn _ (HI.out w1 (HE1.out.mono fun _ _ hf => hf.elim)) HF.out.2.1).mono ?_
  rintro e9 w2 ⟨rfl, hE2⟩
  rw [← hri]
  have HE2 := Lib.hid (HE1.out.trans hE2)
  have hc2 := blk_cell (HC.out w2 (HE2.out.mono fun _ _ hf => hf.elim))
  clear hE2 hri hc1
  cases ri
  · go_wp2_with fail
    go_ret
    refine HQ.out _ _ ?_ ?_
    · unfold vApply; rw [← HR.out.2, Bool.and_false]; exact H0.out.ext HE2.out
    · unfold vApply; rw [← HR.out.2, Bool.and_false]; rfl
  go_wp2_with fail
  clear hcw
  have hgo : ∀ x ∈ out, Goodk (trip x) := fun x hx => good_may (HF.out.1 x hx).tr (List.all_eq_true.1 HR.out.1.symm x hx)
  have hgi : ∀ x ∈ inn, Goodk (trip x) := fun x hx => good_may (HF.out.2.1 x hx).tr (List.all_eq_true.1 HR.out.2.symm x hx)
  have hva : vApply m out inn = if (vOut m [] out).2 then (redo (vOut m [] out).1 inn, true) else vOut m [] out := by
    unfold vApply; rw [← HR.out.1, ← HR.out.2]; rfl
  have HG := Lib.hid (And.intro hgo (And.intro hgi hva))
  clear hgo hgi hva
  have H2 := Lib.hid (H0.out.ext HE2.out)
  go_loopg [36] no (fun k p wr => ∃ (j : Nat) (mj : List (ByteArray × Int)), p = .int .i64 j ∧ j + k = no ∧ OnWay ty b S wa mj wr ∧ Bnd mj (N + j) ∧ vOut m [] out = vOut mj (out.take j) (out.drop j))
  case atStart => exact ⟨0, m, rfl, Nat.zero_add _, H2.out, HF.out.2.2.2.2.1, by simp⟩
  case round =>
    obtain ⟨j, mj, rfl, hj, hW, hBj, hvo⟩ := hrel
    by_cases hjn : (j : Int) < no
    · have hjl : j < out.length := by rw [← HNL.out.1]; omega
      obtain ⟨g, o, rfl, hc9⟩ := (HO.out wr hW.2).at hjl
      have hy := hc9 j hjl
      obtain ⟨y, hyl⟩ : ∃ y, y = out[j] := ⟨_, rfl⟩
      rw [← hyl] at hy
      unfold C9 at hy
      have hcr := blk_cell (HC.out wr hW.2)
      have hyg : Goodk (trip y) := by rw [hyl]; exact HG.out.1 _ (List.getElem_mem hjl)
      have hdr : out.drop j = y :: out.drop (j + 1) := by rw [hyl]; exact List.drop_eq_getElem_cons hjl
      have htk : out.take (j + 1) = out.take j ++ [y] := by rw [hyl]; exact (List.take_append_getElem hjl).symm
      have hEa : Ext wr (wr.alloc (.cells (spnC y) 48)) := (Keeps.refl _ wr).alloc _
      have HY := Lib.hid (And.intro hyg (And.intro hdr (And.intro htk (And.intro hBj (And.intro hvo hjl)))))
      have HW := Lib.hid (hW.ext hEa)
      have hcb : (wr.alloc (.cells (spnC y) 48)).heap[c]? = some (.cells #[.slice (some ⟨g, o, none⟩) no capo, .slice ai ni capi] 36 (0, 0)) := (Ext.same hEa (lt_of_heap (HC.out wr hW.2))).trans (HC.out wr hW.2)
      clear hc9 hyl hyg hdr htk hEa hBj hvo hW
      obtain ⟨wb, hwb⟩ : ∃ wb, wb = wr.alloc (.cells (spnC y) 48) := ⟨_, rfl⟩
      rw [← hwb] at HW hcb
      have hlb := lt_of_heap hcb
      clear hcb
      go_wp2_with fail
      rw [← hwb]
      clear hwb
      refine (HW.out.step HY.out.1 (.inr rfl) HY.out.2.2.2.1 (by have := HF.out.2.2.2.2.2; have := HF.out.2.2.1; have := HY.out.2.2.2.2.2; omega)).mono ?_
      rintro e9 w3 ⟨rfl, hW3⟩
      have hBn := HY.out.2.2.2.1.chg y (d := -1) (.inr rfl)
      have HW3 := Lib.hid (And.intro hW3 hBn)
      have hc3 := blk_cell (HC.out w3 hW3.2)
      clear hW3 hBn hcr
      cases hok : (chg mj y (-1)).2
      · have HVO := Lib.hid (show vOut m [] out = (redo (chg mj y (-1)).1 (out.take j), false) from by rw [HY.out.2.2.2.2.1, HY.out.2.1]; exact vOut_fail _ _ _ _ hok)
        clear hok hy
        go_wp2_with fail
        go_loopg [49] j (fun k p wr => ∃ (i : Nat), p = .int .i64 i ∧ i + k = j ∧ OnWay ty b S wa (redo (chg mj y (-1)).1 (out.take i)) wr ∧ Bnd (redo (chg mj y (-1)).1 (out.take i)) (N + j + 1 + i))
        case atStart => exact ⟨0, rfl, Nat.zero_add _, HW3.out.1, HW3.out.2⟩
        case round =>
          obtain ⟨i, rfl, hi, hW, hBi⟩ := hrel
          by_cases hij : (i : Int) < j
          · have hil : i < out.length := by have := HY.out.2.2.2.2.2; omega
            obtain ⟨g2, o2, e2, hc9⟩ := (HO.out wr hW.2).at hil
            injection e2 with e2
            injection e2 with e21 e22 _
            subst e21; subst e22
            have hy := hc9 i hil
            obtain ⟨z, hzl⟩ : ∃ z, z = out[i] := ⟨_, rfl⟩
            rw [← hzl] at hy
            unfold C9 at hy
            have hzg : Goodk (trip z) := by rw [hzl]; exact HG.out.1 _ (List.getElem_mem hil)
            have htk : out.take (i + 1) = out.take i ++ [z] := by rw [hzl]; exact (List.take_append_getElem hil).symm
            have hEa : Ext wr (wr.alloc (.cells (spnC z) 48)) := (Keeps.refl _ wr).alloc _
            have HZ := Lib.hid (And.intro hzg (And.intro htk (And.intro hBi hil)))
            have HWz := Lib.hid (hW.ext hEa)
            clear hc9 hzl hzg htk hEa hBi hW
            obtain ⟨wb, hwb⟩ : ∃ wb, wb = wr.alloc (.cells (spnC z) 48) := ⟨_, rfl⟩
            rw [← hwb] at HWz
            go_wp2_with fail
            rw [← hwb]
            clear hwb
            refine (HWz.out.step HZ.out.1 (.inl rfl) HZ.out.2.2.1 (by have := HF.out.2.2.2.2.2; have := HF.out.2.2.1; have := HY.out.2.2.2.2.2; omega)).mono ?_
            rintro e9 w4 ⟨rfl, hW4⟩
            have HW4 := Lib.hid (And.intro (show OnWay ty b S wa (redo (chg mj y (-1)).1 (out.take (i + 1))) w4 from by rw [HZ.out.2.1, redo_snoc]; exact hW4) (show Bnd (redo (chg mj y (-1)).1 (out.take (i + 1))) (N + j + 1 + i + 1) from by rw [HZ.out.2.1, redo_snoc]; exact HZ.out.2.2.1.chg z (.inl rfl)))
            clear hW4 hy
            go_wp2_with fail
            go_roundg (gk - 1)
            case measure => omega
            case rel => exact ⟨i + 1, by simp, by omega, HW4.out.1, HW4.out.2⟩
          · have hie : i = j := by omega
            subst hie
            have HEND := Lib.hid hW
            clear hW hBi
            go_wp2_with fail
            go_ret
            refine HQ.out _ _ ?_ ?_
            · rw [HG.out.2.2, HVO.out]; exact HEND.out
            · rw [HG.out.2.2, HVO.out]; rfl
      · have HVO := Lib.hid (show vOut m [] out = vOut (chg mj y (-1)).1 (out.take (j + 1)) (out.drop (j + 1)) from by rw [HY.out.2.2.2.2.1, HY.out.2.1, HY.out.2.2.1]; exact vOut_snoc _ _ _ _ hok)
        clear hok hy
        go_wp2_with fail
        go_roundg (gk - 1)
        case measure => omega
        case rel => exact ⟨j + 1, _, by simp, by omega, HW3.out.1, HW3.out.2, HVO.out⟩
    · have hje : j = no := by omega
      have hje2 : j = out.length := by rw [hje]; exact HNL.out.1
      have HVO := Lib.hid (show vOut m [] out = (mj, true) from by rw [hvo, hje2, List.drop_length]; rfl)
      have HVA := Lib.hid (show vApply m out inn = (redo mj inn, true) from by rw [HG.out.2.2, HVO.out]; rfl)
      have HWj := Lib.hid (And.intro hW hBj)
      have hcj := blk_cell (HC.out wr hW.2)
      clear hvo hW hBj hje2 hc2
      go_wp2_with fail
      go_loopg [61] ni (fun k p wr => ∃ (i : Nat), p = .int .i64 i ∧ i + k = ni ∧ OnWay ty b S wa (redo mj (inn.take i)) wr ∧ Bnd (redo mj (inn.take i)) (N + j + i))
      case atStart => exact ⟨0, rfl, Nat.zero_add _, HWj.out.1, HWj.out.2⟩
      case round =>
        obtain ⟨i, rfl, hi, hW, hBi⟩ := hrel
        by_cases hij : (i : Int) < ni
        · have hil : i < inn.length := by rw [← HNL.out.2]; omega
          obtain ⟨g2, o2, rfl, hc9⟩ := (HI.out wr hW.2).at hil
          have hy := hc9 i hil
          obtain ⟨z, hzl⟩ : ∃ z, z = inn[i] := ⟨_, rfl⟩
          rw [← hzl] at hy
          unfold C9 at hy
          have hzg : Goodk (trip z) := by rw [hzl]; exact HG.out.2.1 _ (List.getElem_mem hil)
          have htk : inn.take (i + 1) = inn.take i ++ [z] := by rw [hzl]; exact (List.take_append_getElem hil).symm
          have hEa : Ext wr (wr.alloc (.cells (spnC z) 48)) := (Keeps.refl _ wr).alloc _
          have HZ := Lib.hid (And.intro hzg (And.intro htk (And.intro hBi hil)))
          have HWz := Lib.hid (hW.ext hEa)
          clear hc9 hzl hzg htk hEa hBi hW
          obtain ⟨wb, hwb⟩ : ∃ wb, wb = wr.alloc (.cells (spnC z) 48) := ⟨_, rfl⟩
          rw [← hwb] at HWz
          go_wp2_with fail
          rw [← hwb]
          clear hwb
          refine (HWz.out.step HZ.out.1 (.inl rfl) HZ.out.2.2.1 (by have := HF.out.2.2.2.2.2; omega)).mono ?_
          rintro e9 w4 ⟨rfl, hW4⟩
          have HW4 := Lib.hid (And.intro (show OnWay ty b S wa (redo mj (inn.take (i + 1))) w4 from by rw [HZ.out.2.1, redo_snoc]; exact hW4) (show Bnd (redo mj (inn.take (i + 1))) (N + j + i + 1) from by rw [HZ.out.2.1, redo_snoc]; exact HZ.out.2.2.1.chg z (.inl rfl)))
          clear hW4 hy
          cases hcx : (chg (redo mj (inn.take i)) z 1).2
          all_goals
            go_wp2_with fail
            go_roundg (gk - 1)
            case measure => omega
            case rel => exact ⟨i + 1, by simp, by omega, HW4.out.1, HW4.out.2⟩
        · have hie : i = inn.length := by rw [← HNL.out.2]; omega
          have HEND := Lib.hid (show OnWay ty b S wa (redo mj inn) wr from by rw [hie, List.take_length] at hW; exact hW)
          clear hW hBi
          go_wp2_with fail
          go_ret
          refine HQ.out _ _ ?_ ?_
          · rw [HVA.out]; exact HEND.out
          · rw [HVA.out]
end Go.Proofs.YtdonmmjikcbihaaGreatDoor
/- Package entry: all entries. -/
namespace Go.Proofs.YtdonmmjikcbihaaGreatDoor
open Go.RowKit Go.Proofs Go.Vc
attribute [local go_sem] Oper.semAt_some
attribute [local irreducible] Calls CallsIn Code.wp Code.wpIn
theorem efrom_i (b : Nat) (fk : ByteArray) (w : World) : Calls Tryz.prog 27 #[.pointer (some ⟨b, 0, none⟩), .string fk] w fun e w' =>
    e = .returned (.func (.func 72) #[] #[.pointer (some ⟨w.heap.size, 0, none⟩), .pointer (some ⟨w.heap.size + 1, 0, none⟩)]) ∧ w' = (w.alloc (.cells #[.pointer (some ⟨b, 0, none⟩)] 88)).alloc (.cells #[.string fk] 9) := by
  go_enter Tryz.func27, Tryz.ntmps27
  go_wp2_with fail
  refine (from_si _ _ _).mono ?_
  rintro e9 w1 ⟨rfl, hw⟩
  have HW := Lib.hid hw
  clear hw
  go_wp2_with fail
  go_ret
  exact ⟨rfl, HW.out⟩
theorem efromnil_i (fk : ByteArray) (w : World) : Calls Tryz.prog 27 #[.pointer none, .string fk] w fun e w' =>
    e = .returned (.func (.func 70) #[] #[.pointer (some ⟨w.heap.size, 0, none⟩)]) ∧ w' = w.alloc (.cells #[.pointer none] 88) := by
  go_enter Tryz.func27, Tryz.ntmps27
  go_wp2_with fail
  refine (all_si _ _).mono ?_
  rintro e9 w1 ⟨rfl, hw⟩
  have HW := Lib.hid hw
  clear hw
  go_wp2_with fail
  go_ret
  exact ⟨rfl, HW.out⟩
theorem allocs4 (w : World) (a b c d : Obj) {w1 : World} (h : w1 = (((w.alloc a).alloc b).alloc c).alloc d) : Ext w w1 ∧ w1.heap[w.heap.size]? = some a ∧ w1.heap[w.heap.size + 1]? = some b ∧ w1.heap[w.heap.size + 2]? = some c ∧ w1.heap[w.heap.size + 3]? = some d ∧ w1.heap.size = w.heap.size + 4 := by
  subst h
  have hs : ∀ (w : World) o, (w.alloc o).heap.size = w.heap.size + 1 := fun w o => by show (w.heap.push _).size = _; rw [Array.size_push]
  have e : ∀ (w : World) o, Ext w (w.alloc o) := fun w o => (Keeps.refl _ w).alloc _
  have g : ∀ (w : World) o i x, w.heap[i]? = some x → (w.alloc o).heap[i]? = some x := fun w o i x h => (Ext.same (e w o) (lt_of_heap h)).trans h
  have n1 : ∀ (w : World) o, (w.alloc o).heap[w.heap.size]? = some o := fun w o => World.alloc_heap_new w o
  refine ⟨((((Keeps.refl _ w).alloc _).alloc _).alloc _).alloc _, g _ _ _ _ (g _ _ _ _ (g _ _ _ _ (n1 w a))), g _ _ _ _ (g _ _ _ _ ?_), g _ _ _ _ ?_, ?_, by simp only [hs]⟩
  · have := n1 (w.alloc a) b; rwa [hs] at this
  · have := n1 ((w.alloc a).alloc b) c; rwa [hs, hs] at this
  · have := n1 (((w.alloc a).alloc b).alloc c) d; rwa [hs, hs, hs] at this
/-- the beginning that was last -/
def wasOf (E : List Ent) : ByteArray := match E.getLast? with | some e => efirst e.sv e.op | none => ⟨#[]⟩
theorem efirst_inj {s o s' o' : ByteArray} (h1 : named s = true) (h2 : named o = true) (h3 : named s' = true) (h4 : named o' = true) (h : efirst s o = efirst s' o') : s = s' ∧ o = o' := by
  have := tkey_inj (p := (s, o, 0)) (q := (s', o', 0)) ⟨h1, h2, show I64 0 from by decide⟩ ⟨h3, h4, show I64 0 from by decide⟩ (by unfold tkey; dsimp only; rw [h])
  simp only [Prod.mk.injEq] at this
  exact ⟨this.1, this.2.1⟩
theorem entStep_same (E : List Ent) (e : Ent) (t : Int) : entStep (E ++ [e]) (e.sv, e.op, t) = E ++ [{ e with tr := e.tr ++ [t] }] := by
  unfold entStep
  rw [List.getLast?_concat]
  dsimp only
  rw [if_pos ⟨rfl, rfl⟩, List.dropLast_concat]
theorem entStep_new (E : List Ent) (s o : ByteArray) (t : Int) (h : ∀ e, E.getLast? = some e → ¬ (e.sv = s ∧ e.op = o)) : entStep E (s, o, t) = E ++ [⟨s, o, [t]⟩] := by
  unfold entStep
  cases hE : E.getLast? with
  | none =>
    have : E = [] := by simpa using hE
    subst this; rfl
  | some e => dsimp only; rw [if_neg (h e hE)]
theorem entStep_len (E : List Ent) (q : ByteArray × ByteArray × Int) : (entStep E q).length ≤ E.length + 1 := by
  unfold entStep
  cases hE : E.getLast? with
  | none => simp
  | some e =>
    dsimp only
    split
    · have : E ≠ [] := fun h0 => by rw [h0] at hE; cases hE
      have := List.length_pos_iff.2 this
      rw [List.length_append, List.length_dropLast, List.length_singleton]; omega
    · simp
theorem entsOf_len : ∀ l : List (ByteArray × ByteArray × Int), (entsOf l).length ≤ l.length := by
  unfold entsOf
  have : ∀ (l : List (ByteArray × ByteArray × Int)) (E : List Ent), (l.foldl entStep E).length ≤ E.length + l.length := by
    intro l
    induction l with
    | nil => exact fun E => Nat.le_refl _
    | cons q l ih => intro E; have := ih (entStep E q); have := entStep_len E q; simp only [List.foldl_cons, List.length_cons]; omega
  exact fun l => by simpa using this l []
theorem entStep_tr {N : Nat} (E : List Ent) (q : ByteArray × ByteArray × Int) (h : ∀ e ∈ E, e.tr.length ≤ N) : ∀ e ∈ entStep E q, e.tr.length ≤ N + 1 := by
  intro e he
  unfold entStep at he
  cases hE : E.getLast? with
  | none => rw [hE] at he; dsimp only at he; rw [List.mem_singleton] at he; subst he; simp
  | some d =>
    rw [hE] at he
    dsimp only at he
    have hd : d ∈ E := List.mem_of_getLast? hE
    split at he
    · rw [List.mem_append, List.mem_singleton] at he
      rcases he with he | rfl
      · exact Nat.le_succ_of_le (h e ((List.dropLast_sublist E).subset he))
      · have := h d hd; simp; omega
    · rw [List.mem_append, List.mem_singleton] at he
      rcases he with he | rfl
      · exact Nat.le_succ_of_le (h e he)
      · simp
theorem entsOf_tr : ∀ l : List (ByteArray × ByteArray × Int), ∀ e ∈ entsOf l, e.tr.length ≤ l.length := by
  unfold entsOf
  have : ∀ (l : List (ByteArray × ByteArray × Int)) (E : List Ent) (N : Nat), (∀ e ∈ E, e.tr.length ≤ N) → ∀ e ∈ l.foldl entStep E, e.tr.length ≤ N + l.length := by
    intro l
    induction l with
    | nil => exact fun E N h => h
    | cons q l ih => intro E N h e he; have := ih (entStep E q) (N + 1) (entStep_tr E q h) e he; simp only [List.length_cons]; omega
  intro l e he
  have := this l [] 0 (fun _ h => nomatch h) e he
  simpa using this
theorem reads_one (W : World) (t : Int) : intE.Reads (W.alloc (.cells #[.int .i64 t] 3)) (.slice (some ⟨W.heap.size, 0, none⟩) 1 1) [t] := Ek.reads_new intE W t _ _ rfl
theorem reads_ent (W : World) (s o : ByteArray) : entE.Reads (W.alloc (.cells #[.string s, .string o, .slice none 0 0] 46)) (.slice (some ⟨W.heap.size, 0, none⟩) 1 1) [(s, o, (none, 0, 0))] := Ek.reads_new entE W _ _ _ rfl
/-- the state ahead of a round's last two statements -/
structure Tail (n : Nat) (s o : ByteArray) (t : Int) (R : List Ent) (g cap : Nat) (l' : List (ByteArray × ByteArray × Sl)) (x : ByteArray × ByteArray × Sl) (E' : List Ent) (e : Ent) (W : World) : Prop where
  out : W.heap[n]? = some (.cells #[.slice (some ⟨g, 0, none⟩) (l'.length + 1) cap] 38 (0, 0))
  was : W.heap[n + 1]? = some (.cells #[.string (efirst s o)] 9 (0, 0))
  rows : EntRows (n + 4) (.slice (some ⟨g, 0, none⟩) (l'.length + 1) cap) (l' ++ [x]) (E' ++ [e]) W
  sv : e.sv = s
  op : e.op = o
  step : R = E' ++ [{ e with tr := e.tr ++ [t] }]
theorem Tail.done {n : Nat} {s o : ByteArray} {t : Int} {R : List Ent} {g cap : Nat} {l' : List (ByteArray × ByteArray × Sl)} {x : ByteArray × ByteArray × Sl} {E' : List Ent} {e : Ent} {W W' : World} {u : Sl} (T : Tail n s o t R g cap l' x E' e W)
    (hx : intE.Own (n + 4) (slV x.2.2) e.tr W) (hown : intE.Own (n + 4) (slV u) (e.tr ++ [t]) W') (hgrow : Keeps (fun b => (slV x.2.2).ownBlock = some b) (W.alloc (.cells #[.int .i64 t] 3)) W')
    (hblk : (slV u).ownBlock = (slV x.2.2).ownBlock ∨ (slV u).ownBlock = some (W.heap.size + 1)) {b2 b3 : Obj} (h2 : W.heap[n + 2]? = some b2) (h3 : W.heap[n + 3]? = some b3) {Wf : World} (hWf : Wf = W'.setCell ⟨g, l'.length * 3 + 2, none⟩ (slV u)) :
    Mut n W Wf ∧ Wf.heap[n]? = some (.cells #[.slice (some ⟨g, 0, none⟩) (l'.length + 1) cap] 38 (0, 0)) ∧ Wf.heap[n + 1]? = some (.cells #[.string (wasOf R)] 9 (0, 0)) ∧ Wf.heap[n + 2]? = some b2 ∧ Wf.heap[n + 3]? = some b3 ∧
      EntRows (n + 4) (.slice (some ⟨g, 0, none⟩) (l'.length + 1) cap) (l' ++ [(x.1, x.2.1, u)]) R Wf := by
  have hEal : Ext W (W.alloc (.cells #[.int .i64 t] 3)) := (Keeps.refl _ W).alloc _
  have hg := T.rows.row.lt entE (g := g) rfl
  have hnx : ¬ (slV x.2.2).ownBlock = some g := fun hc => kinds_apart T.rows.row hx (g := g) rfl hc
  have hk : Keeps (fun b => (slV x.2.2).ownBlock = some b) W W' := ⟨Nat.le_trans hEal.size hgrow.size, fun i hi hf => (hgrow.same i (Nat.lt_of_lt_of_le hi hEal.size) hf).trans (Ext.same hEal hi), (hEal.ost).trans hgrow.ost⟩
  have hM := (Mut.of_ext (n := n) hEal).own intE (hx.ext intE hEal) (by omega) hgrow
  obtain ⟨c, f, hgc⟩ := T.rows.row.kind entE (g := g) rfl
  have hgw : W'.heap[g]? = some (.cells c entE.e f) := (hk.same g hg.2 hnx).trans hgc
  have hs : ∀ i b, W.heap[i]? = some b → i < n + 4 → Wf.heap[i]? = some b := fun i b hb hi => by
    rw [hWf, heap_set_other _ _ _ _ _ (by omega), hk.same i (lt_of_heap hb) (fun hf => by have := (hx.lt intE hf).1; omega)]; exact hb
  refine ⟨hM.cell hgw (by omega) _ _ hWf, hs _ _ T.out (by omega), ?_, hs _ _ h2 (by omega), hs _ _ h3 (by omega), ?_⟩
  · have hw : wasOf R = efirst s o := by
      unfold wasOf
      rw [T.step, List.getLast?_concat]
      dsimp only
      rw [T.sv, T.op]
    rw [hw]; exact hs _ _ T.was (by omega)
  · rw [T.step, hWf]
    exact T.rows.last hown hk (hblk.imp id fun h => ⟨_, h, by omega⟩)
/-- what All leaves -/
def AllPost (E : List Ent) (w : World) (e : Ending) (w' : World) : Prop := ∃ v, e = .returned v ∧ EntsAt w' v E ∧ Ext w w'
theorem since_all (m : List (ByteArray × Int)) : sinceL cmpS ⟨#[]⟩ m = m := by
  refine List.filter_eq_self.2 fun y _ => ?_
  have : ∀ l : List UInt8, Op.bytesLess l [] = false := fun l => by cases l <;> rfl
  cases h : cmpS y.1 ⟨#[]⟩ with
  | lt => have := cmpS_is_lt.1 h; rw [toList_data ⟨#[]⟩, ‹∀ l : List UInt8, Op.bytesLess l [] = false›] at this; cases this
  | eq => rfl
  | gt => rfl
set_option maxRecDepth 20000 in
theorem evall_i (ty : TypeId) (b : Nat) (m : List (ByteArray × Int)) (S : Nat → Prop) (w : World) (qs : List (ByteArray × ByteArray × Int)) (mx : Int) (h : LMapsi ty b 0 m S w) (hq : m.map (·.1) = qs.map tkey) (hg : ∀ q ∈ qs, Goodk q) (hup : qs.Pairwise tlt) (hl : qs.length ≤ 100000)
    (hm : w.cell? ⟨0, 0, none⟩ = some (.int .i64 mx)) : Calls Tryz.prog 12 #[.pointer (some ⟨b, 0, none⟩)] w (AllPost (entsOf qs) w) := by
  refine calls_of_marks Tryz.func12 rfl ?_
  simp only [Tryz.ntmps12, List.size_toArray, List.length_cons, List.length_nil, Nat.reduceAdd, Nat.reduceSub, Array.replicate_succ,
     Array.replicate_zero, List.push_toArray, List.append_toArray, List.nil_append, List.cons_append]
  gi_wp2_with fail
  refine callsIn_wide.2 ((efrom_i b _ _).mono ?_)
  rintro e9 w1 ⟨rfl, hw1⟩
  gi_wp2_with fail
  obtain ⟨c0, tr, hM, htl, hri, hS⟩ := h
  obtain ⟨n, hn⟩ : ∃ n, n = w.heap.size := ⟨_, rfl⟩
  obtain ⟨hE1, h0, h1, h2, h3, hs1⟩ := allocs4 w _ _ _ _ hw1
  rw [← hw1, ← hn]
  rw [← hn] at h0 h1 h2 h3 hs1
  clear hw1
  have hseq : Seq Tryz.prog 72 #[.pointer (some ⟨n + 2, 0, none⟩), .pointer (some ⟨n + 3, 0, none⟩)] (m.map encsi)
      (fun W => W.cell? ⟨n + 2, 0, none⟩ = some (.pointer (some ⟨b, 0, none⟩)) ∧ W.cell? ⟨n + 3, 0, none⟩ = some (.string ⟨#[]⟩) ∧ W.cell? ⟨b, 0, none⟩ = some (.pointer tr.ptr) ∧ At Ssi W tr) := by
    have t18 := seqfrom_si tr ⟨#[]⟩ (n + 2) (n + 3) b 0
    rw [T.since_toList order_S _ _ (by rw [htl]; exact hri), htl, since_all] at t18
    exact t18
  have hlen : m.length = qs.length := by have t20 := congrArg List.length hq; simpa using t20
  have hcan : ∀ k, Canon (entsOf (qs.take k)) fun s' o' t' => (s', o', t') ∈ qs.take k := fun k => entsOf_canon _ (List.Pairwise.take hup)
  refine range_loop (gf := 72) (lb := #[.pointer (some ⟨n + 2, 0, none⟩), .pointer (some ⟨n + 3, 0, none⟩)]) (xs := m.map encsi) (by simp [Act.eval]) (enters_of Tryz.func72 (by kernel_rfl) rfl) (by intro x hx; simp [encsi] at hx; obtain ⟨_, _, _, rfl⟩ := hx; rfl) hseq
    (fun k W => ∃ v l, W.heap[n]? = some (.cells #[v] 38 (0, 0)) ∧ W.heap[n + 1]? = some (.cells #[.string (wasOf (entsOf (qs.take k)))] 9 (0, 0)) ∧ W.heap[n + 2]? = some (.cells #[.pointer (some ⟨b, 0, none⟩)] 88 (0, 0)) ∧ W.heap[n + 3]? = some (.cells #[.string ⟨#[]⟩] 9 (0, 0)) ∧ EntRows (n + 4) v l (entsOf (qs.take k)) W ∧ Ext w W)
    (fun _ _ _ => False) ?_ (fun _ _ _ _ h => h.elim) ?_ ?_ ?_ ?_ (fun _ _ _ _ _ _ h => h.elim)
  · rintro k W W' ⟨v, l, i0, i1, i2, i3, i4, i5⟩ hbk
    exact ⟨v, l, hbk.same _ _ i0 (.inr rfl), hbk.same _ _ i1 (.inr rfl), hbk.same _ _ i2 (.inr rfl), hbk.same _ _ i3 (.inr rfl), i4.bk hbk, ext_bk i5 hbk (by omega)⟩
  · rintro k W ⟨v, l, i0, i1, i2, i3, i4, i5⟩
    exact ⟨by rw [blk_cell i2]; rfl, by rw [blk_cell i3]; rfl, (hM.ext i5).cellR, (hM.ext i5).tree⟩
  · exact ⟨_, [], h0, h1, h2, h3, EntRows.nil _ _, hE1⟩
  · rintro lp k hk W ⟨v, l, i0, i1, i2, i3, i4, i5⟩ hWs
    unfold roundStart
    have HN0 := Lib.hid hn
    have hkm : k < m.length := by simpa using hk
    have hkq : k < qs.length := by rw [← hlen]; exact hkm
    obtain ⟨⟨s, o, t⟩, hqk⟩ : ∃ q, q = qs[k] := ⟨_, rfl⟩
    obtain ⟨nv, hnv⟩ : ∃ nv, nv = m[k].2 := ⟨_, rfl⟩
    have hmk : m[k].1 = tkey (s, o, t) := by
      have h1 : (m.map (·.1))[k]'(by simpa using hkm) = (qs.map tkey)[k]'(by simpa using hkq) := by simp only [hq]
      rw [List.getElem_map, List.getElem_map, ← hqk] at h1; exact h1
    have hxk : (m.map encsi)[k] = #[.string (tkey (s, o, t)), .int .i64 nv] := by rw [List.getElem_map, hnv, ← hmk]; rfl
    rw [hxk]
    simp only [List.zip_toArray, List.zip_cons_cons, List.zip_nil_right, List.foldl_toArray, List.foldl_cons, List.foldl_nil, List.setIfInBounds_toArray, List.set_cons_zero, List.set_cons_succ]
    have hgq : Goodk (s, o, t) := by rw [hqk]; exact hg _ (List.getElem_mem hkq)
    have htk : entsOf (qs.take (k + 1)) = entStep (entsOf (qs.take k)) (s, o, t) := by rw [hqk, ← entsOf_snoc, List.take_append_getElem hkq]
    have HV := Lib.hid (And.intro i0 (And.intro i1 (And.intro i2 (And.intro i3 (And.intro i4 i5)))))
    have HK := Lib.hid (And.intro hgq (And.intro htk (And.intro hkq hl)))
    clear i0 i1 i2 i3 i4 i5 hxk hmk hnv hgq htk hk hkm
    gi_wp2_with fail
    refine ⟨KeepsFrom.of_ext (Keeps.refl _ _), fun W2 hbk hsz2 => ?_⟩
    obtain ⟨E, hE⟩ : ∃ E, E = entsOf (qs.take k) := ⟨_, rfl⟩
    have hCE : Canon E fun s' o' t' => (s', o', t') ∈ qs.take k := by rw [hE]; exact hcan k
    rw [← hE] at HV HK
    have HI := Lib.hid (And.intro (hbk.same _ _ HV.out.1 (.inr rfl)) (And.intro (hbk.same _ _ HV.out.2.1 (.inr rfl)) (And.intro (hbk.same _ _ HV.out.2.2.1 (.inr rfl)) (And.intro (hbk.same _ _ HV.out.2.2.2.1 (.inr rfl)) (And.intro (HV.out.2.2.2.2.1.bk hbk) (ext_bk HV.out.2.2.2.2.2 hbk (by omega)))))))
    clear hn
    have hgE : ∀ e ∈ E, named e.sv = true ∧ named e.op = true := fun e he => by
      obtain ⟨x, hx⟩ := List.exists_mem_of_ne_nil _ (hCE.ne e he)
      have t58 := hg _ (List.mem_of_mem_take ((hCE.mem e.sv e.op x).1 ⟨e, he, rfl, rfl, hx⟩))
      exact ⟨t58.1, t58.2.1⟩
    obtain ⟨ws, hws⟩ : ∃ ws, ws = wasOf E := ⟨_, rfl⟩
    rw [← hws] at HI
    have HW := Lib.hid (And.intro hws (And.intro hgE hCE))
    have HS := Lib.hid (And.intro hs1 (And.intro hWs hsz2))
    have HKE := Lib.hid hE
    clear HV hbk hE hws hgE hCE hs1 hWs hsz2
    have hsz : s.size ≤ 1000 := by have t65 := named_size HK.out.1.1; dsimp only at t65; omega
    have hoz : o.size ≤ 1000 := by have t66 := named_size HK.out.1.2.1; dsimp only at t66; omega
    clear hcan h0 h1 h2 h3 hE1 hM hS hri hseq hq hg hlen htl hqk hl
    gi_wp2_with fail
    refine (callsIn_wide.2 ((esplit_i s o t hsz hoz HK.out.1.2.2 _).mono ?_)).inRound lp
    rintro e9 W3 ⟨rfl, hE3⟩
    have HE3 := Lib.hid (And.intro (HI.out.2.2.2.2.2.trans hE3) (And.intro (HI.out.2.2.2.2.1.ext hE3) hE3))
    have hw3 := blk_cell ((Ext.same hE3 (lt_of_heap HI.out.2.1)).trans HI.out.2.1)
    have ho3 := blk_cell ((Ext.same hE3 (lt_of_heap HI.out.1)).trans HI.out.1)
    clear hE3
    have HN1 := Lib.hid (show l.length + 1 ≤ 100001 ∧ ∀ e ∈ E, e.tr.length ≤ 100000 from by
      have h1 := HI.out.2.2.2.2.1.len
      have h2 := entsOf_len (qs.take k)
      have h3 := entsOf_tr (qs.take k)
      rw [← HKE.out] at h2 h3
      rw [List.length_take] at h2 h3
      have t81 := HK.out.2.2
      exact ⟨by omega, fun e he => by have t82 := h3 e he; omega⟩)
    by_cases hc : efirst s o = ws
    · have hcb : ((efirst s o).toList == ws.toList) = true := by rw [hc]; simp
      have HC := Lib.hid hc
      clear hc
      obtain ⟨E', e, hEe, hsv, hop⟩ : ∃ E' e, E = E' ++ [e] ∧ e.sv = s ∧ e.op = o := by
        have hw := HW.out.1
        rw [← HC.out] at hw
        unfold wasOf at hw
        cases hgl : E.getLast? with
        | none => rw [hgl] at hw; have t92 := congrArg ByteArray.size hw; rw [efirst_size] at t92; exact absurd t92 (by show ¬ _ = 0; omega)
        | some e =>
          rw [hgl] at hw
          have hmem : e ∈ E := List.mem_of_getLast? hgl
          have hq := HW.out.2.1 e hmem
          have hi := efirst_inj HK.out.1.1 HK.out.1.2.1 hq.1 hq.2 hw
          have hne : E ≠ [] := fun h0 => by rw [h0] at hgl; cases hgl
          rw [List.getLast?_eq_some_getLast hne] at hgl
          injection hgl with hgl
          exact ⟨E.dropLast, e, by rw [← hgl]; exact (List.dropLast_concat_getLast hne).symm, hi.1.symm, hi.2.symm⟩
      obtain ⟨l', x, hlx⟩ : ∃ l' x, l = l' ++ [x] := by
        have hl := HI.out.2.2.2.2.1.len
        have hne : l ≠ [] := fun h0 => by rw [h0, hEe] at hl; simp at hl
        exact ⟨l.dropLast, l.getLast hne, (List.dropLast_concat_getLast hne).symm⟩
      subst hlx
      obtain ⟨g, cap, hv⟩ : ∃ g cap, v = .slice (some ⟨g, 0, none⟩) (l'.length + 1) cap := by
        rcases HI.out.2.2.2.2.1.row.form entE with hf | ⟨g, cap, hf, _⟩
        · obtain ⟨a', c', e', h0, _⟩ := HI.out.2.2.2.2.1.row.slice entE
          rw [hf] at e'; injection e' with e1 _ _
          exact absurd (h0 e1.symm) (by simp)
        · exact ⟨g, cap, by rw [hf]; simp⟩
      subst hv
      have HT := Lib.hid (show Tail n s o t (entStep E (s, o, t)) g cap l' x E' e W3 from by
        refine ⟨(Ext.same HE3.out.2.2 (lt_of_heap HI.out.1)).trans HI.out.1, ((Ext.same HE3.out.2.2 (lt_of_heap HI.out.2.1)).trans HI.out.2.1).trans (by rw [HC.out]), ?_, hsv, hop, ?_⟩
        · rw [← hEe]; exact HE3.out.2.1
        · rw [hEe, ← hsv, ← hop]; exact entStep_same E' e t)
      have hN1 : (l'.length : Int) + 1 ≤ 100001 := by have t118 := HN1.out.1; rw [List.length_append, List.length_singleton] at t118; omega
      have HBX := Lib.hid (And.intro ((Ext.same HE3.out.2.2 (lt_of_heap HI.out.2.2.1)).trans HI.out.2.2.1) ((Ext.same HE3.out.2.2 (lt_of_heap HI.out.2.2.2.1)).trans HI.out.2.2.2.1))
      have HM := Lib.hid (show Mut n W2 W3 from Mut.of_ext HE3.out.2.2)
      obtain ⟨N1, hN⟩ : ∃ N1, N1 = l'.length := ⟨_, rfl⟩
      rw [← hN] at hN1 ho3
      have HNN := Lib.hid hN
      have HEM := Lib.hid (show e.tr.length ≤ 100000 from HN1.out.2 e (by rw [hEe]; simp))
      clear hN
      have hcx := HT.out.rows.row.reads entE (by rw [List.length_append, List.length_singleton, ← HNN.out]; omega)
      have hcx2 := hcx.elem entE l'.length 2 (by simp) (by decide)
      have hlx : W3.cell? ⟨g, N1 * 3 + 2, none⟩ = some (slV x.2.2) := by
        rw [HNN.out]
        rw [List.getElem_append_right (Nat.le_refl _)] at hcx2
        simpa [entE] using hcx2
      clear hcx hcx2
      have hxo : intE.Own (n + 4) (slV x.2.2) e.tr W3 := by
        have h := HT.out.rows.tr l'.length (by simp) (by have t134 := HT.out.rows.len; simp at t134 ⊢; omega)
        have hle : l'.length = E'.length := by have t135 := HT.out.rows.len; simpa using t135
        rw [List.getElem_append_right (Nat.le_refl _), List.getElem_append_right (by rw [hle]; exact Nat.le_refl _)] at h
        simpa [hle] using h
      have HXO := Lib.hid hxo
      clear hxo
      gi_wp2_with (gi_at_builtin; refine intE.app rfl _ _ rfl (n + 4) (slV x.2.2) e.tr [t] rfl (HXO.out.ext intE ((Keeps.refl _ _).alloc _)) (reads_one _ _) ?c1 ?c2 ?_)
      case c1 => have t141 := HEM.out; simp; omega
      case c2 =>
        have h8 := HT.out.rows.row.lt entE (g := g) rfl
        have h7 := ((Keeps.refl Non W3).alloc (.cells #[.int .i64 t] 3)).size
        omega
      intro v9 w9 hown' hgrow _ hblk
      have hEal : Ext W3 (W3.alloc (.cells #[.int .i64 t] 3)) := (Keeps.refl _ W3).alloc _
      obtain ⟨cap2, cur, hgc, hcs⟩ : ∃ cap2 cur, W3.heap[g]? = some (.cells cur entE.e (0, 0)) ∧ cur.size = cap2 * 3 ∧ N1 + 1 ≤ cap2 := by
        rcases HT.out.rows.row.2 with ⟨hh, _⟩ | ⟨g', cap', cur, hh, hb, hg, r1, r2, r3, r4⟩
        · cases hh
        · injection hh with hh hh2 hh3
          injection hh with hh
          injection hh with hh
          subst hh
          refine ⟨cap', cur, hg, r3, ?_⟩
          rw [List.length_append, List.length_singleton, ← HNN.out] at r1; exact r1
      have hnx : ¬ (slV x.2.2).ownBlock = some g := fun hc => kinds_apart HT.out.rows.row HXO.out (g := g) rfl hc
      have hgw : w9.heap[g]? = some (.cells cur entE.e (0, 0)) := (hgrow.same g (Nat.lt_of_lt_of_le (lt_of_heap hgc) hEal.size) hnx).trans ((Ext.same hEal (lt_of_heap hgc)).trans hgc)
      have hcw := blk_cell hgw
      have hzw := blk_free hgw
      have hcur : N1 * 3 + 2 < cur.size := by omega
      have hlw := lt_of_heap hgw
      obtain ⟨d, hd⟩ : ∃ d, w9.cell? ⟨g, N1 * 3 + 2, none⟩ = some d := ⟨_, by rw [hcw]; exact Array.getElem?_eq_getElem hcur⟩
      clear hcw hcur hcs
      obtain ⟨a', c', hva, _, _⟩ := hown'.slice intE
      have HO := Lib.hid (And.intro hown' (And.intro hgrow (And.intro hblk (And.intro hgw hva))))
      clear hown' hgrow hblk hgc hgw hnx hEal hlx ho3 hw3
      gi_wp2_with fail
      have hD := HT.out.done (u := (a', e.tr.length + 1, c')) HXO.out (by have t169 := HO.out.1; rw [HO.out.2.2.2.2, List.length_append, List.length_singleton] at t169; exact t169) HO.out.2.1 (by have t169 := HO.out.2.2.1; rw [HO.out.2.2.2.2, List.length_append, List.length_singleton] at t169; exact t169)
        HBX.out.1 HBX.out.2 rfl
      rw [← HNN.out, ← HK.out.2.1] at hD
      exact ⟨(HM.out.trans hD.1).toFrom, _, _, hD.2.1, hD.2.2.1, hD.2.2.2.1, hD.2.2.2.2.1, hD.2.2.2.2.2, (HM.out.trans hD.1).toExt HI.out.2.2.2.2.2 (by rw [HN0.out]; exact Nat.le_refl _)⟩
    · have hcb : ((efirst s o).toList == ws.toList) = false := by
        rw [beq_eq_false_iff_ne]; exact fun e => hc (bytes_ext e)
      have HC := Lib.hid hc
      clear hc
      have hm3 : W3.cell? ⟨0, 0, none⟩ = some (.int .i64 mx) := (Ext.cells HE3.out.1 0 0 (by rw [hm]; rfl)).trans hm
      have hfz : (efirst s o).size < 4294967281 := by rw [efirst_size]; omega
      obtain ⟨hc2, hsp⟩ := split_first s o (named_nz HK.out.1.1) (named_nz HK.out.1.2.1)
      have HSP := Lib.hid (And.intro hc2 hsp)
      clear hc2 hsp
      gi_wp2_with fail
      refine (callsIn_wide.2 ((Tryz.strings_Split (efirst s o) nul mx _ hfz hm3 (by decide)).mono ?_)).inRound lp
      rintro e9 W4 ⟨rfl, hW4⟩
      rw [HSP.out.1, HSP.out.2] at hW4
      rw [HSP.out.1]
      obtain ⟨p, hp⟩ : ∃ p, p = W3.heap.size := ⟨_, rfl⟩
      have hE4 : Ext W3 W4 := by rw [hW4]; exact (Keeps.refl _ _).alloc _
      have hN4 : W4.heap[p]? = some (.cells #[.string s, .string o, .string ByteArray.empty] 9 (0, 0)) := by rw [hW4, hp]; exact World.alloc_heap_new W3 _
      rw [← hp]
      clear hW4 hm3 hfz
      have ho4 := blk_cell ((Ext.same hE4 (lt_of_heap ((Ext.same HE3.out.2.2 (lt_of_heap HI.out.1)).trans HI.out.1))).trans ((Ext.same HE3.out.2.2 (lt_of_heap HI.out.1)).trans HI.out.1))
      have hp4 := blk_cell hN4
      have H4 := Lib.hid (And.intro (HE3.out.2.2.trans hE4) (And.intro hN4 hp))
      have H4x := Lib.hid hE4
      clear hE4 hN4 hp hw3 ho3
      gi_wp2_with fail
      refine wpIn_drawE (fun _ => trivial) (way [0, 1, 2, 3, 4, 5, 6, 7, 8, 9, 10]) (by kernel_rfl) (by kernel_rfl) (fun W5 hh hd hf hS => ?_)
      have ho5 := blk_cell ((Ext.same hS (lt_of_heap ((Ext.same H4.out.1 (lt_of_heap HI.out.1)).trans HI.out.1))).trans ((Ext.same H4.out.1 (lt_of_heap HI.out.1)).trans HI.out.1))
      have hp5 := blk_cell ((Ext.same hS (lt_of_heap H4.out.2.1)).trans H4.out.2.1)
      have HR5 := Lib.hid (HE3.out.2.1.ext (H4x.out.trans hS))
      have HS5 := Lib.hid (H4.out.1.trans hS)
      clear hh hd hf
      simp only [way]
      gi_wp2_with (first | (refine Ek.hl_app entE rfl rfl rfl _ _ rfl (n + 4) v l [(s, o, (none, 0, 0))] rfl (HR5.out.row.ext entE ((Keeps.refl _ _).alloc _)) (reads_ent _ _ _) ?c1 ?c2 ?_) | (refine' hl_q rfl rfl rfl (fun _ => ?_) ?_; rotate_left; (go_simp <;> (try go_bits) <;> rfl); (try simp only [Act.put, List.setIfInBounds_toArray, List.set_cons_zero, List.set_cons_succ])) | (refine' hl_rS rfl rfl rfl hS ?_ ?_; rotate_left; (intro w9 hS9; (first | have hc9 := Ext.cells hS9 | have hc9 := Keeps.cells hS9); (go_simp <;> rfl)); (try simp only [Act.put, List.setIfInBounds_toArray, List.set_cons_zero, List.set_cons_succ])) | (refine' hl_r rfl rfl rfl ?_ ?_; rotate_left; (rintro w9 (rfl | hS9); (go_simp <;> rfl); (first | have hc9 := Ext.cells hS9 | have hc9 := Keeps.cells hS9 | (try dsimp only at hS9)); (go_simp <;> rfl)); (try simp only [Act.put, List.setIfInBounds_toArray, List.set_cons_zero, List.set_cons_succ])) | (refine' hl_s rfl rfl ?_; (try simp only [Act.put, List.setIfInBounds_toArray, List.set_cons_zero, List.set_cons_succ])) | (refine hl_e rfl rfl rfl (fun K hK => ?_)) | (with_reducible refine And.intro (fun hn => ?_) ?_; (first | exact hS | exact Keeps.alloc hS _ | exact absurd hn (by rw [show needS _ _ = false from by kernel_rfl]; exact Bool.false_ne_true))) | (refine hl_done ?_) | gi_step)
      case c1 => have t206 := HN1.out.1; simp; omega
      case c2 =>
        have h1 := HS5.out.size
        have h2 := ((Keeps.refl Non W5).alloc (.cells #[.string s, .string o, .slice none 0 0] 46)).size
        have h3 := HS.out
        omega
      intro v6 w6 hown6 hgrow6 _ hblk6
      have hE6 : Ext W5 (W5.alloc (.cells #[.string s, .string o, .slice none 0 0] 46)) := (Keeps.refl _ W5).alloc _
      have hk6 : Keeps (fun b => v.ownBlock = some b) W5 w6 := ⟨Nat.le_trans hE6.size hgrow6.size, fun i hi hf => (hgrow6.same i (Nat.lt_of_lt_of_le hi hE6.size) hf).trans (Ext.same hE6 hi), (hE6.ost).trans hgrow6.ost⟩
      have hb : ∀ i x, W2.heap[i]? = some x → i < n + 4 → w6.heap[i]? = some x := fun i x hx hi => by
        have h5 := (Ext.same HS5.out (lt_of_heap hx)).trans hx
        rw [hk6.same i (lt_of_heap h5) (fun hf => by have t217 := (HR5.out.row.lt entE hf).1; omega)]; exact h5
      have hn6 := hb _ _ HI.out.1 (by omega)
      have hw6 := hb _ _ HI.out.2.1 (by omega)
      have hb2 := hb _ _ HI.out.2.2.1 (by omega)
      have hb3 := hb _ _ HI.out.2.2.2.1 (by omega)
      have hMu6 : Mut n W2 w6 := (Mut.of_ext HS5.out).own entE HR5.out.row (by omega) hk6
      have hR6 := HR5.out.push HW.out.2.2.ne s o hown6 hk6
      obtain ⟨W8, hW8⟩ : ∃ W8, (w6.setCell ⟨n, 0, none⟩ v6).setCell ⟨n + 1, 0, none⟩ (.string (efirst s o)) = W8 := ⟨_, rfl⟩
      have o6 : Only [n] w6 (w6.setCell ⟨n, 0, none⟩ v6) := (Only.refl [n] w6).setCell (by simp) _
      have o7 : Only [n + 1] (w6.setCell ⟨n, 0, none⟩ v6) W8 := by rw [← hW8]; exact (Only.refl [n + 1] _).setCell (by simp) _
      have hn7 : (w6.setCell ⟨n, 0, none⟩ v6).heap[n]? = some (.cells #[v6] 38 (0, 0)) := heap_set hn6 0 v6
      have hw7 := (o6.same (n + 1) (by simp)).trans hw6
      have hn8 := (o7.same n (by simp)).trans hn7
      have hw8 : W8.heap[n + 1]? = some (.cells #[.string (efirst s o)] 9 (0, 0)) := by rw [← hW8]; exact heap_set hw7 0 _
      have hMu8 : Mut n W2 W8 := (hMu6.cell hn6 (Nat.le_refl _) 0 v6 rfl).cell hw7 (by omega) 0 (.string (efirst s o)) hW8.symm
      have k68 : Keeps (fun i => i = n ∨ i = n + 1) w6 W8 := (o6.keeps.mono fun i _ hi => .inl (by simpa using hi)).andThen o7.keeps fun i _ hi => .inr (by simpa using hi)
      have hR8 : EntRows (n + 4) v6 (l ++ [(s, o, (none, 0, 0))]) (E ++ [⟨s, o, []⟩]) W8 :=
        ⟨hR6.row.keeps entE k68 (fun g hg hf => by have t234 := (hR6.row.lt entE hg).1; omega), hR6.len, hR6.nm, fun i h1 h2 => (hR6.tr i h1 h2).keeps intE k68 (fun g hg hf => by have t234 := ((hR6.tr i h1 h2).lt intE hg).1; omega), hR6.ap⟩
      obtain ⟨g, cap, hv6⟩ : ∃ g cap, v6 = .slice (some ⟨g, 0, none⟩) (l.length + 1) cap := by
        rcases hR8.row.form entE with hf | ⟨g, cap, hf, _⟩
        · obtain ⟨a', c', e', h0, _⟩ := hR8.row.slice entE
          rw [hf] at e'; injection e' with e1 _ _
          exact absurd (h0 e1.symm) (by simp)
        · exact ⟨g, cap, by rw [hf]; simp⟩
      subst hv6
      have hst : entStep E (s, o, t) = E ++ [{ (⟨s, o, []⟩ : Ent) with tr := (⟨s, o, []⟩ : Ent).tr ++ [t] }] := entStep_new E s o t (fun e he hc' => HC.out (by
        rw [HW.out.1]; unfold wasOf; rw [he]; dsimp only; rw [hc'.1, hc'.2]))
      have HT := Lib.hid (show Tail n s o t (entStep E (s, o, t)) g cap l (s, o, (none, 0, 0)) E ⟨s, o, []⟩ W8 from ⟨hn8, hw8, hR8, rfl, rfl, hst⟩)
      have hN1 : (l.length : Int) + 1 ≤ 100001 := by have t245 := HN1.out.1; omega
      have ho3 := blk_cell hn8
      have hcn6 := blk_cell hn6
      have hzn6 := blk_free hn6
      have hcw7 := blk_cell hw7
      have hzw7 := blk_free hw7
      have hln6 := lt_of_heap hn6
      have hlw7 := lt_of_heap hw7
      have hB2 := (k68.same (n + 2) (lt_of_heap hb2) (by omega)).trans hb2
      have hB3 := (k68.same (n + 3) (lt_of_heap hb3) (by omega)).trans hb3
      have HBX := Lib.hid (And.intro (hB2) (hB3))
      have HM := Lib.hid (show Mut n W2 W8 from hMu8)
      obtain ⟨N1, hN⟩ : ∃ N1, N1 = l.length := ⟨_, rfl⟩
      rw [← hN] at hN1 ho3
      have HNN := Lib.hid hN
      have HEM := Lib.hid (show (⟨s, o, []⟩ : Ent).tr.length ≤ 100000 from Nat.zero_le _)
      clear hN
      have hcx := HT.out.rows.row.reads entE (by rw [List.length_append, List.length_singleton, ← HNN.out]; omega)
      have hcx2 := hcx.elem entE l.length 2 (by simp) (by decide)
      have hlx : W8.cell? ⟨g, N1 * 3 + 2, none⟩ = some (slV ((s, o, (none, 0, 0)) : ByteArray × ByteArray × Sl).2.2) := by
        rw [HNN.out]
        rw [List.getElem_append_right (Nat.le_refl _)] at hcx2
        simpa [entE] using hcx2
      clear hcx hcx2
      have hxo : intE.Own (n + 4) (slV ((s, o, (none, 0, 0)) : ByteArray × ByteArray × Sl).2.2) (⟨s, o, []⟩ : Ent).tr W8 := by
        have h := HT.out.rows.tr l.length (by simp) (by have t270 := HT.out.rows.len; simp at t270 ⊢; omega)
        have hle : l.length = E.length := by have t271 := HT.out.rows.len; simpa using t271
        rw [List.getElem_append_right (Nat.le_refl _), List.getElem_append_right (by rw [hle]; exact Nat.le_refl _)] at h
        simpa [hle] using h
      have HXO := Lib.hid hxo
      clear hxo
      gi_wp2_with (first | (gi_at_builtin; refine intE.app rfl _ _ rfl (n + 4) (slV ((s, o, (none, 0, 0)) : ByteArray × ByteArray × Sl).2.2) (⟨s, o, []⟩ : Ent).tr [t] rfl (HXO.out.ext intE ((Keeps.refl _ _).alloc _)) (reads_one _ _) ?c1 ?c2 ?_) | (refine' hl_q rfl rfl rfl (fun _ => ?_) ?_; rotate_left; (go_simp <;> (try go_bits) <;> rfl); (try simp only [Act.put, List.setIfInBounds_toArray, List.set_cons_zero, List.set_cons_succ])) | (refine' hl_rS rfl rfl rfl hS ?_ ?_; rotate_left; (intro w9 hS9; (first | have hc9 := Ext.cells hS9 | have hc9 := Keeps.cells hS9); (go_simp <;> rfl)); (try simp only [Act.put, List.setIfInBounds_toArray, List.set_cons_zero, List.set_cons_succ])) | (refine' hl_r rfl rfl rfl ?_ ?_; rotate_left; (rintro w9 (rfl | hS9); (go_simp <;> rfl); (first | have hc9 := Ext.cells hS9 | have hc9 := Keeps.cells hS9 | (try dsimp only at hS9)); (go_simp <;> rfl)); (try simp only [Act.put, List.setIfInBounds_toArray, List.set_cons_zero, List.set_cons_succ])) | (refine' hl_s rfl rfl ?_; (try simp only [Act.put, List.setIfInBounds_toArray, List.set_cons_zero, List.set_cons_succ])) | (refine hl_e rfl rfl rfl (fun K hK => ?_)) | (with_reducible refine And.intro (fun hn => ?_) ?_; (first | exact hS | exact Keeps.alloc hS _ | exact absurd hn (by rw [show needS _ _ = false from by kernel_rfl]; exact Bool.false_ne_true))) | (refine hl_done ?_) | gi_step)
      case c2 =>
        have h8 := HT.out.rows.row.lt entE (g := g) rfl
        have h7 := ((Keeps.refl Non W8).alloc (.cells #[.int .i64 t] 3)).size
        omega
      intro v9 w9 hown' hgrow _ hblk
      have hEal : Ext W8 (W8.alloc (.cells #[.int .i64 t] 3)) := (Keeps.refl _ W8).alloc _
      obtain ⟨cap2, cur, hgc, hcs⟩ : ∃ cap2 cur, W8.heap[g]? = some (.cells cur entE.e (0, 0)) ∧ cur.size = cap2 * 3 ∧ N1 + 1 ≤ cap2 := by
        rcases HT.out.rows.row.2 with ⟨hh, _⟩ | ⟨g', cap', cur, hh, hb, hg, r1, r2, r3, r4⟩
        · cases hh
        · injection hh with hh hh2 hh3
          injection hh with hh
          injection hh with hh
          subst hh
          refine ⟨cap', cur, hg, r3, ?_⟩
          rw [List.length_append, List.length_singleton, ← HNN.out] at r1; exact r1
      have hnx : ¬ (slV ((s, o, (none, 0, 0)) : ByteArray × ByteArray × Sl).2.2).ownBlock = some g := fun hc => kinds_apart HT.out.rows.row HXO.out (g := g) rfl hc
      have hgw : w9.heap[g]? = some (.cells cur entE.e (0, 0)) := (hgrow.same g (Nat.lt_of_lt_of_le (lt_of_heap hgc) hEal.size) hnx).trans ((Ext.same hEal (lt_of_heap hgc)).trans hgc)
      have hcw := blk_cell hgw
      have hzw := blk_free hgw
      have hcur : N1 * 3 + 2 < cur.size := by omega
      have hlw := lt_of_heap hgw
      obtain ⟨d, hd⟩ : ∃ d, w9.cell? ⟨g, N1 * 3 + 2, none⟩ = some d := ⟨_, by rw [hcw]; exact Array.getElem?_eq_getElem hcur⟩
      clear hcw hcur hcs
      obtain ⟨a', c', hva, _, _⟩ := hown'.slice intE
      have HO := Lib.hid (And.intro hown' (And.intro hgrow (And.intro hblk (And.intro hgw hva))))
      clear hown' hgrow hblk hgc hgw hnx hEal hlx ho3 
      gi_wp2_with fail
      have hD := HT.out.done (u := (a', 1, c')) HXO.out (by have h := HO.out.1; rw [HO.out.2.2.2.2] at h; exact h) HO.out.2.1 (by have h := HO.out.2.2.1; rw [HO.out.2.2.2.2] at h; exact h)
        HBX.out.1 HBX.out.2 rfl
      rw [← HNN.out, ← HK.out.2.1] at hD
      exact ⟨(HM.out.trans hD.1).toFrom, _, _, hD.2.1, hD.2.2.1, hD.2.2.2.1, hD.2.2.2.2.1, hD.2.2.2.2.2, (HM.out.trans hD.1).toExt HI.out.2.2.2.2.2 (by rw [HN0.out]; exact Nat.le_refl _)⟩
  · rintro D W hD ⟨v, l, i0, i1, i2, i3, i4, i5⟩ hDh
    have hcv := blk_cell i0
    have hDw : w.heap.size ≤ D := by omega
    have HP := Lib.hid (show AllPost (entsOf qs) w (.returned v) (W.putObj D (.deferred none)) from by
      have hbk : Bk w.heap.size W (W.putObj D (.deferred none)) := Bk.putObj hDh rfl hDw
      have e : qs.take (m.map encsi).length = qs := by rw [List.length_map, hlen, List.take_length]
      rw [e] at i4
      refine ⟨v, rfl, (i4.bk hbk).reads ?_ ?_, ext_bk i5 hbk (Nat.le_refl _)⟩
      · have := entsOf_len qs; omega
      · intro e he; have := entsOf_tr qs e he; omega)
    have HD := Lib.hid hDh
    clear hn hE1 h0 h1 h2 h3 hs1 hM hseq hcan i0 i1 i2 i3 i4 i5 hDh hm hg hup hq
    simp only [Exit.inBlock, Exit.then]
    gi_wp2_with fail
    refine leave_ret (v := v) HD.out ?_ HP.out
    simp [results, Tryz.results12, go_sem]
end Go.Proofs.YtdonmmjikcbihaaGreatDoor
/- Package avl at [string, gossamer/api.Span]: a node's depth, its leaning, the turns. -/
namespace Go.Proofs.YtdonmmjikcbihaaGreatDoor
open Go.RowKit Go.Proofs Go.Vc
attribute [local irreducible] Calls CallsIn Code.wp Code.wpIn
/-- a node's cells -/
def Sss : Shape ByteArray Spn := ⟨126, fun k v l h d => #[.string k, .int .i64 v.tr, .int .i64 v.id, .int .i64 v.pa, .int .i64 v.rv, .string v.sv, .string v.op, .int .i64 v.st, .int .i64 v.du, .bool v.gone, l, h, .int .i64 d], 10, 11, 12, fun _ _ _ _ _ _ => rfl, fun _ _ _ _ _ _ => rfl, fun _ _ _ _ _ _ => rfl⟩
theorem Sss_cells (k : ByteArray) (v : Spn) (l h : Value) (d : Int) : Sss.cells k v l h d = #[.string k, .int .i64 v.tr, .int .i64 v.id, .int .i64 v.pa, .int .i64 v.rv, .string v.sv, .string v.op, .int .i64 v.st, .int .i64 v.du, .bool v.gone, l, h, .int .i64 d] := rfl
theorem deep_ss (t : T ByteArray Spn) (w : World) (h : At Sss w t) : Calls Tryz.prog 132 #[.pointer t.ptr] w fun e w' => e = .returned (.int .i64 (t.ht : Int)) ∧ w = w' := by
  cases t with
  | nil =>
    go_enter Tryz.func132, Tryz.ntmps132
    simp only [T.ptr_nil]
    go_wp2
    go_ret
    exact ⟨rfl, rfl⟩
  | node b k v l r =>
    have hc := blk_cell h.1
    simp only [Sss_cells] at hc
    go_enter Tryz.func132, Tryz.ntmps132
    simp only [T.ptr_node]
    go_wp2
    go_ret
    exact ⟨rfl, rfl⟩
theorem lean_ss {b : Nat} {k : ByteArray} {v : Spn} {l r : T ByteArray Spn} (w : World) (h : Nd Sss w b k v l r) (hs : l.size + r.size ≤ 1099511627776) : Calls Tryz.prog 119 #[.pointer (some ⟨b, 0, none⟩)] w fun e w' =>
    e = .returned (.int .i64 ((r.ht : Int) - l.ht)) ∧ Like w w' := by
  obtain ⟨⟨d, hb⟩, hl, hr, _⟩ := h
  have hc := blk_cell hb
  simp only [Sss_cells] at hc
  clear hb
  have h1 : (l.ht : Int) ≤ 1099511627776 := by have := l.ht_le_size; omega
  have h2 : (r.ht : Int) ≤ 1099511627776 := by have := r.ht_le_size; omega
  go_enter Tryz.func119, Tryz.ntmps119
  go_wp2_with fail
  refine wp_drawE (way [0, 1, 2, 3, 5, 6, 7, 8, 4, 9, 10, 11]) (by kernel_rfl) (by kernel_rfl) (fun w1 hh hd hf hS => ?_)
  simp only [way]
  have hl' := hl.heap hh
  have hr' := hr.heap hh
  have hz := Lib.hid (Like.mk hh hS.ost)
  clear hh
  go_wp2_with (first | (refine' hl_q rfl rfl rfl (fun _ => ?_) ?_; rotate_left; (go_simp <;> (try go_bits) <;> rfl); (try simp only [Act.put, List.setIfInBounds_toArray, List.set_cons_zero, List.set_cons_succ])) | (refine' hl_rS rfl rfl rfl hS ?_ ?_; rotate_left; (intro w9 hS9; (first | have hc9 := Ext.cells hS9 | have hc9 := Keeps.cells hS9); (go_simp <;> rfl)); (try simp only [Act.put, List.setIfInBounds_toArray, List.set_cons_zero, List.set_cons_succ])) | (refine' hl_r rfl rfl rfl ?_ ?_; rotate_left; (rintro w9 (rfl | hS9); (go_simp <;> rfl); (first | have hc9 := Ext.cells hS9 | have hc9 := Keeps.cells hS9 | (try dsimp only at hS9)); (go_simp <;> rfl)); (try simp only [Act.put, List.setIfInBounds_toArray, List.set_cons_zero, List.set_cons_succ])) | (refine' hl_s rfl rfl ?_; (try simp only [Act.put, List.setIfInBounds_toArray, List.set_cons_zero, List.set_cons_succ])) | (refine hl_e rfl rfl rfl (fun K hK => ?_)) | (with_reducible refine And.intro (fun hn => ?_) ?_; (first | exact hS | exact Keeps.alloc hS _ | exact absurd hn (by rw [show needS _ _ = false from by kernel_rfl]; exact Bool.false_ne_true))) | (refine hl_done ?_) | gi_step | (gi_at_call 132; refine callsIn_wide.2 ?_; (first | refine (deep_ss r _ hr').mono ?_ | refine (deep_ss l _ hl').mono ?_); rintro e9 w9 ⟨rfl, rfl⟩))
  go_ret
  exact ⟨rfl, hz.out⟩
theorem measure_ss {b : Nat} {k : ByteArray} {v : Spn} {l r : T ByteArray Spn} (w : World) (h : Nd Sss w b k v l r) (hs : l.size + r.size ≤ 1099511627776) : Calls Tryz.prog 118 #[.pointer (some ⟨b, 0, none⟩)] w fun e w' =>
    e = .returned (.tuple #[]) ∧ At Sss w' (.node b k v l r) ∧ Only [b] w w' := by
  obtain ⟨⟨d, hb⟩, hl, hr, hbl, hbr, hlr⟩ := h
  have hc := blk_cell hb
  have hz := blk_free hb
  simp only [Sss_cells] at hc
  have h1 : (l.ht : Int) ≤ 1099511627776 := by have := l.ht_le_size; omega
  have h2 : (r.ht : Int) ≤ 1099511627776 := by have := r.ht_le_size; omega
  have hb := Lib.hid hb
  go_enter Tryz.func118, Tryz.ntmps118
  go_wp2_with fail
  refine wp_drawE (way [0, 1, 2, 3, 4, 6, 7, 8, 9, 5, 10, 11, 12, 13, 14, 15]) (by kernel_rfl) (by kernel_rfl) (fun w1 hh hd hf hS => ?_)
  simp only [way]
  have hl' := hl.heap hh
  have hr' := hr.heap hh
  have hhid := Lib.hid (Like.mk hh hS.ost)
  clear hh
  go_wp2_with (first | (refine' hl_q rfl rfl rfl (fun _ => ?_) ?_; rotate_left; (go_simp <;> (try go_bits) <;> rfl); (try simp only [Act.put, List.setIfInBounds_toArray, List.set_cons_zero, List.set_cons_succ])) | (refine' hl_rS rfl rfl rfl hS ?_ ?_; rotate_left; (intro w9 hS9; (first | have hc9 := Ext.cells hS9 | have hc9 := Keeps.cells hS9); (go_simp <;> rfl)); (try simp only [Act.put, List.setIfInBounds_toArray, List.set_cons_zero, List.set_cons_succ])) | (refine' hl_r rfl rfl rfl ?_ ?_; rotate_left; (rintro w9 (rfl | hS9); (go_simp <;> rfl); (first | have hc9 := Ext.cells hS9 | have hc9 := Keeps.cells hS9 | (try dsimp only at hS9)); (go_simp <;> rfl)); (try simp only [Act.put, List.setIfInBounds_toArray, List.set_cons_zero, List.set_cons_succ])) | (refine' hl_s rfl rfl ?_; (try simp only [Act.put, List.setIfInBounds_toArray, List.set_cons_zero, List.set_cons_succ])) | (refine hl_e rfl rfl rfl (fun K hK => ?_)) | (with_reducible refine And.intro (fun hn => ?_) ?_; (first | exact hS | exact Keeps.alloc hS _ | exact absurd hn (by rw [show needS _ _ = false from by kernel_rfl]; exact Bool.false_ne_true))) | (refine hl_done ?_) | gi_step | (gi_at_call 132; refine callsIn_wide.2 ?_; (first | refine (deep_ss r _ hr').mono ?_ | refine (deep_ss l _ hl').mono ?_); rintro e9 w9 ⟨rfl, rfl⟩))
  all_goals
    go_end0
    have hn : Nd Sss w b k v l r := ⟨⟨d, hb.out⟩, hl, hr, hbl, hbr, hlr⟩
    exact ⟨rfl, hn.measured hhid.out (by omega)⟩
theorem turnLow_ss {b b' : Nat} {k k' : ByteArray} {v v' : Spn} {l l' r' : T ByteArray Spn} (w : World) (h : Nd Sss w b k v l (.node b' k' v' l' r')) (hs : l.size + l'.size + r'.size + 2 ≤ 1099511627776) :
    Calls Tryz.prog 121 #[.pointer (some ⟨b, 0, none⟩)] w fun e w' =>
    e = .returned (.pointer (some ⟨b', 0, none⟩)) ∧ At Sss w' (.node b' k' v' (.node b k v l l') r') ∧ Only [b, b'] w w' := by
  obtain ⟨n1, o1, nx⟩ := h.turnedLow rfl
  have hne : b' ≠ b := fun e => h.2.2.2.2.1 (by simp [T.blocks, e])
  obtain ⟨⟨d, hb⟩, _, ⟨hb', _⟩, _⟩ := h
  have hc := blk_cell hb
  have hz := blk_free hb
  have hc' := blk_cell hb'
  have hz' := blk_free hb'
  simp only [Sss_cells] at hc hc'
  clear hb hb'
  (try simp only [T.ptr_node] at hc)
  have h1 := Lib.hid n1
  have h2 := Lib.hid o1
  have h3 := Lib.hid nx
  clear n1 o1 nx
  go_enter Tryz.func121, Tryz.ntmps121
  go_wp2_with fail
  refine (measure_ss _ h1.out (by omega)).mono ?_
  rintro e9 w2 ⟨rfl, a1, o2⟩
  have n2 := h3.out w2 a1 o2
  go_wp2_with fail
  refine (measure_ss _ n2 (by (try simp only [T.size]); omega)).mono ?_
  rintro e9 w3 ⟨rfl, a2, o3⟩
  go_wp2_with fail
  go_ret
  exact ⟨rfl, a2, (h2.out.trans (o2.mono (by simp))).trans (o3.mono (by simp))⟩
theorem turnHigh_ss {b b' : Nat} {k k' : ByteArray} {v v' : Spn} {r l' r' : T ByteArray Spn} (w : World) (h : Nd Sss w b k v (.node b' k' v' l' r') r) (hs : r.size + l'.size + r'.size + 2 ≤ 1099511627776) :
    Calls Tryz.prog 120 #[.pointer (some ⟨b, 0, none⟩)] w fun e w' =>
    e = .returned (.pointer (some ⟨b', 0, none⟩)) ∧ At Sss w' (.node b' k' v' l' (.node b k v r' r)) ∧ Only [b, b'] w w' := by
  obtain ⟨n1, o1, nx⟩ := h.turnedHigh rfl
  have hne : b' ≠ b := fun e => h.2.2.2.1 (by simp [T.blocks, e])
  obtain ⟨⟨d, hb⟩, ⟨hb', _⟩, _⟩ := h
  have hc := blk_cell hb
  have hz := blk_free hb
  have hc' := blk_cell hb'
  have hz' := blk_free hb'
  simp only [Sss_cells] at hc hc'
  clear hb hb'
  (try simp only [T.ptr_node] at hc)
  have h1 := Lib.hid n1
  have h2 := Lib.hid o1
  have h3 := Lib.hid nx
  clear n1 o1 nx
  go_enter Tryz.func120, Tryz.ntmps120
  go_wp2_with fail
  refine (measure_ss _ h1.out (by omega)).mono ?_
  rintro e9 w2 ⟨rfl, a1, o2⟩
  have n2 := h3.out w2 a1 o2
  go_wp2_with fail
  refine (measure_ss _ n2 (by (try simp only [T.size]); omega)).mono ?_
  rintro e9 w3 ⟨rfl, a2, o3⟩
  go_wp2_with fail
  go_ret
  exact ⟨rfl, a2, (h2.out.trans (o2.mono (by simp))).trans (o3.mono (by simp))⟩
/-- what stands at level's first test -/
theorem lev0_ss {b : Nat} {k : ByteArray} {v : Spn} {l r : T ByteArray Spn} {w w1 w2 : World} (a1 : At Sss w1 (.node b k v l r)) (o1 : Only [b] w w1) (hh : Like w1 w2) :
    At Sss w2 (.node b k v l r) ∧ Only [b] w w2 ∧ (∀ i, w2.cell? ⟨b, i, none⟩ = (#[.string k, .int .i64 v.tr, .int .i64 v.id, .int .i64 v.pa, .int .i64 v.rv, .string v.sv, .string v.op, .int .i64 v.st, .int .i64 v.du, .bool v.gone, .pointer l.ptr, .pointer r.ptr, .int .i64 ((1 + max l.ht r.ht : Nat) : Int)] : Array Value)[i]?) ∧ (∀ i, w2.frozen? ⟨b, i, none⟩ = false) :=
  ⟨a1.heap hh.heap, o1.trans (Only.of_heap _ hh), blk_cell (a1.heap hh.heap).1, blk_free (a1.heap hh.heap).1⟩
theorem level_ss {b : Nat} {k : ByteArray} {v : Spn} {l r : T ByteArray Spn} (w : World) (h : Nd Sss w b k v l r) (hs : l.size + r.size + 1 ≤ 1099511627776) :
    Calls Tryz.prog 102 #[.pointer (some ⟨b, 0, none⟩)] w fun e w' =>
    e = .returned (.pointer (T.node b k v l r).level.ptr) ∧ At Sss w' (T.node b k v l r).level ∧ Only (b :: (l.blocks ++ r.blocks)) w w' := by
  by_cases h2 : (r.ht : Int) - l.ht = 2
  · cases r with
    | nil => simp only [T.ht] at h2; omega
    | node b' k' v' l' r' =>
      by_cases hn : (r'.ht : Int) - l'.ht < 0
      · cases l' with
        | nil => simp only [T.ht] at hn; omega
        | node c kc vc lc rc =>
          have hlev : (T.node b k v l (T.node b' k' v' (T.node c kc vc lc rc) r')).level = .node c kc vc (.node b k v l lc) (.node b' k' v' rc r') := by
            rw [T.level, if_pos h2, if_pos (by simpa [T.lean] using hn)]; rfl
          rw [hlev]
          clear hlev
          simp only [T.size] at hs
          have hz2 : ((((T.node b' k' v' (T.node c kc vc lc rc) r').ht : Int) - l.ht) == 2) = true := by simpa using h2
          have hz3 : decide ((r'.ht : Int) - (T.node c kc vc lc rc).ht < 0) = true := by simpa using hn
          have H := Lib.hid h
          clear h h2 hn
          go_enter Tryz.func102, Tryz.ntmps102
          go_wp2_with fail
          refine (measure_ss _ H.out (by (try simp only [T.size]); omega)).mono ?_
          rintro e9 w1 ⟨rfl, a1, o1⟩
          go_wp2_with fail
          refine (lean_ss _ a1.nd (by (try simp only [T.size]); omega)).mono ?_
          rintro e9 w2 ⟨rfl, hh⟩
          obtain ⟨a2, o2, hc, hz⟩ := lev0_ss a1 o1 hh
          clear hh o1 a1
          (try simp only [T.ptr_node] at hc)
          go_wp2_with fail
          refine (lean_ss _ a2.2.2.1.nd (by (try simp only [T.size]); omega)).mono ?_
          rintro e9 w3 ⟨rfl, hh3⟩
          have a3 := a2.heap hh3.heap
          have o3 : Only [b] w w3 := o2.trans (Only.of_heap _ hh3)
          have hc3 := blk_cell a3.1
          have hz3' := blk_free a3.1
          simp only [Sss_cells, T.ptr_node] at hc3
          clear hh3 o2 a2 hc hz
          go_wp2_with fail
          refine (turnHigh_ss _ a3.2.2.1.nd (by omega)).mono ?_
          rintro e9 w4 ⟨rfl, a4, o4⟩
          have n5 := a3.nd.high o4.keeps (fun x hx => by simp only [List.mem_cons, List.not_mem_nil, or_false] at hx; rcases hx with rfl | rfl <;> simp [T.blocks]) a4 (fun x hx => .inl (by simp only [T.blocks, List.mem_cons, List.mem_append, List.cons_append] at hx ⊢; grind))
          have hb4 := (o4.same b (by have := a3.nd.2.2.2.2.1; simp only [T.blocks, List.mem_cons, List.mem_append, not_or] at this ⊢; grind)).trans a3.1
          have hc4 := blk_cell hb4
          have hz4 := blk_free hb4
          simp only [Sss_cells, T.ptr_node] at hc4
          clear hb4
          have H4 := Lib.hid a4
          clear a4
          go_wp2_with fail
          refine (turnLow_ss _ n5 (by (try simp only [T.size]); omega)).mono ?_
          rintro e9 w6 ⟨rfl, a6, o6⟩
          go_wp2_with fail
          go_ret
          exact ⟨rfl, a6, ((o3.mono (by simp)).trans (o4.mono (by simp [T.blocks]))).trans ((((Only.refl [b] w4).setCell (by simp) _).mono (by simp)).trans (o6.mono (by simp [T.blocks])))⟩
      · have hlev : (T.node b k v l (T.node b' k' v' l' r')).level = .node b' k' v' (.node b k v l l') r' := by
          rw [T.level, if_pos h2, if_neg (by simpa [T.lean] using hn)]; rfl
        rw [hlev]
        clear hlev
        simp only [T.size] at hs
        have hz2 : ((((T.node b' k' v' l' r').ht : Int) - l.ht) == 2) = true := by simpa using h2
        have hz3 : decide ((r'.ht : Int) - l'.ht < 0) = false := by simpa using hn
        have H := Lib.hid h
        clear h h2 hn
        go_enter Tryz.func102, Tryz.ntmps102
        go_wp2_with fail
        refine (measure_ss _ H.out (by (try simp only [T.size]); omega)).mono ?_
        rintro e9 w1 ⟨rfl, a1, o1⟩
        go_wp2_with fail
        refine (lean_ss _ a1.nd (by (try simp only [T.size]); omega)).mono ?_
        rintro e9 w2 ⟨rfl, hh⟩
        obtain ⟨a2, o2, hc, hz⟩ := lev0_ss a1 o1 hh
        clear hh o1 a1
        (try simp only [T.ptr_node] at hc)
        go_wp2_with fail
        refine (lean_ss _ a2.2.2.1.nd (by (try simp only [T.size]); omega)).mono ?_
        rintro e9 w3 ⟨rfl, hh3⟩
        have a3 := a2.heap hh3.heap
        have o3 : Only [b] w w3 := o2.trans (Only.of_heap _ hh3)
        have hc3 := blk_cell a3.1
        have hz3' := blk_free a3.1
        simp only [Sss_cells, T.ptr_node] at hc3
        clear hh3 o2 a2 hc hz
        go_wp2_with fail
        refine (turnLow_ss _ a3.nd (by omega)).mono ?_
        rintro e9 w6 ⟨rfl, a6, o6⟩
        go_wp2_with fail
        go_ret
        exact ⟨rfl, a6, (o3.mono (by simp)).trans (o6.mono (by simp [T.blocks]))⟩
  · by_cases h3 : (r.ht : Int) - l.ht = -2
    · cases l with
      | nil => simp only [T.ht] at h3; omega
      | node b' k' v' l' r' =>
        by_cases hn : 0 < (r'.ht : Int) - l'.ht
        · cases r' with
          | nil => simp only [T.ht] at hn; omega
          | node c kc vc lc rc =>
            have hlev : (T.node b k v (T.node b' k' v' l' (T.node c kc vc lc rc)) r).level = .node c kc vc (.node b' k' v' l' lc) (.node b k v rc r) := by
              rw [T.level, if_neg (by omega), if_pos h3, if_pos (by simpa [T.lean] using hn)]; rfl
            rw [hlev]
            clear hlev
            simp only [T.size] at hs
            have hz2 : (((r.ht : Int) - (T.node b' k' v' l' (T.node c kc vc lc rc)).ht) == -2) = true := by simpa using h3
            have hz1 : (((r.ht : Int) - (T.node b' k' v' l' (T.node c kc vc lc rc)).ht) == 2) = false := by rw [beq_eq_false_iff_ne]; omega
            have hz3 : decide (l'.ht < (T.node c kc vc lc rc).ht) = true := by simp; omega
            have H := Lib.hid h
            clear h h3 hn
            go_enter Tryz.func102, Tryz.ntmps102
            go_wp2_with fail
            refine (measure_ss _ H.out (by (try simp only [T.size]); omega)).mono ?_
            rintro e9 w1 ⟨rfl, a1, o1⟩
            go_wp2_with fail
            refine (lean_ss _ a1.nd (by (try simp only [T.size]); omega)).mono ?_
            rintro e9 w2 ⟨rfl, hh⟩
            obtain ⟨a2, o2, hc, hz⟩ := lev0_ss a1 o1 hh
            clear hh o1 a1
            (try simp only [T.ptr_node] at hc)
            go_wp2_with fail
            refine (lean_ss _ a2.2.1.nd (by (try simp only [T.size]); omega)).mono ?_
            rintro e9 w3 ⟨rfl, hh3⟩
            have a3 := a2.heap hh3.heap
            have o3 : Only [b] w w3 := o2.trans (Only.of_heap _ hh3)
            have hc3 := blk_cell a3.1
            have hz3' := blk_free a3.1
            simp only [Sss_cells, T.ptr_node] at hc3
            clear hh3 o2 a2 hc hz
            go_wp2_with fail
            refine (turnLow_ss _ a3.2.1.nd (by omega)).mono ?_
            rintro e9 w4 ⟨rfl, a4, o4⟩
            have n5 := a3.nd.low o4.keeps (fun x hx => by simp only [List.mem_cons, List.not_mem_nil, or_false] at hx; rcases hx with rfl | rfl <;> simp [T.blocks]) a4 (fun x hx => .inl (by simp only [T.blocks, List.mem_cons, List.mem_append, List.cons_append] at hx ⊢; grind))
            have hb4 := (o4.same b (by have := a3.nd.2.2.2.1; simp only [T.blocks, List.mem_cons, List.mem_append, not_or] at this ⊢; grind)).trans a3.1
            have hc4 := blk_cell hb4
            have hz4 := blk_free hb4
            simp only [Sss_cells, T.ptr_node] at hc4
            clear hb4
            have H4 := Lib.hid a4
            clear a4
            go_wp2_with fail
            refine (turnHigh_ss _ n5 (by (try simp only [T.size]); omega)).mono ?_
            rintro e9 w6 ⟨rfl, a6, o6⟩
            go_wp2_with fail
            go_ret
            exact ⟨rfl, a6, ((o3.mono (by simp)).trans (o4.mono (by simp [T.blocks]))).trans ((((Only.refl [b] w4).setCell (by simp) _).mono (by simp)).trans (o6.mono (by simp [T.blocks])))⟩
        · have hlev : (T.node b k v (T.node b' k' v' l' r') r).level = .node b' k' v' l' (.node b k v r' r) := by
            rw [T.level, if_neg (by omega), if_pos h3, if_neg (by simpa [T.lean] using hn)]; rfl
          rw [hlev]
          clear hlev
          simp only [T.size] at hs
          have hz2 : (((r.ht : Int) - (T.node b' k' v' l' r').ht) == -2) = true := by simpa using h3
          have hz1 : (((r.ht : Int) - (T.node b' k' v' l' r').ht) == 2) = false := by rw [beq_eq_false_iff_ne]; omega
          have hz3 : decide (l'.ht < r'.ht) = false := by simp; omega
          have H := Lib.hid h
          clear h h3 hn
          go_enter Tryz.func102, Tryz.ntmps102
          go_wp2_with fail
          refine (measure_ss _ H.out (by (try simp only [T.size]); omega)).mono ?_
          rintro e9 w1 ⟨rfl, a1, o1⟩
          go_wp2_with fail
          refine (lean_ss _ a1.nd (by (try simp only [T.size]); omega)).mono ?_
          rintro e9 w2 ⟨rfl, hh⟩
          obtain ⟨a2, o2, hc, hz⟩ := lev0_ss a1 o1 hh
          clear hh o1 a1
          (try simp only [T.ptr_node] at hc)
          go_wp2_with fail
          refine (lean_ss _ a2.2.1.nd (by (try simp only [T.size]); omega)).mono ?_
          rintro e9 w3 ⟨rfl, hh3⟩
          have a3 := a2.heap hh3.heap
          have o3 : Only [b] w w3 := o2.trans (Only.of_heap _ hh3)
          have hc3 := blk_cell a3.1
          have hz3' := blk_free a3.1
          simp only [Sss_cells, T.ptr_node] at hc3
          clear hh3 o2 a2 hc hz
          go_wp2_with fail
          refine (turnHigh_ss _ a3.nd (by omega)).mono ?_
          rintro e9 w6 ⟨rfl, a6, o6⟩
          go_wp2_with fail
          go_ret
          exact ⟨rfl, a6, (o3.mono (by simp)).trans (o6.mono (by simp [T.blocks]))⟩
    · have hlev : (T.node b k v l r).level = .node b k v l r := by rw [T.level, if_neg h2, if_neg h3]
      rw [hlev]
      clear hlev
      have hz2 : (((r.ht : Int) - l.ht) == 2) = false := by rw [beq_eq_false_iff_ne]; omega
      have hz3 : (((r.ht : Int) - l.ht) == -2) = false := by rw [beq_eq_false_iff_ne]; omega
      have H := Lib.hid h
      clear h h2 h3
      go_enter Tryz.func102, Tryz.ntmps102
      go_wp2_with fail
      refine (measure_ss _ H.out (by (try simp only [T.size]); omega)).mono ?_
      rintro e9 w1 ⟨rfl, a1, o1⟩
      go_wp2_with fail
      refine (lean_ss _ a1.nd (by (try simp only [T.size]); omega)).mono ?_
      rintro e9 w2 ⟨rfl, hh⟩
      obtain ⟨a2, o2, hc, hz⟩ := lev0_ss a1 o1 hh
      clear hh o1 a1
      (try simp only [T.ptr_nil, T.ptr_node] at hc)
      go_wp2_with fail
      go_ret
      exact ⟨rfl, a2, o2.mono (by simp)⟩
end Go.Proofs.YtdonmmjikcbihaaGreatDoor
