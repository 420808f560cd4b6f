/- Package avl at [string, int]: put, least, drop. -/
import Derived.Test.YtdonmmjikcbihaaGreatDoorAvlasi
import Derived.WalkLawsBesides
namespace Go.Proofs.YtdonmmjikcbihaaGreatDoor
open Go.RowKit Go.Proofs Go.Vc
attribute [local irreducible] Calls CallsIn Code.wp Code.wpIn
/-- what put leaves -/
def Putsi (key : ByteArray) (val : Int) (t : T ByteArray Int) (w : World) (e : Ending) (w' : World) : Prop :=
  ∃ N, w.heap.size ≤ N ∧ e = .returned (.tuple #[.pointer (t.put cmpS N key val).1.ptr, .bool (t.put cmpS N key val).2]) ∧ At Ssi w' (t.put cmpS N key val).1 ∧ Keeps (· ∈ t.blocks) w w'
theorem put_si (key : ByteArray) (val : Int) (t : T ByteArray Int) : ∀ w : World, At Ssi w t → t.size + 1 ≤ 1099511627776 →
    Calls Tryz.prog 68 #[.pointer t.ptr, .string key, .int .i64 val] w (Putsi key val t w) := by
  induction t with
  | nil =>
    intro w _ _
    simp only [T.ptr_nil, T.ptr_node]
    go_enter Tryz.func68, Tryz.ntmps68
    go_wp2_with fail
    go_ret2
    refine ⟨w.heap.size, Nat.le_refl _, rfl, ⟨?_, trivial, trivial, by simp [T.blocks], by simp [T.blocks], by simp [T.blocks]⟩, (Keeps.refl _ w).alloc _⟩
    exact World.alloc_heap_new w _
  | node b k v l r ihl ihr =>
    intro w h hs
    have hc := blk_cell h.1
    have hz := blk_free h.1
    simp only [Ssi_cells] at hc
    simp only [T.ptr_nil, T.ptr_node]
    have H := Lib.hid h
    simp only [T.size] at hs
    have IL := Lib.hid ihl
    have IR := Lib.hid ihr
    clear h ihl ihr
    cases hk : cmpS key k with
    | lt =>
      obtain ⟨f1, f2⟩ := cmpS_lt hk
      have hp : ∀ N, (T.node b k v l r).put cmpS N key val = (T.level (T.node b k v (l.put cmpS N key val).1 r), (l.put cmpS N key val).2) := fun N => by rw [T.put, hk]
      have HK := Lib.hid hp
      clear hk hp
      go_enter Tryz.func68, Tryz.ntmps68
      go_wp2_with fail
      refine (IL.out _ H.out.2.1 (by omega)).mono ?_
      rintro e9 w1 ⟨N, hN, rfl, a1, k1⟩
      have hb1 := (k1.same b (lt_of_heap H.out.1) H.out.2.2.2.1).trans H.out.1
      have hc1 := blk_cell hb1
      have hz1 := blk_free hb1
      simp only [Ssi_cells] at hc1
      clear hb1
      have hbl := fun x hx => (T.put_blocks cmpS N key val l x hx)
      have HB := Lib.hid hbl
      clear hbl
      have n2 := H.out.nd.low k1 (fun _ hx => hx) a1 (fun x hx => (HB.out x hx).elim .inl (fun e => .inr (e ▸ hN)))
      have N2 := Lib.hid n2
      clear n2
      go_wp2_with fail
      refine (level_si _ N2.out (by have := T.put_size_le cmpS N key val l; omega)).mono ?_
      rintro e9 w3 ⟨rfl, a3, o3⟩
      go_wp2_with fail
      go_ret2
      refine ⟨N, hN, by rw [HK.out]; rfl, by rw [HK.out]; exact a3, ?_⟩
      have hlt := lt_of_heap H.out.1
      refine ((k1.mono fun x _ hx => by simp [T.blocks, hx]).setCell (fun _ => by simp [T.blocks]) _).andThen o3.keeps fun x hx hm => ?_
      simp only [T.blocks, List.mem_cons, List.mem_append] at hm ⊢
      rcases hm with hm | hm | hm
      · exact .inl hm
      · exact (HB.out x hm).elim (fun g => .inr (.inl g)) (fun g => by omega)
      · exact .inr (.inr hm)
    | gt =>
      obtain ⟨f1, f2⟩ := cmpS_gt hk
      have hp : ∀ N, (T.node b k v l r).put cmpS N key val = (T.level (T.node b k v l (r.put cmpS N key val).1), (r.put cmpS N key val).2) := fun N => by rw [T.put, hk]
      have HK := Lib.hid hp
      clear hk hp
      go_enter Tryz.func68, Tryz.ntmps68
      go_wp2_with fail
      refine (IR.out _ H.out.2.2.1 (by omega)).mono ?_
      rintro e9 w1 ⟨N, hN, rfl, a1, k1⟩
      have hb1 := (k1.same b (lt_of_heap H.out.1) H.out.2.2.2.2.1).trans H.out.1
      have hc1 := blk_cell hb1
      have hz1 := blk_free hb1
      simp only [Ssi_cells] at hc1
      clear hb1
      have hbl := fun x hx => (T.put_blocks cmpS N key val r x hx)
      have HB := Lib.hid hbl
      clear hbl
      have n2 := H.out.nd.high k1 (fun _ hx => hx) a1 (fun x hx => (HB.out x hx).elim .inl (fun e => .inr (e ▸ hN)))
      have N2 := Lib.hid n2
      clear n2
      go_wp2_with fail
      refine (level_si _ N2.out (by have := T.put_size_le cmpS N key val r; omega)).mono ?_
      rintro e9 w3 ⟨rfl, a3, o3⟩
      go_wp2_with fail
      go_ret2
      refine ⟨N, hN, by rw [HK.out]; rfl, by rw [HK.out]; exact a3, ?_⟩
      have hlt := lt_of_heap H.out.1
      refine ((k1.mono fun x _ hx => by simp [T.blocks, hx]).setCell (fun _ => by simp [T.blocks]) _).andThen o3.keeps fun x hx hm => ?_
      simp only [T.blocks, List.mem_cons, List.mem_append] at hm ⊢
      rcases hm with hm | hm | hm
      · exact .inl hm
      · exact .inr (.inl hm)
      · exact (HB.out x hm).elim (fun g => .inr (.inr g)) (fun g => by omega)
    | eq =>
      obtain ⟨f1, f2⟩ := cmpS_eq hk
      have hp : ∀ N, (T.node b k v l r).put cmpS N key val = (T.level (T.node b k val l r), false) := fun N => by rw [T.put, hk]
      have HK := Lib.hid hp
      clear hk hp
      go_enter Tryz.func68, Tryz.ntmps68
      go_wp2_with fail
      have n2 : ∀ w', Only [b] w w' → (∃ d, w'.heap[b]? = some (.cells (Ssi.cells k val (.pointer l.ptr) (.pointer r.ptr) d) Ssi.ty (0, 0))) → Nd Ssi w' b k val l r := fun w' ho hb =>
        ⟨hb, H.out.2.1.only ho fun _ hx => no_one H.out.2.2.2.1 hx, H.out.2.2.1.only ho fun _ hx => no_one H.out.2.2.2.2.1 hx, H.out.2.2.2⟩
      have N2 := Lib.hid n2
      clear n2
      refine (level_si _ (N2.out _ ((Only.refl [b] w).setCell (by simp) _) ⟨_, (heap_set H.out.1 1 _)⟩) (by omega)).mono ?_
      rintro e9 w3 ⟨rfl, a3, o3⟩
      go_wp2_with fail
      go_ret2
      refine ⟨w.heap.size, Nat.le_refl _, by rw [HK.out]; rfl, by rw [HK.out]; exact a3, ?_⟩
      exact (Only.keeps ((Only.mono ((Only.refl [b] w).setCell (by simp) _) fun x hx => by rw [List.mem_singleton] at hx; simp [T.blocks, hx]))).trans (o3.mono fun x hx => by simpa [T.blocks] using hx).keeps
/-- what least leaves -/
def Leastsi (t : T ByteArray Int) (w : World) (e : Ending) (w' : World) : Prop :=
  ∃ d kc vc lc rc dd, (T.least t).2 = some (d, kc, vc) ∧ e = .returned (.tuple #[.pointer (T.least t).1.ptr, .pointer (some ⟨d, 0, none⟩)]) ∧ At Ssi w' (T.least t).1 ∧
      w'.heap[d]? = some (.cells (Ssi.cells kc vc lc rc dd) Ssi.ty (0, 0)) ∧ Only t.blocks w w'
theorem least_si (l : T ByteArray Int) : ∀ (b : Nat) (k : ByteArray) (v : Int) (r : T ByteArray Int) (w : World), At Ssi w (.node b k v l r) → (T.node b k v l r).size ≤ 1099511627776 →
    Calls Tryz.prog 92 #[.pointer (some ⟨b, 0, none⟩)] w (Leastsi (T.node b k v l r) w) := by
  induction l with
  | nil =>
    intro b k v r w h _
    have hc := blk_cell h.1
    simp only [Ssi_cells, T.ptr_nil, T.ptr_node] at hc
    have H := Lib.hid h
    clear h
    go_enter Tryz.func92, Tryz.ntmps92
    go_wp2_with fail
    go_ret2
    exact ⟨b, k, v, _, _, _, rfl, rfl, H.out.2.2.1, H.out.1, Only.refl _ _⟩
  | node b' k' v' l' r' ih _ =>
    intro b k v r w h hs
    have hc := blk_cell h.1
    have hz := blk_free h.1
    simp only [Ssi_cells, T.ptr_nil, T.ptr_node] at hc
    simp only [T.size] at hs
    have H := Lib.hid h
    have IH := Lib.hid ih
    clear h ih
    go_enter Tryz.func92, Tryz.ntmps92
    go_wp2_with fail
    refine (IH.out _ _ _ _ _ H.out.2.1 (by simp only [T.size]; omega)).mono ?_
    rintro e9 w1 ⟨d, kc, vc, lc, rc, dd, hd, rfl, a1, hbd, o1⟩
    have hb1 := (o1.same b H.out.2.2.2.1).trans H.out.1
    have hc1 := blk_cell hb1
    have hz1 := blk_free hb1
    simp only [Ssi_cells, T.ptr_nil, T.ptr_node] at hc1
    clear hb1
    have hp := T.least_perm b' k' v' l' r' d kc vc hd
    have hsz := T.least_size b' k' v' l' r'
    simp only [T.size] at hsz
    have n2 := H.out.nd.low o1.keeps (fun _ hx => hx) a1 (fun x hx => .inl (hp.mem_iff.1 (List.mem_cons_of_mem _ hx)))
    have hdb : d ≠ b := fun e => H.out.2.2.2.1 (e ▸ hp.mem_iff.1 List.mem_cons_self)
    have hdn : d ∉ (T.least (T.node b' k' v' l' r')).1.blocks ∧ d ∉ r.blocks := by
      refine ⟨?_, H.out.2.2.2.2.2 d (hp.mem_iff.1 List.mem_cons_self)⟩
      have := hp.nodup_iff.2 H.out.2.1.nodup
      exact (List.nodup_cons.1 this).1
    have HP := Lib.hid (And.intro hd (And.intro hp (And.intro hbd (And.intro n2 (And.intro hdb hdn)))))
    have O1 := Lib.hid o1
    clear hd hp hbd n2 hdb hdn o1 a1
    go_wp2_with fail
    refine (level_si _ HP.out.2.2.2.1 (by omega)).mono ?_
    rintro e9 w3 ⟨rfl, a3, o3⟩
    go_wp2_with fail
    go_ret2
    obtain ⟨hd, hp, hbd, n2, hdb, hdn⟩ := HP.out
    refine ⟨d, kc, vc, lc, rc, dd, hd, rfl, a3, ?_, ?_⟩
    · refine (o3.same d ?_).trans ((heap_set_other _ _ _ _ _ hdb).trans hbd)
      simp only [List.mem_cons, List.mem_append, not_or]
      exact ⟨hdb, hdn⟩
    · refine ((O1.out.mono fun x hx => by rw [T.blocks]; exact List.mem_cons_of_mem _ (List.mem_append_left _ hx)).setCell (by simp [T.blocks]) _).trans (o3.mono fun x hx => ?_)
      simp only [T.blocks, List.mem_cons, List.mem_append] at hx ⊢
      rcases hx with hx | hx | hx
      · exact .inl hx
      · have := hp.mem_iff.1 (List.mem_cons_of_mem _ hx)
        simp only [T.blocks, List.mem_cons, List.mem_append] at this
        exact .inr (.inl this)
      · exact .inr (.inr hx)
theorem drop_si (key : ByteArray) (t : T ByteArray Int) : ∀ w : World, At Ssi w t → t.size ≤ 1099511627776 →
    Calls Tryz.prog 67 #[.pointer t.ptr, .string key] w fun e w' =>
      e = .returned (.tuple #[.pointer (t.drop cmpS key).1.ptr, .bool (t.drop cmpS key).2]) ∧ At Ssi w' (t.drop cmpS key).1 ∧ Only t.blocks w w' := by
  induction t with
  | nil =>
    intro w _ _
    simp only [T.ptr_nil, T.ptr_node]
    go_enter Tryz.func67, Tryz.ntmps67
    go_wp2_with fail
    go_ret2
    exact ⟨rfl, trivial, Only.refl _ _⟩
  | node b k v l r ihl ihr =>
    intro w h hs
    have hc := blk_cell h.1
    have hz := blk_free h.1
    simp only [Ssi_cells] at hc
    simp only [T.ptr_nil, T.ptr_node]
    have H := Lib.hid h
    simp only [T.size] at hs
    have IL := Lib.hid ihl
    have IR := Lib.hid ihr
    clear h ihl ihr
    cases hk : cmpS key k with
    | lt =>
      obtain ⟨f1, f2⟩ := cmpS_lt hk
      have hp : (T.node b k v l r).drop cmpS key = (T.level (T.node b k v (l.drop cmpS key).1 r), (l.drop cmpS key).2) := T.drop_lt hk
      have HK := Lib.hid hp
      clear hk hp
      go_enter Tryz.func67, Tryz.ntmps67
      go_wp2_with fail
      refine (IL.out _ H.out.2.1 (by omega)).mono ?_
      rintro e9 w1 ⟨rfl, a1, o1⟩
      have hb1 := (o1.same b H.out.2.2.2.1).trans H.out.1
      have hc1 := blk_cell hb1
      have hz1 := blk_free hb1
      simp only [Ssi_cells] at hc1
      clear hb1
      have hbl := T.drop_blocks cmpS key l
      have HB := Lib.hid hbl
      clear hbl
      have n2 := H.out.nd.low o1.keeps (fun _ hx => hx) a1 (fun x hx => .inl (HB.out x hx))
      have N2 := Lib.hid n2
      clear n2
      go_wp2_with fail
      refine (level_si _ N2.out (by have := T.drop_size cmpS key l; omega)).mono ?_
      rintro e9 w3 ⟨rfl, a3, o3⟩
      go_wp2_with fail
      go_ret2
      refine ⟨by rw [HK.out]; rfl, by rw [HK.out]; exact a3, ?_⟩
      refine ((o1.mono fun x hx => by simp [T.blocks, hx]).setCell (by simp [T.blocks]) _).trans (o3.mono fun x hx => ?_)
      simp only [T.blocks, List.mem_cons, List.mem_append] at hx ⊢
      rcases hx with hx | hx | hx
      · exact .inl hx
      · exact .inr (.inl (HB.out x hx))
      · exact .inr (.inr hx)
    | gt =>
      obtain ⟨f1, f2⟩ := cmpS_gt hk
      have hp : (T.node b k v l r).drop cmpS key = (T.level (T.node b k v l (r.drop cmpS key).1), (r.drop cmpS key).2) := T.drop_gt hk
      have HK := Lib.hid hp
      clear hk hp
      go_enter Tryz.func67, Tryz.ntmps67
      go_wp2_with fail
      refine (IR.out _ H.out.2.2.1 (by omega)).mono ?_
      rintro e9 w1 ⟨rfl, a1, o1⟩
      have hb1 := (o1.same b H.out.2.2.2.2.1).trans H.out.1
      have hc1 := blk_cell hb1
      have hz1 := blk_free hb1
      simp only [Ssi_cells] at hc1
      clear hb1
      have hbl := T.drop_blocks cmpS key r
      have HB := Lib.hid hbl
      clear hbl
      have n2 := H.out.nd.high o1.keeps (fun _ hx => hx) a1 (fun x hx => .inl (HB.out x hx))
      have N2 := Lib.hid n2
      clear n2
      go_wp2_with fail
      refine (level_si _ N2.out (by have := T.drop_size cmpS key r; omega)).mono ?_
      rintro e9 w3 ⟨rfl, a3, o3⟩
      go_wp2_with fail
      go_ret2
      refine ⟨by rw [HK.out]; rfl, by rw [HK.out]; exact a3, ?_⟩
      refine ((o1.mono fun x hx => by simp [T.blocks, hx]).setCell (by simp [T.blocks]) _).trans (o3.mono fun x hx => ?_)
      simp only [T.blocks, List.mem_cons, List.mem_append] at hx ⊢
      rcases hx with hx | hx | hx
      · exact .inl hx
      · exact .inr (.inl hx)
      · exact .inr (.inr (HB.out x hx))
    | eq =>
      obtain ⟨f1, f2⟩ := cmpS_eq hk
      cases r with
      | nil =>
        have hp : (T.node b k v l .nil).drop cmpS key = (l, true) := by rw [T.drop, hk]
        have HK := Lib.hid hp
        clear hk hp
        simp only [T.ptr_nil] at hc
        go_enter Tryz.func67, Tryz.ntmps67
        go_wp2_with fail
        go_ret2
        exact ⟨by rw [HK.out]; rfl, by rw [HK.out]; exact H.out.2.1, Only.refl _ _⟩
      | node b' k' v' l' r' =>
        have hp : ∀ d kc vc, (T.least (T.node b' k' v' l' r')).2 = some (d, kc, vc) → (T.node b k v l (.node b' k' v' l' r')).drop cmpS key = (T.level (T.node d kc vc l (T.least (T.node b' k' v' l' r')).1), true) := fun d kc vc hd => by
          rw [T.drop, hk]; simp only [hd]
        have HK := Lib.hid hp
        clear hk hp
        simp only [T.ptr_node] at hc
        go_enter Tryz.func67, Tryz.ntmps67
        go_wp2_with fail
        refine (least_si l' b' k' v' r' _ H.out.2.2.1 (by omega)).mono ?_
        rintro e9 w1 ⟨d, kc, vc, lc, rc, dd, hd, rfl, a1, hbd, o1⟩
        have hb1 := (o1.same b H.out.2.2.2.2.1).trans H.out.1
        have hc1 := blk_cell hb1
        have hcd := blk_cell hbd
        have hzd := blk_free hbd
        simp only [Ssi_cells, T.ptr_node] at hc1 hcd
        clear hb1
        have hpm := T.least_perm b' k' v' l' r' d kc vc hd
        have hsz := T.least_size b' k' v' l' r'
        have hdr : d ∈ (T.node b' k' v' l' r').blocks := hpm.mem_iff.1 List.mem_cons_self
        have hdl : d ∉ l.blocks := fun hx => H.out.2.2.2.2.2 d hx hdr
        have hnd := (List.nodup_cons.1 (hpm.nodup_iff.2 H.out.2.2.1.nodup)).1
        have al : At Ssi w1 l := H.out.2.1.only o1 fun x hx hy => H.out.2.2.2.2.2 x hx hy
        have nt := Nd.took hbd al a1 hdl hnd (fun x hx hy => H.out.2.2.2.2.2 x hx (hpm.mem_iff.1 (List.mem_cons_of_mem _ hy))) rfl
        have hp := HK.out d kc vc hd
        have hdb : d ≠ b := fun e => H.out.2.2.2.2.1 (e ▸ hdr)
        have HP := Lib.hid (And.intro hp (And.intro hpm (And.intro hdr nt)))
        have O1 := Lib.hid o1
        clear hd hpm hdr hdl hnd al nt hp o1 a1 hbd
        go_wp2_with fail
        refine (level_si _ HP.out.2.2.2.1 (by omega)).mono ?_
        rintro e9 w3 ⟨rfl, a3, o3⟩
        go_wp2_with fail
        go_ret2
        obtain ⟨hp, hpm, hdr, _, ot⟩ := HP.out
        refine ⟨by rw [hp]; rfl, by rw [hp]; exact a3, ?_⟩
        refine ((O1.out.mono fun x hx => ?_).trans (ot.mono fun x hx => ?_)).trans (o3.mono fun x hx => ?_)
        · rw [T.blocks]; exact List.mem_cons_of_mem _ (List.mem_append_right _ hx)
        · rw [List.mem_singleton] at hx; rw [hx, T.blocks]; exact List.mem_cons_of_mem _ (List.mem_append_right _ hdr)
        · simp only [List.mem_cons, List.mem_append] at hx
          rw [T.blocks]
          rcases hx with hx | hx | hx
          · rw [hx]; exact List.mem_cons_of_mem _ (List.mem_append_right _ hdr)
          · exact List.mem_cons_of_mem _ (List.mem_append_left _ hx)
          · exact List.mem_cons_of_mem _ (List.mem_append_right _ (hpm.mem_iff.1 (List.mem_cons_of_mem _ hx)))
end Go.Proofs.YtdonmmjikcbihaaGreatDoor
