/- Package avl at [string, int]: a node's depth, its leaning, the turns. -/
import Derived.Test.YtdonmmjikcbihaaGreatDoorRows
import Derived.Test.YtdonmmjikcbihaaGreatDoorData
import Derived.Lib.Hide
namespace Go.Proofs.YtdonmmjikcbihaaGreatDoor
open Go.RowKit Go.Proofs Go.Vc
attribute [local irreducible] Calls CallsIn Code.wp Code.wpIn
/-- a node's cells -/
def Ssi : Shape ByteArray Int := ⟨109, fun k v l h d => #[.string k, .int .i64 v, l, h, .int .i64 d], 2, 3, 4, fun _ _ _ _ _ _ => rfl, fun _ _ _ _ _ _ => rfl, fun _ _ _ _ _ _ => rfl⟩
theorem Ssi_cells (k : ByteArray) (v : Int) (l h : Value) (d : Int) : Ssi.cells k v l h d = #[.string k, .int .i64 v, l, h, .int .i64 d] := rfl
theorem deep_si (t : T ByteArray Int) (w : World) (h : At Ssi w t) : Calls Tryz.prog 122 #[.pointer t.ptr] w fun e w' => e = .returned (.int .i64 (t.ht : Int)) ∧ w = w' := by
  cases t with
  | nil =>
    go_enter Tryz.func122, Tryz.ntmps122
    simp only [T.ptr_nil, T.ptr_node]
    go_wp2
    go_ret
    exact ⟨rfl, rfl⟩
  | node b k v l r =>
    have hc := blk_cell h.1
    simp only [Ssi_cells] at hc
    go_enter Tryz.func122, Tryz.ntmps122
    simp only [T.ptr_nil, T.ptr_node]
    go_wp2
    go_ret
    exact ⟨rfl, rfl⟩
theorem lean_si {b : Nat} {k : ByteArray} {v : Int} {l r : T ByteArray Int} (w : World) (h : Nd Ssi w b k v l r) (hs : l.size + r.size ≤ 1099511627776) : Calls Tryz.prog 104 #[.pointer (some ⟨b, 0, none⟩)] w fun e w' =>
    e = .returned (.int .i64 ((r.ht : Int) - l.ht)) ∧ Like w w' := by
  obtain ⟨⟨d, hb⟩, hl, hr, _⟩ := h
  have hc := blk_cell hb
  simp only [Ssi_cells] at hc
  clear hb
  have h1 : (l.ht : Int) ≤ 1099511627776 := by have := l.ht_le_size; omega
  have h2 : (r.ht : Int) ≤ 1099511627776 := by have := r.ht_le_size; omega
  go_enter Tryz.func104, Tryz.ntmps104
  go_wp2_with fail
  refine wp_drawE (way [0, 1, 2, 3, 5, 6, 7, 8, 4, 9, 10, 11]) (by kernel_rfl) (by kernel_rfl) (fun w1 hh hd hf hS => ?_)
  simp only [way]
  have hl' := hl.heap hh
  have hr' := hr.heap hh
  have hz := Lib.hid (Like.mk hh hS.ost)
  clear hh
  go_wp2_with (first | (refine' hl_q rfl rfl rfl (fun _ => ?_) ?_; rotate_left; (go_simp <;> (try go_bits) <;> rfl); (try simp only [Act.put, List.setIfInBounds_toArray, List.set_cons_zero, List.set_cons_succ])) | (refine' hl_rS rfl rfl rfl hS ?_ ?_; rotate_left; (intro w9 hS9; (first | have hc9 := Ext.cells hS9 | have hc9 := Keeps.cells hS9); (go_simp <;> rfl)); (try simp only [Act.put, List.setIfInBounds_toArray, List.set_cons_zero, List.set_cons_succ])) | (refine' hl_r rfl rfl rfl ?_ ?_; rotate_left; (rintro w9 (rfl | hS9); (go_simp <;> rfl); (first | have hc9 := Ext.cells hS9 | have hc9 := Keeps.cells hS9 | (try dsimp only at hS9)); (go_simp <;> rfl)); (try simp only [Act.put, List.setIfInBounds_toArray, List.set_cons_zero, List.set_cons_succ])) | (refine' hl_s rfl rfl ?_; (try simp only [Act.put, List.setIfInBounds_toArray, List.set_cons_zero, List.set_cons_succ])) | (refine hl_e rfl rfl rfl (fun K hK => ?_)) | (with_reducible refine And.intro (fun hn => ?_) ?_; (first | exact hS | exact Keeps.alloc hS _ | exact absurd hn (by rw [show needS _ _ = false from by kernel_rfl]; exact Bool.false_ne_true))) | (refine hl_done ?_) | gi_step | (gi_at_call 122; refine callsIn_wide.2 ?_; (first | refine (deep_si r _ hr').mono ?_ | refine (deep_si l _ hl').mono ?_); rintro e9 w9 ⟨rfl, rfl⟩))
  go_ret
  exact ⟨rfl, hz.out⟩
theorem measure_si {b : Nat} {k : ByteArray} {v : Int} {l r : T ByteArray Int} (w : World) (h : Nd Ssi w b k v l r) (hs : l.size + r.size ≤ 1099511627776) : Calls Tryz.prog 103 #[.pointer (some ⟨b, 0, none⟩)] w fun e w' =>
    e = .returned (.tuple #[]) ∧ At Ssi w' (.node b k v l r) ∧ Only [b] w w' := by
  obtain ⟨⟨d, hb⟩, hl, hr, hbl, hbr, hlr⟩ := h
  have hc := blk_cell hb
  have hz := blk_free hb
  simp only [Ssi_cells] at hc
  have h1 : (l.ht : Int) ≤ 1099511627776 := by have := l.ht_le_size; omega
  have h2 : (r.ht : Int) ≤ 1099511627776 := by have := r.ht_le_size; omega
  have hb := Lib.hid hb
  go_enter Tryz.func103, Tryz.ntmps103
  go_wp2_with fail
  refine wp_drawE (way [0, 1, 2, 3, 4, 6, 7, 8, 9, 5, 10, 11, 12, 13, 14, 15]) (by kernel_rfl) (by kernel_rfl) (fun w1 hh hd hf hS => ?_)
  simp only [way]
  have hl' := hl.heap hh
  have hr' := hr.heap hh
  have hhid := Lib.hid (Like.mk hh hS.ost)
  clear hh
  go_wp2_with (first | (refine' hl_q rfl rfl rfl (fun _ => ?_) ?_; rotate_left; (go_simp <;> (try go_bits) <;> rfl); (try simp only [Act.put, List.setIfInBounds_toArray, List.set_cons_zero, List.set_cons_succ])) | (refine' hl_rS rfl rfl rfl hS ?_ ?_; rotate_left; (intro w9 hS9; (first | have hc9 := Ext.cells hS9 | have hc9 := Keeps.cells hS9); (go_simp <;> rfl)); (try simp only [Act.put, List.setIfInBounds_toArray, List.set_cons_zero, List.set_cons_succ])) | (refine' hl_r rfl rfl rfl ?_ ?_; rotate_left; (rintro w9 (rfl | hS9); (go_simp <;> rfl); (first | have hc9 := Ext.cells hS9 | have hc9 := Keeps.cells hS9 | (try dsimp only at hS9)); (go_simp <;> rfl)); (try simp only [Act.put, List.setIfInBounds_toArray, List.set_cons_zero, List.set_cons_succ])) | (refine' hl_s rfl rfl ?_; (try simp only [Act.put, List.setIfInBounds_toArray, List.set_cons_zero, List.set_cons_succ])) | (refine hl_e rfl rfl rfl (fun K hK => ?_)) | (with_reducible refine And.intro (fun hn => ?_) ?_; (first | exact hS | exact Keeps.alloc hS _ | exact absurd hn (by rw [show needS _ _ = false from by kernel_rfl]; exact Bool.false_ne_true))) | (refine hl_done ?_) | gi_step | (gi_at_call 122; refine callsIn_wide.2 ?_; (first | refine (deep_si r _ hr').mono ?_ | refine (deep_si l _ hl').mono ?_); rintro e9 w9 ⟨rfl, rfl⟩))
  all_goals
    go_end0
    have hn : Nd Ssi w b k v l r := ⟨⟨d, hb.out⟩, hl, hr, hbl, hbr, hlr⟩
    exact ⟨rfl, hn.measured hhid.out (by omega)⟩
theorem turnLow_si {b b' : Nat} {k k' : ByteArray} {v v' : Int} {l l' r' : T ByteArray Int} (w : World) (h : Nd Ssi w b k v l (.node b' k' v' l' r')) (hs : l.size + l'.size + r'.size + 2 ≤ 1099511627776) :
    Calls Tryz.prog 106 #[.pointer (some ⟨b, 0, none⟩)] w fun e w' =>
    e = .returned (.pointer (some ⟨b', 0, none⟩)) ∧ At Ssi w' (.node b' k' v' (.node b k v l l') r') ∧ Only [b, b'] w w' := by
  obtain ⟨n1, o1, nx⟩ := h.turnedLow rfl
  have hne : b' ≠ b := fun e => h.2.2.2.2.1 (by simp [T.blocks, e])
  obtain ⟨⟨d, hb⟩, _, ⟨hb', _⟩, _⟩ := h
  have hc := blk_cell hb
  have hz := blk_free hb
  have hc' := blk_cell hb'
  have hz' := blk_free hb'
  simp only [Ssi_cells] at hc hc'
  clear hb hb'
  (try simp only [T.ptr_nil, T.ptr_node] at hc)
  have h1 := Lib.hid n1
  have h2 := Lib.hid o1
  have h3 := Lib.hid nx
  clear n1 o1 nx
  go_enter Tryz.func106, Tryz.ntmps106
  go_wp2_with fail
  refine (measure_si _ h1.out (by omega)).mono ?_
  rintro e9 w2 ⟨rfl, a1, o2⟩
  have n2 := h3.out w2 a1 o2
  go_wp2_with fail
  refine (measure_si _ n2 (by (try simp only [T.size]); omega)).mono ?_
  rintro e9 w3 ⟨rfl, a2, o3⟩
  go_wp2_with fail
  go_ret
  exact ⟨rfl, a2, (h2.out.trans (o2.mono (by simp))).trans (o3.mono (by simp))⟩
theorem turnHigh_si {b b' : Nat} {k k' : ByteArray} {v v' : Int} {r l' r' : T ByteArray Int} (w : World) (h : Nd Ssi w b k v (.node b' k' v' l' r') r) (hs : r.size + l'.size + r'.size + 2 ≤ 1099511627776) :
    Calls Tryz.prog 105 #[.pointer (some ⟨b, 0, none⟩)] w fun e w' =>
    e = .returned (.pointer (some ⟨b', 0, none⟩)) ∧ At Ssi w' (.node b' k' v' l' (.node b k v r' r)) ∧ Only [b, b'] w w' := by
  obtain ⟨n1, o1, nx⟩ := h.turnedHigh rfl
  have hne : b' ≠ b := fun e => h.2.2.2.1 (by simp [T.blocks, e])
  obtain ⟨⟨d, hb⟩, ⟨hb', _⟩, _⟩ := h
  have hc := blk_cell hb
  have hz := blk_free hb
  have hc' := blk_cell hb'
  have hz' := blk_free hb'
  simp only [Ssi_cells] at hc hc'
  clear hb hb'
  (try simp only [T.ptr_nil, T.ptr_node] at hc)
  have h1 := Lib.hid n1
  have h2 := Lib.hid o1
  have h3 := Lib.hid nx
  clear n1 o1 nx
  go_enter Tryz.func105, Tryz.ntmps105
  go_wp2_with fail
  refine (measure_si _ h1.out (by omega)).mono ?_
  rintro e9 w2 ⟨rfl, a1, o2⟩
  have n2 := h3.out w2 a1 o2
  go_wp2_with fail
  refine (measure_si _ n2 (by (try simp only [T.size]); omega)).mono ?_
  rintro e9 w3 ⟨rfl, a2, o3⟩
  go_wp2_with fail
  go_ret
  exact ⟨rfl, a2, (h2.out.trans (o2.mono (by simp))).trans (o3.mono (by simp))⟩
/-- what stands at level's first test -/
theorem lev0_si {b : Nat} {k : ByteArray} {v : Int} {l r : T ByteArray Int} {w w1 w2 : World} (a1 : At Ssi w1 (.node b k v l r)) (o1 : Only [b] w w1) (hh : Like w1 w2) :
    At Ssi w2 (.node b k v l r) ∧ Only [b] w w2 ∧ (∀ i, w2.cell? ⟨b, i, none⟩ = (#[.string k, .int .i64 v, .pointer l.ptr, .pointer r.ptr, .int .i64 ((1 + max l.ht r.ht : Nat) : Int)] : Array Value)[i]?) ∧ (∀ i, w2.frozen? ⟨b, i, none⟩ = false) :=
  ⟨a1.heap hh.heap, o1.trans (Only.of_heap _ hh), blk_cell (a1.heap hh.heap).1, blk_free (a1.heap hh.heap).1⟩
theorem level_si {b : Nat} {k : ByteArray} {v : Int} {l r : T ByteArray Int} (w : World) (h : Nd Ssi w b k v l r) (hs : l.size + r.size + 1 ≤ 1099511627776) :
    Calls Tryz.prog 93 #[.pointer (some ⟨b, 0, none⟩)] w fun e w' =>
    e = .returned (.pointer (T.node b k v l r).level.ptr) ∧ At Ssi w' (T.node b k v l r).level ∧ Only (b :: (l.blocks ++ r.blocks)) w w' := by
  by_cases h2 : (r.ht : Int) - l.ht = 2
  · cases r with
    | nil => simp only [T.ht] at h2; omega
    | node b' k' v' l' r' =>
      by_cases hn : (r'.ht : Int) - l'.ht < 0
      · cases l' with
        | nil => simp only [T.ht] at hn; omega
        | node c kc vc lc rc =>
          have hlev : (T.node b k v l (T.node b' k' v' (T.node c kc vc lc rc) r')).level = .node c kc vc (.node b k v l lc) (.node b' k' v' rc r') := by
            rw [T.level, if_pos h2, if_pos (by simpa [T.lean] using hn)]; rfl
          rw [hlev]
          clear hlev
          simp only [T.size] at hs
          have hz2 : ((((T.node b' k' v' (T.node c kc vc lc rc) r').ht : Int) - l.ht) == 2) = true := by simpa using h2
          have hz3 : decide ((r'.ht : Int) - (T.node c kc vc lc rc).ht < 0) = true := by simpa using hn
          have H := Lib.hid h
          clear h h2 hn
          go_enter Tryz.func93, Tryz.ntmps93
          go_wp2_with fail
          refine (measure_si _ H.out (by (try simp only [T.size]); omega)).mono ?_
          rintro e9 w1 ⟨rfl, a1, o1⟩
          go_wp2_with fail
          refine (lean_si _ a1.nd (by (try simp only [T.size]); omega)).mono ?_
          rintro e9 w2 ⟨rfl, hh⟩
          obtain ⟨a2, o2, hc, hz⟩ := lev0_si a1 o1 hh
          clear hh o1 a1
          (try simp only [T.ptr_nil, T.ptr_node] at hc)
          go_wp2_with fail
          refine (lean_si _ a2.2.2.1.nd (by (try simp only [T.size]); omega)).mono ?_
          rintro e9 w3 ⟨rfl, hh3⟩
          have a3 := a2.heap hh3.heap
          have o3 : Only [b] w w3 := o2.trans (Only.of_heap _ hh3)
          have hc3 := blk_cell a3.1
          have hz3' := blk_free a3.1
          simp only [Ssi_cells, T.ptr_nil, T.ptr_node] at hc3
          clear hh3 o2 a2 hc hz
          go_wp2_with fail
          refine (turnHigh_si _ a3.2.2.1.nd (by omega)).mono ?_
          rintro e9 w4 ⟨rfl, a4, o4⟩
          have n5 := a3.nd.high o4.keeps (fun x hx => by simp only [List.mem_cons, List.not_mem_nil, or_false] at hx; rcases hx with rfl | rfl <;> simp [T.blocks]) a4 (fun x hx => .inl (by simp only [T.blocks, List.mem_cons, List.mem_append, List.cons_append] at hx ⊢; grind))
          have hb4 := (o4.same b (by have := a3.nd.2.2.2.2.1; simp only [T.blocks, List.mem_cons, List.mem_append, not_or] at this ⊢; grind)).trans a3.1
          have hc4 := blk_cell hb4
          have hz4 := blk_free hb4
          simp only [Ssi_cells, T.ptr_nil, T.ptr_node] at hc4
          clear hb4
          have H4 := Lib.hid a4
          clear a4
          go_wp2_with fail
          refine (turnLow_si _ n5 (by (try simp only [T.size]); omega)).mono ?_
          rintro e9 w6 ⟨rfl, a6, o6⟩
          go_wp2_with fail
          go_ret
          exact ⟨rfl, a6, ((o3.mono (by simp)).trans (o4.mono (by simp [T.blocks]))).trans ((((Only.refl [b] w4).setCell (by simp) _).mono (by simp)).trans (o6.mono (by simp [T.blocks])))⟩
      · have hlev : (T.node b k v l (T.node b' k' v' l' r')).level = .node b' k' v' (.node b k v l l') r' := by
          rw [T.level, if_pos h2, if_neg (by simpa [T.lean] using hn)]; rfl
        rw [hlev]
        clear hlev
        simp only [T.size] at hs
        have hz2 : ((((T.node b' k' v' l' r').ht : Int) - l.ht) == 2) = true := by simpa using h2
        have hz3 : decide ((r'.ht : Int) - l'.ht < 0) = false := by simpa using hn
        have H := Lib.hid h
        clear h h2 hn
        go_enter Tryz.func93, Tryz.ntmps93
        go_wp2_with fail
        refine (measure_si _ H.out (by (try simp only [T.size]); omega)).mono ?_
        rintro e9 w1 ⟨rfl, a1, o1⟩
        go_wp2_with fail
        refine (lean_si _ a1.nd (by (try simp only [T.size]); omega)).mono ?_
        rintro e9 w2 ⟨rfl, hh⟩
        obtain ⟨a2, o2, hc, hz⟩ := lev0_si a1 o1 hh
        clear hh o1 a1
        (try simp only [T.ptr_nil, T.ptr_node] at hc)
        go_wp2_with fail
        refine (lean_si _ a2.2.2.1.nd (by (try simp only [T.size]); omega)).mono ?_
        rintro e9 w3 ⟨rfl, hh3⟩
        have a3 := a2.heap hh3.heap
        have o3 : Only [b] w w3 := o2.trans (Only.of_heap _ hh3)
        have hc3 := blk_cell a3.1
        have hz3' := blk_free a3.1
        simp only [Ssi_cells, T.ptr_nil, T.ptr_node] at hc3
        clear hh3 o2 a2 hc hz
        go_wp2_with fail
        refine (turnLow_si _ a3.nd (by omega)).mono ?_
        rintro e9 w6 ⟨rfl, a6, o6⟩
        go_wp2_with fail
        go_ret
        exact ⟨rfl, a6, (o3.mono (by simp)).trans (o6.mono (by simp [T.blocks]))⟩
  · by_cases h3 : (r.ht : Int) - l.ht = -2
    · cases l with
      | nil => simp only [T.ht] at h3; omega
      | node b' k' v' l' r' =>
        by_cases hn : 0 < (r'.ht : Int) - l'.ht
        · cases r' with
          | nil => simp only [T.ht] at hn; omega
          | node c kc vc lc rc =>
            have hlev : (T.node b k v (T.node b' k' v' l' (T.node c kc vc lc rc)) r).level = .node c kc vc (.node b' k' v' l' lc) (.node b k v rc r) := by
              rw [T.level, if_neg (by omega), if_pos h3, if_pos (by simpa [T.lean] using hn)]; rfl
            rw [hlev]
            clear hlev
            simp only [T.size] at hs
            have hz2 : (((r.ht : Int) - (T.node b' k' v' l' (T.node c kc vc lc rc)).ht) == -2) = true := by simpa using h3
            have hz1 : (((r.ht : Int) - (T.node b' k' v' l' (T.node c kc vc lc rc)).ht) == 2) = false := by rw [beq_eq_false_iff_ne]; omega
            have hz3 : decide (l'.ht < (T.node c kc vc lc rc).ht) = true := by simp; omega
            have H := Lib.hid h
            clear h h3 hn
            go_enter Tryz.func93, Tryz.ntmps93
            go_wp2_with fail
            refine (measure_si _ H.out (by (try simp only [T.size]); omega)).mono ?_
            rintro e9 w1 ⟨rfl, a1, o1⟩
            go_wp2_with fail
            refine (lean_si _ a1.nd (by (try simp only [T.size]); omega)).mono ?_
            rintro e9 w2 ⟨rfl, hh⟩
            obtain ⟨a2, o2, hc, hz⟩ := lev0_si a1 o1 hh
            clear hh o1 a1
            (try simp only [T.ptr_nil, T.ptr_node] at hc)
            go_wp2_with fail
            refine (lean_si _ a2.2.1.nd (by (try simp only [T.size]); omega)).mono ?_
            rintro e9 w3 ⟨rfl, hh3⟩
            have a3 := a2.heap hh3.heap
            have o3 : Only [b] w w3 := o2.trans (Only.of_heap _ hh3)
            have hc3 := blk_cell a3.1
            have hz3' := blk_free a3.1
            simp only [Ssi_cells, T.ptr_nil, T.ptr_node] at hc3
            clear hh3 o2 a2 hc hz
            go_wp2_with fail
            refine (turnLow_si _ a3.2.1.nd (by omega)).mono ?_
            rintro e9 w4 ⟨rfl, a4, o4⟩
            have n5 := a3.nd.low o4.keeps (fun x hx => by simp only [List.mem_cons, List.not_mem_nil, or_false] at hx; rcases hx with rfl | rfl <;> simp [T.blocks]) a4 (fun x hx => .inl (by simp only [T.blocks, List.mem_cons, List.mem_append, List.cons_append] at hx ⊢; grind))
            have hb4 := (o4.same b (by have := a3.nd.2.2.2.1; simp only [T.blocks, List.mem_cons, List.mem_append, not_or] at this ⊢; grind)).trans a3.1
            have hc4 := blk_cell hb4
            have hz4 := blk_free hb4
            simp only [Ssi_cells, T.ptr_nil, T.ptr_node] at hc4
            clear hb4
            have H4 := Lib.hid a4
            clear a4
            go_wp2_with fail
            refine (turnHigh_si _ n5 (by (try simp only [T.size]); omega)).mono ?_
            rintro e9 w6 ⟨rfl, a6, o6⟩
            go_wp2_with fail
            go_ret
            exact ⟨rfl, a6, ((o3.mono (by simp)).trans (o4.mono (by simp [T.blocks]))).trans ((((Only.refl [b] w4).setCell (by simp) _).mono (by simp)).trans (o6.mono (by simp [T.blocks])))⟩
        · have hlev : (T.node b k v (T.node b' k' v' l' r') r).level = .node b' k' v' l' (.node b k v r' r) := by
            rw [T.level, if_neg (by omega), if_pos h3, if_neg (by simpa [T.lean] using hn)]; rfl
          rw [hlev]
          clear hlev
          simp only [T.size] at hs
          have hz2 : (((r.ht : Int) - (T.node b' k' v' l' r').ht) == -2) = true := by simpa using h3
          have hz1 : (((r.ht : Int) - (T.node b' k' v' l' r').ht) == 2) = false := by rw [beq_eq_false_iff_ne]; omega
          have hz3 : decide (l'.ht < r'.ht) = false := by simp; omega
          have H := Lib.hid h
          clear h h3 hn
          go_enter Tryz.func93, Tryz.ntmps93
          go_wp2_with fail
          refine (measure_si _ H.out (by (try simp only [T.size]); omega)).mono ?_
          rintro e9 w1 ⟨rfl, a1, o1⟩
          go_wp2_with fail
          refine (lean_si _ a1.nd (by (try simp only [T.size]); omega)).mono ?_
          rintro e9 w2 ⟨rfl, hh⟩
          obtain ⟨a2, o2, hc, hz⟩ := lev0_si a1 o1 hh
          clear hh o1 a1
          (try simp only [T.ptr_nil, T.ptr_node] at hc)
          go_wp2_with fail
          refine (lean_si _ a2.2.1.nd (by (try simp only [T.size]); omega)).mono ?_
          rintro e9 w3 ⟨rfl, hh3⟩
          have a3 := a2.heap hh3.heap
          have o3 : Only [b] w w3 := o2.trans (Only.of_heap _ hh3)
          have hc3 := blk_cell a3.1
          have hz3' := blk_free a3.1
          simp only [Ssi_cells, T.ptr_nil, T.ptr_node] at hc3
          clear hh3 o2 a2 hc hz
          go_wp2_with fail
          refine (turnHigh_si _ a3.nd (by omega)).mono ?_
          rintro e9 w6 ⟨rfl, a6, o6⟩
          go_wp2_with fail
          go_ret
          exact ⟨rfl, a6, (o3.mono (by simp)).trans (o6.mono (by simp [T.blocks]))⟩
    · have hlev : (T.node b k v l r).level = .node b k v l r := by rw [T.level, if_neg h2, if_neg h3]
      rw [hlev]
      clear hlev
      have hz2 : (((r.ht : Int) - l.ht) == 2) = false := by rw [beq_eq_false_iff_ne]; omega
      have hz3 : (((r.ht : Int) - l.ht) == -2) = false := by rw [beq_eq_false_iff_ne]; omega
      have H := Lib.hid h
      clear h h2 h3
      go_enter Tryz.func93, Tryz.ntmps93
      go_wp2_with fail
      refine (measure_si _ H.out (by (try simp only [T.size]); omega)).mono ?_
      rintro e9 w1 ⟨rfl, a1, o1⟩
      go_wp2_with fail
      refine (lean_si _ a1.nd (by (try simp only [T.size]); omega)).mono ?_
      rintro e9 w2 ⟨rfl, hh⟩
      obtain ⟨a2, o2, hc, hz⟩ := lev0_si a1 o1 hh
      clear hh o1 a1
      (try simp only [T.ptr_nil, T.ptr_node] at hc)
      go_wp2_with fail
      go_ret
      exact ⟨rfl, a2, o2.mono (by simp)⟩
end Go.Proofs.YtdonmmjikcbihaaGreatDoor
