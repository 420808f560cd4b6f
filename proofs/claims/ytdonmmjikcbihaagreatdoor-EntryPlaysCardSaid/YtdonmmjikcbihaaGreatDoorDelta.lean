/- Package delta: the newest of records. -/
import Derived.Test.YtdonmmjikcbihaaGreatDoorSlf
import Derived.Test.YtdonmmjikcbihaaGreatDoorKeyOrd
import Derived.Test.YtdonmmjikcbihaaGreatDoorRank
import Derived.Test.YtdonmmjikcbihaaGreatDoorAvldss
namespace Go.Vc
open Go.Proofs.YtdonmmjikcbihaaGreatDoor
/-- a record's key -/
def skey (x : Spn) : ByteArray := num x.tr ++ num x.id
/-- one more record -/
def newStep (m : List (ByteArray × Spn)) (x : Spn) : List (ByteArray × Spn) :=
  if may x then
    match findL cmpS (skey x) m with
    | none => putL cmpS (skey x) (kept x) m
    | some o => if newer (kept x) o then putL cmpS (skey x) (kept x) m else m
  else m
/-- the newest of records, by their keys -/
def newestL (l : List Spn) : List (ByteArray × Spn) := l.foldl newStep []
theorem set9 {w : World} {p : Nat} {ty : TypeId} {c0 c1 c2 c3 c4 c5 c6 c7 c8 : Value} (h : w.heap[p]? = some (.cells #[c0, c1, c2, c3, c4, c5, c6, c7, c8] ty (0, 0))) (a0 a1 a2 a3 a4 a5 a6 a7 a8 : Value) {w' : World}
    (hw : w' = ((((((((w.setCell ⟨p, 0, none⟩ a0).setCell ⟨p, 1, none⟩ a1).setCell ⟨p, 2, none⟩ a2).setCell ⟨p, 3, none⟩ a3).setCell ⟨p, 4, none⟩ a4).setCell ⟨p, 5, none⟩ a5).setCell ⟨p, 6, none⟩ a6).setCell ⟨p, 7, none⟩ a7).setCell ⟨p, 8, none⟩ a8) :
    w'.heap[p]? = some (.cells #[a0, a1, a2, a3, a4, a5, a6, a7, a8] ty (0, 0)) ∧ Only [p] w w' := by
  subst hw
  refine ⟨?_, ?_⟩
  · have h0 := heap_set h 0 a0
    simp only [List.setIfInBounds_toArray, List.set_cons_zero, List.set_cons_succ] at h0
    have h1 := heap_set h0 1 a1
    simp only [List.setIfInBounds_toArray, List.set_cons_zero, List.set_cons_succ] at h1
    have h2 := heap_set h1 2 a2
    simp only [List.setIfInBounds_toArray, List.set_cons_zero, List.set_cons_succ] at h2
    have h3 := heap_set h2 3 a3
    simp only [List.setIfInBounds_toArray, List.set_cons_zero, List.set_cons_succ] at h3
    have h4 := heap_set h3 4 a4
    simp only [List.setIfInBounds_toArray, List.set_cons_zero, List.set_cons_succ] at h4
    have h5 := heap_set h4 5 a5
    simp only [List.setIfInBounds_toArray, List.set_cons_zero, List.set_cons_succ] at h5
    have h6 := heap_set h5 6 a6
    simp only [List.setIfInBounds_toArray, List.set_cons_zero, List.set_cons_succ] at h6
    have h7 := heap_set h6 7 a7
    simp only [List.setIfInBounds_toArray, List.set_cons_zero, List.set_cons_succ] at h7
    have h8 := heap_set h7 8 a8
    simp only [List.setIfInBounds_toArray, List.set_cons_zero, List.set_cons_succ] at h8
    exact h8
  · exact (((((((((Only.refl [p] w).setCell (by simp) _).setCell (by simp) _).setCell (by simp) _).setCell (by simp) _).setCell (by simp) _).setCell (by simp) _).setCell (by simp) _).setCell (by simp) _).setCell (by simp) _
theorem newStep_rises (m : List (ByteArray × Spn)) (x : Spn) (h : Rises cmpS m) : Rises cmpS (newStep m x) := by
  unfold newStep
  split
  · split
    · exact rises_putL order_S _ _ _ h
    · split
      · exact rises_putL order_S _ _ _ h
      · exact h
  · exact h
theorem newestL_snoc (l : List Spn) (x : Spn) : newestL (l ++ [x]) = newStep (newestL l) x := by unfold newestL; rw [List.foldl_append]; rfl
theorem putL_len (k : ByteArray) (v : Spn) : ∀ m : List (ByteArray × Spn), (putL cmpS k v m).length ≤ m.length + 1
  | [] => Nat.le_refl _
  | z :: m => by
    have := putL_len k v m
    simp only [putL]; split <;> simp only [List.length_cons] <;> omega
theorem newestL_len (l : List Spn) : (newestL l).length ≤ l.length := by
  unfold newestL
  have : ∀ (l : List Spn) m, (l.foldl newStep m).length ≤ m.length + l.length := by
    intro l
    induction l with
    | nil => exact fun m => Nat.le_refl _
    | cons x l ih =>
      intro m
      have h1 := ih (newStep m x)
      have h2 : (newStep m x).length ≤ m.length + 1 := by
        have := putL_len (skey x) (kept x) m
        unfold newStep; split
        · split
          · exact this
          · split <;> omega
        · omega
      simp only [List.foldl_cons, List.length_cons]; omega
  simpa using this l []
theorem newestL_rises (l : List Spn) : Rises cmpS (newestL l) := by
  unfold newestL
  have : ∀ (l : List Spn) m, Rises cmpS m → Rises cmpS (l.foldl newStep m) := by
    intro l
    induction l with
    | nil => exact fun m h => h
    | cons x l ih => exact fun m h => ih _ (newStep_rises m x h)
  exact this l [] List.Pairwise.nil
theorem putL_all {p : Spn → Prop} {k : ByteArray} {v : Spn} (hv : p v) : ∀ m : List (ByteArray × Spn), (∀ y ∈ m, p y.2) → ∀ y ∈ putL cmpS k v m, p y.2
  | [], _, y, hy => by simp only [putL, List.mem_singleton] at hy; subst hy; exact hv
  | z :: m, h, y, hy => by
    simp only [putL] at hy
    split at hy
    · rw [List.mem_cons] at hy
      rcases hy with rfl | hy
      · exact hv
      · exact h y hy
    · rw [List.mem_cons] at hy
      rcases hy with rfl | hy
      · exact hv
      · exact h y (List.mem_cons_of_mem _ hy)
    · rw [List.mem_cons] at hy
      rcases hy with rfl | hy
      · exact h _ (List.mem_cons_self ..)
      · exact putL_all hv m (fun z hz => h z (List.mem_cons_of_mem _ hz)) y hy
theorem newestL_all {p : Spn → Prop} (l : List Spn) (h : ∀ x ∈ l, may x = true → p (kept x)) : ∀ y ∈ newestL l, p y.2 := by
  unfold newestL
  have : ∀ (l : List Spn) m, (∀ x ∈ l, may x = true → p (kept x)) → (∀ y ∈ m, p y.2) → ∀ y ∈ l.foldl newStep m, p y.2 := by
    intro l
    induction l with
    | nil => exact fun m _ h => h
    | cons x l ih =>
      intro m hl hm
      refine ih _ (fun z hz => hl z (List.mem_cons_of_mem _ hz)) ?_
      unfold newStep
      split
      · rename_i hmay
        have hk := hl x (List.mem_cons_self ..) hmay
        split
        · exact putL_all hk m hm
        · split
          · exact putL_all hk m hm
          · exact hm
      · exact hm
  exact this l [] h (fun y hy => by cases hy)
theorem findL_mem {k : ByteArray} {v : Spn} : ∀ m : List (ByteArray × Spn), findL cmpS k m = some v → ∃ y ∈ m, y.2 = v
  | [], h => by cases h
  | z :: m, h => by
    simp only [findL] at h
    split at h
    · injection h with h; exact ⟨z, List.mem_cons_self .., h⟩
    · obtain ⟨y, hy, e⟩ := findL_mem m h
      exact ⟨y, List.mem_cons_of_mem _ hy, e⟩
end Go.Vc
namespace Go.Proofs.YtdonmmjikcbihaaGreatDoor
open Go.RowKit Go.Proofs Go.Vc
attribute [local irreducible] Calls CallsIn Code.wp Code.wpIn
theorem span_i (x : Spn) (hx : x.Fits) (w : World) : Calls Tryz.prog 59 #[spnV x] w fun e w' => e = .returned (.string (skey x)) ∧ Ext w w' := by
  obtain ⟨wa, hwa⟩ : ∃ wa, wa = w.alloc (.cells (spnC x) 48) := ⟨_, rfl⟩
  have HE := Lib.hid (show Ext w wa from by rw [hwa]; exact (Keeps.refl _ w).alloc _)
  have HX := Lib.hid hx
  clear hx
  go_enter Tryz.func59, Tryz.ntmps59
  go_wp2_with fail
  rw [← hwa]
  clear hwa
  refine (of_i x.tr x.id HX.out.tr HX.out.id _).mono ?_
  rintro e9 w1 ⟨rfl, hE1⟩
  have H1 := Lib.hid (HE.out.trans hE1)
  clear hE1
  go_wp2_with fail
  go_ret
  exact ⟨rfl, H1.out⟩
/-- a map of spans that holds these -/
def SMap (B : Nat) (b : Nat) (m : List (ByteArray × Spn)) (w : World) : Prop :=
  ∃ c t, MapAt Sss w b 0 c 99 t ∧ t.toList = m ∧ B ≤ b ∧ ∀ x ∈ t.blocks, B ≤ x
theorem SMap.ext {B b : Nat} {m : List (ByteArray × Spn)} {w w' : World} (h : SMap B b m w) (k : Ext w w') : SMap B b m w' := by
  obtain ⟨c, t, hm, r⟩ := h
  exact ⟨c, t, hm.ext k, r⟩
/-- what newest leaves -/
def NewPost (l : List Spn) (w : World) (e : Ending) (w' : World) : Prop := ∃ b, e = .returned (.pointer (some ⟨b, 0, none⟩)) ∧ SMap w.heap.size b (newestL l) w' ∧ Ext w w'
theorem newest_i (v : Value) (l : List Spn) (w : World) (h : SpnsAt w v l) (hl : l.length ≤ 1000000) (hf : ∀ x ∈ l, x.Fits) : Calls Tryz.prog 35 #[v] w (NewPost l w) := by
  obtain ⟨a, cap, rfl, hn, h0, hcs⟩ := h
  have hln : ∀ j : Nat, j < l.length → a ≠ none := fun j hj ha => by rw [h0 ha] at hj; exact absurd hj (Nat.not_lt_zero _)
  have hcell : ∀ (wr : World), Ext w wr → ∀ g o s, a = some ⟨g, o, s⟩ → (l ≠ [] → s = none) ∧ ∀ i (h : i < l.length), C9 wr g (o + i * 9) l[i] := fun wr hr g o s ha => ⟨(hcs g o s ha).1, fun i hi => ((hcs g o s ha).2 i hi).keeps hr fun hf => hf⟩
  have HB := Lib.hid (And.intro hcell (And.intro hln (And.intro hl hf)))
  obtain ⟨n, hnl⟩ : ∃ n, n = l.length := ⟨_, rfl⟩
  rw [← hnl] at hn ⊢
  have HNL := Lib.hid hnl
  clear hcell hln hcs h0 hnl hl hf
  obtain ⟨wm, hwm⟩ : ∃ wm, wm = w.alloc (.cells #[.pointer none, .int .i64 0] 99) := ⟨_, rfl⟩
  have hEm : Ext w wm := by rw [hwm]; exact (Keeps.refl _ w).alloc _
  have hNm : wm.heap[w.heap.size]? = some (.cells #[.pointer none, .int .i64 0] 99 (0, 0)) := by rw [hwm]; exact World.alloc_heap_new w _
  obtain ⟨b, hb⟩ : ∃ b, b = w.heap.size := ⟨_, rfl⟩
  rw [← hb] at hNm
  have HM := Lib.hid (And.intro hEm (show SMap w.heap.size b [] wm from ⟨_, .nil, ⟨hNm, rfl, rfl, trivial, by simp [T.blocks]⟩, rfl, by rw [hb]; exact Nat.le_refl _, fun x hx => by simp [T.blocks] at hx⟩))
  clear hEm hNm
  go_enter Tryz.func35, Tryz.ntmps35
  go_wp2_with fail
  rw [← hwm, ← hb]
  have HBB := Lib.hid hb
  clear hwm hb
  go_loopg [10] n (fun k p wr => ∃ j : Nat, p = .int .i64 j ∧ j + k = n ∧ Ext w wr ∧ SMap w.heap.size b (newestL (l.take j)) wr)
  case atStart => exact ⟨0, rfl, Nat.zero_add _, HM.out.1, HM.out.2⟩
  case round =>
    obtain ⟨j, rfl, hj, hE2, c, t, hM, htl, hbB, hblk⟩ := hrel
    by_cases hjn : (j : Int) < n
    · have hjl : j < l.length := by rw [← HNL.out]; omega
      obtain ⟨⟨g, o, s⟩, rfl⟩ := Option.ne_none_iff_exists'.1 (HB.out.2.1 j hjl)
      obtain ⟨hs0, hc9⟩ := HB.out.1 wr hE2 g o s rfl
      obtain rfl := hs0 (ne_nil_of_lt hjl)
      have hy := hc9 j hjl
      obtain ⟨y, hyl⟩ : ∃ y, y = l[j] := ⟨_, rfl⟩
      rw [← hyl] at hy
      unfold C9 at hy
      have HS := Lib.hid (show newestL (l.take (j + 1)) = newStep (newestL (l.take j)) y from by
        rw [hyl, ← newestL_snoc, List.take_append_getElem hjl])
      have HY := Lib.hid (show y.Fits from by rw [hyl]; exact HB.out.2.2.2 _ (List.getElem_mem hjl))
      have hT := hM.tree.lt
      have H2 := Lib.hid (And.intro hE2 (And.intro hM (And.intro htl (And.intro hbB (And.intro hblk (And.intro (lt_of_heap hM.blk) hT))))))
      clear hE2 hc9 hyl hM htl hbB hblk hT
      obtain ⟨wa, hwa⟩ : ∃ wa, wa = wr.alloc (.cells (spnC y) 48) := ⟨_, rfl⟩
      have hEa : Ext wr wa := by rw [hwa]; exact (Keeps.refl _ wr).alloc _
      have hNa : wa.heap[wr.heap.size]? = some (.cells (spnC y) 48 (0, 0)) := by rw [hwa]; exact World.alloc_heap_new wr _
      obtain ⟨p, hp⟩ : ∃ p, p = wr.heap.size := ⟨_, rfl⟩
      rw [← hp] at hNa
      have HA := Lib.hid (And.intro (H2.out.1.trans hEa) (And.intro (H2.out.2.1.ext hEa) (And.intro hNa (show w.heap.size ≤ p from by rw [hp]; exact H2.out.1.size))))
      clear hEa hNa
      go_wp2_with fail
      rw [← hwa, ← hp]
      have HP := Lib.hid hp
      clear hwa hp hy
      refine (may_i y HY.out _).mono ?_
      rintro e9 w2 ⟨rfl, hE3⟩
      have hN2 := (Ext.same hE3 (lt_of_heap HA.out.2.2.1)).trans HA.out.2.2.1
      have hc2 := blk_cell hN2
      have hz2 := blk_free hN2
      have H3 := Lib.hid (And.intro (HA.out.1.trans hE3) (And.intro (HA.out.2.1.ext hE3) hN2))
      clear hE3 hN2
      cases hm : may y
      · rw [mayE_f hm]
        have HN := Lib.hid (show newStep (newestL (l.take j)) y = newestL (l.take j) from by unfold newStep; rw [hm]; rfl)
        clear hm
        go_wp2_with fail
        go_roundg (gk - 1)
        case measure => omega
        case rel => exact ⟨j + 1, by simp, by omega, H3.out.1, c, t, H3.out.2.1, by rw [HS.out, HN.out]; exact H2.out.2.2.1, H2.out.2.2.2.1, H2.out.2.2.2.2.1⟩
      · rw [mayE_t hm]
        have HMY := Lib.hid hm
        clear hm
        go_wp2_with fail
        refine (kept_i y _).mono ?_
        rintro e9 w3 ⟨rfl, hE4⟩
        have hN3 := (Ext.same hE4 (lt_of_heap H3.out.2.2)).trans H3.out.2.2
        have hc3 := blk_cell hN3
        have hz3 := blk_free hN3
        have H4 := Lib.hid (And.intro (H3.out.1.trans hE4) (And.intro (H3.out.2.1.ext hE4) hN3))
        clear hE4 hN3 hc2 hz2
        go_wp2_with fail
        obtain ⟨w4, hw4⟩ : ∃ w4, w4 = _ := ⟨_, rfl⟩
        have h9 := set9 H4.out.2.2 (.int .i64 (kept y).tr) (.int .i64 (kept y).id) (.int .i64 (kept y).pa) (.int .i64 (kept y).rv) (.string (kept y).sv) (.string (kept y).op) (.int .i64 (kept y).st) (.int .i64 (kept y).du) (.bool (kept y).gone) hw4
        rw [← hw4]
        clear hw4 hc3 hz3
        have hpb : p = wr.heap.size := HP.out
        have hM4 : MapAt Sss w4 b 0 c 99 t := H4.out.2.1.keeps h9.2.keeps (fun hm => by rw [List.mem_singleton] at hm; have := H2.out.2.2.2.2.2.1; omega) (fun x hx hm => by rw [List.mem_singleton] at hm; have := H2.out.2.2.2.2.2.2 x hx; omega)
        have hE5 : Ext w w4 := ⟨Nat.le_trans H4.out.1.size (Nat.le_of_eq h9.2.size.symm), fun i hi _ => (h9.2.same i (fun hm => by rw [List.mem_singleton] at hm; have := HA.out.2.2.2; omega)).trans (Ext.same H4.out.1 hi), (H4.out.1.ost).trans h9.2.ost⟩
        have hc4 := blk_cell h9.1
        have H5 := Lib.hid (And.intro hE5 (And.intro hM4 h9.1))
        clear hpb hM4 hE5 h9
        refine (span_i (kept y) (kept_fits HY.out) _).mono ?_
        rintro e9 w5 ⟨rfl, hE6⟩
        have hN6 := (Ext.same hE6 (lt_of_heap H5.out.2.2)).trans H5.out.2.2
        have hc6 := blk_cell hN6
        have H6 := Lib.hid (And.intro (H5.out.1.trans hE6) (And.intro (H5.out.2.1.ext hE6) hN6))
        clear hE6 hN6 hc4
        go_wp2_with fail
        refine (get_ss (skey (kept y)) t _ b 0 H6.out.2.1.cellR H6.out.2.1.tree).mono ?_
        have hfl : t.find cmpS (skey (kept y)) = findL cmpS (skey y) (newestL (l.take j)) := by
          rw [T.find_toList order_S _ _ (by rw [H2.out.2.2.1]; exact newestL_rises _), H2.out.2.2.1]; rfl
        cases hfd : t.find cmpS (skey (kept y)) with
        | none =>
          have HNS := Lib.hid (show newStep (newestL (l.take j)) y = putL cmpS (skey (kept y)) (kept y) (newestL (l.take j)) from by unfold newStep; rw [HMY.out, if_pos rfl, ← hfl, hfd]; rfl)
          clear hfl hfd
          rintro e9 w6 ⟨rfl, hE7⟩
          have hlt6 : p < w6.heap.size := Nat.lt_of_lt_of_le (lt_of_heap H6.out.2.2) hE7.size
          have hN6 := (Ext.same hE7 (lt_of_heap H6.out.2.2)).trans H6.out.2.2
          have hc66 := blk_cell hN6
          have H66 := Lib.hid (And.intro (H6.out.1.trans hE7) (And.intro (H6.out.2.1.ext hE7) hN6))
          clear hE7 hN6 hc6
          go_wp2_with fail
          obtain ⟨w7, hw7⟩ : ∃ w7, w7 = w6.alloc (.cells #[.int .i64 0, .int .i64 0, .int .i64 0, .int .i64 0, .string ⟨#[]⟩, .string ⟨#[]⟩, .int .i64 0, .int .i64 0, .bool false] 48) := ⟨_, rfl⟩
          have hE8 : Ext w6 w7 := by rw [hw7]; exact (Keeps.refl _ w6).alloc _
          rw [← hw7]
          have hN7 := (Ext.same hE8 (lt_of_heap H66.out.2.2)).trans H66.out.2.2
          have H7 := Lib.hid (And.intro (H66.out.1.trans hE8) (H66.out.2.1.ext hE8))
          clear hw7 hE8 hc66 hlt6
          have hc7 := blk_cell hN7
          clear hN7
          refine wp_drawE (way [0, 2, 1, 3]) (by kernel_rfl) (by kernel_rfl) (fun w8 hh hd hf hS => ?_)
          have H8 := Lib.hid (And.intro (H7.out.1.trans hS) (H7.out.2.ext hS))
          clear hh hd hf
          simp only [way]
          go_wp2_with (first | (refine' hl_q rfl rfl rfl (fun _ => ?_) ?_; rotate_left; (go_simp <;> (try go_bits) <;> rfl); (try simp only [Act.put, List.setIfInBounds_toArray, List.set_cons_zero, List.set_cons_succ])) | (refine' hl_rS rfl rfl rfl hS ?_ ?_; rotate_left; (intro w9 hS9; (first | have hc9 := Ext.cells hS9 | have hc9 := Keeps.cells hS9); (go_simp <;> rfl)); (try simp only [Act.put, List.setIfInBounds_toArray, List.set_cons_zero, List.set_cons_succ])) | (refine' hl_r rfl rfl rfl ?_ ?_; rotate_left; (rintro w9 (rfl | hS9); (go_simp <;> rfl); (first | have hc9 := Ext.cells hS9 | have hc9 := Keeps.cells hS9 | (try dsimp only at hS9)); (go_simp <;> rfl)); (try simp only [Act.put, List.setIfInBounds_toArray, List.set_cons_zero, List.set_cons_succ])) | (refine' hl_s rfl rfl ?_; (try simp only [Act.put, List.setIfInBounds_toArray, List.set_cons_zero, List.set_cons_succ])) | (refine hl_e rfl rfl rfl (fun K hK => ?_)) | (with_reducible refine And.intro (fun hn => ?_) ?_; (first | exact hS | exact Keeps.alloc hS _ | exact absurd hn (by rw [show needS _ _ = false from by kernel_rfl]; exact Bool.false_ne_true))) | (refine hl_done ?_) | gi_step)
          refine callsIn_wide.2 ((span_i (kept y) (kept_fits HY.out) _).mono ?_)
          rintro e9 w9 ⟨rfl, hE9⟩
          have H9 := Lib.hid (And.intro (H8.out.1.trans hE9) (H8.out.2.ext hE9))
          have hS9 := hS.trans hE9
          clear hS hE9
          have hS := hS9
          clear hS9
          go_wp2_with (first | (refine' hl_q rfl rfl rfl (fun _ => ?_) ?_; rotate_left; (go_simp <;> (try go_bits) <;> rfl); (try simp only [Act.put, List.setIfInBounds_toArray, List.set_cons_zero, List.set_cons_succ])) | (refine' hl_rS rfl rfl rfl hS ?_ ?_; rotate_left; (intro w9 hS9; (first | have hc9 := Ext.cells hS9 | have hc9 := Keeps.cells hS9); (go_simp <;> rfl)); (try simp only [Act.put, List.setIfInBounds_toArray, List.set_cons_zero, List.set_cons_succ])) | (refine' hl_r rfl rfl rfl ?_ ?_; rotate_left; (rintro w9 (rfl | hS9); (go_simp <;> rfl); (first | have hc9 := Ext.cells hS9 | have hc9 := Keeps.cells hS9 | (try dsimp only at hS9)); (go_simp <;> rfl)); (try simp only [Act.put, List.setIfInBounds_toArray, List.set_cons_zero, List.set_cons_succ])) | (refine' hl_s rfl rfl ?_; (try simp only [Act.put, List.setIfInBounds_toArray, List.set_cons_zero, List.set_cons_succ])) | (refine hl_e rfl rfl rfl (fun K hK => ?_)) | (with_reducible refine And.intro (fun hn => ?_) ?_; (first | exact hS | exact Keeps.alloc hS _ | exact absurd hn (by rw [show needS _ _ = false from by kernel_rfl]; exact Bool.false_ne_true))) | (refine hl_done ?_) | gi_step)
          refine callsIn_wide.2 ((mput_ss (skey (kept y)) (kept y) H9.out.2 (by have h1 := T.size_toList t; rw [H2.out.2.2.1] at h1; have := newestL_len (l.take j); have := HB.out.2.2.1; rw [List.length_take] at *; omega)).mono ?_)
          rintro e9 w10 ⟨N, hN, rfl, hM10, hK10⟩
          have H10 := Lib.hid (show Ext w w10 ∧ SMap w.heap.size b (newestL (l.take (j + 1))) w10 from
            ⟨⟨Nat.le_trans H9.out.1.size hK10.size, fun i hi _ => (hK10.same i (Nat.lt_of_lt_of_le hi H9.out.1.size) (fun hf => hf.elim (fun e => absurd H2.out.2.2.2.1 (by omega)) (fun hm => absurd (H2.out.2.2.2.2.1 i hm) (by omega)))).trans (Ext.same H9.out.1 hi), (H9.out.1.ost).trans hK10.ost⟩,
             _, _, hM10, by rw [T.put_toList order_S _ _ _ _ (by rw [H2.out.2.2.1]; exact newestL_rises _), H2.out.2.2.1, HS.out]; exact HNS.out.symm, H2.out.2.2.2.1,
             fun x hx => (T.put_blocks _ _ _ _ _ x hx).elim (H2.out.2.2.2.2.1 x) (fun e => by rw [e]; exact Nat.le_trans H9.out.1.size hN)⟩)
          clear hM10 hK10 hN hS
          go_wp2_with (first | (refine' hl_q rfl rfl rfl (fun _ => ?_) ?_; rotate_left; (go_simp <;> (try go_bits) <;> rfl); (try simp only [Act.put, List.setIfInBounds_toArray, List.set_cons_zero, List.set_cons_succ])) | (refine' hl_rS rfl rfl rfl hS ?_ ?_; rotate_left; (intro w9 hS9; (first | have hc9 := Ext.cells hS9 | have hc9 := Keeps.cells hS9); (go_simp <;> rfl)); (try simp only [Act.put, List.setIfInBounds_toArray, List.set_cons_zero, List.set_cons_succ])) | (refine' hl_r rfl rfl rfl ?_ ?_; rotate_left; (rintro w9 (rfl | hS9); (go_simp <;> rfl); (first | have hc9 := Ext.cells hS9 | have hc9 := Keeps.cells hS9 | (try dsimp only at hS9)); (go_simp <;> rfl)); (try simp only [Act.put, List.setIfInBounds_toArray, List.set_cons_zero, List.set_cons_succ])) | (refine' hl_s rfl rfl ?_; (try simp only [Act.put, List.setIfInBounds_toArray, List.set_cons_zero, List.set_cons_succ])) | (refine hl_e rfl rfl rfl (fun K hK => ?_)) | (with_reducible refine And.intro (fun hn => ?_) ?_; (first | exact hS | exact Keeps.alloc hS _ | exact absurd hn (by rw [show needS _ _ = false from by kernel_rfl]; exact Bool.false_ne_true))) | (refine hl_done ?_) | gi_step)
          go_roundg (gk - 1)
          case measure => omega
          case rel => exact ⟨j + 1, by simp, by omega, H10.out⟩
        | some old =>
          rintro e9 w6 ⟨rfl, hE7⟩
          have hlt6 : p < w6.heap.size := Nat.lt_of_lt_of_le (lt_of_heap H6.out.2.2) hE7.size
          have hN6 := (Ext.same hE7 (lt_of_heap H6.out.2.2)).trans H6.out.2.2
          have hc66 := blk_cell hN6
          have H66 := Lib.hid (And.intro (H6.out.1.trans hE7) (And.intro (H6.out.2.1.ext hE7) hN6))
          clear hE7 hN6 hc6
          have HFO := Lib.hid (show old.Fits from by
            obtain ⟨q, hq, e⟩ := findL_mem _ (hfl.symm.trans hfd)
            rw [← e]; exact newestL_all (p := Spn.Fits) (l.take j) (fun x hx _ => kept_fits (HB.out.2.2.2 x (List.mem_of_mem_take hx))) q hq)
          have HFD := Lib.hid (hfl.symm.trans hfd)
          clear hfl hfd
          go_wp2_with fail
          obtain ⟨w7, hw7⟩ : ∃ w7, w7 = w6.alloc (.cells (spnC old) 48) := ⟨_, rfl⟩
          have hE8 : Ext w6 w7 := by rw [hw7]; exact (Keeps.refl _ w6).alloc _
          rw [← hw7]
          have HE8 := Lib.hid hE8
          clear hw7 hE8 hc66 hlt6
          refine (newer_i (kept y) old (kept_fits HY.out) HFO.out _).mono ?_
          rintro e9 wn ⟨rfl, hEn⟩
          have hEn6 := HE8.out.trans hEn
          have hN7 := (Ext.same hEn6 (lt_of_heap H66.out.2.2)).trans H66.out.2.2
          have H7 := Lib.hid (And.intro (H66.out.1.trans hEn6) (H66.out.2.1.ext hEn6))
          clear hEn hEn6
          cases hnw : newer (kept y) old
          · have HNS := Lib.hid (show newStep (newestL (l.take j)) y = newestL (l.take j) from by
              unfold newStep; rw [HMY.out, if_pos rfl, HFD.out]; show (if newer (kept y) old = true then _ else _) = _; rw [hnw]; rfl)
            clear hnw hN7
            go_wp2_with fail
            go_roundg (gk - 1)
            case measure => omega
            case rel => exact ⟨j + 1, by simp, by omega, H7.out.1, c, t, H7.out.2, by rw [HS.out, HNS.out]; exact H2.out.2.2.1, H2.out.2.2.2.1, H2.out.2.2.2.2.1⟩
          · have HNS := Lib.hid (show newStep (newestL (l.take j)) y = putL cmpS (skey (kept y)) (kept y) (newestL (l.take j)) from by
              unfold newStep; rw [HMY.out, if_pos rfl, HFD.out]; show (if newer (kept y) old = true then _ else _) = _; rw [hnw]; rfl)
            clear hnw
            have hc77 := blk_cell hN7
            go_wp2_with fail
            clear hc77
            have hc7 := blk_cell hN7
            clear hN7
            refine wp_drawE (way [0, 2, 1, 3]) (by kernel_rfl) (by kernel_rfl) (fun w8 hh hd hf hS => ?_)
            have H8 := Lib.hid (And.intro (H7.out.1.trans hS) (H7.out.2.ext hS))
            clear hh hd hf
            simp only [way]
            go_wp2_with (first | (refine' hl_q rfl rfl rfl (fun _ => ?_) ?_; rotate_left; (go_simp <;> (try go_bits) <;> rfl); (try simp only [Act.put, List.setIfInBounds_toArray, List.set_cons_zero, List.set_cons_succ])) | (refine' hl_rS rfl rfl rfl hS ?_ ?_; rotate_left; (intro w9 hS9; (first | have hc9 := Ext.cells hS9 | have hc9 := Keeps.cells hS9); (go_simp <;> rfl)); (try simp only [Act.put, List.setIfInBounds_toArray, List.set_cons_zero, List.set_cons_succ])) | (refine' hl_r rfl rfl rfl ?_ ?_; rotate_left; (rintro w9 (rfl | hS9); (go_simp <;> rfl); (first | have hc9 := Ext.cells hS9 | have hc9 := Keeps.cells hS9 | (try dsimp only at hS9)); (go_simp <;> rfl)); (try simp only [Act.put, List.setIfInBounds_toArray, List.set_cons_zero, List.set_cons_succ])) | (refine' hl_s rfl rfl ?_; (try simp only [Act.put, List.setIfInBounds_toArray, List.set_cons_zero, List.set_cons_succ])) | (refine hl_e rfl rfl rfl (fun K hK => ?_)) | (with_reducible refine And.intro (fun hn => ?_) ?_; (first | exact hS | exact Keeps.alloc hS _ | exact absurd hn (by rw [show needS _ _ = false from by kernel_rfl]; exact Bool.false_ne_true))) | (refine hl_done ?_) | gi_step)
            refine callsIn_wide.2 ((span_i (kept y) (kept_fits HY.out) _).mono ?_)
            rintro e9 w9 ⟨rfl, hE9⟩
            have H9 := Lib.hid (And.intro (H8.out.1.trans hE9) (H8.out.2.ext hE9))
            have hS9 := hS.trans hE9
            clear hS hE9
            have hS := hS9
            clear hS9
            go_wp2_with (first | (refine' hl_q rfl rfl rfl (fun _ => ?_) ?_; rotate_left; (go_simp <;> (try go_bits) <;> rfl); (try simp only [Act.put, List.setIfInBounds_toArray, List.set_cons_zero, List.set_cons_succ])) | (refine' hl_rS rfl rfl rfl hS ?_ ?_; rotate_left; (intro w9 hS9; (first | have hc9 := Ext.cells hS9 | have hc9 := Keeps.cells hS9); (go_simp <;> rfl)); (try simp only [Act.put, List.setIfInBounds_toArray, List.set_cons_zero, List.set_cons_succ])) | (refine' hl_r rfl rfl rfl ?_ ?_; rotate_left; (rintro w9 (rfl | hS9); (go_simp <;> rfl); (first | have hc9 := Ext.cells hS9 | have hc9 := Keeps.cells hS9 | (try dsimp only at hS9)); (go_simp <;> rfl)); (try simp only [Act.put, List.setIfInBounds_toArray, List.set_cons_zero, List.set_cons_succ])) | (refine' hl_s rfl rfl ?_; (try simp only [Act.put, List.setIfInBounds_toArray, List.set_cons_zero, List.set_cons_succ])) | (refine hl_e rfl rfl rfl (fun K hK => ?_)) | (with_reducible refine And.intro (fun hn => ?_) ?_; (first | exact hS | exact Keeps.alloc hS _ | exact absurd hn (by rw [show needS _ _ = false from by kernel_rfl]; exact Bool.false_ne_true))) | (refine hl_done ?_) | gi_step)
            refine callsIn_wide.2 ((mput_ss (skey (kept y)) (kept y) H9.out.2 (by have h1 := T.size_toList t; rw [H2.out.2.2.1] at h1; have := newestL_len (l.take j); have := HB.out.2.2.1; rw [List.length_take] at *; omega)).mono ?_)
            rintro e9 w10 ⟨N, hN, rfl, hM10, hK10⟩
            have H10 := Lib.hid (show Ext w w10 ∧ SMap w.heap.size b (newestL (l.take (j + 1))) w10 from
              ⟨⟨Nat.le_trans H9.out.1.size hK10.size, fun i hi _ => (hK10.same i (Nat.lt_of_lt_of_le hi H9.out.1.size) (fun hf => hf.elim (fun e => absurd H2.out.2.2.2.1 (by omega)) (fun hm => absurd (H2.out.2.2.2.2.1 i hm) (by omega)))).trans (Ext.same H9.out.1 hi), (H9.out.1.ost).trans hK10.ost⟩,
               _, _, hM10, by rw [T.put_toList order_S _ _ _ _ (by rw [H2.out.2.2.1]; exact newestL_rises _), H2.out.2.2.1, HS.out]; exact HNS.out.symm, H2.out.2.2.2.1,
               fun x hx => (T.put_blocks _ _ _ _ _ x hx).elim (H2.out.2.2.2.2.1 x) (fun e => by rw [e]; exact Nat.le_trans H9.out.1.size hN)⟩)
            clear hM10 hK10 hN hS
            go_wp2_with (first | (refine' hl_q rfl rfl rfl (fun _ => ?_) ?_; rotate_left; (go_simp <;> (try go_bits) <;> rfl); (try simp only [Act.put, List.setIfInBounds_toArray, List.set_cons_zero, List.set_cons_succ])) | (refine' hl_rS rfl rfl rfl hS ?_ ?_; rotate_left; (intro w9 hS9; (first | have hc9 := Ext.cells hS9 | have hc9 := Keeps.cells hS9); (go_simp <;> rfl)); (try simp only [Act.put, List.setIfInBounds_toArray, List.set_cons_zero, List.set_cons_succ])) | (refine' hl_r rfl rfl rfl ?_ ?_; rotate_left; (rintro w9 (rfl | hS9); (go_simp <;> rfl); (first | have hc9 := Ext.cells hS9 | have hc9 := Keeps.cells hS9 | (try dsimp only at hS9)); (go_simp <;> rfl)); (try simp only [Act.put, List.setIfInBounds_toArray, List.set_cons_zero, List.set_cons_succ])) | (refine' hl_s rfl rfl ?_; (try simp only [Act.put, List.setIfInBounds_toArray, List.set_cons_zero, List.set_cons_succ])) | (refine hl_e rfl rfl rfl (fun K hK => ?_)) | (with_reducible refine And.intro (fun hn => ?_) ?_; (first | exact hS | exact Keeps.alloc hS _ | exact absurd hn (by rw [show needS _ _ = false from by kernel_rfl]; exact Bool.false_ne_true))) | (refine hl_done ?_) | gi_step)
            go_roundg (gk - 1)
            case measure => omega
            case rel => exact ⟨j + 1, by simp, by omega, H10.out⟩
    · have : j = l.length := by rw [← HNL.out]; omega
      have HF := Lib.hid (show NewPost l w (.returned (.pointer (some ⟨b, 0, none⟩))) wr from ⟨b, rfl, ⟨c, t, hM, by rw [this, List.take_length] at htl; exact htl, hbB, hblk⟩, hE2⟩)
      clear hE2 hM htl hbB hblk
      go_wp2_with fail
      go_ret
      exact HF.out
end Go.Proofs.YtdonmmjikcbihaaGreatDoor
