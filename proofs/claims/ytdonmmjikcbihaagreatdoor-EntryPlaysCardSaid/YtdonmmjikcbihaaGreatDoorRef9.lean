/- The document's answers for code: which records may be; few records. -/
import Derived.Test.YtdonmmjikcbihaaGreatDoorEks
namespace Go.Proofs.YtdonmmjikcbihaaGreatDoor
open Go.RowKit Go.Proofs Go.Vc
attribute [local irreducible] Calls CallsIn Code.wp Code.wpIn
theorem bget (s : ByteArray) (j : Nat) (h : j < s.size) : s[j] = s.data.toList.getD j 0 := by
  have hl : j < s.data.toList.length := by rw [Array.length_toList]; exact h
  rw [getD_of hl, Array.getElem_toList]; rfl
set_option maxRecDepth 20000 in
theorem rname_i (s : ByteArray) (hs : s.size ≤ 1000000) (w : World) : Calls Tryz.prog 69 #[.string s] w fun e w' => e = .returned (.bool (named s)) ∧ w' = w := by
  have h0 : (0 : Int) ≤ s.size := by omega
  go_enter Tryz.func69, Tryz.ntmps69
  go_wp2_with fail
  go_loopg [3] s.size (fun k p8 wr => ∃ j : Nat, p8 = .int .i64 j ∧ j + k = s.size ∧ (∀ i, i < j → nameByte (s.data.toList.getD i 0) = true) ∧ wr = w)
  case atStart => exact ⟨0, rfl, Nat.zero_add _, fun i hi => absurd hi (Nat.not_lt_zero _), rfl⟩
  case round =>
    obtain ⟨j, rfl, hj, hall, rfl⟩ := hrel
    have HA := Lib.hid hall
    clear hall
    by_cases hjs : j < s.size
    · have hjs' : (j : Int) < s.size := by omega
      have HB := Lib.hid (bget s j hjs)
      go_wp2_with fail
      · rename_i h1 h2
        go_ret
        exact ⟨by rw [named_bad s j hjs (by rw [← HB.out, nameByte, decide_eq_false (p := s[j].toNat ≤ 126) (by omega), Bool.and_false])]; rfl, rfl⟩
      · rename_i h1 h2
        go_roundg (gk - 1)
        case measure => omega
        case rel =>
          refine ⟨j + 1, by simp, by omega, fun i hi => ?_, rfl⟩
          by_cases hij : i = j
          · subst hij; rw [← HB.out, nameByte, decide_eq_true (by omega), decide_eq_true (by omega)]; rfl
          · exact HA.out i (by omega)
      · rename_i h1
        go_ret
        exact ⟨by rw [named_bad s j hjs (by rw [← HB.out, nameByte, decide_eq_false (by omega)]; rfl)]; rfl, rfl⟩
    · have hjs' : ¬ (j : Int) < s.size := by omega
      have hall : s.data.toList.all nameByte = true := named_all s fun i hi => HA.out i (by omega)
      have hnm : named s = (!(s.size == 0) && decide (s.size ≤ 24)) := by unfold named; rw [hall, Bool.true_and]
      have HN := Lib.hid hnm
      clear hall hnm
      go_wp2_with fail
      · go_ret
        have e : (!(s.size == 0) && decide (s.size ≤ 24)) = decide ((s.size : Int) ≤ 24) := by
          have : (s.size == 0) = false := by rw [beq_eq_false_iff_ne]; omega
          rw [this, Bool.not_false, Bool.true_and]
          exact decide_eq_decide.2 (by omega)
        exact ⟨by rw [HN.out, e]; rfl, rfl⟩
      · go_ret
        have e : (!(s.size == 0) && decide (s.size ≤ 24)) = false := by
          have : s.size = 0 := by omega
          rw [this]; rfl
        exact ⟨by rw [HN.out, e]; rfl, rfl⟩
set_option maxRecDepth 20000 in
theorem rmay_i (x : Spn) (hx : x.Fits) (hs : x.sv.size ≤ 1000000) (ho : x.op.size ≤ 1000000) (w : World) : Calls Tryz.prog 46 #[spnV x] w fun e w' => e = .returned (.int .i64 (mayE x)) ∧ Ext w w' := by
  obtain ⟨wa, hwa⟩ : ∃ wa, wa = w.alloc (.cells (spnC x) 48) := ⟨_, rfl⟩
  have hE : Ext w wa := by rw [hwa]; exact (Keeps.refl _ w).alloc _
  have hN : wa.heap[w.heap.size]? = some (.cells (spnC x) 48 (0, 0)) := by rw [hwa]; exact World.alloc_heap_new w _
  obtain ⟨b, hb⟩ : ∃ b, b = w.heap.size := ⟨_, rfl⟩
  rw [← hb] at hN
  have hc := blk_cell hN
  have HE := Lib.hid hE
  clear hx hE hN
  by_cases h1 : (0 < x.tr ∧ 0 < x.id) ∧ (0 ≤ x.pa ∧ 0 ≤ x.rv)
  · have hm : may x = (named x.sv && (named x.op && (decide (-4611686018427387904 ≤ x.st) && decide (x.st ≤ 4611686018427387903)))) := by
      unfold may; rw [decide_eq_true h1.1.1, decide_eq_true h1.1.2, decide_eq_true h1.2.1, decide_eq_true h1.2.2]; simp only [Bool.true_and, Bool.and_assoc]
    have HM := Lib.hid hm
    clear hm
    obtain ⟨⟨h11, h12⟩, h13, h14⟩ := h1
    go_enter Tryz.func46, Tryz.ntmps46
    go_wp2_with fail
    rw [← hwa, ← hb]
    clear hwa hb
    refine (rname_i x.sv hs _).mono ?_
    rintro e9 w2 ⟨rfl, rfl⟩
    cases hn1 : named x.sv
    · rw [hn1] at HM
      clear hn1
      go_wp2_with fail
      go_ret
      exact ⟨by rw [mayE_f HM.out]; rfl, HE.out⟩
    · rw [hn1] at HM
      clear hn1
      go_wp2_with fail
      refine (rname_i x.op ho _).mono ?_
      rintro e9 w3 ⟨rfl, rfl⟩
      cases hn2 : named x.op
      · rw [hn2] at HM
        clear hn2
        go_wp2_with fail
        go_ret
        exact ⟨by rw [mayE_f HM.out]; rfl, HE.out⟩
      · rw [hn2] at HM
        clear hn2
        by_cases h5 : -4611686018427387904 ≤ x.st
        · by_cases h6 : x.st ≤ 4611686018427387903
          · have HM1 := Lib.hid (mayE_t (x := x) (by rw [HM.out, decide_eq_true h5, decide_eq_true h6]; rfl))
            have h6' : x.st < 4611686018427387904 := by omega
            go_wp2_with fail
            go_ret
            exact ⟨by rw [HM1.out]; rfl, HE.out⟩
          · have HM1 := Lib.hid (mayE_f (x := x) (by rw [HM.out, decide_eq_false h6, Bool.and_false]; rfl))
            have h6' : ¬ x.st < 4611686018427387904 := by omega
            go_wp2_with fail
            go_ret
            exact ⟨by rw [HM1.out]; rfl, HE.out⟩
        · have HM1 := Lib.hid (mayE_f (x := x) (by rw [HM.out, decide_eq_false h5]; rfl))
          have h5' : x.st < -4611686018427387904 := by omega
          go_wp2_with fail
          go_ret
          exact ⟨by rw [HM1.out]; rfl, HE.out⟩
  · have hm : may x = false := by unfold may; simp only [Bool.and_eq_false_iff, decide_eq_false_iff_not]; omega
    have HM := Lib.hid (mayE_f hm)
    clear hm hc
    go_enter Tryz.func46, Tryz.ntmps46
    go_wp2_with fail
    all_goals (go_ret; exact ⟨by rw [HM.out]; rfl, (Keeps.refl _ w).alloc _⟩)
/-- has a record short names? -/
def short (x : Spn) : Bool := decide (x.sv.size ≤ 100) && decide (x.op.size ≤ 100)
theorem short_i (x : Spn) (w : World) : Calls Tryz.prog 30 #[spnV x] w fun e w' => e = .returned (.bool (short x)) ∧ Ext w w' := by
  have HE := Lib.hid (show Ext w (w.alloc (.cells (spnC x) 48)) from (Keeps.refl _ w).alloc _)
  by_cases h1 : (x.sv.size : Int) ≤ 100
  · by_cases h2 : (x.op.size : Int) ≤ 100
    · have HS := Lib.hid (show short x = true from by unfold short; rw [decide_eq_true (by omega), decide_eq_true (by omega)]; rfl)
      go_enter Tryz.func30, Tryz.ntmps30
      go_wp2_with fail
      go_ret
      exact ⟨by rw [HS.out]; rfl, HE.out⟩
    · have HS := Lib.hid (show short x = false from by unfold short; rw [decide_eq_false (p := x.op.size ≤ 100) (by omega), Bool.and_false])
      have h2' : 100 < (x.op.size : Int) := by omega
      go_enter Tryz.func30, Tryz.ntmps30
      go_wp2_with fail
      go_ret
      exact ⟨by rw [HS.out]; rfl, HE.out⟩
  · have HS := Lib.hid (show short x = false from by unfold short; rw [decide_eq_false (p := x.sv.size ≤ 100) (by omega), Bool.false_and])
    have h1' : 100 < (x.sv.size : Int) := by omega
    go_enter Tryz.func30, Tryz.ntmps30
    go_wp2_with fail
    go_ret
    exact ⟨by rw [HS.out]; rfl, HE.out⟩
/-- few records, with short names -/
def fewL (l : List Spn) (most : Nat) : Bool := (l.take most).all short && decide (l.length ≤ most)
set_option maxRecDepth 20000 in
theorem few_i (v : Value) (l : List Spn) (most : Nat) (hm : most ≤ 1000) (w : World) (h : SpnsAt w v l) : Calls Tryz.prog 14 #[v, .int .i64 most] w fun e w' => e = .returned (.bool (fewL l most)) ∧ Ext w w' := by
  have h' := h
  obtain ⟨a, cap, rfl, hn, h0, hju⟩ := h'
  obtain ⟨n, hnl⟩ : ∃ n, n = l.length := ⟨_, rfl⟩
  rw [← hnl] at h hn ⊢
  have HS := Lib.hid (show ∀ wr, Ext w wr → SpnsAt wr (.slice a n cap) l from fun wr k => h.ext k)
  have HNL := Lib.hid hnl
  clear h h0 hju hnl
  go_enter Tryz.func14, Tryz.ntmps14
  go_wp2_with fail
  go_loopg [5] n (fun k p wr => ∃ j : Nat, p = .int .i64 j ∧ j + k = n ∧ j ≤ most ∧ Ext w wr ∧ (l.take j).all short = true)
  case atStart => exact ⟨0, rfl, Nat.zero_add _, Nat.zero_le _, Keeps.refl _ _, rfl⟩
  case round =>
    obtain ⟨j, rfl, hj, hjm, hE, hall⟩ := hrel
    have HA := Lib.hid (And.intro hall hE)
    clear hall
    by_cases hc : (j : Int) < n ∧ (j : Int) < most
    · obtain ⟨hc1, hc2⟩ := hc
      have hjl : j < l.length := by rw [← HNL.out]; omega
      obtain ⟨g, o, rfl, hc9⟩ := (HS.out wr hE).at hjl
      have hy := hc9 j hjl
      obtain ⟨y, hyl⟩ : ∃ y, y = l[j] := ⟨_, rfl⟩
      rw [← hyl] at hy
      unfold C9 at hy
      have htk : l.take (j + 1) = l.take j ++ [y] := by rw [hyl]; exact (List.take_append_getElem hjl).symm
      have hym : y ∈ l.take most := by
        rw [hyl, List.mem_take_iff_getElem]
        exact ⟨j, by omega, rfl⟩
      have HT := Lib.hid (And.intro htk hym)
      clear hc9 hyl htk hym hE
      go_wp2_with fail
      refine (short_i y _).mono ?_
      rintro e9 w2 ⟨rfl, hE2⟩
      have HE2 := Lib.hid (HA.out.2.trans hE2)
      clear hE2 hy
      cases hs : short y
      · have HF := Lib.hid (show fewL l most = false from by
          unfold fewL
          have : (l.take most).all short = false := by rw [List.all_eq_false]; exact ⟨y, HT.out.2, by rw [hs]; simp⟩
          rw [this]; rfl)
        go_wp2_with fail
        go_ret
        exact ⟨by rw [HF.out]; rfl, HE2.out⟩
      · have HF := Lib.hid (show (l.take (j + 1)).all short = true from by rw [HT.out.1, List.all_append, HA.out.1]; simp [hs])
        go_wp2_with fail
        go_roundg (gk - 1)
        case measure => omega
        case rel => exact ⟨j + 1, by simp, by omega, by omega, HE2.out, HF.out⟩
    · have HF := Lib.hid (show fewL l most = decide (n ≤ most) from by
        have hj2 : (l.take most).all short = true := by
          by_cases h : (j : Int) < n
          · have : j = most := by omega
            rw [← this]; exact HA.out.1
          · have : j = l.length := by rw [← HNL.out]; omega
            have h2 := HA.out.1
            rw [this, List.take_length] at h2
            rw [List.all_eq_true] at h2 ⊢
            exact fun x hx => h2 x (List.mem_of_mem_take hx)
        unfold fewL
        rw [hj2, Bool.true_and]
        rw [← HNL.out])
      have HE := Lib.hid hE
      clear hE
      by_cases h1 : (j : Int) < n
      · have h2 : ¬ (j : Int) < most := by omega
        go_wp2_with fail
        go_ret
        exact ⟨by rw [HF.out]; rfl, HE.out⟩
      · go_wp2_with fail
        go_ret
        exact ⟨by rw [HF.out]; rfl, HE.out⟩
theorem dfew_i (vo vi : Value) (lo li : List Spn) (w : World) (ho : SpnsAt w vo lo) (hi : SpnsAt w vi li) : Calls Tryz.prog 8 #[.agg #[vo, vi]] w fun e w' => e = .returned (.bool (fewL lo 12 && fewL li 12)) ∧ Ext w w' := by
  obtain ⟨wa, hwa⟩ : ∃ wa, wa = w.alloc (.cells #[vo, vi] 36) := ⟨_, rfl⟩
  have hE : Ext w wa := by rw [hwa]; exact (Keeps.refl _ w).alloc _
  have hN : wa.heap[w.heap.size]? = some (.cells #[vo, vi] 36 (0, 0)) := by rw [hwa]; exact World.alloc_heap_new w _
  obtain ⟨b, hb⟩ : ∃ b, b = w.heap.size := ⟨_, rfl⟩
  rw [← hb] at hN
  have hc := blk_cell hN
  have H := Lib.hid (And.intro (ho.ext hE) (And.intro (hi.ext hE) (And.intro hE hN)))
  clear ho hi hE hN
  go_enter Tryz.func8, Tryz.ntmps8
  go_wp2_with fail
  rw [← hwa, ← hb]
  clear hwa hb
  refine (few_i vo lo 12 (by decide) _ H.out.1).mono ?_
  rintro e9 w1 ⟨rfl, hE1⟩
  have hc1 := blk_cell ((Ext.same hE1 (lt_of_heap H.out.2.2.2)).trans H.out.2.2.2)
  have HE1 := Lib.hid hE1
  clear hE1 hc
  cases hf : fewL lo 12
  · go_wp2_with fail
    go_ret
    exact ⟨by rw [hf]; rfl, H.out.2.2.1.trans HE1.out⟩
  · have HF := Lib.hid hf
    clear hf
    go_wp2_with fail
    refine (few_i vi li 12 (by decide) _ (H.out.2.1.ext HE1.out)).mono ?_
    rintro e9 w2 ⟨rfl, hE2⟩
    have HE2 := Lib.hid hE2
    clear hE2
    go_wp2_with fail
    go_ret
    exact ⟨by rw [HF.out]; rfl, (H.out.2.2.1.trans HE1.out).trans HE2.out⟩
theorem _root_.Go.Vc.Ek.Reads.at {P : Program} {α : Type} {E : Ek P α} {w : World} {a : Option Addr} {n cap : Nat} {l : List α} (h : E.Reads w (.slice a n cap) l) {j : Nat} (hj : j < l.length) :
    ∃ g o, a = some ⟨g, o, none⟩ ∧ ∀ i (hi : i < l.length) k, k < E.size → w.cell? ⟨g, o + (i * E.size + k), none⟩ = (E.enc l[i])[k]? := by
  have h' := h
  obtain ⟨a1, cap1, e1, _, h0, hc⟩ := h'
  injection e1 with e1 _ _
  subst e1
  cases a with
  | none => rw [h0 rfl] at hj; exact absurd hj (Nat.not_lt_zero _)
  | some ad =>
    obtain ⟨g, o, s⟩ := ad
    obtain rfl := (hc g o s rfl).1 (ne_nil_of_lt hj)
    exact ⟨g, o, rfl, fun i hi k hk => h.elem E i k hi hk⟩
set_option maxRecDepth 20000 in
theorem sameints_i (v u : Value) (l m : List Int) (w : World) (hv : intE.Reads w v l) (hu : intE.Reads w u m) : Calls Tryz.prog 21 #[v, u] w fun e w' => e = .returned (.bool (decide (l = m))) ∧ Ext w w' := by
  have hv' := hv
  have hu' := hu
  obtain ⟨a, cap, rfl, hn, _, hju⟩ := hv'
  obtain ⟨a2, cap2, rfl, hn2, _, hju2⟩ := hu'
  obtain ⟨n, hnl⟩ : ∃ n, n = l.length := ⟨_, rfl⟩
  obtain ⟨n2, hnl2⟩ : ∃ n, n = m.length := ⟨_, rfl⟩
  rw [← hnl] at hv hn ⊢
  rw [← hnl2] at hu hn2 ⊢
  have HS := Lib.hid (And.intro (show ∀ wr, Ext w wr → intE.Reads wr (.slice a n cap) l from fun wr k => hv.ext intE k) (show ∀ wr, Ext w wr → intE.Reads wr (.slice a2 n2 cap2) m from fun wr k => hu.ext intE k))
  have HNL := Lib.hid (And.intro hnl hnl2)
  clear hv hu hju hju2 hnl hnl2
  by_cases hlen : n = n2
  · subst hlen
    go_enter Tryz.func21, Tryz.ntmps21
    go_wp2_with fail
    go_loopg [5] n (fun k p wr => ∃ j : Nat, p = .int .i64 j ∧ j + k = n ∧ Ext w wr ∧ l.take j = m.take j)
    case atStart => exact ⟨0, rfl, Nat.zero_add _, Keeps.refl _ _, rfl⟩
    case round =>
      obtain ⟨j, rfl, hj, hE, hall⟩ := hrel
      by_cases hjn : (j : Int) < n
      · have hjl : j < l.length := by rw [← HNL.out.1]; omega
        have hjm : j < m.length := by rw [← HNL.out.2]; omega
        obtain ⟨g, o, rfl, hc⟩ := (HS.out.1 wr hE).at hjl
        obtain ⟨g2, o2, rfl, hc2⟩ := (HS.out.2 wr hE).at hjm
        obtain ⟨y, hyl⟩ : ∃ y, y = l[j] := ⟨_, rfl⟩
        obtain ⟨z, hzl⟩ : ∃ z, z = m[j] := ⟨_, rfl⟩
        have hy : wr.cell? ⟨g, o + j, none⟩ = some (.int .i64 y) := by have := hc j hjl 0 (by decide); rw [← hyl] at this; simpa [intE] using this
        have hz : wr.cell? ⟨g2, o2 + j, none⟩ = some (.int .i64 z) := by have := hc2 j hjm 0 (by decide); rw [← hzl] at this; simpa [intE] using this
        have HE := Lib.hid (And.intro hE (And.intro hall (And.intro hyl hzl)))
        clear hE hall hyl hzl hc hc2
        by_cases hyz : y = z
        · have hb : (y == z) = true := by rw [hyz]; simp
          have HYZ := Lib.hid hyz
          clear hyz
          go_wp2_with fail
          refine wp_drawE (way [0, 1, 2, 3, 4, 5, 6, 7, 8]) (by kernel_rfl) (by kernel_rfl) (fun w1 hh hd hf hS => ?_)
          have HE1 := Lib.hid (HE.out.1.trans hS)
          simp only [way]
          go_wp2_with (first | (refine' hl_q rfl rfl rfl (fun _ => ?_) ?_; rotate_left; (go_simp <;> (try go_bits) <;> rfl); (try simp only [Act.put, List.setIfInBounds_toArray, List.set_cons_zero, List.set_cons_succ])) | (refine' hl_rS rfl rfl rfl hS ?_ ?_; rotate_left; (intro w9 hS9; (first | have hc9 := Ext.cells hS9 | have hc9 := Keeps.cells hS9); (go_simp <;> rfl)); (try simp only [Act.put, List.setIfInBounds_toArray, List.set_cons_zero, List.set_cons_succ])) | (refine' hl_r rfl rfl rfl ?_ ?_; rotate_left; (rintro w9 (rfl | hS9); (go_simp <;> rfl); (first | have hc9 := Ext.cells hS9 | have hc9 := Keeps.cells hS9 | (try dsimp only at hS9)); (go_simp <;> rfl)); (try simp only [Act.put, List.setIfInBounds_toArray, List.set_cons_zero, List.set_cons_succ])) | (refine' hl_s rfl rfl ?_; (try simp only [Act.put, List.setIfInBounds_toArray, List.set_cons_zero, List.set_cons_succ])) | (refine hl_e rfl rfl rfl (fun K hK => ?_)) | (with_reducible refine And.intro (fun hn => ?_) ?_; (first | exact hS | exact Keeps.alloc hS _ | exact absurd hn (by rw [show needS _ _ = false from by kernel_rfl]; exact Bool.false_ne_true))) | (refine hl_done ?_) | gi_step)
          go_roundg (gk - 1)
          case measure => omega
          case rel => exact ⟨j + 1, by simp, by omega, HE1.out, by rw [← List.take_append_getElem hjl, ← List.take_append_getElem hjm, HE.out.2.1, ← HE.out.2.2.1, ← HE.out.2.2.2, HYZ.out]⟩
        · have hb : (y == z) = false := by simpa using hyz
          have HYZ := Lib.hid hyz
          clear hyz
          go_wp2_with fail
          refine wp_drawE (way [0, 1, 2, 3, 4, 5, 6, 7, 8]) (by kernel_rfl) (by kernel_rfl) (fun w1 hh hd hf hS => ?_)
          have HE1 := Lib.hid (HE.out.1.trans hS)
          simp only [way]
          go_wp2_with (first | (refine' hl_q rfl rfl rfl (fun _ => ?_) ?_; rotate_left; (go_simp <;> (try go_bits) <;> rfl); (try simp only [Act.put, List.setIfInBounds_toArray, List.set_cons_zero, List.set_cons_succ])) | (refine' hl_rS rfl rfl rfl hS ?_ ?_; rotate_left; (intro w9 hS9; (first | have hc9 := Ext.cells hS9 | have hc9 := Keeps.cells hS9); (go_simp <;> rfl)); (try simp only [Act.put, List.setIfInBounds_toArray, List.set_cons_zero, List.set_cons_succ])) | (refine' hl_r rfl rfl rfl ?_ ?_; rotate_left; (rintro w9 (rfl | hS9); (go_simp <;> rfl); (first | have hc9 := Ext.cells hS9 | have hc9 := Keeps.cells hS9 | (try dsimp only at hS9)); (go_simp <;> rfl)); (try simp only [Act.put, List.setIfInBounds_toArray, List.set_cons_zero, List.set_cons_succ])) | (refine' hl_s rfl rfl ?_; (try simp only [Act.put, List.setIfInBounds_toArray, List.set_cons_zero, List.set_cons_succ])) | (refine hl_e rfl rfl rfl (fun K hK => ?_)) | (with_reducible refine And.intro (fun hn => ?_) ?_; (first | exact hS | exact Keeps.alloc hS _ | exact absurd hn (by rw [show needS _ _ = false from by kernel_rfl]; exact Bool.false_ne_true))) | (refine hl_done ?_) | gi_step)
          go_ret
          have e : decide (l = m) = false := by
            rw [decide_eq_false_iff_not]
            rintro rfl
            exact HYZ.out (HE.out.2.2.1.trans HE.out.2.2.2.symm)
          exact ⟨by rw [e]; rfl, HE1.out⟩
      · have HE := Lib.hid (And.intro hE hall)
        clear hE hall
        go_wp2_with fail
        go_ret
        have e : decide (l = m) = true := by
          rw [decide_eq_true_iff]
          have h := HE.out.2
          have e1 : j = l.length := by rw [← HNL.out.1]; omega
          have e2 : j = m.length := by rw [← HNL.out.2]; omega
          conv at h => lhs; rw [e1]
          conv at h => rhs; rw [e2]
          rw [List.take_length, List.take_length] at h; exact h
        exact ⟨by rw [e]; rfl, HE.out.1⟩
  · have hne : ((n : Int) == n2) = false := by rw [beq_eq_false_iff_ne]; omega
    have HL := Lib.hid hlen
    clear hlen
    go_enter Tryz.func21, Tryz.ntmps21
    go_wp2_with fail
    all_goals try (exfalso; have := HL.out; omega)
    go_ret
    have e : decide (l = m) = false := by
      rw [decide_eq_false_iff_not]
      rintro rfl
      exact HL.out (HNL.out.1.trans HNL.out.2.symm)
    exact ⟨by rw [e]; rfl, Keeps.refl _ _⟩
end Go.Proofs.YtdonmmjikcbihaaGreatDoor
