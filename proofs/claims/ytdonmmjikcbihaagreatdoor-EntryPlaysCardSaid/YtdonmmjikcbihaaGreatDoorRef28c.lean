/- The document's answers for entry: Traces. -/
import Derived.Test.YtdonmmjikcbihaaGreatDoorRef28b
namespace Go.Proofs.YtdonmmjikcbihaaGreatDoor
open Go.RowKit Go.Proofs Go.Vc
attribute [local irreducible] Calls CallsIn Code.wp Code.wpIn
theorem trIns_end (t : Int) : ∀ a : List Int, (∀ x ∈ a, x < t) → trIns t a = a ++ [t]
  | [], _ => rfl
  | x :: a, h => by
    rw [trIns, if_pos (h x (List.mem_cons_self ..)), trIns_end t a fun y hy => h y (List.mem_cons_of_mem _ hy)]; rfl
theorem trIns_same (t : Int) (r : List Int) : ∀ a : List Int, (∀ x ∈ a, x < t) → trIns t (a ++ t :: r) = a ++ t :: r
  | [], _ => by rw [List.nil_append, trIns, if_neg (Int.lt_irrefl _), if_pos rfl]
  | x :: a, h => by
    rw [List.cons_append, trIns, if_pos (h x (List.mem_cons_self ..)), trIns_same t r a fun y hy => h y (List.mem_cons_of_mem _ hy)]
theorem trIns_mid (t y : Int) (r : List Int) (h1 : ¬ y < t) (h2 : y ≠ t) : ∀ a : List Int, (∀ x ∈ a, x < t) → trIns t (a ++ y :: r) = a ++ t :: y :: r
  | [], _ => by rw [List.nil_append, trIns, if_neg h1, if_neg h2]; rfl
  | x :: a, h => by
    rw [List.cons_append, trIns, if_pos (h x (List.mem_cons_self ..)), trIns_mid t y r h1 h2 a fun y hy => h y (List.mem_cons_of_mem _ hy)]; rfl
/-- the traces so far -/
def trTo (L : List Spn) (s o : ByteArray) (j : Nat) : List Int := trOf (L.take j) s o
theorem trTo_succ (L : List Spn) (s o : ByteArray) (j : Nat) (h : j < L.length) : trTo L s o (j + 1) = trStep s o (trTo L s o j) L[j] := by
  unfold trTo trOf
  rw [← List.take_append_getElem h, List.foldl_append]; rfl
theorem trIns_len (t : Int) : ∀ l : List Int, (trIns t l).length ≤ l.length + 1
  | [] => Nat.le_refl _
  | x :: l => by
    have := trIns_len t l
    simp only [trIns]; split
    · simp only [List.length_cons]; omega
    · split <;> simp
theorem trOf_len (L : List Spn) (s o : ByteArray) : (trOf L s o).length ≤ L.length := by
  unfold trOf
  have : ∀ (L : List Spn) (out : List Int), (L.foldl (trStep s o) out).length ≤ out.length + L.length := by
    intro L
    induction L with
    | nil => exact fun out => Nat.le_refl _
    | cons x L ih =>
      intro out
      have h1 := ih (trStep s o out x)
      have h2 : (trStep s o out x).length ≤ out.length + 1 := by unfold trStep; split; exact trIns_len _ _; omega
      simp only [List.foldl_cons, List.length_cons]; omega
  simpa using this L []
def TrPost (L : List Spn) (s o : ByteArray) (w : World) (e : Ending) (w' : World) : Prop := ∃ v, e = .returned v ∧ intE.Own w.heap.size v (trOf L s o) w' ∧ Ext w w'
set_option maxHeartbeats 2000000 in
set_option maxRecDepth 20000 in
theorem rtraces_i (ty : TypeId) (b : Nat) (vL : Value) (L : List Spn) (s o : ByteArray) (w : World) (hb : w.heap[b]? = some (.cells #[vL] ty (0, 0))) (hL : SpnsAt w vL L) (hlL : L.length ≤ 10000) :
    Calls Tryz.prog 19 #[.pointer (some ⟨b, 0, none⟩), .string s, .string o] w (TrPost L s o w) := by
  have hL' := hL
  obtain ⟨aL, capL, rfl, hnL, _, hju⟩ := hL'
  obtain ⟨n, hnl⟩ : ∃ n, n = L.length := ⟨_, rfl⟩
  rw [← hnl] at hb hL hnL
  have HN := Lib.hid hnl
  have hn2 : (n : Int) ≤ 10000 := by omega
  have HB := Lib.hid (show ∀ wr, Ext w wr → wr.heap[b]? = some (.cells #[.slice aL n capL] ty (0, 0)) ∧ SpnsAt wr (.slice aL n capL) L from fun wr k => ⟨(Ext.same k (lt_of_heap hb)).trans hb, hL.ext k⟩)
  have hbw := blk_cell hb
  clear hb hL hju hnl hlL
  go_enter Tryz.func19, Tryz.ntmps19
  go_wp2_with fail
  go_loopg [7, 8] n (fun k p7 p8 wr => ∃ (j : Nat), p8 = .int .i64 j ∧ j + k = n ∧ Ext w wr ∧ intE.Own w.heap.size p7 (trTo L s o j) wr)
  case atStart => exact ⟨0, rfl, Nat.zero_add _, Keeps.refl _ _, Ek.Own.nil intE _ _⟩
  case round =>
    obtain ⟨j, rfl, hj, hE, hown⟩ := hrel
    have hcr := blk_cell (HB.out wr hE).1
    by_cases hjn : (j : Int) < n
    · have hjl : j < L.length := by rw [← HN.out]; omega
      obtain ⟨g, q, rfl, hc9⟩ := (HB.out wr hE).2.at hjl
      have hy := hc9 j hjl
      obtain ⟨x, hxl⟩ : ∃ x, x = L[j] := ⟨_, rfl⟩
      rw [← hxl] at hy
      have hstep := trTo_succ L s o j hjl
      rw [← hxl] at hstep
      obtain ⟨wa, hwa⟩ : ∃ wa, wa = wr.alloc (.cells (spnC x) 48) := ⟨_, rfl⟩
      have hEa : Ext wr wa := by rw [hwa]; exact (Keeps.refl _ wr).alloc _
      have hNa : wa.heap[wr.heap.size]? = some (.cells (spnC x) 48 (0, 0)) := by rw [hwa]; exact World.alloc_heap_new wr _
      obtain ⟨p, hp⟩ : ∃ p, p = wr.heap.size := ⟨_, rfl⟩
      rw [← hp] at hNa
      obtain ⟨N, hN⟩ : ∃ N, N = trTo L s o j := ⟨_, rfl⟩
      rw [← hN] at hown hstep
      have hNl : N.length ≤ 10000 := by
        have h1 := trOf_len (L.take j) s o
        rw [List.length_take] at h1
        rw [hN]; unfold trTo; omega
      have HX := Lib.hid (And.intro (hE.trans hEa) (And.intro hNa (And.intro (hown.ext intE hEa) (And.intro hstep (And.intro hE hown)))))
      unfold C9 at hy
      have hpx := blk_cell hNa
      have hbs : ∀ a b : ByteArray, (a.toList == b.toList) = decide (a = b) := fun a b => by
        by_cases h : a = b
        · rw [h]; simp
        · rw [decide_eq_false h, beq_eq_false_iff_ne]; exact fun e => h (bytes_ext e)
      by_cases hso : x.sv = s ∧ x.op = o
      · have HS := Lib.hid (show trTo L s o (j + 1) = trIns x.tr N from by rw [HX.out.2.2.2.1]; unfold trStep; rw [if_pos hso])
        have h1 := hbs x.sv s
        have h2 := hbs x.op o
        rw [decide_eq_true hso.1] at h1
        rw [decide_eq_true hso.2] at h2
        clear hbs hc9 hxl hstep hE hown hEa hso
        obtain ⟨gk0, hgk0⟩ : ∃ gg, gg = gk := ⟨_, rfl⟩
        subst hgk0
        obtain ⟨w0, hw0⟩ : ∃ w0, w0 = wr := ⟨_, rfl⟩
        subst hw0
        obtain ⟨ln, hln⟩ : ∃ n, n = N.length := ⟨_, rfl⟩
        have hln2 : (ln : Int) ≤ 10000 := by omega
        have HLN := Lib.hid hln
        rcases HX.out.2.2.1.form intE with hf | ⟨g7, cap7, hf, hcap7⟩
        · subst hf
          have hN0 : N = [] := by
            have h := HX.out.2.2.1.2
            rcases h with ⟨_, h⟩ | ⟨g', cap', cur, h, _⟩
            · exact List.eq_nil_of_length_eq_zero h
            · cases h
          have HTR := Lib.hid (show trIns x.tr N = [x.tr] from by rw [hN0]; rfl)
          clear hN hNa hNl hN0 hln hln2
          go_wp2_with fail
          rw [← hwa, ← hp]
          have HPP := Lib.hid hp
          clear hwa hp hcr hy h1 h2
          go_loopg [10] 0 (fun k p10 wr => p10 = .int .i64 0 ∧ k = 0 ∧ Ext wa wr)
          case atStart => exact ⟨rfl, rfl, Keeps.refl _ _⟩
          case round =>
            obtain ⟨rfl, rfl, hE⟩ := hrel
            have HA := Lib.hid hE
            clear hE
            go_wp2_with fail
            refine wp_drawE (way [0, 1, 2, 3, 4, 5, 6, 7, 8, 9, 10, 11, 12]) (by kernel_rfl) (by kernel_rfl) (fun w1 hh hd hf hS => ?_)
            have HS1 := Lib.hid (HA.out.trans hS)
            simp only [way]
            go_wp2_with (first | (refine' hl_q rfl rfl rfl (fun _ => ?_) ?_; rotate_left; (go_simp <;> (try go_bits) <;> rfl); (try simp only [Act.put, List.setIfInBounds_toArray, List.set_cons_zero, List.set_cons_succ])) | (refine' hl_rS rfl rfl rfl hS ?_ ?_; rotate_left; (intro w9 hS9; (first | have hc9 := Ext.cells hS9 | have hc9 := Keeps.cells hS9); (go_simp <;> rfl)); (try simp only [Act.put, List.setIfInBounds_toArray, List.set_cons_zero, List.set_cons_succ])) | (refine' hl_r rfl rfl rfl ?_ ?_; rotate_left; (rintro w9 (rfl | hS9); (go_simp <;> rfl); (first | have hc9 := Ext.cells hS9 | have hc9 := Keeps.cells hS9 | (try dsimp only at hS9)); (go_simp <;> rfl)); (try simp only [Act.put, List.setIfInBounds_toArray, List.set_cons_zero, List.set_cons_succ])) | (refine' hl_s rfl rfl ?_; (try simp only [Act.put, List.setIfInBounds_toArray, List.set_cons_zero, List.set_cons_succ])) | (refine hl_e rfl rfl rfl (fun K hK => ?_)) | (with_reducible refine And.intro (fun hn => ?_) ?_; (first | exact hS | exact Keeps.alloc hS _ | exact absurd hn (by rw [show needS _ _ = false from by kernel_rfl]; exact Bool.false_ne_true))) | (refine hl_done ?_) | gi_step)
            refine wp_drawE (way [0, 1, 2, 3, 4, 5, 6, 7, 8, 9, 10, 11, 12]) (by kernel_rfl) (by kernel_rfl) (fun w2 hh2 hd2 hf2 hS2 => ?_)
            have HS2 := Lib.hid (HS1.out.trans hS2)
            simp only [way]
            have hp2 := blk_cell ((Ext.same HS2.out (lt_of_heap HX.out.2.1)).trans HX.out.2.1)
            have HR2 := Lib.hid (HX.out.1.trans HS2.out)
            go_wp2_with (first | (at_builtin; refine Ek.app' intE rfl _ _ rfl w.heap.size (.slice none 0 0) [] [] rfl (Ek.Own.nil intE _ _) (Ek.Reads.nil intE _ _) ?a1z ?a2z ?_) | (refine' hl_q rfl rfl rfl (fun _ => ?_) ?_; rotate_left; (go_simp <;> (try go_bits) <;> rfl); (try simp only [Act.put, List.setIfInBounds_toArray, List.set_cons_zero, List.set_cons_succ])) | (refine' hl_rS rfl rfl rfl hS ?_ ?_; rotate_left; (intro w9 hS9; (first | have hc9 := Ext.cells hS9 | have hc9 := Keeps.cells hS9); (go_simp <;> rfl)); (try simp only [Act.put, List.setIfInBounds_toArray, List.set_cons_zero, List.set_cons_succ])) | (refine' hl_r rfl rfl rfl ?_ ?_; rotate_left; (rintro w9 (rfl | hS9); (go_simp <;> rfl); (first | have hc9 := Ext.cells hS9 | have hc9 := Keeps.cells hS9 | (try dsimp only at hS9)); (go_simp <;> rfl)); (try simp only [Act.put, List.setIfInBounds_toArray, List.set_cons_zero, List.set_cons_succ])) | (refine' hl_s rfl rfl ?_; (try simp only [Act.put, List.setIfInBounds_toArray, List.set_cons_zero, List.set_cons_succ])) | (refine hl_e rfl rfl rfl (fun K hK => ?_)) | (with_reducible refine And.intro (fun hn => ?_) ?_; (first | exact hS | exact Keeps.alloc hS _ | exact absurd hn (by rw [show needS _ _ = false from by kernel_rfl]; exact Bool.false_ne_true))) | (refine hl_done ?_) | gi_step)
            case a1z => decide
            case a2z => exact HR2.out.size
            intro v5 w5 hown5 hgr5 hv5 _
            have hv5' : v5 = .slice none 0 0 := by simpa using hv5
            subst hv5'
            have hE5 : Ext w2 w5 := hgr5.mono fun _ _ h => by cases h
            have hp5 := blk_cell ((Ext.same (HS2.out.trans hE5) (lt_of_heap HX.out.2.1)).trans HX.out.2.1)
            have H5 := Lib.hid (HR2.out.trans hE5)
            clear hown5 hgr5 hE5 hp2 hv5
            go_wp2_with (at_builtin; refine Ek.app' intE rfl _ _ rfl w.heap.size (.slice none 0 0) [] [x.tr] rfl (Ek.Own.nil intE _ _) (Ek.reads_new intE _ x.tr _ _ rfl) ?b1z ?b2z ?_)
            case b2z => exact Nat.le_trans H5.out.size (Nat.le_succ _)
            intro v6 w6 hown6 hgr6 _ _
            have hEa6 := (Keeps.refl Non w5).alloc (.cells #[.int .i64 x.tr] 3)
            have hE6 : Ext w5 w6 := hEa6.trans (hgr6.mono fun _ _ h => by cases h)
            have H6 := Lib.hid (And.intro hown6 (H5.out.trans hE6))
            clear hown6 hgr6 hE6 hEa6 hp5
            go_wp2_with (at_builtin; refine Ek.app' intE rfl _ _ rfl w.heap.size v6 [x.tr] [] rfl H6.out.1 (Ek.Reads.nil intE _ _) ?c1z ?c2z ?_)
            case c1z => simp
            case c2z => exact H6.out.2.size
            intro v7 w7 hown7 hgr7 _ _
            have H7 := Lib.hid (And.intro hown7 (H6.out.1.grow intE H6.out.2 (Nat.le_refl _) hgr7))
            clear hown7 hgr7
            go_wp2_with fail
            go_roundg (gk0 - 1)
            case measure => omega
            case rel => exact ⟨j + 1, by simp, by omega, H7.out.2, by rw [HS.out, HTR.out]; exact H7.out.1⟩
        · subst hf
          rw [← hln] at hcap7 HX ⊢
          clear hN hNa hNl
          go_wp2_with fail
          rw [← hwa, ← hp]
          have HPP := Lib.hid hp
          clear hwa hp hcr hy h1 h2 hln
          go_loopg [10] ln (fun k p10 wr => ∃ i : Nat, p10 = .int .i64 i ∧ i + k = ln ∧ Ext wa wr ∧ ∀ y ∈ N.take i, y < x.tr)
          case atStart => exact ⟨0, rfl, Nat.zero_add _, Keeps.refl _ _, fun y hy => by simp at hy⟩
          case round =>
            obtain ⟨i, rfl, hi, hE, hall⟩ := hrel
            have hpr := blk_cell ((Ext.same hE (lt_of_heap HX.out.2.1)).trans HX.out.2.1)
            have HA := Lib.hid (And.intro hE hall)
            clear hE hall
            by_cases hil : (i : Int) < ln
            · have hilN : i < N.length := by rw [← HLN.out]; omega
              have hrd := ((HX.out.2.2.1.ext intE HA.out.1).reads intE (by rw [← HLN.out]; omega)).elem intE i 0 hilN (by decide)
              obtain ⟨y, hyl⟩ : ∃ y, y = N[i] := ⟨_, rfl⟩
              rw [← hyl] at hrd
              have hyc : wr.cell? ⟨g7, i, none⟩ = some (.int .i64 y) := by simpa [intE] using hrd
              have HY := Lib.hid hyl
              clear hrd hyl
              by_cases hyt : y < x.tr
              · go_wp2_with fail
                refine wp_drawE (way [0, 1, 2, 3, 4, 5, 6, 7, 8, 9, 10, 11, 12]) (by kernel_rfl) (by kernel_rfl) (fun w1 hh hd hf hS => ?_)
                have HS1 := Lib.hid (HA.out.1.trans hS)
                simp only [way]
                go_wp2_with (first | (refine' hl_q rfl rfl rfl (fun _ => ?_) ?_; rotate_left; (go_simp <;> (try go_bits) <;> rfl); (try simp only [Act.put, List.setIfInBounds_toArray, List.set_cons_zero, List.set_cons_succ])) | (refine' hl_rS rfl rfl rfl hS ?_ ?_; rotate_left; (intro w9 hS9; (first | have hc9 := Ext.cells hS9 | have hc9 := Keeps.cells hS9); (go_simp <;> rfl)); (try simp only [Act.put, List.setIfInBounds_toArray, List.set_cons_zero, List.set_cons_succ])) | (refine' hl_r rfl rfl rfl ?_ ?_; rotate_left; (rintro w9 (rfl | hS9); (go_simp <;> rfl); (first | have hc9 := Ext.cells hS9 | have hc9 := Keeps.cells hS9 | (try dsimp only at hS9)); (go_simp <;> rfl)); (try simp only [Act.put, List.setIfInBounds_toArray, List.set_cons_zero, List.set_cons_succ])) | (refine' hl_s rfl rfl ?_; (try simp only [Act.put, List.setIfInBounds_toArray, List.set_cons_zero, List.set_cons_succ])) | (refine hl_e rfl rfl rfl (fun K hK => ?_)) | (with_reducible refine And.intro (fun hn => ?_) ?_; (first | exact hS | exact Keeps.alloc hS _ | exact absurd hn (by rw [show needS _ _ = false from by kernel_rfl]; exact Bool.false_ne_true))) | (refine hl_done ?_) | gi_step)
                go_roundg (gk - 1)
                case measure => omega
                case rel => exact ⟨i + 1, by simp, by omega, HS1.out, fun z hz => by
                  rw [← List.take_append_getElem hilN, List.mem_append, List.mem_singleton] at hz
                  rcases hz with hz | rfl
                  · exact HA.out.2 z hz
                  · rw [← HY.out]; exact hyt⟩
              · have hyt2 : x.tr ≤ y := by omega
                by_cases hye : y = x.tr
                · have hyb : (y == x.tr) = true := by simpa using hye
                  have HYE := Lib.hid hye
                  clear hye
                  go_wp2_with fail
                  refine wp_drawE (way [0, 1, 2, 3, 4, 5, 6, 7, 8, 9, 10, 11, 12]) (by kernel_rfl) (by kernel_rfl) (fun w1 hh hd hf hS => ?_)
                  have HS1 := Lib.hid (HA.out.1.trans hS)
                  simp only [way]
                  go_wp2_with (first | (refine' hl_q rfl rfl rfl (fun _ => ?_) ?_; rotate_left; (go_simp <;> (try go_bits) <;> rfl); (try simp only [Act.put, List.setIfInBounds_toArray, List.set_cons_zero, List.set_cons_succ])) | (refine' hl_rS rfl rfl rfl hS ?_ ?_; rotate_left; (intro w9 hS9; (first | have hc9 := Ext.cells hS9 | have hc9 := Keeps.cells hS9); (go_simp <;> rfl)); (try simp only [Act.put, List.setIfInBounds_toArray, List.set_cons_zero, List.set_cons_succ])) | (refine' hl_r rfl rfl rfl ?_ ?_; rotate_left; (rintro w9 (rfl | hS9); (go_simp <;> rfl); (first | have hc9 := Ext.cells hS9 | have hc9 := Keeps.cells hS9 | (try dsimp only at hS9)); (go_simp <;> rfl)); (try simp only [Act.put, List.setIfInBounds_toArray, List.set_cons_zero, List.set_cons_succ])) | (refine' hl_s rfl rfl ?_; (try simp only [Act.put, List.setIfInBounds_toArray, List.set_cons_zero, List.set_cons_succ])) | (refine hl_e rfl rfl rfl (fun K hK => ?_)) | (with_reducible refine And.intro (fun hn => ?_) ?_; (first | exact hS | exact Keeps.alloc hS _ | exact absurd hn (by rw [show needS _ _ = false from by kernel_rfl]; exact Bool.false_ne_true))) | (refine hl_done ?_) | gi_step)
                  refine wp_drawE (way [0, 1, 2, 3, 4, 5, 6, 7, 8, 9, 10, 11, 12]) (by kernel_rfl) (by kernel_rfl) (fun w2 hh2 hd2 hf2 hS2 => ?_)
                  have HS2 := Lib.hid (HS1.out.trans hS2)
                  have HTR := Lib.hid (show trIns x.tr N = N from by
                    have e := trIns_same x.tr (N.drop (i + 1)) (N.take i) HA.out.2
                    rw [← HYE.out, HY.out, List.getElem_cons_drop, List.take_append_drop] at e
                    rw [← HYE.out, HY.out]; exact e)
                  simp only [way]
                  go_wp2_with (first | (refine' hl_q rfl rfl rfl (fun _ => ?_) ?_; rotate_left; (go_simp <;> (try go_bits) <;> rfl); (try simp only [Act.put, List.setIfInBounds_toArray, List.set_cons_zero, List.set_cons_succ])) | (refine' hl_rS rfl rfl rfl hS ?_ ?_; rotate_left; (intro w9 hS9; (first | have hc9 := Ext.cells hS9 | have hc9 := Keeps.cells hS9); (go_simp <;> rfl)); (try simp only [Act.put, List.setIfInBounds_toArray, List.set_cons_zero, List.set_cons_succ])) | (refine' hl_r rfl rfl rfl ?_ ?_; rotate_left; (rintro w9 (rfl | hS9); (go_simp <;> rfl); (first | have hc9 := Ext.cells hS9 | have hc9 := Keeps.cells hS9 | (try dsimp only at hS9)); (go_simp <;> rfl)); (try simp only [Act.put, List.setIfInBounds_toArray, List.set_cons_zero, List.set_cons_succ])) | (refine' hl_s rfl rfl ?_; (try simp only [Act.put, List.setIfInBounds_toArray, List.set_cons_zero, List.set_cons_succ])) | (refine hl_e rfl rfl rfl (fun K hK => ?_)) | (with_reducible refine And.intro (fun hn => ?_) ?_; (first | exact hS | exact Keeps.alloc hS _ | exact absurd hn (by rw [show needS _ _ = false from by kernel_rfl]; exact Bool.false_ne_true))) | (refine hl_done ?_) | gi_step)
                  go_roundg (gk0 - 1)
                  case measure => omega
                  case rel => exact ⟨j + 1, by simp, by omega, HX.out.1.trans HS2.out, by rw [HS.out, HTR.out]; exact HX.out.2.2.1.ext intE HS2.out⟩
                · have hyb : (y == x.tr) = false := by rw [beq_eq_false_iff_ne]; exact hye
                  have HYE := Lib.hid hye
                  clear hye
                  go_wp2_with fail
                  refine wp_drawE (way [0, 1, 2, 3, 4, 5, 6, 7, 8, 9, 10, 11, 12]) (by kernel_rfl) (by kernel_rfl) (fun w1 hh hd hf hS => ?_)
                  have HS1 := Lib.hid (HA.out.1.trans hS)
                  simp only [way]
                  go_wp2_with (first | (refine' hl_q rfl rfl rfl (fun _ => ?_) ?_; rotate_left; (go_simp <;> (try go_bits) <;> rfl); (try simp only [Act.put, List.setIfInBounds_toArray, List.set_cons_zero, List.set_cons_succ])) | (refine' hl_rS rfl rfl rfl hS ?_ ?_; rotate_left; (intro w9 hS9; (first | have hc9 := Ext.cells hS9 | have hc9 := Keeps.cells hS9); (go_simp <;> rfl)); (try simp only [Act.put, List.setIfInBounds_toArray, List.set_cons_zero, List.set_cons_succ])) | (refine' hl_r rfl rfl rfl ?_ ?_; rotate_left; (rintro w9 (rfl | hS9); (go_simp <;> rfl); (first | have hc9 := Ext.cells hS9 | have hc9 := Keeps.cells hS9 | (try dsimp only at hS9)); (go_simp <;> rfl)); (try simp only [Act.put, List.setIfInBounds_toArray, List.set_cons_zero, List.set_cons_succ])) | (refine' hl_s rfl rfl ?_; (try simp only [Act.put, List.setIfInBounds_toArray, List.set_cons_zero, List.set_cons_succ])) | (refine hl_e rfl rfl rfl (fun K hK => ?_)) | (with_reducible refine And.intro (fun hn => ?_) ?_; (first | exact hS | exact Keeps.alloc hS _ | exact absurd hn (by rw [show needS _ _ = false from by kernel_rfl]; exact Bool.false_ne_true))) | (refine hl_done ?_) | gi_step)
                  refine wp_drawE (way [0, 1, 2, 3, 4, 5, 6, 7, 8, 9, 10, 11, 12]) (by kernel_rfl) (by kernel_rfl) (fun w2 hh2 hd2 hf2 hS2 => ?_)
                  have HS2 := Lib.hid (HS1.out.trans hS2)
                  have HTR := Lib.hid (show trIns x.tr N = N.take i ++ x.tr :: N.drop i from by
                    have e := trIns_mid x.tr y (N.drop (i + 1)) (by omega) HYE.out (N.take i) HA.out.2
                    rw [HY.out, List.getElem_cons_drop, List.take_append_drop] at e
                    exact e)
                  simp only [way]
                  have hp2 := blk_cell ((Ext.same HS2.out (lt_of_heap HX.out.2.1)).trans HX.out.2.1)
                  have HR2 := Lib.hid (And.intro (HX.out.2.2.1.ext intE HS2.out) (HX.out.1.trans HS2.out))
                  have hiN : i ≤ N.length := by rw [← HLN.out]; omega
                  have hilk : i ≤ cap7 := by omega
                  go_wp2_with (first | (at_builtin; refine Ek.app' intE rfl _ _ rfl w.heap.size (.slice none 0 0) [] (N.take i) rfl (Ek.Own.nil intE _ _) (HR2.out.1.front intE (by rw [← HLN.out]; omega) i _ hiN) ?a1x ?a2x ?_) | (refine' hl_q rfl rfl rfl (fun _ => ?_) ?_; rotate_left; (go_simp <;> (try go_bits) <;> rfl); (try simp only [Act.put, List.setIfInBounds_toArray, List.set_cons_zero, List.set_cons_succ])) | (refine' hl_rS rfl rfl rfl hS ?_ ?_; rotate_left; (intro w9 hS9; (first | have hc9 := Ext.cells hS9 | have hc9 := Keeps.cells hS9); (go_simp <;> rfl)); (try simp only [Act.put, List.setIfInBounds_toArray, List.set_cons_zero, List.set_cons_succ])) | (refine' hl_r rfl rfl rfl ?_ ?_; rotate_left; (rintro w9 (rfl | hS9); (go_simp <;> rfl); (first | have hc9 := Ext.cells hS9 | have hc9 := Keeps.cells hS9 | (try dsimp only at hS9)); (go_simp <;> rfl)); (try simp only [Act.put, List.setIfInBounds_toArray, List.set_cons_zero, List.set_cons_succ])) | (refine' hl_s rfl rfl ?_; (try simp only [Act.put, List.setIfInBounds_toArray, List.set_cons_zero, List.set_cons_succ])) | (refine hl_e rfl rfl rfl (fun K hK => ?_)) | (with_reducible refine And.intro (fun hn => ?_) ?_; (first | exact hS | exact Keeps.alloc hS _ | exact absurd hn (by rw [show needS _ _ = false from by kernel_rfl]; exact Bool.false_ne_true))) | (refine hl_done ?_) | gi_step)
                  case a1x => rw [List.length_take, List.length_nil, ← HLN.out]; omega
                  case a2x => exact HR2.out.2.size
                  intro v5 w5 hown5 hgr5 _ hblk5
                  have hE5 : Ext w2 w5 := hgr5.mono fun _ _ h => by cases h
                  have hp5 := blk_cell ((Ext.same (HS2.out.trans hE5) (lt_of_heap HX.out.2.1)).trans HX.out.2.1)
                  have H5 := Lib.hid (And.intro hown5 (And.intro (HR2.out.2.trans hE5) (And.intro (HR2.out.1.ext intE hE5) (And.intro hblk5 (And.intro hE5 (HR2.out.1.lt intE (g := g7) rfl).2)))))
                  clear hown5 hgr5 hblk5 hE5 hp2
                  go_wp2_with (at_builtin; refine Ek.app' intE rfl _ _ rfl w.heap.size v5 (N.take i) [x.tr] rfl (H5.out.1.ext intE ((Keeps.refl _ _).alloc _)) (Ek.reads_new intE _ x.tr _ _ rfl) ?b1x ?b2x ?_)
                  case b1x => rw [List.length_take, List.length_singleton, ← HLN.out]; omega
                  case b2x => exact Nat.le_trans H5.out.2.1.size ((Keeps.refl Non w5).alloc _).size
                  intro v6 w6 hown6 hgr6 _ _
                  have hEa6 := (Keeps.refl Non w5).alloc (.cells #[.int .i64 x.tr] 3)
                  have hgr6' : Keeps (fun b => v5.ownBlock = some b) w5 w6 := ⟨Nat.le_trans hEa6.size hgr6.size, fun i hi hf => (hgr6.same i (Nat.lt_of_lt_of_le hi hEa6.size) hf).trans (Ext.same hEa6 hi), (hEa6.ost).trans hgr6.ost⟩
                  have hu6 := H5.out.2.2.1.keeps intE hgr6' (fun gg hg hv => by
                    simp only [Value.ownBlock, Option.some.injEq] at hg
                    subst hg
                    rcases H5.out.2.2.2.1 with h | h
                    · rw [h] at hv; cases hv
                    · rw [hv] at h; injection h with h
                      have := H5.out.2.2.2.2.2
                      try rw [hh2] at this
                      try rw [hh] at this
                      omega)
                  have H6 := Lib.hid (And.intro hown6 (And.intro (H5.out.1.grow intE H5.out.2.1 (Nat.le_refl _) hgr6') hu6))
                  clear hown6 hgr6 hgr6' hu6 hEa6 hp5
                  go_wp2_with (at_builtin; refine Ek.app' intE rfl _ _ rfl w.heap.size v6 (N.take i ++ [x.tr]) (N.drop i) rfl H6.out.1 (H6.out.2.2.suffix intE (by rw [← HLN.out]; omega) i _ _ (by rw [← HLN.out]; omega) _ (by simp [intE])) ?c1x ?c2x ?_)
                  case c1x => rw [List.length_append, List.length_take, List.length_drop, List.length_singleton, ← HLN.out]; omega
                  case c2x => exact H6.out.2.1.size
                  intro v7 w7 hown7 hgr7 _ _
                  have H7 := Lib.hid (And.intro hown7 (H6.out.1.grow intE H6.out.2.1 (Nat.le_refl _) hgr7))
                  clear hown7 hgr7
                  go_wp2_with fail
                  go_roundg (gk0 - 1)
                  case measure => omega
                  case rel => exact ⟨j + 1, by simp, by omega, H7.out.2, by rw [HS.out, HTR.out]; exact H7.out.1⟩
            · have hie : i = N.length := by rw [← HLN.out]; omega
              have HTR := Lib.hid (show trIns x.tr N = N.take i ++ x.tr :: N.drop i from by
                have h := HA.out.2
                rw [hie, List.take_length] at h
                rw [hie, List.take_length, List.drop_length]
                exact trIns_end x.tr N h)
              have hfl : ((i : Int) < ln) = False := eq_false hil
              have hil2 : i ≤ ln := by omega
              have HIL := Lib.hid (show ln ≤ i from by omega)
              clear hie hil
              go_wp2_with fail
              refine wp_drawE (way [0, 1, 2, 3, 4, 5, 6, 7, 8, 9, 10, 11, 12]) (by kernel_rfl) (by kernel_rfl) (fun w1 hh hd hf hS => ?_)
              have HS1 := Lib.hid (HA.out.1.trans hS)
              simp only [way]
              go_wp2_with (first | (refine' hl_q rfl rfl rfl (fun _ => ?_) ?_; rotate_left; (go_simp <;> (try go_bits) <;> rfl); (try simp only [Act.put, List.setIfInBounds_toArray, List.set_cons_zero, List.set_cons_succ])) | (refine' hl_rS rfl rfl rfl hS ?_ ?_; rotate_left; (intro w9 hS9; (first | have hc9 := Ext.cells hS9 | have hc9 := Keeps.cells hS9); (go_simp <;> rfl)); (try simp only [Act.put, List.setIfInBounds_toArray, List.set_cons_zero, List.set_cons_succ])) | (refine' hl_r rfl rfl rfl ?_ ?_; rotate_left; (rintro w9 (rfl | hS9); (go_simp <;> rfl); (first | have hc9 := Ext.cells hS9 | have hc9 := Keeps.cells hS9 | (try dsimp only at hS9)); (go_simp <;> rfl)); (try simp only [Act.put, List.setIfInBounds_toArray, List.set_cons_zero, List.set_cons_succ])) | (refine' hl_s rfl rfl ?_; (try simp only [Act.put, List.setIfInBounds_toArray, List.set_cons_zero, List.set_cons_succ])) | (refine hl_e rfl rfl rfl (fun K hK => ?_)) | (with_reducible refine And.intro (fun hn => ?_) ?_; (first | exact hS | exact Keeps.alloc hS _ | exact absurd hn (by rw [show needS _ _ = false from by kernel_rfl]; exact Bool.false_ne_true))) | (refine hl_done ?_) | gi_step)
              refine wp_drawE (way [0, 1, 2, 3, 4, 5, 6, 7, 8, 9, 10, 11, 12]) (by kernel_rfl) (by kernel_rfl) (fun w2 hh2 hd2 hf2 hS2 => ?_)
              have HS2 := Lib.hid (HS1.out.trans hS2)
              simp only [way]
              have hp2 := blk_cell ((Ext.same HS2.out (lt_of_heap HX.out.2.1)).trans HX.out.2.1)
              have HR2 := Lib.hid (And.intro (HX.out.2.2.1.ext intE HS2.out) (HX.out.1.trans HS2.out))
              have hiN : i ≤ N.length := by rw [← HLN.out]; omega
              have hilk : i ≤ cap7 := by omega
              go_wp2_with (first | (at_builtin; refine Ek.app' intE rfl _ _ rfl w.heap.size (.slice none 0 0) [] (N.take i) rfl (Ek.Own.nil intE _ _) (HR2.out.1.front intE (by rw [← HLN.out]; omega) i _ hiN) ?a1y ?a2y ?_) | (refine' hl_q rfl rfl rfl (fun _ => ?_) ?_; rotate_left; (go_simp <;> (try go_bits) <;> rfl); (try simp only [Act.put, List.setIfInBounds_toArray, List.set_cons_zero, List.set_cons_succ])) | (refine' hl_rS rfl rfl rfl hS ?_ ?_; rotate_left; (intro w9 hS9; (first | have hc9 := Ext.cells hS9 | have hc9 := Keeps.cells hS9); (go_simp <;> rfl)); (try simp only [Act.put, List.setIfInBounds_toArray, List.set_cons_zero, List.set_cons_succ])) | (refine' hl_r rfl rfl rfl ?_ ?_; rotate_left; (rintro w9 (rfl | hS9); (go_simp <;> rfl); (first | have hc9 := Ext.cells hS9 | have hc9 := Keeps.cells hS9 | (try dsimp only at hS9)); (go_simp <;> rfl)); (try simp only [Act.put, List.setIfInBounds_toArray, List.set_cons_zero, List.set_cons_succ])) | (refine' hl_s rfl rfl ?_; (try simp only [Act.put, List.setIfInBounds_toArray, List.set_cons_zero, List.set_cons_succ])) | (refine hl_e rfl rfl rfl (fun K hK => ?_)) | (with_reducible refine And.intro (fun hn => ?_) ?_; (first | exact hS | exact Keeps.alloc hS _ | exact absurd hn (by rw [show needS _ _ = false from by kernel_rfl]; exact Bool.false_ne_true))) | (refine hl_done ?_) | gi_step)
              case a1y => rw [List.length_take, List.length_nil, ← HLN.out]; omega
              case a2y => exact HR2.out.2.size
              intro v5 w5 hown5 hgr5 _ hblk5
              have hE5 : Ext w2 w5 := hgr5.mono fun _ _ h => by cases h
              have hp5 := blk_cell ((Ext.same (HS2.out.trans hE5) (lt_of_heap HX.out.2.1)).trans HX.out.2.1)
              have H5 := Lib.hid (And.intro hown5 (And.intro (HR2.out.2.trans hE5) (And.intro (HR2.out.1.ext intE hE5) (And.intro hblk5 (And.intro hE5 (HR2.out.1.lt intE (g := g7) rfl).2)))))
              clear hown5 hgr5 hblk5 hE5 hp2
              go_wp2_with (at_builtin; refine Ek.app' intE rfl _ _ rfl w.heap.size v5 (N.take i) [x.tr] rfl (H5.out.1.ext intE ((Keeps.refl _ _).alloc _)) (Ek.reads_new intE _ x.tr _ _ rfl) ?b1y ?b2y ?_)
              case b1y => rw [List.length_take, List.length_singleton, ← HLN.out]; omega
              case b2y => exact Nat.le_trans H5.out.2.1.size ((Keeps.refl Non w5).alloc _).size
              intro v6 w6 hown6 hgr6 _ _
              have hEa6 := (Keeps.refl Non w5).alloc (.cells #[.int .i64 x.tr] 3)
              have hgr6' : Keeps (fun b => v5.ownBlock = some b) w5 w6 := ⟨Nat.le_trans hEa6.size hgr6.size, fun i hi hf => (hgr6.same i (Nat.lt_of_lt_of_le hi hEa6.size) hf).trans (Ext.same hEa6 hi), (hEa6.ost).trans hgr6.ost⟩
              have hu6 := H5.out.2.2.1.keeps intE hgr6' (fun gg hg hv => by
                simp only [Value.ownBlock, Option.some.injEq] at hg
                subst hg
                rcases H5.out.2.2.2.1 with h | h
                · rw [h] at hv; cases hv
                · rw [hv] at h; injection h with h
                  have := H5.out.2.2.2.2.2
                  try rw [hh2] at this
                  try rw [hh] at this
                  omega)
              have H6 := Lib.hid (And.intro hown6 (And.intro (H5.out.1.grow intE H5.out.2.1 (Nat.le_refl _) hgr6') hu6))
              clear hown6 hgr6 hgr6' hu6 hEa6 hp5
              have hdr : N.drop i = [] := List.drop_of_length_le (by rw [← HLN.out]; exact HIL.out)
              have hlk : ln - i = 0 := by have := HIL.out; omega
              have HDR := Lib.hid (And.intro hdr hlk)
              clear hdr hlk
              rcases Decidable.em (cap7 = i) with hcap | hcap
              all_goals
                go_wp2_with (at_builtin; refine Ek.app' intE rfl _ _ rfl w.heap.size v6 (N.take i ++ [x.tr]) (N.drop i) rfl H6.out.1 (Ek.Reads.rest intE _ HDR.out.2 HDR.out.1) (by rw [List.length_append, List.length_take, List.length_drop, List.length_singleton, ← HLN.out]; omega) H6.out.2.1.size ?_)
                intro v7 w7 hown7 hgr7 _ _
                have H7 := Lib.hid (And.intro hown7 (H6.out.1.grow intE H6.out.2.1 (Nat.le_refl _) hgr7))
                clear hown7 hgr7
                go_wp2_with fail
                go_roundg (gk0 - 1)
                case measure => omega
                case rel => exact ⟨j + 1, by simp, by omega, H7.out.2, by rw [HS.out, HTR.out]; exact H7.out.1⟩
      · have HS := Lib.hid (show trTo L s o (j + 1) = N from by rw [HX.out.2.2.2.1]; unfold trStep; rw [if_neg hso])
        have h1 := hbs x.sv s
        have h2 := hbs x.op o
        clear hbs hc9 hxl hstep hE hown hEa hN
        by_cases h3 : x.sv = s
        · rw [decide_eq_true h3] at h1
          have h4 : ¬ x.op = o := fun e => hso ⟨h3, e⟩
          rw [decide_eq_false h4] at h2
          clear h3 h4 hso
          go_wp2_with fail
          rw [← hwa]
          go_roundg (gk - 1)
          case measure => omega
          case rel => exact ⟨j + 1, by simp, by omega, HX.out.1, by rw [HS.out]; exact HX.out.2.2.1⟩
        · rw [decide_eq_false h3] at h1
          clear h3 hso h2
          go_wp2_with fail
          rw [← hwa]
          go_roundg (gk - 1)
          case measure => omega
          case rel => exact ⟨j + 1, by simp, by omega, HX.out.1, by rw [HS.out]; exact HX.out.2.2.1⟩
    · have hje : j = L.length := by rw [← HN.out]; omega
      have HF := Lib.hid (show TrPost L s o w (.returned u7) wr from ⟨u7, rfl, by have h := hown; unfold trTo at h; rw [hje, List.take_length] at h; exact h, hE⟩)
      clear hje hown hE
      go_wp2_with fail
      go_ret
      exact HF.out
end Go.Proofs.YtdonmmjikcbihaaGreatDoor
