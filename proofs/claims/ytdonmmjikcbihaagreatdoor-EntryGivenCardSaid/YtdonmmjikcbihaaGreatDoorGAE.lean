/- Parts of the proof, one behind the other: Ref28c, Ref28d, Ref28e, Ref28f, EntV, AwkP, Awk, EPlays, Open. No condition beyond each theorem's own. -/
import Derived.ProofKit
import Derived.LaidMore
import Derived.OpenShut
import Derived.Deep.Slices
import Derived.Shelf.Vars
import Derived.Test.YtdonmmjikcbihaaGreatDoorGAD
/- The document's answers for entry: Traces. -/
namespace Go.Proofs.YtdonmmjikcbihaaGreatDoor
open Go.RowKit Go.Proofs Go.Vc
attribute [local irreducible] Calls CallsIn Code.wp Code.wpIn
theorem trIns_end (t : Int) : ∀ a : List Int, (∀ x ∈ a, x < t) → trIns t a = a ++ [t]
  | [], _ => rfl
  | x :: a, h => by
    rw [trIns, if_pos (h x (List.mem_cons_self ..)), trIns_end t a fun y hy => h y (List.mem_cons_of_mem _ hy)]; rfl
theorem trIns_same (t : Int) (r : List Int) : ∀ a : List Int, (∀ x ∈ a, x < t) → trIns t (a ++ t :: r) = a ++ t :: r
  | [], _ => by rw [List.nil_append, trIns, if_neg (Int.lt_irrefl _), if_pos rfl]
  | x :: a, h => by
    rw [List.cons_append, trIns, if_pos (h x (List.mem_cons_self ..)), trIns_same t r a fun y hy => h y (List.mem_cons_of_mem _ hy)]
theorem trIns_mid (t y : Int) (r : List Int) (h1 : ¬ y < t) (h2 : y ≠ t) : ∀ a : List Int, (∀ x ∈ a, x < t) → trIns t (a ++ y :: r) = a ++ t :: y :: r
  | [], _ => by rw [List.nil_append, trIns, if_neg h1, if_neg h2]; rfl
  | x :: a, h => by
    rw [List.cons_append, trIns, if_pos (h x (List.mem_cons_self ..)), trIns_mid t y r h1 h2 a fun y hy => h y (List.mem_cons_of_mem _ hy)]; rfl
/-- the traces so far -/
def trTo (L : List Spn) (s o : ByteArray) (j : Nat) : List Int := trOf (L.take j) s o
theorem trTo_succ (L : List Spn) (s o : ByteArray) (j : Nat) (h : j < L.length) : trTo L s o (j + 1) = trStep s o (trTo L s o j) L[j] := by
  unfold trTo trOf
  rw [← List.take_append_getElem h, List.foldl_append]; rfl
theorem trIns_len (t : Int) : ∀ l : List Int, (trIns t l).length ≤ l.length + 1
  | [] => Nat.le_refl _
  | x :: l => by
    have := trIns_len t l
    simp only [trIns]; split
    · simp only [List.length_cons]; omega
    · split <;> simp
theorem trOf_len (L : List Spn) (s o : ByteArray) : (trOf L s o).length ≤ L.length := by
  unfold trOf
  have : ∀ (L : List Spn) (out : List Int), (L.foldl (trStep s o) out).length ≤ out.length + L.length := by
    intro L
    induction L with
    | nil => exact fun out => Nat.le_refl _
    | cons x L ih =>
      intro out
      have h1 := ih (trStep s o out x)
      have h2 : (trStep s o out x).length ≤ out.length + 1 := by unfold trStep; split; exact trIns_len _ _; omega
      simp only [List.foldl_cons, List.length_cons]; omega
  simpa using this L []
def TrPost (L : List Spn) (s o : ByteArray) (w : World) (e : Ending) (w' : World) : Prop := ∃ v, e = .returned v ∧ intE.Own w.heap.size v (trOf L s o) w' ∧ Ext w w'
set_option maxHeartbeats 2000000 in
set_option maxRecDepth 20000 in
theorem rtraces_i (ty : TypeId) (b : Nat) (vL : Value) (L : List Spn) (s o : ByteArray) (w : World) (hb : w.heap[b]? = some (.cells #[vL] ty (0, 0))) (hL : SpnsAt w vL L) (hlL : L.length ≤ 10000) :
    Calls Tryz.prog 19 #[.pointer (some ⟨b, 0, none⟩), .string s, .string o] w (TrPost L s o w) := by
  have hL' := hL
  obtain ⟨aL, capL, rfl, hnL, _, hju⟩ := hL'
  obtain ⟨n, hnl⟩ : ∃ n, n = L.length := ⟨_, rfl⟩
  rw [← hnl] at hb hL hnL
  have HN := Lib.hid hnl
  have hn2 : (n : Int) ≤ 10000 := by omega
  have HB := Lib.hid (show ∀ wr, Ext w wr → wr.heap[b]? = some (.cells #[.slice aL n capL] ty (0, 0)) ∧ SpnsAt wr (.slice aL n capL) L from fun wr k => ⟨(Ext.same k (lt_of_heap hb)).trans hb, hL.ext k⟩)
  have hbw := blk_cell hb
  clear hb hL hju hnl hlL
  go_enter Tryz.func19, Tryz.ntmps19
  go_wp2_with fail
  go_loopg [7, 8] n (fun k p7 p8 wr => ∃ (j : Nat), p8 = .int .i64 j ∧ j + k = n ∧ Ext w wr ∧ intE.Own w.heap.size p7 (trTo L s o j) wr)
  case atStart => exact ⟨0, rfl, Nat.zero_add _, Keeps.refl _ _, Ek.Own.nil intE _ _⟩
  case round =>
    obtain ⟨j, rfl, hj, hE, hown⟩ := hrel
    have hcr := blk_cell (HB.out wr hE).1
    by_cases hjn : (j : Int) < n
    · have hjl : j < L.length := by rw [← HN.out]; omega
      obtain ⟨g, q, rfl, hc9⟩ := (HB.out wr hE).2.at hjl
      have hy := hc9 j hjl
      obtain ⟨x, hxl⟩ : ∃ x, x = L[j] := ⟨_, rfl⟩
      rw [← hxl] at hy
      have hstep := trTo_succ L s o j hjl
      rw [← hxl] at hstep
      obtain ⟨wa, hwa⟩ : ∃ wa, wa = wr.alloc (.cells (spnC x) 48) := ⟨_, rfl⟩
      have hEa : Ext wr wa := by rw [hwa]; exact (Keeps.refl _ wr).alloc _
      have hNa : wa.heap[wr.heap.size]? = some (.cells (spnC x) 48 (0, 0)) := by rw [hwa]; exact World.alloc_heap_new wr _
      obtain ⟨p, hp⟩ : ∃ p, p = wr.heap.size := ⟨_, rfl⟩
      rw [← hp] at hNa
      obtain ⟨N, hN⟩ : ∃ N, N = trTo L s o j := ⟨_, rfl⟩
      rw [← hN] at hown hstep
      have hNl : N.length ≤ 10000 := by
        have h1 := trOf_len (L.take j) s o
        rw [List.length_take] at h1
        rw [hN]; unfold trTo; omega
      have HX := Lib.hid (And.intro (hE.trans hEa) (And.intro hNa (And.intro (hown.ext intE hEa) (And.intro hstep (And.intro hE hown)))))
      unfold C9 at hy
      have hpx := blk_cell hNa
      have hbs : ∀ a b : ByteArray, (a.toList == b.toList) = decide (a = b) := fun a b => by
        by_cases h : a = b
        · rw [h]; simp
        · rw [decide_eq_false h, beq_eq_false_iff_ne]; exact fun e => h (bytes_ext e)
      by_cases hso : x.sv = s ∧ x.op = o
      · have HS := Lib.hid (show trTo L s o (j + 1) = trIns x.tr N from by rw [HX.out.2.2.2.1]; unfold trStep; rw [if_pos hso])
        have h1 := hbs x.sv s
        have h2 := hbs x.op o
        rw [decide_eq_true hso.1] at h1
        rw [decide_eq_true hso.2] at h2
        clear hbs hc9 hxl hstep hE hown hEa hso
        obtain ⟨gk0, hgk0⟩ : ∃ gg, gg = gk := ⟨_, rfl⟩
        subst hgk0
        obtain ⟨w0, hw0⟩ : ∃ w0, w0 = wr := ⟨_, rfl⟩
        subst hw0
        obtain ⟨ln, hln⟩ : ∃ n, n = N.length := ⟨_, rfl⟩
        have hln2 : (ln : Int) ≤ 10000 := by omega
        have HLN := Lib.hid hln
        rcases HX.out.2.2.1.form intE with hf | ⟨g7, cap7, hf, hcap7⟩
        · subst hf
          have hN0 : N = [] := by
            have h := HX.out.2.2.1.2
            rcases h with ⟨_, h⟩ | ⟨g', cap', cur, h, _⟩
            · exact List.eq_nil_of_length_eq_zero h
            · cases h
          have HTR := Lib.hid (show trIns x.tr N = [x.tr] from by rw [hN0]; rfl)
          clear hN hNa hNl hN0 hln hln2
          go_wp2_with fail
          rw [← hwa, ← hp]
          have HPP := Lib.hid hp
          clear hwa hp hcr hy h1 h2
          go_loopg [10] 0 (fun k p10 wr => p10 = .int .i64 0 ∧ k = 0 ∧ Ext wa wr)
          case atStart => exact ⟨rfl, rfl, Keeps.refl _ _⟩
          case round =>
            obtain ⟨rfl, rfl, hE⟩ := hrel
            have HA := Lib.hid hE
            clear hE
            go_wp2_with fail
            refine wp_drawE (way [0, 1, 2, 3, 4, 5, 6, 7, 8, 9, 10, 11, 12]) (by kernel_rfl) (by kernel_rfl) (fun w1 hh hd hf hS => ?_)
            have HS1 := Lib.hid (HA.out.trans hS)
            simp only [way]
            go_wp2_with (first | (refine' hl_q rfl rfl rfl (fun _ => ?_) ?_; rotate_left; (go_simp <;> (try go_bits) <;> rfl); (try simp only [Act.put, List.setIfInBounds_toArray, List.set_cons_zero, List.set_cons_succ])) | (refine' hl_rS rfl rfl rfl hS ?_ ?_; rotate_left; (intro w9 hS9; (first | have hc9 := Ext.cells hS9 | have hc9 := Keeps.cells hS9); (go_simp <;> rfl)); (try simp only [Act.put, List.setIfInBounds_toArray, List.set_cons_zero, List.set_cons_succ])) | (refine' hl_r rfl rfl rfl ?_ ?_; rotate_left; (rintro w9 (rfl | hS9); (go_simp <;> rfl); (first | have hc9 := Ext.cells hS9 | have hc9 := Keeps.cells hS9 | (try dsimp only at hS9)); (go_simp <;> rfl)); (try simp only [Act.put, List.setIfInBounds_toArray, List.set_cons_zero, List.set_cons_succ])) | (refine' hl_s rfl rfl ?_; (try simp only [Act.put, List.setIfInBounds_toArray, List.set_cons_zero, List.set_cons_succ])) | (refine hl_e rfl rfl rfl (fun K hK => ?_)) | (with_reducible refine And.intro (fun hn => ?_) ?_; (first | exact hS | exact Keeps.alloc hS _ | exact absurd hn (by rw [show needS _ _ = false from by kernel_rfl]; exact Bool.false_ne_true))) | (refine hl_done ?_) | gi_step)
            refine wp_drawE (way [0, 1, 2, 3, 4, 5, 6, 7, 8, 9, 10, 11, 12]) (by kernel_rfl) (by kernel_rfl) (fun w2 hh2 hd2 hf2 hS2 => ?_)
            have HS2 := Lib.hid (HS1.out.trans hS2)
            simp only [way]
            have hp2 := blk_cell ((Ext.same HS2.out (lt_of_heap HX.out.2.1)).trans HX.out.2.1)
            have HR2 := Lib.hid (HX.out.1.trans HS2.out)
            go_wp2_with (first | (at_builtin; refine Ek.app' intE rfl _ _ rfl w.heap.size (.slice none 0 0) [] [] rfl (Ek.Own.nil intE _ _) (Ek.Reads.nil intE _ _) ?a1z ?a2z ?_) | (refine' hl_q rfl rfl rfl (fun _ => ?_) ?_; rotate_left; (go_simp <;> (try go_bits) <;> rfl); (try simp only [Act.put, List.setIfInBounds_toArray, List.set_cons_zero, List.set_cons_succ])) | (refine' hl_rS rfl rfl rfl hS ?_ ?_; rotate_left; (intro w9 hS9; (first | have hc9 := Ext.cells hS9 | have hc9 := Keeps.cells hS9); (go_simp <;> rfl)); (try simp only [Act.put, List.setIfInBounds_toArray, List.set_cons_zero, List.set_cons_succ])) | (refine' hl_r rfl rfl rfl ?_ ?_; rotate_left; (rintro w9 (rfl | hS9); (go_simp <;> rfl); (first | have hc9 := Ext.cells hS9 | have hc9 := Keeps.cells hS9 | (try dsimp only at hS9)); (go_simp <;> rfl)); (try simp only [Act.put, List.setIfInBounds_toArray, List.set_cons_zero, List.set_cons_succ])) | (refine' hl_s rfl rfl ?_; (try simp only [Act.put, List.setIfInBounds_toArray, List.set_cons_zero, List.set_cons_succ])) | (refine hl_e rfl rfl rfl (fun K hK => ?_)) | (with_reducible refine And.intro (fun hn => ?_) ?_; (first | exact hS | exact Keeps.alloc hS _ | exact absurd hn (by rw [show needS _ _ = false from by kernel_rfl]; exact Bool.false_ne_true))) | (refine hl_done ?_) | gi_step)
            case a1z => decide
            case a2z => exact HR2.out.size
            intro v5 w5 hown5 hgr5 hv5 _
            have hv5' : v5 = .slice none 0 0 := by simpa using hv5
            subst hv5'
            have hE5 : Ext w2 w5 := hgr5.mono fun _ _ h => by cases h
            have hp5 := blk_cell ((Ext.same (HS2.out.trans hE5) (lt_of_heap HX.out.2.1)).trans HX.out.2.1)
            have H5 := Lib.hid (HR2.out.trans hE5)
            clear hown5 hgr5 hE5 hp2 hv5
            go_wp2_with (at_builtin; refine Ek.app' intE rfl _ _ rfl w.heap.size (.slice none 0 0) [] [x.tr] rfl (Ek.Own.nil intE _ _) (Ek.reads_new intE _ x.tr _ _ rfl) ?b1z ?b2z ?_)
            case b2z => exact Nat.le_trans H5.out.size (Nat.le_succ _)
            intro v6 w6 hown6 hgr6 _ _
            have hEa6 := (Keeps.refl Non w5).alloc (.cells #[.int .i64 x.tr] 3)
            have hE6 : Ext w5 w6 := hEa6.trans (hgr6.mono fun _ _ h => by cases h)
            have H6 := Lib.hid (And.intro hown6 (H5.out.trans hE6))
            clear hown6 hgr6 hE6 hEa6 hp5
            go_wp2_with (at_builtin; refine Ek.app' intE rfl _ _ rfl w.heap.size v6 [x.tr] [] rfl H6.out.1 (Ek.Reads.nil intE _ _) ?c1z ?c2z ?_)
            case c1z => simp
            case c2z => exact H6.out.2.size
            intro v7 w7 hown7 hgr7 _ _
            have H7 := Lib.hid (And.intro hown7 (H6.out.1.grow intE H6.out.2 (Nat.le_refl _) hgr7))
            clear hown7 hgr7
            go_wp2_with fail
            go_roundg (gk0 - 1)
            case measure => omega
            case rel => exact ⟨j + 1, by simp, by omega, H7.out.2, by rw [HS.out, HTR.out]; exact H7.out.1⟩
        · subst hf
          rw [← hln] at hcap7 HX ⊢
          clear hN hNa hNl
          go_wp2_with fail
          rw [← hwa, ← hp]
          have HPP := Lib.hid hp
          clear hwa hp hcr hy h1 h2 hln
          go_loopg [10] ln (fun k p10 wr => ∃ i : Nat, p10 = .int .i64 i ∧ i + k = ln ∧ Ext wa wr ∧ ∀ y ∈ N.take i, y < x.tr)
          case atStart => exact ⟨0, rfl, Nat.zero_add _, Keeps.refl _ _, fun y hy => by simp at hy⟩
          case round =>
            obtain ⟨i, rfl, hi, hE, hall⟩ := hrel
            have hpr := blk_cell ((Ext.same hE (lt_of_heap HX.out.2.1)).trans HX.out.2.1)
            have HA := Lib.hid (And.intro hE hall)
            clear hE hall
            by_cases hil : (i : Int) < ln
            · have hilN : i < N.length := by rw [← HLN.out]; omega
              have hrd := ((HX.out.2.2.1.ext intE HA.out.1).reads intE (by rw [← HLN.out]; omega)).elem intE i 0 hilN (by decide)
              obtain ⟨y, hyl⟩ : ∃ y, y = N[i] := ⟨_, rfl⟩
              rw [← hyl] at hrd
              have hyc : wr.cell? ⟨g7, i, none⟩ = some (.int .i64 y) := by simpa [intE] using hrd
              have HY := Lib.hid hyl
              clear hrd hyl
              by_cases hyt : y < x.tr
              · go_wp2_with fail
                refine wp_drawE (way [0, 1, 2, 3, 4, 5, 6, 7, 8, 9, 10, 11, 12]) (by kernel_rfl) (by kernel_rfl) (fun w1 hh hd hf hS => ?_)
                have HS1 := Lib.hid (HA.out.1.trans hS)
                simp only [way]
                go_wp2_with (first | (refine' hl_q rfl rfl rfl (fun _ => ?_) ?_; rotate_left; (go_simp <;> (try go_bits) <;> rfl); (try simp only [Act.put, List.setIfInBounds_toArray, List.set_cons_zero, List.set_cons_succ])) | (refine' hl_rS rfl rfl rfl hS ?_ ?_; rotate_left; (intro w9 hS9; (first | have hc9 := Ext.cells hS9 | have hc9 := Keeps.cells hS9); (go_simp <;> rfl)); (try simp only [Act.put, List.setIfInBounds_toArray, List.set_cons_zero, List.set_cons_succ])) | (refine' hl_r rfl rfl rfl ?_ ?_; rotate_left; (rintro w9 (rfl | hS9); (go_simp <;> rfl); (first | have hc9 := Ext.cells hS9 | have hc9 := Keeps.cells hS9 | (try dsimp only at hS9)); (go_simp <;> rfl)); (try simp only [Act.put, List.setIfInBounds_toArray, List.set_cons_zero, List.set_cons_succ])) | (refine' hl_s rfl rfl ?_; (try simp only [Act.put, List.setIfInBounds_toArray, List.set_cons_zero, List.set_cons_succ])) | (refine hl_e rfl rfl rfl (fun K hK => ?_)) | (with_reducible refine And.intro (fun hn => ?_) ?_; (first | exact hS | exact Keeps.alloc hS _ | exact absurd hn (by rw [show needS _ _ = false from by kernel_rfl]; exact Bool.false_ne_true))) | (refine hl_done ?_) | gi_step)
                go_roundg (gk - 1)
                case measure => omega
                case rel => exact ⟨i + 1, by simp, by omega, HS1.out, fun z hz => by
                  rw [← List.take_append_getElem hilN, List.mem_append, List.mem_singleton] at hz
                  rcases hz with hz | rfl
                  · exact HA.out.2 z hz
                  · rw [← HY.out]; exact hyt⟩
              · have hyt2 : x.tr ≤ y := by omega
                by_cases hye : y = x.tr
                · have hyb : (y == x.tr) = true := by simpa using hye
                  have HYE := Lib.hid hye
                  clear hye
                  go_wp2_with fail
                  refine wp_drawE (way [0, 1, 2, 3, 4, 5, 6, 7, 8, 9, 10, 11, 12]) (by kernel_rfl) (by kernel_rfl) (fun w1 hh hd hf hS => ?_)
                  have HS1 := Lib.hid (HA.out.1.trans hS)
                  simp only [way]
                  go_wp2_with (first | (refine' hl_q rfl rfl rfl (fun _ => ?_) ?_; rotate_left; (go_simp <;> (try go_bits) <;> rfl); (try simp only [Act.put, List.setIfInBounds_toArray, List.set_cons_zero, List.set_cons_succ])) | (refine' hl_rS rfl rfl rfl hS ?_ ?_; rotate_left; (intro w9 hS9; (first | have hc9 := Ext.cells hS9 | have hc9 := Keeps.cells hS9); (go_simp <;> rfl)); (try simp only [Act.put, List.setIfInBounds_toArray, List.set_cons_zero, List.set_cons_succ])) | (refine' hl_r rfl rfl rfl ?_ ?_; rotate_left; (rintro w9 (rfl | hS9); (go_simp <;> rfl); (first | have hc9 := Ext.cells hS9 | have hc9 := Keeps.cells hS9 | (try dsimp only at hS9)); (go_simp <;> rfl)); (try simp only [Act.put, List.setIfInBounds_toArray, List.set_cons_zero, List.set_cons_succ])) | (refine' hl_s rfl rfl ?_; (try simp only [Act.put, List.setIfInBounds_toArray, List.set_cons_zero, List.set_cons_succ])) | (refine hl_e rfl rfl rfl (fun K hK => ?_)) | (with_reducible refine And.intro (fun hn => ?_) ?_; (first | exact hS | exact Keeps.alloc hS _ | exact absurd hn (by rw [show needS _ _ = false from by kernel_rfl]; exact Bool.false_ne_true))) | (refine hl_done ?_) | gi_step)
                  refine wp_drawE (way [0, 1, 2, 3, 4, 5, 6, 7, 8, 9, 10, 11, 12]) (by kernel_rfl) (by kernel_rfl) (fun w2 hh2 hd2 hf2 hS2 => ?_)
                  have HS2 := Lib.hid (HS1.out.trans hS2)
                  have HTR := Lib.hid (show trIns x.tr N = N from by
                    have e := trIns_same x.tr (N.drop (i + 1)) (N.take i) HA.out.2
                    rw [← HYE.out, HY.out, List.getElem_cons_drop, List.take_append_drop] at e
                    rw [← HYE.out, HY.out]; exact e)
                  simp only [way]
                  go_wp2_with (first | (refine' hl_q rfl rfl rfl (fun _ => ?_) ?_; rotate_left; (go_simp <;> (try go_bits) <;> rfl); (try simp only [Act.put, List.setIfInBounds_toArray, List.set_cons_zero, List.set_cons_succ])) | (refine' hl_rS rfl rfl rfl hS ?_ ?_; rotate_left; (intro w9 hS9; (first | have hc9 := Ext.cells hS9 | have hc9 := Keeps.cells hS9); (go_simp <;> rfl)); (try simp only [Act.put, List.setIfInBounds_toArray, List.set_cons_zero, List.set_cons_succ])) | (refine' hl_r rfl rfl rfl ?_ ?_; rotate_left; (rintro w9 (rfl | hS9); (go_simp <;> rfl); (first | have hc9 := Ext.cells hS9 | have hc9 := Keeps.cells hS9 | (try dsimp only at hS9)); (go_simp <;> rfl)); (try simp only [Act.put, List.setIfInBounds_toArray, List.set_cons_zero, List.set_cons_succ])) | (refine' hl_s rfl rfl ?_; (try simp only [Act.put, List.setIfInBounds_toArray, List.set_cons_zero, List.set_cons_succ])) | (refine hl_e rfl rfl rfl (fun K hK => ?_)) | (with_reducible refine And.intro (fun hn => ?_) ?_; (first | exact hS | exact Keeps.alloc hS _ | exact absurd hn (by rw [show needS _ _ = false from by kernel_rfl]; exact Bool.false_ne_true))) | (refine hl_done ?_) | gi_step)
                  go_roundg (gk0 - 1)
                  case measure => omega
                  case rel => exact ⟨j + 1, by simp, by omega, HX.out.1.trans HS2.out, by rw [HS.out, HTR.out]; exact HX.out.2.2.1.ext intE HS2.out⟩
                · have hyb : (y == x.tr) = false := by rw [beq_eq_false_iff_ne]; exact hye
                  have HYE := Lib.hid hye
                  clear hye
                  go_wp2_with fail
                  refine wp_drawE (way [0, 1, 2, 3, 4, 5, 6, 7, 8, 9, 10, 11, 12]) (by kernel_rfl) (by kernel_rfl) (fun w1 hh hd hf hS => ?_)
                  have HS1 := Lib.hid (HA.out.1.trans hS)
                  simp only [way]
                  go_wp2_with (first | (refine' hl_q rfl rfl rfl (fun _ => ?_) ?_; rotate_left; (go_simp <;> (try go_bits) <;> rfl); (try simp only [Act.put, List.setIfInBounds_toArray, List.set_cons_zero, List.set_cons_succ])) | (refine' hl_rS rfl rfl rfl hS ?_ ?_; rotate_left; (intro w9 hS9; (first | have hc9 := Ext.cells hS9 | have hc9 := Keeps.cells hS9); (go_simp <;> rfl)); (try simp only [Act.put, List.setIfInBounds_toArray, List.set_cons_zero, List.set_cons_succ])) | (refine' hl_r rfl rfl rfl ?_ ?_; rotate_left; (rintro w9 (rfl | hS9); (go_simp <;> rfl); (first | have hc9 := Ext.cells hS9 | have hc9 := Keeps.cells hS9 | (try dsimp only at hS9)); (go_simp <;> rfl)); (try simp only [Act.put, List.setIfInBounds_toArray, List.set_cons_zero, List.set_cons_succ])) | (refine' hl_s rfl rfl ?_; (try simp only [Act.put, List.setIfInBounds_toArray, List.set_cons_zero, List.set_cons_succ])) | (refine hl_e rfl rfl rfl (fun K hK => ?_)) | (with_reducible refine And.intro (fun hn => ?_) ?_; (first | exact hS | exact Keeps.alloc hS _ | exact absurd hn (by rw [show needS _ _ = false from by kernel_rfl]; exact Bool.false_ne_true))) | (refine hl_done ?_) | gi_step)
                  refine wp_drawE (way [0, 1, 2, 3, 4, 5, 6, 7, 8, 9, 10, 11, 12]) (by kernel_rfl) (by kernel_rfl) (fun w2 hh2 hd2 hf2 hS2 => ?_)
                  have HS2 := Lib.hid (HS1.out.trans hS2)
                  have HTR := Lib.hid (show trIns x.tr N = N.take i ++ x.tr :: N.drop i from by
                    have e := trIns_mid x.tr y (N.drop (i + 1)) (by omega) HYE.out (N.take i) HA.out.2
                    rw [HY.out, List.getElem_cons_drop, List.take_append_drop] at e
                    exact e)
                  simp only [way]
                  have hp2 := blk_cell ((Ext.same HS2.out (lt_of_heap HX.out.2.1)).trans HX.out.2.1)
                  have HR2 := Lib.hid (And.intro (HX.out.2.2.1.ext intE HS2.out) (HX.out.1.trans HS2.out))
                  have hiN : i ≤ N.length := by rw [← HLN.out]; omega
                  have hilk : i ≤ cap7 := by omega
                  go_wp2_with (first | (at_builtin; refine Ek.app' intE rfl _ _ rfl w.heap.size (.slice none 0 0) [] (N.take i) rfl (Ek.Own.nil intE _ _) (HR2.out.1.front intE (by rw [← HLN.out]; omega) i _ hiN) ?a1x ?a2x ?_) | (refine' hl_q rfl rfl rfl (fun _ => ?_) ?_; rotate_left; (go_simp <;> (try go_bits) <;> rfl); (try simp only [Act.put, List.setIfInBounds_toArray, List.set_cons_zero, List.set_cons_succ])) | (refine' hl_rS rfl rfl rfl hS ?_ ?_; rotate_left; (intro w9 hS9; (first | have hc9 := Ext.cells hS9 | have hc9 := Keeps.cells hS9); (go_simp <;> rfl)); (try simp only [Act.put, List.setIfInBounds_toArray, List.set_cons_zero, List.set_cons_succ])) | (refine' hl_r rfl rfl rfl ?_ ?_; rotate_left; (rintro w9 (rfl | hS9); (go_simp <;> rfl); (first | have hc9 := Ext.cells hS9 | have hc9 := Keeps.cells hS9 | (try dsimp only at hS9)); (go_simp <;> rfl)); (try simp only [Act.put, List.setIfInBounds_toArray, List.set_cons_zero, List.set_cons_succ])) | (refine' hl_s rfl rfl ?_; (try simp only [Act.put, List.setIfInBounds_toArray, List.set_cons_zero, List.set_cons_succ])) | (refine hl_e rfl rfl rfl (fun K hK => ?_)) | (with_reducible refine And.intro (fun hn => ?_) ?_; (first | exact hS | exact Keeps.alloc hS _ | exact absurd hn (by rw [show needS _ _ = false from by kernel_rfl]; exact Bool.false_ne_true))) | (refine hl_done ?_) | gi_step)
                  case a1x => rw [List.length_take, List.length_nil, ← HLN.out]; omega
                  case a2x => exact HR2.out.2.size
                  intro v5 w5 hown5 hgr5 _ hblk5
                  have hE5 : Ext w2 w5 := hgr5.mono fun _ _ h => by cases h
                  have hp5 := blk_cell ((Ext.same (HS2.out.trans hE5) (lt_of_heap HX.out.2.1)).trans HX.out.2.1)
                  have H5 := Lib.hid (And.intro hown5 (And.intro (HR2.out.2.trans hE5) (And.intro (HR2.out.1.ext intE hE5) (And.intro hblk5 (And.intro hE5 (HR2.out.1.lt intE (g := g7) rfl).2)))))
                  clear hown5 hgr5 hblk5 hE5 hp2
                  go_wp2_with (at_builtin; refine Ek.app' intE rfl _ _ rfl w.heap.size v5 (N.take i) [x.tr] rfl (H5.out.1.ext intE ((Keeps.refl _ _).alloc _)) (Ek.reads_new intE _ x.tr _ _ rfl) ?b1x ?b2x ?_)
                  case b1x => rw [List.length_take, List.length_singleton, ← HLN.out]; omega
                  case b2x => exact Nat.le_trans H5.out.2.1.size ((Keeps.refl Non w5).alloc _).size
                  intro v6 w6 hown6 hgr6 _ _
                  have hEa6 := (Keeps.refl Non w5).alloc (.cells #[.int .i64 x.tr] 3)
                  have hgr6' : Keeps (fun b => v5.ownBlock = some b) w5 w6 := ⟨Nat.le_trans hEa6.size hgr6.size, fun i hi hf => (hgr6.same i (Nat.lt_of_lt_of_le hi hEa6.size) hf).trans (Ext.same hEa6 hi), (hEa6.ost).trans hgr6.ost⟩
                  have hu6 := H5.out.2.2.1.keeps intE hgr6' (fun gg hg hv => by
                    simp only [Value.ownBlock, Option.some.injEq] at hg
                    subst hg
                    rcases H5.out.2.2.2.1 with h | h
                    · rw [h] at hv; cases hv
                    · rw [hv] at h; injection h with h
                      have := H5.out.2.2.2.2.2
                      try rw [hh2] at this
                      try rw [hh] at this
                      omega)
                  have H6 := Lib.hid (And.intro hown6 (And.intro (H5.out.1.grow intE H5.out.2.1 (Nat.le_refl _) hgr6') hu6))
                  clear hown6 hgr6 hgr6' hu6 hEa6 hp5
                  go_wp2_with (at_builtin; refine Ek.app' intE rfl _ _ rfl w.heap.size v6 (N.take i ++ [x.tr]) (N.drop i) rfl H6.out.1 (H6.out.2.2.suffix intE (by rw [← HLN.out]; omega) i _ _ (by rw [← HLN.out]; omega) _ (by simp [intE])) ?c1x ?c2x ?_)
                  case c1x => rw [List.length_append, List.length_take, List.length_drop, List.length_singleton, ← HLN.out]; omega
                  case c2x => exact H6.out.2.1.size
                  intro v7 w7 hown7 hgr7 _ _
                  have H7 := Lib.hid (And.intro hown7 (H6.out.1.grow intE H6.out.2.1 (Nat.le_refl _) hgr7))
                  clear hown7 hgr7
                  go_wp2_with fail
                  go_roundg (gk0 - 1)
                  case measure => omega
                  case rel => exact ⟨j + 1, by simp, by omega, H7.out.2, by rw [HS.out, HTR.out]; exact H7.out.1⟩
            · have hie : i = N.length := by rw [← HLN.out]; omega
              have HTR := Lib.hid (show trIns x.tr N = N.take i ++ x.tr :: N.drop i from by
                have h := HA.out.2
                rw [hie, List.take_length] at h
                rw [hie, List.take_length, List.drop_length]
                exact trIns_end x.tr N h)
              have hfl : ((i : Int) < ln) = False := eq_false hil
              have hil2 : i ≤ ln := by omega
              have HIL := Lib.hid (show ln ≤ i from by omega)
              clear hie hil
              go_wp2_with fail
              refine wp_drawE (way [0, 1, 2, 3, 4, 5, 6, 7, 8, 9, 10, 11, 12]) (by kernel_rfl) (by kernel_rfl) (fun w1 hh hd hf hS => ?_)
              have HS1 := Lib.hid (HA.out.1.trans hS)
              simp only [way]
              go_wp2_with (first | (refine' hl_q rfl rfl rfl (fun _ => ?_) ?_; rotate_left; (go_simp <;> (try go_bits) <;> rfl); (try simp only [Act.put, List.setIfInBounds_toArray, List.set_cons_zero, List.set_cons_succ])) | (refine' hl_rS rfl rfl rfl hS ?_ ?_; rotate_left; (intro w9 hS9; (first | have hc9 := Ext.cells hS9 | have hc9 := Keeps.cells hS9); (go_simp <;> rfl)); (try simp only [Act.put, List.setIfInBounds_toArray, List.set_cons_zero, List.set_cons_succ])) | (refine' hl_r rfl rfl rfl ?_ ?_; rotate_left; (rintro w9 (rfl | hS9); (go_simp <;> rfl); (first | have hc9 := Ext.cells hS9 | have hc9 := Keeps.cells hS9 | (try dsimp only at hS9)); (go_simp <;> rfl)); (try simp only [Act.put, List.setIfInBounds_toArray, List.set_cons_zero, List.set_cons_succ])) | (refine' hl_s rfl rfl ?_; (try simp only [Act.put, List.setIfInBounds_toArray, List.set_cons_zero, List.set_cons_succ])) | (refine hl_e rfl rfl rfl (fun K hK => ?_)) | (with_reducible refine And.intro (fun hn => ?_) ?_; (first | exact hS | exact Keeps.alloc hS _ | exact absurd hn (by rw [show needS _ _ = false from by kernel_rfl]; exact Bool.false_ne_true))) | (refine hl_done ?_) | gi_step)
              refine wp_drawE (way [0, 1, 2, 3, 4, 5, 6, 7, 8, 9, 10, 11, 12]) (by kernel_rfl) (by kernel_rfl) (fun w2 hh2 hd2 hf2 hS2 => ?_)
              have HS2 := Lib.hid (HS1.out.trans hS2)
              simp only [way]
              have hp2 := blk_cell ((Ext.same HS2.out (lt_of_heap HX.out.2.1)).trans HX.out.2.1)
              have HR2 := Lib.hid (And.intro (HX.out.2.2.1.ext intE HS2.out) (HX.out.1.trans HS2.out))
              have hiN : i ≤ N.length := by rw [← HLN.out]; omega
              have hilk : i ≤ cap7 := by omega
              go_wp2_with (first | (at_builtin; refine Ek.app' intE rfl _ _ rfl w.heap.size (.slice none 0 0) [] (N.take i) rfl (Ek.Own.nil intE _ _) (HR2.out.1.front intE (by rw [← HLN.out]; omega) i _ hiN) ?a1y ?a2y ?_) | (refine' hl_q rfl rfl rfl (fun _ => ?_) ?_; rotate_left; (go_simp <;> (try go_bits) <;> rfl); (try simp only [Act.put, List.setIfInBounds_toArray, List.set_cons_zero, List.set_cons_succ])) | (refine' hl_rS rfl rfl rfl hS ?_ ?_; rotate_left; (intro w9 hS9; (first | have hc9 := Ext.cells hS9 | have hc9 := Keeps.cells hS9); (go_simp <;> rfl)); (try simp only [Act.put, List.setIfInBounds_toArray, List.set_cons_zero, List.set_cons_succ])) | (refine' hl_r rfl rfl rfl ?_ ?_; rotate_left; (rintro w9 (rfl | hS9); (go_simp <;> rfl); (first | have hc9 := Ext.cells hS9 | have hc9 := Keeps.cells hS9 | (try dsimp only at hS9)); (go_simp <;> rfl)); (try simp only [Act.put, List.setIfInBounds_toArray, List.set_cons_zero, List.set_cons_succ])) | (refine' hl_s rfl rfl ?_; (try simp only [Act.put, List.setIfInBounds_toArray, List.set_cons_zero, List.set_cons_succ])) | (refine hl_e rfl rfl rfl (fun K hK => ?_)) | (with_reducible refine And.intro (fun hn => ?_) ?_; (first | exact hS | exact Keeps.alloc hS _ | exact absurd hn (by rw [show needS _ _ = false from by kernel_rfl]; exact Bool.false_ne_true))) | (refine hl_done ?_) | gi_step)
              case a1y => rw [List.length_take, List.length_nil, ← HLN.out]; omega
              case a2y => exact HR2.out.2.size
              intro v5 w5 hown5 hgr5 _ hblk5
              have hE5 : Ext w2 w5 := hgr5.mono fun _ _ h => by cases h
              have hp5 := blk_cell ((Ext.same (HS2.out.trans hE5) (lt_of_heap HX.out.2.1)).trans HX.out.2.1)
              have H5 := Lib.hid (And.intro hown5 (And.intro (HR2.out.2.trans hE5) (And.intro (HR2.out.1.ext intE hE5) (And.intro hblk5 (And.intro hE5 (HR2.out.1.lt intE (g := g7) rfl).2)))))
              clear hown5 hgr5 hblk5 hE5 hp2
              go_wp2_with (at_builtin; refine Ek.app' intE rfl _ _ rfl w.heap.size v5 (N.take i) [x.tr] rfl (H5.out.1.ext intE ((Keeps.refl _ _).alloc _)) (Ek.reads_new intE _ x.tr _ _ rfl) ?b1y ?b2y ?_)
              case b1y => rw [List.length_take, List.length_singleton, ← HLN.out]; omega
              case b2y => exact Nat.le_trans H5.out.2.1.size ((Keeps.refl Non w5).alloc _).size
              intro v6 w6 hown6 hgr6 _ _
              have hEa6 := (Keeps.refl Non w5).alloc (.cells #[.int .i64 x.tr] 3)
              have hgr6' : Keeps (fun b => v5.ownBlock = some b) w5 w6 := ⟨Nat.le_trans hEa6.size hgr6.size, fun i hi hf => (hgr6.same i (Nat.lt_of_lt_of_le hi hEa6.size) hf).trans (Ext.same hEa6 hi), (hEa6.ost).trans hgr6.ost⟩
              have hu6 := H5.out.2.2.1.keeps intE hgr6' (fun gg hg hv => by
                simp only [Value.ownBlock, Option.some.injEq] at hg
                subst hg
                rcases H5.out.2.2.2.1 with h | h
                · rw [h] at hv; cases hv
                · rw [hv] at h; injection h with h
                  have := H5.out.2.2.2.2.2
                  try rw [hh2] at this
                  try rw [hh] at this
                  omega)
              have H6 := Lib.hid (And.intro hown6 (And.intro (H5.out.1.grow intE H5.out.2.1 (Nat.le_refl _) hgr6') hu6))
              clear hown6 hgr6 hgr6' hu6 hEa6 hp5
              have hdr : N.drop i = [] := List.drop_of_length_le (by rw [← HLN.out]; exact HIL.out)
              have hlk : ln - i = 0 := by have := HIL.out; omega
              have HDR := Lib.hid (And.intro hdr hlk)
              clear hdr hlk
              rcases Decidable.em (cap7 = i) with hcap | hcap
              all_goals
                go_wp2_with (at_builtin; refine Ek.app' intE rfl _ _ rfl w.heap.size v6 (N.take i ++ [x.tr]) (N.drop i) rfl H6.out.1 (Ek.Reads.rest intE _ HDR.out.2 HDR.out.1) (by rw [List.length_append, List.length_take, List.length_drop, List.length_singleton, ← HLN.out]; omega) H6.out.2.1.size ?_)
                intro v7 w7 hown7 hgr7 _ _
                have H7 := Lib.hid (And.intro hown7 (H6.out.1.grow intE H6.out.2.1 (Nat.le_refl _) hgr7))
                clear hown7 hgr7
                go_wp2_with fail
                go_roundg (gk0 - 1)
                case measure => omega
                case rel => exact ⟨j + 1, by simp, by omega, H7.out.2, by rw [HS.out, HTR.out]; exact H7.out.1⟩
      · have HS := Lib.hid (show trTo L s o (j + 1) = N from by rw [HX.out.2.2.2.1]; unfold trStep; rw [if_neg hso])
        have h1 := hbs x.sv s
        have h2 := hbs x.op o
        clear hbs hc9 hxl hstep hE hown hEa hN
        by_cases h3 : x.sv = s
        · rw [decide_eq_true h3] at h1
          have h4 : ¬ x.op = o := fun e => hso ⟨h3, e⟩
          rw [decide_eq_false h4] at h2
          clear h3 h4 hso
          go_wp2_with fail
          rw [← hwa]
          go_roundg (gk - 1)
          case measure => omega
          case rel => exact ⟨j + 1, by simp, by omega, HX.out.1, by rw [HS.out]; exact HX.out.2.2.1⟩
        · rw [decide_eq_false h3] at h1
          clear h3 hso h2
          go_wp2_with fail
          rw [← hwa]
          go_roundg (gk - 1)
          case measure => omega
          case rel => exact ⟨j + 1, by simp, by omega, HX.out.1, by rw [HS.out]; exact HX.out.2.2.1⟩
    · have hje : j = L.length := by rw [← HN.out]; omega
      have HF := Lib.hid (show TrPost L s o w (.returned u7) wr from ⟨u7, rfl, by have h := hown; unfold trTo at h; rw [hje, List.take_length] at h; exact h, hE⟩)
      clear hje hown hE
      go_wp2_with fail
      go_ret
      exact HF.out
end Go.Proofs.YtdonmmjikcbihaaGreatDoor
/- The document's answers for entry: All. -/
namespace Go.Proofs.YtdonmmjikcbihaaGreatDoor
open Go.RowKit Go.Proofs Go.Vc
attribute [local irreducible] Calls CallsIn Code.wp Code.wpIn
theorem entIns_end (L : List Spn) (x : Spn) : ∀ a : List Ent, (∀ e ∈ a, eless e x = true) → entIns L x a = a ++ [⟨x.sv, x.op, trOf L x.sv x.op⟩]
  | [], _ => rfl
  | e :: a, h => by
    rw [entIns, if_pos (h e (List.mem_cons_self ..)), entIns_end L x a fun y hy => h y (List.mem_cons_of_mem _ hy)]; rfl
theorem entIns_same (L : List Spn) (x : Spn) (e : Ent) (r : List Ent) (h1 : eless e x = false) (h2 : e.sv = x.sv ∧ e.op = x.op) : ∀ a : List Ent, (∀ e ∈ a, eless e x = true) → entIns L x (a ++ e :: r) = a ++ e :: r
  | [], _ => by rw [List.nil_append, entIns, if_neg (by rw [h1]; simp), if_pos h2]
  | d :: a, h => by
    rw [List.cons_append, entIns, if_pos (h d (List.mem_cons_self ..)), entIns_same L x e r h1 h2 a fun y hy => h y (List.mem_cons_of_mem _ hy)]
theorem entIns_mid (L : List Spn) (x : Spn) (e : Ent) (r : List Ent) (h1 : eless e x = false) (h2 : ¬ (e.sv = x.sv ∧ e.op = x.op)) : ∀ a : List Ent, (∀ e ∈ a, eless e x = true) → entIns L x (a ++ e :: r) = a ++ ⟨x.sv, x.op, trOf L x.sv x.op⟩ :: e :: r
  | [], _ => by rw [List.nil_append, entIns, if_neg (by rw [h1]; simp), if_neg h2]; rfl
  | d :: a, h => by
    rw [List.cons_append, entIns, if_pos (h d (List.mem_cons_self ..)), entIns_mid L x e r h1 h2 a fun y hy => h y (List.mem_cons_of_mem _ hy)]; rfl
/-- the entries so far -/
def reTo (L : List Spn) (j : Nat) : List Ent := (L.take j).foldl (fun E x => entIns L x E) []
theorem reTo_succ (L : List Spn) (j : Nat) (h : j < L.length) : reTo L (j + 1) = entIns L L[j] (reTo L j) := by
  unfold reTo
  rw [← List.take_append_getElem h, List.foldl_append]; rfl
theorem entIns_len (L : List Spn) (x : Spn) : ∀ E : List Ent, (entIns L x E).length ≤ E.length + 1
  | [] => Nat.le_refl _
  | e :: E => by
    have := entIns_len L x E
    simp only [entIns]; split
    · simp only [List.length_cons]; omega
    · split <;> simp
theorem reTo_len (L : List Spn) : ∀ j, (reTo L j).length ≤ j
  | 0 => by simp [reTo]
  | j + 1 => by
    rcases Nat.lt_or_ge j L.length with h | h
    · rw [reTo_succ L j h]
      have := entIns_len L L[j] (reTo L j)
      have := reTo_len L j
      omega
    · have : reTo L (j + 1) = reTo L j := by unfold reTo; rw [List.take_of_length_le (by omega), List.take_of_length_le (by omega)]
      rw [this]; have := reTo_len L j; omega
/-- rows that hold entries, their traces in rows of the call's own -/
def EntsOwn (B : Nat) (W : World) : List (ByteArray × ByteArray × Sl) → List Ent → Prop
  | [], [] => True
  | x :: l, e :: E => (x.1 = e.sv ∧ x.2.1 = e.op ∧ intE.Own B (slV x.2.2) e.tr W) ∧ EntsOwn B W l E
  | _, _ => False
theorem EntsOwn.len {B : Nat} {W : World} : ∀ {l : List (ByteArray × ByteArray × Sl)} {E : List Ent}, EntsOwn B W l E → l.length = E.length
  | [], [], _ => rfl
  | _ :: _, _ :: _, h => by rw [List.length_cons, List.length_cons, EntsOwn.len h.2]
  | [], _ :: _, h => h.elim
  | _ :: _, [], h => h.elim
theorem EntsOwn.append {B : Nat} {W : World} {m : List (ByteArray × ByteArray × Sl)} {F : List Ent} (k : EntsOwn B W m F) : ∀ {l : List (ByteArray × ByteArray × Sl)} {E : List Ent}, EntsOwn B W l E → EntsOwn B W (l ++ m) (E ++ F)
  | [], [], _ => k
  | _ :: _, _ :: _, h => ⟨h.1, EntsOwn.append k h.2⟩
  | [], _ :: _, h => h.elim
  | _ :: _, [], h => h.elim
theorem EntsOwn.take {B : Nat} {W : World} : ∀ {l : List (ByteArray × ByteArray × Sl)} {E : List Ent} (i : Nat), EntsOwn B W l E → EntsOwn B W (l.take i) (E.take i)
  | [], [], i, _ => by simp [EntsOwn]
  | _ :: _, _ :: _, 0, _ => by simp [EntsOwn]
  | _ :: _, _ :: _, i + 1, h => ⟨h.1, EntsOwn.take i h.2⟩
  | [], _ :: _, _, h => h.elim
  | _ :: _, [], _, h => h.elim
theorem EntsOwn.drop {B : Nat} {W : World} : ∀ {l : List (ByteArray × ByteArray × Sl)} {E : List Ent} (i : Nat), EntsOwn B W l E → EntsOwn B W (l.drop i) (E.drop i)
  | [], [], i, _ => by simp [EntsOwn]
  | _ :: _, _ :: _, 0, h => h
  | _ :: _, _ :: _, i + 1, h => EntsOwn.drop i h.2
  | [], _ :: _, _, h => h.elim
  | _ :: _, [], _, h => h.elim
theorem EntsOwn.keeps {F : Nat → Prop} {B : Nat} {W W' : World} (k : Keeps F W W') (hF : ∀ v m g, intE.Own B v m W → v.ownBlock = some g → ¬ F g) : ∀ {l : List (ByteArray × ByteArray × Sl)} {E : List Ent}, EntsOwn B W l E → EntsOwn B W' l E
  | [], [], _ => trivial
  | _ :: _, _ :: _, h => ⟨⟨h.1.1, h.1.2.1, h.1.2.2.keeps intE k fun g hg => hF _ _ g h.1.2.2 hg⟩, EntsOwn.keeps k hF h.2⟩
  | [], _ :: _, h => h.elim
  | _ :: _, [], h => h.elim
theorem EntsOwn.ext {B : Nat} {W W' : World} {l : List (ByteArray × ByteArray × Sl)} {E : List Ent} (h : EntsOwn B W l E) (k : Ext W W') : EntsOwn B W' l E := h.keeps k fun _ _ _ _ _ hf => hf
/-- an own row of entries grows: what their traces lie in stays -/
theorem EntsOwn.grow {B : Nat} {W W' : World} {v : Value} {m l : List (ByteArray × ByteArray × Sl)} {E : List Ent} (h : EntsOwn B W l E) (ho : entE.Own B v m W) (k : Keeps (fun b => v.ownBlock = some b) W W') : EntsOwn B W' l E :=
  h.keeps k fun _ _ _ hi hg hf => kinds_apart ho hi hf hg
theorem EntsOwn.at {B : Nat} {W : World} : ∀ {l : List (ByteArray × ByteArray × Sl)} {E : List Ent} (i : Nat) (h : i < l.length) (h' : i < E.length), EntsOwn B W l E → l[i].1 = E[i].sv ∧ l[i].2.1 = E[i].op ∧ intE.Own B (slV l[i].2.2) E[i].tr W
  | _ :: _, _ :: _, 0, _, _, h => h.1
  | _ :: _, _ :: _, i + 1, h1, h2, h => EntsOwn.at i (Nat.lt_of_succ_lt_succ h1) (Nat.lt_of_succ_lt_succ h2) h.2
theorem EntsOwn.reads {B : Nat} {W : World} {v : Value} {l : List (ByteArray × ByteArray × Sl)} {E : List Ent} (h : EntsOwn B W l E) (ho : entE.Own B v l W) (hl : E.length ≤ 1000000) (ht : ∀ e ∈ E, e.tr.length ≤ 1000000) : EntsAt W v E :=
  ⟨l, ho.reads entE (by rw [h.len]; exact hl), h.len, fun i h1 h2 => ⟨(h.at i h1 h2).1, (h.at i h1 h2).2.1⟩, fun i h1 h2 => (h.at i h1 h2).2.2.reads intE (ht _ (List.getElem_mem h2))⟩
theorem entIns_tr (L : List Spn) (x : Spn) {E : List Ent} (h : ∀ e ∈ E, e.tr.length ≤ L.length) : ∀ e ∈ entIns L x E, e.tr.length ≤ L.length := by
  intro e he
  rcases entIns_mem L x E e he with he | rfl
  · exact h e he
  · exact trOf_len L _ _
theorem reTo_tr (L : List Spn) : ∀ j, ∀ e ∈ reTo L j, e.tr.length ≤ L.length
  | 0, e, he => by simp [reTo] at he
  | j + 1, e, he => by
    rcases Nat.lt_or_ge j L.length with h | h
    · rw [reTo_succ L j h] at he
      exact entIns_tr L _ (reTo_tr L j) e he
    · have : reTo L (j + 1) = reTo L j := by unfold reTo; rw [List.take_of_length_le (by omega), List.take_of_length_le (by omega)]
      rw [this] at he; exact reTo_tr L j e he
theorem bless_eq (a b : ByteArray) : (a.toList == b.toList) = decide (a = b) := by
  by_cases h : a = b
  · rw [h]; simp
  · rw [decide_eq_false h, beq_eq_false_iff_ne]; exact fun e => h (bytes_ext e)
end Go.Proofs.YtdonmmjikcbihaaGreatDoor
/- The document's answers for entry: All, walked. -/
namespace Go.Proofs.YtdonmmjikcbihaaGreatDoor
open Go.RowKit Go.Proofs Go.Vc
attribute [local irreducible] Calls CallsIn Code.wp Code.wpIn
set_option maxHeartbeats 8000000 in
set_option maxRecDepth 20000 in
theorem rall_i (ty : TypeId) (b : Nat) (vL : Value) (L : List Spn) (w : World) (hb : w.heap[b]? = some (.cells #[vL] ty (0, 0))) (hL : SpnsAt w vL L) (hlL : L.length ≤ 10000) :
    Calls Tryz.prog 13 #[.pointer (some ⟨b, 0, none⟩)] w (AllPost (refAll L) w) := by
  have hL' := hL
  obtain ⟨aL, capL, rfl, hnL, _, hju⟩ := hL'
  obtain ⟨n, hnl⟩ : ∃ n, n = L.length := ⟨_, rfl⟩
  rw [← hnl] at hb hL hnL
  have HN := Lib.hid (And.intro hnl hlL)
  have hn2 : (n : Int) ≤ 10000 := by omega
  have HB := Lib.hid (show ∀ wr, Ext w wr → wr.heap[b]? = some (.cells #[.slice aL n capL] ty (0, 0)) ∧ SpnsAt wr (.slice aL n capL) L from fun wr k => ⟨(Ext.same k (lt_of_heap hb)).trans hb, hL.ext k⟩)
  have hbw := blk_cell hb
  clear hb hL hju hnl hlL
  go_enter Tryz.func13, Tryz.ntmps13
  go_wp2_with fail
  go_loopg [3, 4] n (fun k p3 p4 wr => ∃ (j : Nat) (l : List (ByteArray × ByteArray × Sl)), p4 = .int .i64 j ∧ j + k = n ∧ Ext w wr ∧ entE.Own w.heap.size p3 l wr ∧ EntsOwn w.heap.size wr l (reTo L j))
  case atStart => exact ⟨0, [], rfl, Nat.zero_add _, Keeps.refl _ _, Ek.Own.nil entE _ _, trivial⟩
  case round =>
    obtain ⟨j, l, rfl, hj, hE, hown, hents⟩ := hrel
    have hcr := blk_cell (HB.out wr hE).1
    by_cases hjn : (j : Int) < n
    · have hjl : j < L.length := by rw [← HN.out.1]; omega
      obtain ⟨g, q, rfl, hc9⟩ := (HB.out wr hE).2.at hjl
      have hy := hc9 j hjl
      obtain ⟨x, hxl⟩ : ∃ x, x = L[j] := ⟨_, rfl⟩
      rw [← hxl] at hy
      have hstep := reTo_succ L j hjl
      rw [← hxl] at hstep
      obtain ⟨wa, hwa⟩ : ∃ wa, wa = wr.alloc (.cells (spnC x) 48) := ⟨_, rfl⟩
      have hEa : Ext wr wa := by rw [hwa]; exact (Keeps.refl _ wr).alloc _
      have hNa : wa.heap[wr.heap.size]? = some (.cells (spnC x) 48 (0, 0)) := by rw [hwa]; exact World.alloc_heap_new wr _
      obtain ⟨p, hp⟩ : ∃ p, p = wr.heap.size := ⟨_, rfl⟩
      rw [← hp] at hNa
      obtain ⟨E, hEE⟩ : ∃ E, E = reTo L j := ⟨_, rfl⟩
      rw [← hEE] at hents hstep
      have hNl : l.length ≤ 10000 := by
        have h1 := reTo_len L j
        have h2 := hents.len
        rw [hEE] at h2; omega
      have HX := Lib.hid (And.intro (hE.trans hEa) (And.intro hNa (And.intro (hown.ext entE hEa) (And.intro (hents.ext hEa) hstep))))
      unfold C9 at hy
      have hpx := blk_cell hNa
      clear hc9 hxl hstep hE hown hEa hEE hents
      obtain ⟨gk0, hgk0⟩ : ∃ gg, gg = gk := ⟨_, rfl⟩
      subst hgk0
      obtain ⟨w0, hw0⟩ : ∃ w0, w0 = wr := ⟨_, rfl⟩
      subst hw0
      obtain ⟨ln, hln⟩ : ∃ n, n = l.length := ⟨_, rfl⟩
      have hln2 : (ln : Int) ≤ 10000 := by omega
      have HLN := Lib.hid (And.intro hln (show ln = E.length from hln.trans HX.out.2.2.2.1.len))
      rcases HX.out.2.2.1.form entE with hf | ⟨g7, cap7, hf, hcap7⟩
      · subst hf
        have hN0 : l = [] := by
          have h := HX.out.2.2.1.2
          rcases h with ⟨_, h⟩ | ⟨g', cap', cur, h, _⟩
          · exact List.eq_nil_of_length_eq_zero h
          · cases h
        subst hN0
        have hE0 : E = [] := List.eq_nil_of_length_eq_zero (by rw [← HLN.out.2, HLN.out.1]; rfl)
        subst hE0
        have HTR := Lib.hid (show entIns L x [] = [⟨x.sv, x.op, trOf L x.sv x.op⟩] from rfl)
        clear hNa hNl hln hln2
        go_wp2_with fail
        rw [← hwa, ← hp]
        have HPP := Lib.hid hp
        clear hwa hp hcr hy
        go_loopg [6] 0 (fun k p6 wr => p6 = .int .i64 0 ∧ k = 0 ∧ Ext wa wr)
        case atStart => exact ⟨rfl, rfl, Keeps.refl _ _⟩
        case round =>
          obtain ⟨rfl, rfl, hE⟩ := hrel
          have HA := Lib.hid hE
          clear hE
          go_wp2_with fail
          refine wp_drawE (way [0, 1, 2, 3, 4, 5, 6, 7, 8, 9, 10, 11, 12, 13, 14, 15, 16, 17, 18, 19, 20, 21, 22, 23, 24, 25, 26, 27, 28, 29, 30, 31, 32, 33]) (by kernel_rfl) (by kernel_rfl) (fun w1 hh hd hf hS => ?_)
          have HS1 := Lib.hid (HA.out.trans hS)
          simp only [way]
          go_wp2_with (first | (refine' hl_q rfl rfl rfl (fun _ => ?_) ?_; rotate_left; (go_simp <;> (try go_bits) <;> rfl); (try simp only [Act.put, List.setIfInBounds_toArray, List.set_cons_zero, List.set_cons_succ])) | (refine' hl_rS rfl rfl rfl hS ?_ ?_; rotate_left; (intro w9 hS9; (first | have hc9 := Ext.cells hS9 | have hc9 := Keeps.cells hS9); (go_simp <;> rfl)); (try simp only [Act.put, List.setIfInBounds_toArray, List.set_cons_zero, List.set_cons_succ])) | (refine' hl_r rfl rfl rfl ?_ ?_; rotate_left; (rintro w9 (rfl | hS9); (go_simp <;> rfl); (first | have hc9 := Ext.cells hS9 | have hc9 := Keeps.cells hS9 | (try dsimp only at hS9)); (go_simp <;> rfl)); (try simp only [Act.put, List.setIfInBounds_toArray, List.set_cons_zero, List.set_cons_succ])) | (refine' hl_s rfl rfl ?_; (try simp only [Act.put, List.setIfInBounds_toArray, List.set_cons_zero, List.set_cons_succ])) | (refine hl_e rfl rfl rfl (fun K hK => ?_)) | (with_reducible refine And.intro (fun hn => ?_) ?_; (first | exact hS | exact Keeps.alloc hS _ | exact absurd hn (by rw [show needS _ _ = false from by kernel_rfl]; exact Bool.false_ne_true))) | (refine hl_done ?_) | gi_step)
          refine wp_drawE (way [0, 1, 2, 3, 4, 5, 6, 7, 8, 9, 10, 11, 12, 13, 14, 15, 16, 17, 18, 19, 20, 21, 22, 23]) (by kernel_rfl) (by kernel_rfl) (fun w2 hh2 hd2 hf2 hS2 => ?_)
          have HS2 := Lib.hid (HS1.out.trans hS2)
          simp only [way]
          have hp2 := blk_cell ((Ext.same HS2.out (lt_of_heap HX.out.2.1)).trans HX.out.2.1)
          have HR2 := Lib.hid (HX.out.1.trans HS2.out)
          go_wp2_with (first | (at_builtin; refine Ek.app' entE rfl _ _ rfl w.heap.size (.slice none 0 0) [] [] rfl (Ek.Own.nil entE _ _) (Ek.Reads.nil entE _ _) (by simp) HR2.out.size ?_) | (refine' hl_q rfl rfl rfl (fun _ => ?_) ?_; rotate_left; (go_simp <;> (try go_bits) <;> rfl); (try simp only [Act.put, List.setIfInBounds_toArray, List.set_cons_zero, List.set_cons_succ])) | (refine' hl_rS rfl rfl rfl hS ?_ ?_; rotate_left; (intro w9 hS9; (first | have hc9 := Ext.cells hS9 | have hc9 := Keeps.cells hS9); (go_simp <;> rfl)); (try simp only [Act.put, List.setIfInBounds_toArray, List.set_cons_zero, List.set_cons_succ])) | (refine' hl_r rfl rfl rfl ?_ ?_; rotate_left; (rintro w9 (rfl | hS9); (go_simp <;> rfl); (first | have hc9 := Ext.cells hS9 | have hc9 := Keeps.cells hS9 | (try dsimp only at hS9)); (go_simp <;> rfl)); (try simp only [Act.put, List.setIfInBounds_toArray, List.set_cons_zero, List.set_cons_succ])) | (refine' hl_s rfl rfl ?_; (try simp only [Act.put, List.setIfInBounds_toArray, List.set_cons_zero, List.set_cons_succ])) | (refine hl_e rfl rfl rfl (fun K hK => ?_)) | (with_reducible refine And.intro (fun hn => ?_) ?_; (first | exact hS | exact Keeps.alloc hS _ | exact absurd hn (by rw [show needS _ _ = false from by kernel_rfl]; exact Bool.false_ne_true))) | (refine hl_done ?_) | gi_step)
          intro v5 w5 hown5 hgr5 hv5 _
          have hv5' : v5 = .slice none 0 0 := by simpa using hv5
          subst hv5'
          have hE5 : Ext w2 w5 := hgr5.mono fun _ _ h => by cases h
          have hN5 := (Ext.same (HS2.out.trans hE5) (lt_of_heap HX.out.2.1)).trans HX.out.2.1
          have hp5 := blk_cell hN5
          have H5 := Lib.hid (And.intro (HR2.out.trans hE5) hN5)
          clear hown5 hgr5 hv5 hE5 hp2 hN5
          go_wp2_with fail
          refine wp_drawE (way [0, 1, 2, 3, 4, 5, 6, 7, 8, 9, 10, 11, 12, 13, 14]) (by kernel_rfl) (by kernel_rfl) (fun w6 hh6 hd6 hf6 hS => ?_)
          have hp6 := blk_cell ((Ext.same hS (lt_of_heap H5.out.2)).trans H5.out.2)
          clear hh6 hd6 hf6
          simp only [way]
          go_wp2_with (first | (refine' hl_q rfl rfl rfl (fun _ => ?_) ?_; rotate_left; (go_simp <;> (try go_bits) <;> rfl); (try simp only [Act.put, List.setIfInBounds_toArray, List.set_cons_zero, List.set_cons_succ])) | (refine' hl_rS rfl rfl rfl hS ?_ ?_; rotate_left; (intro w9 hS9; (first | have hc9 := Ext.cells hS9 | have hc9 := Keeps.cells hS9); (go_simp <;> rfl)); (try simp only [Act.put, List.setIfInBounds_toArray, List.set_cons_zero, List.set_cons_succ])) | (refine' hl_r rfl rfl rfl ?_ ?_; rotate_left; (rintro w9 (rfl | hS9); (go_simp <;> rfl); (first | have hc9 := Ext.cells hS9 | have hc9 := Keeps.cells hS9 | (try dsimp only at hS9)); (go_simp <;> rfl)); (try simp only [Act.put, List.setIfInBounds_toArray, List.set_cons_zero, List.set_cons_succ])) | (refine' hl_s rfl rfl ?_; (try simp only [Act.put, List.setIfInBounds_toArray, List.set_cons_zero, List.set_cons_succ])) | (refine hl_e rfl rfl rfl (fun K hK => ?_)) | (with_reducible refine And.intro (fun hn => ?_) ?_; (first | exact hS | exact Keeps.alloc hS _ | exact absurd hn (by rw [show needS _ _ = false from by kernel_rfl]; exact Bool.false_ne_true))) | (refine hl_done ?_) | gi_step)
          refine callsIn_wide.2 ((rtraces_i ty b _ L x.sv x.op _ (HB.out w6 (H5.out.1.trans hS)).1 (HB.out w6 (H5.out.1.trans hS)).2 HN.out.2).mono ?_)
          rintro e9 w8 ⟨v8, rfl, hown8, hE8⟩
          have hS8 := hS.trans hE8
          have hw6 : w.heap.size ≤ w6.heap.size := (H5.out.1.trans hS).size
          clear hS
          have hS := hS8
          clear hS8
          obtain ⟨a8, c8, rfl, _, _⟩ := hown8.slice intE
          have H8 := Lib.hid (And.intro (hown8.mono intE hw6) (H5.out.1.trans hS))
          clear hown8 hE8 hp6 hw6
          go_wp2_with (first | (refine Ek.hl_app entE rfl rfl rfl _ _ rfl w.heap.size (.slice none 0 0) [] [(x.sv, x.op, (a8, (trOf L x.sv x.op).length, c8))] rfl (Ek.Own.nil entE _ _) (Ek.reads_new entE _ _ _ _ rfl) (by simp) (Nat.le_trans H8.out.2.size ((Keeps.refl Non w8).alloc _).size) ?_) | (refine' hl_q rfl rfl rfl (fun _ => ?_) ?_; rotate_left; (go_simp <;> (try go_bits) <;> rfl); (try simp only [Act.put, List.setIfInBounds_toArray, List.set_cons_zero, List.set_cons_succ])) | (refine' hl_rS rfl rfl rfl hS ?_ ?_; rotate_left; (intro w9 hS9; (first | have hc9 := Ext.cells hS9 | have hc9 := Keeps.cells hS9); (go_simp <;> rfl)); (try simp only [Act.put, List.setIfInBounds_toArray, List.set_cons_zero, List.set_cons_succ])) | (refine' hl_r rfl rfl rfl ?_ ?_; rotate_left; (rintro w9 (rfl | hS9); (go_simp <;> rfl); (first | have hc9 := Ext.cells hS9 | have hc9 := Keeps.cells hS9 | (try dsimp only at hS9)); (go_simp <;> rfl)); (try simp only [Act.put, List.setIfInBounds_toArray, List.set_cons_zero, List.set_cons_succ])) | (refine' hl_s rfl rfl ?_; (try simp only [Act.put, List.setIfInBounds_toArray, List.set_cons_zero, List.set_cons_succ])) | (refine hl_e rfl rfl rfl (fun K hK => ?_)) | (with_reducible refine And.intro (fun hn => ?_) ?_; (first | exact hS | exact Keeps.alloc hS _ | exact absurd hn (by rw [show needS _ _ = false from by kernel_rfl]; exact Bool.false_ne_true))) | (refine hl_done ?_) | gi_step)
          intro v9 w9 hown9 hgr9 _ _
          have hE9 : Ext w8 w9 := ((Keeps.refl Non w8).alloc (.cells #[.string x.sv, .string x.op, .slice a8 (trOf L x.sv x.op).length c8] 46)).trans (hgr9.mono fun _ _ h => by cases h)
          have H9 := Lib.hid (And.intro hown9 (And.intro (H8.out.2.trans hE9) (H8.out.1.ext intE hE9)))
          clear hown9 hgr9 hE9 hp5 hS
          go_wp2_with (first | (at_builtin; refine Ek.app' entE rfl _ _ rfl w.heap.size v9 [(x.sv, x.op, (a8, (trOf L x.sv x.op).length, c8))] [] rfl H9.out.1 (Ek.Reads.nil entE _ _) (by simp) H9.out.2.1.size ?_) | (refine' hl_q rfl rfl rfl (fun _ => ?_) ?_; rotate_left; (go_simp <;> (try go_bits) <;> rfl); (try simp only [Act.put, List.setIfInBounds_toArray, List.set_cons_zero, List.set_cons_succ])) | (refine' hl_rS rfl rfl rfl hS ?_ ?_; rotate_left; (intro w9 hS9; (first | have hc9 := Ext.cells hS9 | have hc9 := Keeps.cells hS9); (go_simp <;> rfl)); (try simp only [Act.put, List.setIfInBounds_toArray, List.set_cons_zero, List.set_cons_succ])) | (refine' hl_r rfl rfl rfl ?_ ?_; rotate_left; (rintro w9 (rfl | hS9); (go_simp <;> rfl); (first | have hc9 := Ext.cells hS9 | have hc9 := Keeps.cells hS9 | (try dsimp only at hS9)); (go_simp <;> rfl)); (try simp only [Act.put, List.setIfInBounds_toArray, List.set_cons_zero, List.set_cons_succ])) | (refine' hl_s rfl rfl ?_; (try simp only [Act.put, List.setIfInBounds_toArray, List.set_cons_zero, List.set_cons_succ])) | (refine hl_e rfl rfl rfl (fun K hK => ?_)) | (with_reducible refine And.intro (fun hn => ?_) ?_; (first | exact hS | exact Keeps.alloc hS _ | exact absurd hn (by rw [show needS _ _ = false from by kernel_rfl]; exact Bool.false_ne_true))) | (refine hl_done ?_) | gi_step)
          intro v10 w10 hown10 hgr10 _ _
          have hint10 := H9.out.2.2.keeps intE hgr10 (fun gg hg hv => kinds_apart H9.out.1 H9.out.2.2 hv hg)
          have H10 := Lib.hid (And.intro hown10 (And.intro (H9.out.1.grow entE H9.out.2.1 (Nat.le_refl _) hgr10) hint10))
          clear hown10 hgr10 hint10
          go_wp2_with fail
          go_roundg (gk0 - 1)
          case measure => omega
          case rel => exact ⟨j + 1, _, by simp, by omega, H10.out.2.1, H10.out.1, by rw [HX.out.2.2.2.2]; exact ⟨⟨rfl, rfl, H10.out.2.2⟩, trivial⟩⟩
      · subst hf
        rw [← hln] at hcap7 HX ⊢
        clear hNa hNl
        go_wp2_with fail
        rw [← hwa, ← hp]
        have HPP := Lib.hid hp
        clear hwa hp hcr hy hln
        go_loopg [6] ln (fun k p6 wr => ∃ i : Nat, p6 = .int .i64 i ∧ i + k = ln ∧ Ext wa wr ∧ ∀ e ∈ E.take i, eless e x = true)
        case atStart => exact ⟨0, rfl, Nat.zero_add _, Keeps.refl _ _, fun y hy => by simp at hy⟩
        case round =>
          obtain ⟨i, rfl, hi, hE, hall⟩ := hrel
          have hpr := blk_cell ((Ext.same hE (lt_of_heap HX.out.2.1)).trans HX.out.2.1)
          have HA := Lib.hid (And.intro hE hall)
          clear hE hall
          by_cases hil : (i : Int) < ln
          · have hill : i < l.length := by rw [← HLN.out.1]; omega
            have hilE : i < E.length := by rw [← HLN.out.2]; omega
            have hrd := (HX.out.2.2.1.ext entE HA.out.1).reads entE (by rw [← HLN.out.1]; omega)
            have hr0 := hrd.elem entE i 0 hill (by decide)
            have hr1 := hrd.elem entE i 1 hill (by decide)
            obtain ⟨e, hel⟩ : ∃ e, e = E[i] := ⟨_, rfl⟩
            have hat := HX.out.2.2.2.1.at i hill hilE
            rw [← hel] at hat
            have hsv : wr.cell? ⟨g7, i * 3, none⟩ = some (.string e.sv) := by rw [← hat.1]; simpa [entE] using hr0
            have hop : wr.cell? ⟨g7, i * 3 + 1, none⟩ = some (.string e.op) := by rw [← hat.2.1]; simpa [entE] using hr1
            have HY := Lib.hid hel
            clear hrd hr0 hr1 hel hat
            have HTK := Lib.hid (show E.take (i + 1) = E.take i ++ [e] from by rw [HY.out]; exact (List.take_append_getElem hilE).symm)
            have HSP := Lib.hid (show E.take i ++ e :: E.drop (i + 1) = E from by rw [HY.out, List.getElem_cons_drop, List.take_append_drop])
            have HDR := Lib.hid (show E.drop i = e :: E.drop (i + 1) from by rw [HY.out]; exact List.drop_eq_getElem_cons hilE)
            cases ha : Op.bytesLess e.sv.toList x.sv.toList
            · cases hbq : (e.sv.toList == x.sv.toList)
              · have HLS := Lib.hid (show eless e x = false from by unfold eless; rw [ha, ← bless_eq, hbq]; rfl)
                have HNE := Lib.hid (show ¬ (e.sv = x.sv ∧ e.op = x.op) from fun h => by rw [bless_eq, decide_eq_false_iff_not] at hbq; exact hbq h.1)
                go_wp2_with fail
                refine wp_drawE (way [0, 1, 2, 3, 4, 5, 6, 7, 8, 9, 10, 11, 12, 13, 14, 15, 16, 17, 18, 19, 20, 21, 22, 23, 24, 25, 26, 27, 28, 29, 30, 31, 32, 33]) (by kernel_rfl) (by kernel_rfl) (fun w1 hh hd hf hS => ?_)
                have HS1 := Lib.hid (HA.out.1.trans hS)
                simp only [way]
                go_wp2_with (first | (refine' hl_q rfl rfl rfl (fun _ => ?_) ?_; rotate_left; (go_simp <;> (try go_bits) <;> rfl); (try simp only [Act.put, List.setIfInBounds_toArray, List.set_cons_zero, List.set_cons_succ])) | (refine' hl_rS rfl rfl rfl hS ?_ ?_; rotate_left; (intro w9 hS9; (first | have hc9 := Ext.cells hS9 | have hc9 := Keeps.cells hS9); (go_simp <;> rfl)); (try simp only [Act.put, List.setIfInBounds_toArray, List.set_cons_zero, List.set_cons_succ])) | (refine' hl_r rfl rfl rfl ?_ ?_; rotate_left; (rintro w9 (rfl | hS9); (go_simp <;> rfl); (first | have hc9 := Ext.cells hS9 | have hc9 := Keeps.cells hS9 | (try dsimp only at hS9)); (go_simp <;> rfl)); (try simp only [Act.put, List.setIfInBounds_toArray, List.set_cons_zero, List.set_cons_succ])) | (refine' hl_s rfl rfl ?_; (try simp only [Act.put, List.setIfInBounds_toArray, List.set_cons_zero, List.set_cons_succ])) | (refine hl_e rfl rfl rfl (fun K hK => ?_)) | (with_reducible refine And.intro (fun hn => ?_) ?_; (first | exact hS | exact Keeps.alloc hS _ | exact absurd hn (by rw [show needS _ _ = false from by kernel_rfl]; exact Bool.false_ne_true))) | (refine hl_done ?_) | gi_step)
                refine wp_drawE (way [0, 1, 2, 3, 4, 5, 6, 7, 8, 9, 10, 11, 12, 13, 14, 15, 16, 17, 18, 19, 20, 21, 22, 23]) (by kernel_rfl) (by kernel_rfl) (fun w2 hh2 hd2 hf2 hS2 => ?_)
                have HS2 := Lib.hid (HS1.out.trans hS2)
                simp only [way]
                have HTR := Lib.hid (show entIns L x E = E.take i ++ ⟨x.sv, x.op, trOf L x.sv x.op⟩ :: E.drop i from by
                  have h := entIns_mid L x e (E.drop (i + 1)) HLS.out HNE.out (E.take i) HA.out.2
                  rw [HSP.out] at h
                  rw [HDR.out]; exact h)
                have hp2 := blk_cell ((Ext.same HS2.out (lt_of_heap HX.out.2.1)).trans HX.out.2.1)
                have HR2 := Lib.hid (And.intro (HX.out.2.2.1.ext entE HS2.out) (And.intro (HX.out.2.2.2.1.ext HS2.out) (HX.out.1.trans HS2.out)))
                have hiN : i ≤ l.length := by rw [← HLN.out.1]; omega
                have hilk : i ≤ cap7 := by omega
                go_wp2_with (first | (at_builtin; refine Ek.app' entE rfl _ _ rfl w.heap.size (.slice none 0 0) [] (l.take i) rfl (Ek.Own.nil entE _ _) (HR2.out.1.front entE (by rw [← HLN.out.1]; omega) i _ hiN) (by rw [List.length_take, List.length_nil, ← HLN.out.1]; omega) HR2.out.2.2.size ?_) | (refine' hl_q rfl rfl rfl (fun _ => ?_) ?_; rotate_left; (go_simp <;> (try go_bits) <;> rfl); (try simp only [Act.put, List.setIfInBounds_toArray, List.set_cons_zero, List.set_cons_succ])) | (refine' hl_rS rfl rfl rfl hS ?_ ?_; rotate_left; (intro w9 hS9; (first | have hc9 := Ext.cells hS9 | have hc9 := Keeps.cells hS9); (go_simp <;> rfl)); (try simp only [Act.put, List.setIfInBounds_toArray, List.set_cons_zero, List.set_cons_succ])) | (refine' hl_r rfl rfl rfl ?_ ?_; rotate_left; (rintro w9 (rfl | hS9); (go_simp <;> rfl); (first | have hc9 := Ext.cells hS9 | have hc9 := Keeps.cells hS9 | (try dsimp only at hS9)); (go_simp <;> rfl)); (try simp only [Act.put, List.setIfInBounds_toArray, List.set_cons_zero, List.set_cons_succ])) | (refine' hl_s rfl rfl ?_; (try simp only [Act.put, List.setIfInBounds_toArray, List.set_cons_zero, List.set_cons_succ])) | (refine hl_e rfl rfl rfl (fun K hK => ?_)) | (with_reducible refine And.intro (fun hn => ?_) ?_; (first | exact hS | exact Keeps.alloc hS _ | exact absurd hn (by rw [show needS _ _ = false from by kernel_rfl]; exact Bool.false_ne_true))) | (refine hl_done ?_) | gi_step)
                intro v5 w5 hown5 hgr5 _ hblk5
                have hE5 : Ext w2 w5 := hgr5.mono fun _ _ h => by cases h
                have hN5 := (Ext.same (HS2.out.trans hE5) (lt_of_heap HX.out.2.1)).trans HX.out.2.1
                have hp5 := blk_cell hN5
                have H5 := Lib.hid (And.intro hown5 (And.intro (HR2.out.2.2.trans hE5) (And.intro (HR2.out.1.ext entE hE5) (And.intro (HR2.out.2.1.ext hE5) (And.intro hblk5 (And.intro (HR2.out.1.lt entE (g := g7) rfl).2 hN5))))))
                clear hown5 hgr5 hblk5 hE5 hp2 hN5
                go_wp2_with fail
                refine wp_drawE (way [0, 1, 2, 3, 4, 5, 6, 7, 8, 9, 10, 11, 12, 13, 14]) (by kernel_rfl) (by kernel_rfl) (fun w6 hh6 hd6 hf6 hS => ?_)
                have hp6 := blk_cell ((Ext.same hS (lt_of_heap H5.out.2.2.2.2.2.2)).trans H5.out.2.2.2.2.2.2)
                clear hh6 hd6 hf6
                simp only [way]
                go_wp2_with (first | (refine' hl_q rfl rfl rfl (fun _ => ?_) ?_; rotate_left; (go_simp <;> (try go_bits) <;> rfl); (try simp only [Act.put, List.setIfInBounds_toArray, List.set_cons_zero, List.set_cons_succ])) | (refine' hl_rS rfl rfl rfl hS ?_ ?_; rotate_left; (intro w9 hS9; (first | have hc9 := Ext.cells hS9 | have hc9 := Keeps.cells hS9); (go_simp <;> rfl)); (try simp only [Act.put, List.setIfInBounds_toArray, List.set_cons_zero, List.set_cons_succ])) | (refine' hl_r rfl rfl rfl ?_ ?_; rotate_left; (rintro w9 (rfl | hS9); (go_simp <;> rfl); (first | have hc9 := Ext.cells hS9 | have hc9 := Keeps.cells hS9 | (try dsimp only at hS9)); (go_simp <;> rfl)); (try simp only [Act.put, List.setIfInBounds_toArray, List.set_cons_zero, List.set_cons_succ])) | (refine' hl_s rfl rfl ?_; (try simp only [Act.put, List.setIfInBounds_toArray, List.set_cons_zero, List.set_cons_succ])) | (refine hl_e rfl rfl rfl (fun K hK => ?_)) | (with_reducible refine And.intro (fun hn => ?_) ?_; (first | exact hS | exact Keeps.alloc hS _ | exact absurd hn (by rw [show needS _ _ = false from by kernel_rfl]; exact Bool.false_ne_true))) | (refine hl_done ?_) | gi_step)
                refine callsIn_wide.2 ((rtraces_i ty b _ L x.sv x.op _ (HB.out w6 (H5.out.2.1.trans hS)).1 (HB.out w6 (H5.out.2.1.trans hS)).2 HN.out.2).mono ?_)
                rintro e9 w8 ⟨v8, rfl, hown8, hE8⟩
                have hS8 := hS.trans hE8
                have hw6 : w.heap.size ≤ w6.heap.size := (H5.out.2.1.trans hS).size
                clear hS
                have hS := hS8
                clear hS8
                obtain ⟨a8, c8, rfl, _, _⟩ := hown8.slice intE
                have H8 := Lib.hid (And.intro (hown8.mono intE hw6) (And.intro (H5.out.1.ext entE hS) (And.intro (H5.out.2.1.trans hS) (And.intro (H5.out.2.2.1.ext entE hS) (H5.out.2.2.2.1.ext hS)))))
                clear hown8 hE8 hp6 hw6
                go_wp2_with (first | (refine Ek.hl_app entE rfl rfl rfl _ _ rfl w.heap.size v5 (l.take i) [(x.sv, x.op, (a8, (trOf L x.sv x.op).length, c8))] rfl (H8.out.2.1.ext entE ((Keeps.refl _ _).alloc _)) (Ek.reads_new entE _ _ _ _ rfl) (by rw [List.length_take, List.length_singleton, ← HLN.out.1]; omega) (Nat.le_trans H8.out.2.2.1.size ((Keeps.refl Non w8).alloc _).size) ?_) | (refine' hl_q rfl rfl rfl (fun _ => ?_) ?_; rotate_left; (go_simp <;> (try go_bits) <;> rfl); (try simp only [Act.put, List.setIfInBounds_toArray, List.set_cons_zero, List.set_cons_succ])) | (refine' hl_rS rfl rfl rfl hS ?_ ?_; rotate_left; (intro w9 hS9; (first | have hc9 := Ext.cells hS9 | have hc9 := Keeps.cells hS9); (go_simp <;> rfl)); (try simp only [Act.put, List.setIfInBounds_toArray, List.set_cons_zero, List.set_cons_succ])) | (refine' hl_r rfl rfl rfl ?_ ?_; rotate_left; (rintro w9 (rfl | hS9); (go_simp <;> rfl); (first | have hc9 := Ext.cells hS9 | have hc9 := Keeps.cells hS9 | (try dsimp only at hS9)); (go_simp <;> rfl)); (try simp only [Act.put, List.setIfInBounds_toArray, List.set_cons_zero, List.set_cons_succ])) | (refine' hl_s rfl rfl ?_; (try simp only [Act.put, List.setIfInBounds_toArray, List.set_cons_zero, List.set_cons_succ])) | (refine hl_e rfl rfl rfl (fun K hK => ?_)) | (with_reducible refine And.intro (fun hn => ?_) ?_; (first | exact hS | exact Keeps.alloc hS _ | exact absurd hn (by rw [show needS _ _ = false from by kernel_rfl]; exact Bool.false_ne_true))) | (refine hl_done ?_) | gi_step)
                intro v9 w9 hown9 hgr9 _ _
                have hEa9 := (Keeps.refl Non w8).alloc (.cells #[.string x.sv, .string x.op, .slice a8 (trOf L x.sv x.op).length c8] 46)
                have hgr9' : Keeps (fun b => v5.ownBlock = some b) w8 w9 := ⟨Nat.le_trans hEa9.size hgr9.size, fun i hi hf => (hgr9.same i (Nat.lt_of_lt_of_le hi hEa9.size) hf).trans (Ext.same hEa9 hi), (hEa9.ost).trans hgr9.ost⟩
                have hu9 := H8.out.2.2.2.1.keeps entE hgr9' (fun gg hg hv => by
                  simp only [Value.ownBlock, Option.some.injEq] at hg
                  subst hg
                  rcases H5.out.2.2.2.2.1 with h | h
                  · rw [h] at hv; cases hv
                  · rw [hv] at h; injection h with h
                    have := H5.out.2.2.2.2.2.1
                    try rw [hh2] at this
                    try rw [hh] at this
                    omega)
                have hint9 := H8.out.1.keeps intE hgr9' (fun gg hg hv => kinds_apart H8.out.2.1 H8.out.1 hv hg)
                have H9 := Lib.hid (And.intro hown9 (And.intro (H8.out.2.1.grow entE H8.out.2.2.1 (Nat.le_refl _) hgr9') (And.intro hu9 (And.intro (H8.out.2.2.2.2.grow H8.out.2.1 hgr9') hint9))))
                clear hown9 hgr9 hgr9' hu9 hint9 hEa9 hp5 hS
                go_wp2_with (first | (at_builtin; refine Ek.app' entE rfl _ _ rfl w.heap.size v9 (l.take i ++ [(x.sv, x.op, (a8, (trOf L x.sv x.op).length, c8))]) (l.drop i) rfl H9.out.1 (H9.out.2.2.1.suffix entE (by rw [← HLN.out.1]; omega) i _ _ (by rw [← HLN.out.1]; omega) _ (by simp [entE])) (by rw [List.length_append, List.length_take, List.length_drop, List.length_singleton, ← HLN.out.1]; omega) H9.out.2.1.size ?_) | (refine' hl_q rfl rfl rfl (fun _ => ?_) ?_; rotate_left; (go_simp <;> (try go_bits) <;> rfl); (try simp only [Act.put, List.setIfInBounds_toArray, List.set_cons_zero, List.set_cons_succ])) | (refine' hl_rS rfl rfl rfl hS ?_ ?_; rotate_left; (intro w9 hS9; (first | have hc9 := Ext.cells hS9 | have hc9 := Keeps.cells hS9); (go_simp <;> rfl)); (try simp only [Act.put, List.setIfInBounds_toArray, List.set_cons_zero, List.set_cons_succ])) | (refine' hl_r rfl rfl rfl ?_ ?_; rotate_left; (rintro w9 (rfl | hS9); (go_simp <;> rfl); (first | have hc9 := Ext.cells hS9 | have hc9 := Keeps.cells hS9 | (try dsimp only at hS9)); (go_simp <;> rfl)); (try simp only [Act.put, List.setIfInBounds_toArray, List.set_cons_zero, List.set_cons_succ])) | (refine' hl_s rfl rfl ?_; (try simp only [Act.put, List.setIfInBounds_toArray, List.set_cons_zero, List.set_cons_succ])) | (refine hl_e rfl rfl rfl (fun K hK => ?_)) | (with_reducible refine And.intro (fun hn => ?_) ?_; (first | exact hS | exact Keeps.alloc hS _ | exact absurd hn (by rw [show needS _ _ = false from by kernel_rfl]; exact Bool.false_ne_true))) | (refine hl_done ?_) | gi_step)
                intro v10 w10 hown10 hgr10 _ _
                have hents := H9.out.2.2.2.1.grow H9.out.1 hgr10
                have hint10 := H9.out.2.2.2.2.keeps intE hgr10 (fun gg hg hv => kinds_apart H9.out.1 H9.out.2.2.2.2 hv hg)
                have H10 := Lib.hid (And.intro hown10 (And.intro (H9.out.1.grow entE H9.out.2.1 (Nat.le_refl _) hgr10) (show EntsOwn w.heap.size w10 ((l.take i ++ [(x.sv, x.op, (a8, (trOf L x.sv x.op).length, c8))]) ++ l.drop i) ((E.take i ++ [⟨x.sv, x.op, trOf L x.sv x.op⟩]) ++ E.drop i) from (hents.drop i).append ((show EntsOwn w.heap.size w10 [(x.sv, x.op, (a8, (trOf L x.sv x.op).length, c8))] [⟨x.sv, x.op, trOf L x.sv x.op⟩] from ⟨⟨rfl, rfl, hint10⟩, trivial⟩).append (hents.take i)))))
                clear hown10 hgr10 hents hint10
                go_wp2_with fail
                go_roundg (gk0 - 1)
                case measure => omega
                case rel => exact ⟨j + 1, _, by simp, by omega, H10.out.2.1, H10.out.1, by rw [HX.out.2.2.2.2, HTR.out]; have h := H10.out.2.2; simp only [List.append_assoc, List.singleton_append] at h; exact h⟩
              · cases hc : Op.bytesLess e.op.toList x.op.toList
                · have HLS := Lib.hid (show eless e x = false from by unfold eless; rw [ha, hc]; simp)
                  cases hdq : (e.op.toList == x.op.toList)
                  · have HNE := Lib.hid (show ¬ (e.sv = x.sv ∧ e.op = x.op) from fun h => by rw [bless_eq, decide_eq_false_iff_not] at hdq; exact hdq h.2)
                    go_wp2_with fail
                    refine wp_drawE (way [0, 1, 2, 3, 4, 5, 6, 7, 8, 9, 10, 11, 12, 13, 14, 15, 16, 17, 18, 19, 20, 21, 22, 23, 24, 25, 26, 27, 28, 29, 30, 31, 32, 33]) (by kernel_rfl) (by kernel_rfl) (fun w1 hh hd hf hS => ?_)
                    have HS1 := Lib.hid (HA.out.1.trans hS)
                    simp only [way]
                    go_wp2_with (first | (refine' hl_q rfl rfl rfl (fun _ => ?_) ?_; rotate_left; (go_simp <;> (try go_bits) <;> rfl); (try simp only [Act.put, List.setIfInBounds_toArray, List.set_cons_zero, List.set_cons_succ])) | (refine' hl_rS rfl rfl rfl hS ?_ ?_; rotate_left; (intro w9 hS9; (first | have hc9 := Ext.cells hS9 | have hc9 := Keeps.cells hS9); (go_simp <;> rfl)); (try simp only [Act.put, List.setIfInBounds_toArray, List.set_cons_zero, List.set_cons_succ])) | (refine' hl_r rfl rfl rfl ?_ ?_; rotate_left; (rintro w9 (rfl | hS9); (go_simp <;> rfl); (first | have hc9 := Ext.cells hS9 | have hc9 := Keeps.cells hS9 | (try dsimp only at hS9)); (go_simp <;> rfl)); (try simp only [Act.put, List.setIfInBounds_toArray, List.set_cons_zero, List.set_cons_succ])) | (refine' hl_s rfl rfl ?_; (try simp only [Act.put, List.setIfInBounds_toArray, List.set_cons_zero, List.set_cons_succ])) | (refine hl_e rfl rfl rfl (fun K hK => ?_)) | (with_reducible refine And.intro (fun hn => ?_) ?_; (first | exact hS | exact Keeps.alloc hS _ | exact absurd hn (by rw [show needS _ _ = false from by kernel_rfl]; exact Bool.false_ne_true))) | (refine hl_done ?_) | gi_step)
                    refine wp_drawE (way [0, 1, 2, 3, 4, 5, 6, 7, 8, 9, 10, 11, 12, 13, 14, 15, 16, 17, 18, 19, 20, 21, 22, 23]) (by kernel_rfl) (by kernel_rfl) (fun w2 hh2 hd2 hf2 hS2 => ?_)
                    have HS2 := Lib.hid (HS1.out.trans hS2)
                    simp only [way]
                    have HTR := Lib.hid (show entIns L x E = E.take i ++ ⟨x.sv, x.op, trOf L x.sv x.op⟩ :: E.drop i from by
                      have h := entIns_mid L x e (E.drop (i + 1)) HLS.out HNE.out (E.take i) HA.out.2
                      rw [HSP.out] at h
                      rw [HDR.out]; exact h)
                    have hp2 := blk_cell ((Ext.same HS2.out (lt_of_heap HX.out.2.1)).trans HX.out.2.1)
                    have HR2 := Lib.hid (And.intro (HX.out.2.2.1.ext entE HS2.out) (And.intro (HX.out.2.2.2.1.ext HS2.out) (HX.out.1.trans HS2.out)))
                    have hiN : i ≤ l.length := by rw [← HLN.out.1]; omega
                    have hilk : i ≤ cap7 := by omega
                    go_wp2_with (first | (at_builtin; refine Ek.app' entE rfl _ _ rfl w.heap.size (.slice none 0 0) [] (l.take i) rfl (Ek.Own.nil entE _ _) (HR2.out.1.front entE (by rw [← HLN.out.1]; omega) i _ hiN) (by rw [List.length_take, List.length_nil, ← HLN.out.1]; omega) HR2.out.2.2.size ?_) | (refine' hl_q rfl rfl rfl (fun _ => ?_) ?_; rotate_left; (go_simp <;> (try go_bits) <;> rfl); (try simp only [Act.put, List.setIfInBounds_toArray, List.set_cons_zero, List.set_cons_succ])) | (refine' hl_rS rfl rfl rfl hS ?_ ?_; rotate_left; (intro w9 hS9; (first | have hc9 := Ext.cells hS9 | have hc9 := Keeps.cells hS9); (go_simp <;> rfl)); (try simp only [Act.put, List.setIfInBounds_toArray, List.set_cons_zero, List.set_cons_succ])) | (refine' hl_r rfl rfl rfl ?_ ?_; rotate_left; (rintro w9 (rfl | hS9); (go_simp <;> rfl); (first | have hc9 := Ext.cells hS9 | have hc9 := Keeps.cells hS9 | (try dsimp only at hS9)); (go_simp <;> rfl)); (try simp only [Act.put, List.setIfInBounds_toArray, List.set_cons_zero, List.set_cons_succ])) | (refine' hl_s rfl rfl ?_; (try simp only [Act.put, List.setIfInBounds_toArray, List.set_cons_zero, List.set_cons_succ])) | (refine hl_e rfl rfl rfl (fun K hK => ?_)) | (with_reducible refine And.intro (fun hn => ?_) ?_; (first | exact hS | exact Keeps.alloc hS _ | exact absurd hn (by rw [show needS _ _ = false from by kernel_rfl]; exact Bool.false_ne_true))) | (refine hl_done ?_) | gi_step)
                    intro v5 w5 hown5 hgr5 _ hblk5
                    have hE5 : Ext w2 w5 := hgr5.mono fun _ _ h => by cases h
                    have hN5 := (Ext.same (HS2.out.trans hE5) (lt_of_heap HX.out.2.1)).trans HX.out.2.1
                    have hp5 := blk_cell hN5
                    have H5 := Lib.hid (And.intro hown5 (And.intro (HR2.out.2.2.trans hE5) (And.intro (HR2.out.1.ext entE hE5) (And.intro (HR2.out.2.1.ext hE5) (And.intro hblk5 (And.intro (HR2.out.1.lt entE (g := g7) rfl).2 hN5))))))
                    clear hown5 hgr5 hblk5 hE5 hp2 hN5
                    go_wp2_with fail
                    refine wp_drawE (way [0, 1, 2, 3, 4, 5, 6, 7, 8, 9, 10, 11, 12, 13, 14]) (by kernel_rfl) (by kernel_rfl) (fun w6 hh6 hd6 hf6 hS => ?_)
                    have hp6 := blk_cell ((Ext.same hS (lt_of_heap H5.out.2.2.2.2.2.2)).trans H5.out.2.2.2.2.2.2)
                    clear hh6 hd6 hf6
                    simp only [way]
                    go_wp2_with (first | (refine' hl_q rfl rfl rfl (fun _ => ?_) ?_; rotate_left; (go_simp <;> (try go_bits) <;> rfl); (try simp only [Act.put, List.setIfInBounds_toArray, List.set_cons_zero, List.set_cons_succ])) | (refine' hl_rS rfl rfl rfl hS ?_ ?_; rotate_left; (intro w9 hS9; (first | have hc9 := Ext.cells hS9 | have hc9 := Keeps.cells hS9); (go_simp <;> rfl)); (try simp only [Act.put, List.setIfInBounds_toArray, List.set_cons_zero, List.set_cons_succ])) | (refine' hl_r rfl rfl rfl ?_ ?_; rotate_left; (rintro w9 (rfl | hS9); (go_simp <;> rfl); (first | have hc9 := Ext.cells hS9 | have hc9 := Keeps.cells hS9 | (try dsimp only at hS9)); (go_simp <;> rfl)); (try simp only [Act.put, List.setIfInBounds_toArray, List.set_cons_zero, List.set_cons_succ])) | (refine' hl_s rfl rfl ?_; (try simp only [Act.put, List.setIfInBounds_toArray, List.set_cons_zero, List.set_cons_succ])) | (refine hl_e rfl rfl rfl (fun K hK => ?_)) | (with_reducible refine And.intro (fun hn => ?_) ?_; (first | exact hS | exact Keeps.alloc hS _ | exact absurd hn (by rw [show needS _ _ = false from by kernel_rfl]; exact Bool.false_ne_true))) | (refine hl_done ?_) | gi_step)
                    refine callsIn_wide.2 ((rtraces_i ty b _ L x.sv x.op _ (HB.out w6 (H5.out.2.1.trans hS)).1 (HB.out w6 (H5.out.2.1.trans hS)).2 HN.out.2).mono ?_)
                    rintro e9 w8 ⟨v8, rfl, hown8, hE8⟩
                    have hS8 := hS.trans hE8
                    have hw6 : w.heap.size ≤ w6.heap.size := (H5.out.2.1.trans hS).size
                    clear hS
                    have hS := hS8
                    clear hS8
                    obtain ⟨a8, c8, rfl, _, _⟩ := hown8.slice intE
                    have H8 := Lib.hid (And.intro (hown8.mono intE hw6) (And.intro (H5.out.1.ext entE hS) (And.intro (H5.out.2.1.trans hS) (And.intro (H5.out.2.2.1.ext entE hS) (H5.out.2.2.2.1.ext hS)))))
                    clear hown8 hE8 hp6 hw6
                    go_wp2_with (first | (refine Ek.hl_app entE rfl rfl rfl _ _ rfl w.heap.size v5 (l.take i) [(x.sv, x.op, (a8, (trOf L x.sv x.op).length, c8))] rfl (H8.out.2.1.ext entE ((Keeps.refl _ _).alloc _)) (Ek.reads_new entE _ _ _ _ rfl) (by rw [List.length_take, List.length_singleton, ← HLN.out.1]; omega) (Nat.le_trans H8.out.2.2.1.size ((Keeps.refl Non w8).alloc _).size) ?_) | (refine' hl_q rfl rfl rfl (fun _ => ?_) ?_; rotate_left; (go_simp <;> (try go_bits) <;> rfl); (try simp only [Act.put, List.setIfInBounds_toArray, List.set_cons_zero, List.set_cons_succ])) | (refine' hl_rS rfl rfl rfl hS ?_ ?_; rotate_left; (intro w9 hS9; (first | have hc9 := Ext.cells hS9 | have hc9 := Keeps.cells hS9); (go_simp <;> rfl)); (try simp only [Act.put, List.setIfInBounds_toArray, List.set_cons_zero, List.set_cons_succ])) | (refine' hl_r rfl rfl rfl ?_ ?_; rotate_left; (rintro w9 (rfl | hS9); (go_simp <;> rfl); (first | have hc9 := Ext.cells hS9 | have hc9 := Keeps.cells hS9 | (try dsimp only at hS9)); (go_simp <;> rfl)); (try simp only [Act.put, List.setIfInBounds_toArray, List.set_cons_zero, List.set_cons_succ])) | (refine' hl_s rfl rfl ?_; (try simp only [Act.put, List.setIfInBounds_toArray, List.set_cons_zero, List.set_cons_succ])) | (refine hl_e rfl rfl rfl (fun K hK => ?_)) | (with_reducible refine And.intro (fun hn => ?_) ?_; (first | exact hS | exact Keeps.alloc hS _ | exact absurd hn (by rw [show needS _ _ = false from by kernel_rfl]; exact Bool.false_ne_true))) | (refine hl_done ?_) | gi_step)
                    intro v9 w9 hown9 hgr9 _ _
                    have hEa9 := (Keeps.refl Non w8).alloc (.cells #[.string x.sv, .string x.op, .slice a8 (trOf L x.sv x.op).length c8] 46)
                    have hgr9' : Keeps (fun b => v5.ownBlock = some b) w8 w9 := ⟨Nat.le_trans hEa9.size hgr9.size, fun i hi hf => (hgr9.same i (Nat.lt_of_lt_of_le hi hEa9.size) hf).trans (Ext.same hEa9 hi), (hEa9.ost).trans hgr9.ost⟩
                    have hu9 := H8.out.2.2.2.1.keeps entE hgr9' (fun gg hg hv => by
                      simp only [Value.ownBlock, Option.some.injEq] at hg
                      subst hg
                      rcases H5.out.2.2.2.2.1 with h | h
                      · rw [h] at hv; cases hv
                      · rw [hv] at h; injection h with h
                        have := H5.out.2.2.2.2.2.1
                        try rw [hh2] at this
                        try rw [hh] at this
                        omega)
                    have hint9 := H8.out.1.keeps intE hgr9' (fun gg hg hv => kinds_apart H8.out.2.1 H8.out.1 hv hg)
                    have H9 := Lib.hid (And.intro hown9 (And.intro (H8.out.2.1.grow entE H8.out.2.2.1 (Nat.le_refl _) hgr9') (And.intro hu9 (And.intro (H8.out.2.2.2.2.grow H8.out.2.1 hgr9') hint9))))
                    clear hown9 hgr9 hgr9' hu9 hint9 hEa9 hp5 hS
                    go_wp2_with (first | (at_builtin; refine Ek.app' entE rfl _ _ rfl w.heap.size v9 (l.take i ++ [(x.sv, x.op, (a8, (trOf L x.sv x.op).length, c8))]) (l.drop i) rfl H9.out.1 (H9.out.2.2.1.suffix entE (by rw [← HLN.out.1]; omega) i _ _ (by rw [← HLN.out.1]; omega) _ (by simp [entE])) (by rw [List.length_append, List.length_take, List.length_drop, List.length_singleton, ← HLN.out.1]; omega) H9.out.2.1.size ?_) | (refine' hl_q rfl rfl rfl (fun _ => ?_) ?_; rotate_left; (go_simp <;> (try go_bits) <;> rfl); (try simp only [Act.put, List.setIfInBounds_toArray, List.set_cons_zero, List.set_cons_succ])) | (refine' hl_rS rfl rfl rfl hS ?_ ?_; rotate_left; (intro w9 hS9; (first | have hc9 := Ext.cells hS9 | have hc9 := Keeps.cells hS9); (go_simp <;> rfl)); (try simp only [Act.put, List.setIfInBounds_toArray, List.set_cons_zero, List.set_cons_succ])) | (refine' hl_r rfl rfl rfl ?_ ?_; rotate_left; (rintro w9 (rfl | hS9); (go_simp <;> rfl); (first | have hc9 := Ext.cells hS9 | have hc9 := Keeps.cells hS9 | (try dsimp only at hS9)); (go_simp <;> rfl)); (try simp only [Act.put, List.setIfInBounds_toArray, List.set_cons_zero, List.set_cons_succ])) | (refine' hl_s rfl rfl ?_; (try simp only [Act.put, List.setIfInBounds_toArray, List.set_cons_zero, List.set_cons_succ])) | (refine hl_e rfl rfl rfl (fun K hK => ?_)) | (with_reducible refine And.intro (fun hn => ?_) ?_; (first | exact hS | exact Keeps.alloc hS _ | exact absurd hn (by rw [show needS _ _ = false from by kernel_rfl]; exact Bool.false_ne_true))) | (refine hl_done ?_) | gi_step)
                    intro v10 w10 hown10 hgr10 _ _
                    have hents := H9.out.2.2.2.1.grow H9.out.1 hgr10
                    have hint10 := H9.out.2.2.2.2.keeps intE hgr10 (fun gg hg hv => kinds_apart H9.out.1 H9.out.2.2.2.2 hv hg)
                    have H10 := Lib.hid (And.intro hown10 (And.intro (H9.out.1.grow entE H9.out.2.1 (Nat.le_refl _) hgr10) (show EntsOwn w.heap.size w10 ((l.take i ++ [(x.sv, x.op, (a8, (trOf L x.sv x.op).length, c8))]) ++ l.drop i) ((E.take i ++ [⟨x.sv, x.op, trOf L x.sv x.op⟩]) ++ E.drop i) from (hents.drop i).append ((show EntsOwn w.heap.size w10 [(x.sv, x.op, (a8, (trOf L x.sv x.op).length, c8))] [⟨x.sv, x.op, trOf L x.sv x.op⟩] from ⟨⟨rfl, rfl, hint10⟩, trivial⟩).append (hents.take i)))))
                    clear hown10 hgr10 hents hint10
                    go_wp2_with fail
                    go_roundg (gk0 - 1)
                    case measure => omega
                    case rel => exact ⟨j + 1, _, by simp, by omega, H10.out.2.1, H10.out.1, by rw [HX.out.2.2.2.2, HTR.out]; have h := H10.out.2.2; simp only [List.append_assoc, List.singleton_append] at h; exact h⟩
                  · have HTR := Lib.hid (show entIns L x E = E from by
                      have h := entIns_same L x e (E.drop (i + 1)) HLS.out ⟨by rw [bless_eq, decide_eq_true_iff] at hbq; exact hbq, by rw [bless_eq, decide_eq_true_iff] at hdq; exact hdq⟩ (E.take i) HA.out.2
                      rw [HSP.out] at h; exact h)
                    go_wp2_with fail
                    refine wp_drawE (way [0, 1, 2, 3, 4, 5, 6, 7, 8, 9, 10, 11, 12, 13, 14, 15, 16, 17, 18, 19, 20, 21, 22, 23, 24, 25, 26, 27, 28, 29, 30, 31, 32, 33]) (by kernel_rfl) (by kernel_rfl) (fun w1 hh hd hf hS => ?_)
                    have HS1 := Lib.hid (HA.out.1.trans hS)
                    simp only [way]
                    go_wp2_with (first | (refine' hl_q rfl rfl rfl (fun _ => ?_) ?_; rotate_left; (go_simp <;> (try go_bits) <;> rfl); (try simp only [Act.put, List.setIfInBounds_toArray, List.set_cons_zero, List.set_cons_succ])) | (refine' hl_rS rfl rfl rfl hS ?_ ?_; rotate_left; (intro w9 hS9; (first | have hc9 := Ext.cells hS9 | have hc9 := Keeps.cells hS9); (go_simp <;> rfl)); (try simp only [Act.put, List.setIfInBounds_toArray, List.set_cons_zero, List.set_cons_succ])) | (refine' hl_r rfl rfl rfl ?_ ?_; rotate_left; (rintro w9 (rfl | hS9); (go_simp <;> rfl); (first | have hc9 := Ext.cells hS9 | have hc9 := Keeps.cells hS9 | (try dsimp only at hS9)); (go_simp <;> rfl)); (try simp only [Act.put, List.setIfInBounds_toArray, List.set_cons_zero, List.set_cons_succ])) | (refine' hl_s rfl rfl ?_; (try simp only [Act.put, List.setIfInBounds_toArray, List.set_cons_zero, List.set_cons_succ])) | (refine hl_e rfl rfl rfl (fun K hK => ?_)) | (with_reducible refine And.intro (fun hn => ?_) ?_; (first | exact hS | exact Keeps.alloc hS _ | exact absurd hn (by rw [show needS _ _ = false from by kernel_rfl]; exact Bool.false_ne_true))) | (refine hl_done ?_) | gi_step)
                    refine wp_drawE (way [0, 1, 2, 3, 4, 5, 6, 7, 8, 9, 10, 11, 12, 13, 14, 15, 16, 17, 18, 19, 20, 21, 22, 23]) (by kernel_rfl) (by kernel_rfl) (fun w2 hh2 hd2 hf2 hS2 => ?_)
                    have HS2 := Lib.hid (HS1.out.trans hS2)
                    simp only [way]
                    go_wp2_with (first | (refine' hl_q rfl rfl rfl (fun _ => ?_) ?_; rotate_left; (go_simp <;> (try go_bits) <;> rfl); (try simp only [Act.put, List.setIfInBounds_toArray, List.set_cons_zero, List.set_cons_succ])) | (refine' hl_rS rfl rfl rfl hS ?_ ?_; rotate_left; (intro w9 hS9; (first | have hc9 := Ext.cells hS9 | have hc9 := Keeps.cells hS9); (go_simp <;> rfl)); (try simp only [Act.put, List.setIfInBounds_toArray, List.set_cons_zero, List.set_cons_succ])) | (refine' hl_r rfl rfl rfl ?_ ?_; rotate_left; (rintro w9 (rfl | hS9); (go_simp <;> rfl); (first | have hc9 := Ext.cells hS9 | have hc9 := Keeps.cells hS9 | (try dsimp only at hS9)); (go_simp <;> rfl)); (try simp only [Act.put, List.setIfInBounds_toArray, List.set_cons_zero, List.set_cons_succ])) | (refine' hl_s rfl rfl ?_; (try simp only [Act.put, List.setIfInBounds_toArray, List.set_cons_zero, List.set_cons_succ])) | (refine hl_e rfl rfl rfl (fun K hK => ?_)) | (with_reducible refine And.intro (fun hn => ?_) ?_; (first | exact hS | exact Keeps.alloc hS _ | exact absurd hn (by rw [show needS _ _ = false from by kernel_rfl]; exact Bool.false_ne_true))) | (refine hl_done ?_) | gi_step)
                    go_roundg (gk0 - 1)
                    case measure => omega
                    case rel => exact ⟨j + 1, l, by simp, by omega, HX.out.1.trans HS2.out, HX.out.2.2.1.ext entE HS2.out, by rw [HX.out.2.2.2.2, HTR.out]; exact HX.out.2.2.2.1.ext HS2.out⟩
                · have HLS := Lib.hid (show eless e x = true from by unfold eless; rw [ha, hc, ← bless_eq, hbq]; rfl)
                  go_wp2_with fail
                  refine wp_drawE (way [0, 1, 2, 3, 4, 5, 6, 7, 8, 9, 10, 11, 12, 13, 14, 15, 16, 17, 18, 19, 20, 21, 22, 23, 24, 25, 26, 27, 28, 29, 30, 31, 32, 33]) (by kernel_rfl) (by kernel_rfl) (fun w1 hh hd hf hS => ?_)
                  have HS1 := Lib.hid (HA.out.1.trans hS)
                  simp only [way]
                  go_wp2_with (first | (refine' hl_q rfl rfl rfl (fun _ => ?_) ?_; rotate_left; (go_simp <;> (try go_bits) <;> rfl); (try simp only [Act.put, List.setIfInBounds_toArray, List.set_cons_zero, List.set_cons_succ])) | (refine' hl_rS rfl rfl rfl hS ?_ ?_; rotate_left; (intro w9 hS9; (first | have hc9 := Ext.cells hS9 | have hc9 := Keeps.cells hS9); (go_simp <;> rfl)); (try simp only [Act.put, List.setIfInBounds_toArray, List.set_cons_zero, List.set_cons_succ])) | (refine' hl_r rfl rfl rfl ?_ ?_; rotate_left; (rintro w9 (rfl | hS9); (go_simp <;> rfl); (first | have hc9 := Ext.cells hS9 | have hc9 := Keeps.cells hS9 | (try dsimp only at hS9)); (go_simp <;> rfl)); (try simp only [Act.put, List.setIfInBounds_toArray, List.set_cons_zero, List.set_cons_succ])) | (refine' hl_s rfl rfl ?_; (try simp only [Act.put, List.setIfInBounds_toArray, List.set_cons_zero, List.set_cons_succ])) | (refine hl_e rfl rfl rfl (fun K hK => ?_)) | (with_reducible refine And.intro (fun hn => ?_) ?_; (first | exact hS | exact Keeps.alloc hS _ | exact absurd hn (by rw [show needS _ _ = false from by kernel_rfl]; exact Bool.false_ne_true))) | (refine hl_done ?_) | gi_step)
                  go_roundg (gk - 1)
                  case measure => omega
                  case rel => exact ⟨i + 1, by simp, by omega, HS1.out, fun z hz => by
                    rw [HTK.out, List.mem_append, List.mem_singleton] at hz
                    rcases hz with hz | rfl
                    · exact HA.out.2 z hz
                    · exact HLS.out⟩
            · have HLS := Lib.hid (show eless e x = true from by unfold eless; rw [ha]; rfl)
              go_wp2_with fail
              refine wp_drawE (way [0, 1, 2, 3, 4, 5, 6, 7, 8, 9, 10, 11, 12, 13, 14, 15, 16, 17, 18, 19, 20, 21, 22, 23, 24, 25, 26, 27, 28, 29, 30, 31, 32, 33]) (by kernel_rfl) (by kernel_rfl) (fun w1 hh hd hf hS => ?_)
              have HS1 := Lib.hid (HA.out.1.trans hS)
              simp only [way]
              go_wp2_with (first | (refine' hl_q rfl rfl rfl (fun _ => ?_) ?_; rotate_left; (go_simp <;> (try go_bits) <;> rfl); (try simp only [Act.put, List.setIfInBounds_toArray, List.set_cons_zero, List.set_cons_succ])) | (refine' hl_rS rfl rfl rfl hS ?_ ?_; rotate_left; (intro w9 hS9; (first | have hc9 := Ext.cells hS9 | have hc9 := Keeps.cells hS9); (go_simp <;> rfl)); (try simp only [Act.put, List.setIfInBounds_toArray, List.set_cons_zero, List.set_cons_succ])) | (refine' hl_r rfl rfl rfl ?_ ?_; rotate_left; (rintro w9 (rfl | hS9); (go_simp <;> rfl); (first | have hc9 := Ext.cells hS9 | have hc9 := Keeps.cells hS9 | (try dsimp only at hS9)); (go_simp <;> rfl)); (try simp only [Act.put, List.setIfInBounds_toArray, List.set_cons_zero, List.set_cons_succ])) | (refine' hl_s rfl rfl ?_; (try simp only [Act.put, List.setIfInBounds_toArray, List.set_cons_zero, List.set_cons_succ])) | (refine hl_e rfl rfl rfl (fun K hK => ?_)) | (with_reducible refine And.intro (fun hn => ?_) ?_; (first | exact hS | exact Keeps.alloc hS _ | exact absurd hn (by rw [show needS _ _ = false from by kernel_rfl]; exact Bool.false_ne_true))) | (refine hl_done ?_) | gi_step)
              go_roundg (gk - 1)
              case measure => omega
              case rel => exact ⟨i + 1, by simp, by omega, HS1.out, fun z hz => by
                rw [HTK.out, List.mem_append, List.mem_singleton] at hz
                rcases hz with hz | rfl
                · exact HA.out.2 z hz
                · exact HLS.out⟩
          · have hie : i = E.length := by rw [← HLN.out.2]; omega
            have HTR := Lib.hid (show entIns L x E = E.take i ++ ⟨x.sv, x.op, trOf L x.sv x.op⟩ :: E.drop i from by
              have h := HA.out.2
              rw [hie, List.take_length] at h
              rw [hie, List.take_length, List.drop_length]
              exact entIns_end L x E h)
            have hfl : ((i : Int) < ln) = False := eq_false hil
            have hil2 : i ≤ ln := by omega
            have HIL := Lib.hid (show ln ≤ i from by omega)
            clear hie hil
            go_wp2_with fail
            refine wp_drawE (way [0, 1, 2, 3, 4, 5, 6, 7, 8, 9, 10, 11, 12, 13, 14, 15, 16, 17, 18, 19, 20, 21, 22, 23, 24, 25, 26, 27, 28, 29, 30, 31, 32, 33]) (by kernel_rfl) (by kernel_rfl) (fun w1 hh hd hf hS => ?_)
            have HS1 := Lib.hid (HA.out.1.trans hS)
            simp only [way]
            go_wp2_with (first | (refine' hl_q rfl rfl rfl (fun _ => ?_) ?_; rotate_left; (go_simp <;> (try go_bits) <;> rfl); (try simp only [Act.put, List.setIfInBounds_toArray, List.set_cons_zero, List.set_cons_succ])) | (refine' hl_rS rfl rfl rfl hS ?_ ?_; rotate_left; (intro w9 hS9; (first | have hc9 := Ext.cells hS9 | have hc9 := Keeps.cells hS9); (go_simp <;> rfl)); (try simp only [Act.put, List.setIfInBounds_toArray, List.set_cons_zero, List.set_cons_succ])) | (refine' hl_r rfl rfl rfl ?_ ?_; rotate_left; (rintro w9 (rfl | hS9); (go_simp <;> rfl); (first | have hc9 := Ext.cells hS9 | have hc9 := Keeps.cells hS9 | (try dsimp only at hS9)); (go_simp <;> rfl)); (try simp only [Act.put, List.setIfInBounds_toArray, List.set_cons_zero, List.set_cons_succ])) | (refine' hl_s rfl rfl ?_; (try simp only [Act.put, List.setIfInBounds_toArray, List.set_cons_zero, List.set_cons_succ])) | (refine hl_e rfl rfl rfl (fun K hK => ?_)) | (with_reducible refine And.intro (fun hn => ?_) ?_; (first | exact hS | exact Keeps.alloc hS _ | exact absurd hn (by rw [show needS _ _ = false from by kernel_rfl]; exact Bool.false_ne_true))) | (refine hl_done ?_) | gi_step)
            refine wp_drawE (way [0, 1, 2, 3, 4, 5, 6, 7, 8, 9, 10, 11, 12, 13, 14, 15, 16, 17, 18, 19, 20, 21, 22, 23]) (by kernel_rfl) (by kernel_rfl) (fun w2 hh2 hd2 hf2 hS2 => ?_)
            have HS2 := Lib.hid (HS1.out.trans hS2)
            simp only [way]
            have hp2 := blk_cell ((Ext.same HS2.out (lt_of_heap HX.out.2.1)).trans HX.out.2.1)
            have HR2 := Lib.hid (And.intro (HX.out.2.2.1.ext entE HS2.out) (And.intro (HX.out.2.2.2.1.ext HS2.out) (HX.out.1.trans HS2.out)))
            have hiN : i ≤ l.length := by rw [← HLN.out.1]; omega
            have hilk : i ≤ cap7 := by omega
            go_wp2_with (first | (at_builtin; refine Ek.app' entE rfl _ _ rfl w.heap.size (.slice none 0 0) [] (l.take i) rfl (Ek.Own.nil entE _ _) (HR2.out.1.front entE (by rw [← HLN.out.1]; omega) i _ hiN) (by rw [List.length_take, List.length_nil, ← HLN.out.1]; omega) HR2.out.2.2.size ?_) | (refine' hl_q rfl rfl rfl (fun _ => ?_) ?_; rotate_left; (go_simp <;> (try go_bits) <;> rfl); (try simp only [Act.put, List.setIfInBounds_toArray, List.set_cons_zero, List.set_cons_succ])) | (refine' hl_rS rfl rfl rfl hS ?_ ?_; rotate_left; (intro w9 hS9; (first | have hc9 := Ext.cells hS9 | have hc9 := Keeps.cells hS9); (go_simp <;> rfl)); (try simp only [Act.put, List.setIfInBounds_toArray, List.set_cons_zero, List.set_cons_succ])) | (refine' hl_r rfl rfl rfl ?_ ?_; rotate_left; (rintro w9 (rfl | hS9); (go_simp <;> rfl); (first | have hc9 := Ext.cells hS9 | have hc9 := Keeps.cells hS9 | (try dsimp only at hS9)); (go_simp <;> rfl)); (try simp only [Act.put, List.setIfInBounds_toArray, List.set_cons_zero, List.set_cons_succ])) | (refine' hl_s rfl rfl ?_; (try simp only [Act.put, List.setIfInBounds_toArray, List.set_cons_zero, List.set_cons_succ])) | (refine hl_e rfl rfl rfl (fun K hK => ?_)) | (with_reducible refine And.intro (fun hn => ?_) ?_; (first | exact hS | exact Keeps.alloc hS _ | exact absurd hn (by rw [show needS _ _ = false from by kernel_rfl]; exact Bool.false_ne_true))) | (refine hl_done ?_) | gi_step)
            intro v5 w5 hown5 hgr5 _ hblk5
            have hE5 : Ext w2 w5 := hgr5.mono fun _ _ h => by cases h
            have hN5 := (Ext.same (HS2.out.trans hE5) (lt_of_heap HX.out.2.1)).trans HX.out.2.1
            have hp5 := blk_cell hN5
            have H5 := Lib.hid (And.intro hown5 (And.intro (HR2.out.2.2.trans hE5) (And.intro (HR2.out.1.ext entE hE5) (And.intro (HR2.out.2.1.ext hE5) (And.intro hblk5 (And.intro (HR2.out.1.lt entE (g := g7) rfl).2 hN5))))))
            clear hown5 hgr5 hblk5 hE5 hp2 hN5
            go_wp2_with fail
            refine wp_drawE (way [0, 1, 2, 3, 4, 5, 6, 7, 8, 9, 10, 11, 12, 13, 14]) (by kernel_rfl) (by kernel_rfl) (fun w6 hh6 hd6 hf6 hS => ?_)
            have hp6 := blk_cell ((Ext.same hS (lt_of_heap H5.out.2.2.2.2.2.2)).trans H5.out.2.2.2.2.2.2)
            clear hh6 hd6 hf6
            simp only [way]
            go_wp2_with (first | (refine' hl_q rfl rfl rfl (fun _ => ?_) ?_; rotate_left; (go_simp <;> (try go_bits) <;> rfl); (try simp only [Act.put, List.setIfInBounds_toArray, List.set_cons_zero, List.set_cons_succ])) | (refine' hl_rS rfl rfl rfl hS ?_ ?_; rotate_left; (intro w9 hS9; (first | have hc9 := Ext.cells hS9 | have hc9 := Keeps.cells hS9); (go_simp <;> rfl)); (try simp only [Act.put, List.setIfInBounds_toArray, List.set_cons_zero, List.set_cons_succ])) | (refine' hl_r rfl rfl rfl ?_ ?_; rotate_left; (rintro w9 (rfl | hS9); (go_simp <;> rfl); (first | have hc9 := Ext.cells hS9 | have hc9 := Keeps.cells hS9 | (try dsimp only at hS9)); (go_simp <;> rfl)); (try simp only [Act.put, List.setIfInBounds_toArray, List.set_cons_zero, List.set_cons_succ])) | (refine' hl_s rfl rfl ?_; (try simp only [Act.put, List.setIfInBounds_toArray, List.set_cons_zero, List.set_cons_succ])) | (refine hl_e rfl rfl rfl (fun K hK => ?_)) | (with_reducible refine And.intro (fun hn => ?_) ?_; (first | exact hS | exact Keeps.alloc hS _ | exact absurd hn (by rw [show needS _ _ = false from by kernel_rfl]; exact Bool.false_ne_true))) | (refine hl_done ?_) | gi_step)
            refine callsIn_wide.2 ((rtraces_i ty b _ L x.sv x.op _ (HB.out w6 (H5.out.2.1.trans hS)).1 (HB.out w6 (H5.out.2.1.trans hS)).2 HN.out.2).mono ?_)
            rintro e9 w8 ⟨v8, rfl, hown8, hE8⟩
            have hS8 := hS.trans hE8
            have hw6 : w.heap.size ≤ w6.heap.size := (H5.out.2.1.trans hS).size
            clear hS
            have hS := hS8
            clear hS8
            obtain ⟨a8, c8, rfl, _, _⟩ := hown8.slice intE
            have H8 := Lib.hid (And.intro (hown8.mono intE hw6) (And.intro (H5.out.1.ext entE hS) (And.intro (H5.out.2.1.trans hS) (And.intro (H5.out.2.2.1.ext entE hS) (H5.out.2.2.2.1.ext hS)))))
            clear hown8 hE8 hp6 hw6
            go_wp2_with (first | (refine Ek.hl_app entE rfl rfl rfl _ _ rfl w.heap.size v5 (l.take i) [(x.sv, x.op, (a8, (trOf L x.sv x.op).length, c8))] rfl (H8.out.2.1.ext entE ((Keeps.refl _ _).alloc _)) (Ek.reads_new entE _ _ _ _ rfl) (by rw [List.length_take, List.length_singleton, ← HLN.out.1]; omega) (Nat.le_trans H8.out.2.2.1.size ((Keeps.refl Non w8).alloc _).size) ?_) | (refine' hl_q rfl rfl rfl (fun _ => ?_) ?_; rotate_left; (go_simp <;> (try go_bits) <;> rfl); (try simp only [Act.put, List.setIfInBounds_toArray, List.set_cons_zero, List.set_cons_succ])) | (refine' hl_rS rfl rfl rfl hS ?_ ?_; rotate_left; (intro w9 hS9; (first | have hc9 := Ext.cells hS9 | have hc9 := Keeps.cells hS9); (go_simp <;> rfl)); (try simp only [Act.put, List.setIfInBounds_toArray, List.set_cons_zero, List.set_cons_succ])) | (refine' hl_r rfl rfl rfl ?_ ?_; rotate_left; (rintro w9 (rfl | hS9); (go_simp <;> rfl); (first | have hc9 := Ext.cells hS9 | have hc9 := Keeps.cells hS9 | (try dsimp only at hS9)); (go_simp <;> rfl)); (try simp only [Act.put, List.setIfInBounds_toArray, List.set_cons_zero, List.set_cons_succ])) | (refine' hl_s rfl rfl ?_; (try simp only [Act.put, List.setIfInBounds_toArray, List.set_cons_zero, List.set_cons_succ])) | (refine hl_e rfl rfl rfl (fun K hK => ?_)) | (with_reducible refine And.intro (fun hn => ?_) ?_; (first | exact hS | exact Keeps.alloc hS _ | exact absurd hn (by rw [show needS _ _ = false from by kernel_rfl]; exact Bool.false_ne_true))) | (refine hl_done ?_) | gi_step)
            intro v9 w9 hown9 hgr9 _ _
            have hEa9 := (Keeps.refl Non w8).alloc (.cells #[.string x.sv, .string x.op, .slice a8 (trOf L x.sv x.op).length c8] 46)
            have hgr9' : Keeps (fun b => v5.ownBlock = some b) w8 w9 := ⟨Nat.le_trans hEa9.size hgr9.size, fun i hi hf => (hgr9.same i (Nat.lt_of_lt_of_le hi hEa9.size) hf).trans (Ext.same hEa9 hi), (hEa9.ost).trans hgr9.ost⟩
            have hu9 := H8.out.2.2.2.1.keeps entE hgr9' (fun gg hg hv => by
              simp only [Value.ownBlock, Option.some.injEq] at hg
              subst hg
              rcases H5.out.2.2.2.2.1 with h | h
              · rw [h] at hv; cases hv
              · rw [hv] at h; injection h with h
                have := H5.out.2.2.2.2.2.1
                try rw [hh2] at this
                try rw [hh] at this
                omega)
            have hint9 := H8.out.1.keeps intE hgr9' (fun gg hg hv => kinds_apart H8.out.2.1 H8.out.1 hv hg)
            have H9 := Lib.hid (And.intro hown9 (And.intro (H8.out.2.1.grow entE H8.out.2.2.1 (Nat.le_refl _) hgr9') (And.intro hu9 (And.intro (H8.out.2.2.2.2.grow H8.out.2.1 hgr9') hint9))))
            clear hown9 hgr9 hgr9' hu9 hint9 hEa9 hp5 hS
            have hdr : l.drop i = [] := List.drop_of_length_le (by rw [← HLN.out.1]; exact HIL.out)
            have hlk : ln - i = 0 := by have := HIL.out; omega
            have HDR := Lib.hid (And.intro hdr hlk)
            clear hdr hlk
            rcases Decidable.em (cap7 = i) with hcap | hcap
            all_goals
              go_wp2_with (first | (at_builtin; refine Ek.app' entE rfl _ _ rfl w.heap.size v9 (l.take i ++ [(x.sv, x.op, (a8, (trOf L x.sv x.op).length, c8))]) (l.drop i) rfl H9.out.1 (Ek.Reads.rest entE _ HDR.out.2 HDR.out.1) (by rw [List.length_append, List.length_take, List.length_drop, List.length_singleton, ← HLN.out.1]; omega) H9.out.2.1.size ?_) | (refine' hl_q rfl rfl rfl (fun _ => ?_) ?_; rotate_left; (go_simp <;> (try go_bits) <;> rfl); (try simp only [Act.put, List.setIfInBounds_toArray, List.set_cons_zero, List.set_cons_succ])) | (refine' hl_rS rfl rfl rfl hS ?_ ?_; rotate_left; (intro w9 hS9; (first | have hc9 := Ext.cells hS9 | have hc9 := Keeps.cells hS9); (go_simp <;> rfl)); (try simp only [Act.put, List.setIfInBounds_toArray, List.set_cons_zero, List.set_cons_succ])) | (refine' hl_r rfl rfl rfl ?_ ?_; rotate_left; (rintro w9 (rfl | hS9); (go_simp <;> rfl); (first | have hc9 := Ext.cells hS9 | have hc9 := Keeps.cells hS9 | (try dsimp only at hS9)); (go_simp <;> rfl)); (try simp only [Act.put, List.setIfInBounds_toArray, List.set_cons_zero, List.set_cons_succ])) | (refine' hl_s rfl rfl ?_; (try simp only [Act.put, List.setIfInBounds_toArray, List.set_cons_zero, List.set_cons_succ])) | (refine hl_e rfl rfl rfl (fun K hK => ?_)) | (with_reducible refine And.intro (fun hn => ?_) ?_; (first | exact hS | exact Keeps.alloc hS _ | exact absurd hn (by rw [show needS _ _ = false from by kernel_rfl]; exact Bool.false_ne_true))) | (refine hl_done ?_) | gi_step)
              intro v10 w10 hown10 hgr10 _ _
              have hents := H9.out.2.2.2.1.grow H9.out.1 hgr10
              have hint10 := H9.out.2.2.2.2.keeps intE hgr10 (fun gg hg hv => kinds_apart H9.out.1 H9.out.2.2.2.2 hv hg)
              have H10 := Lib.hid (And.intro hown10 (And.intro (H9.out.1.grow entE H9.out.2.1 (Nat.le_refl _) hgr10) (show EntsOwn w.heap.size w10 ((l.take i ++ [(x.sv, x.op, (a8, (trOf L x.sv x.op).length, c8))]) ++ l.drop i) ((E.take i ++ [⟨x.sv, x.op, trOf L x.sv x.op⟩]) ++ E.drop i) from (hents.drop i).append ((show EntsOwn w.heap.size w10 [(x.sv, x.op, (a8, (trOf L x.sv x.op).length, c8))] [⟨x.sv, x.op, trOf L x.sv x.op⟩] from ⟨⟨rfl, rfl, hint10⟩, trivial⟩).append (hents.take i)))))
              clear hown10 hgr10 hents hint10
              go_wp2_with fail
              go_roundg (gk0 - 1)
              case measure => omega
              case rel => exact ⟨j + 1, _, by simp, by omega, H10.out.2.1, H10.out.1, by rw [HX.out.2.2.2.2, HTR.out]; have h := H10.out.2.2; simp only [List.append_assoc, List.singleton_append] at h; exact h⟩
    · have hje : j = L.length := by rw [← HN.out.1]; omega
      have HF := Lib.hid (show AllPost (refAll L) w (.returned u3) wr from ⟨u3, rfl, by
        have hR : reTo L j = refAll L := by unfold reTo refAll; rw [hje, List.take_length]
        rw [hR] at hents
        refine hents.reads hown ?_ ?_
        · rw [← hR]; have := reTo_len L j; have := HN.out; omega
        · intro e he
          rw [← hR] at he
          have := reTo_tr L j e he; have := HN.out; omega, hE⟩)
      clear hje hown hE hents
      go_wp2_with fail
      go_ret
      exact HF.out
end Go.Proofs.YtdonmmjikcbihaaGreatDoor
/- The document's answers for entry: are entries the same? -/
namespace Go.Proofs.YtdonmmjikcbihaaGreatDoor
open Go.RowKit Go.Proofs Go.Vc
attribute [local irreducible] Calls CallsIn Code.wp Code.wpIn
theorem EntsAt.form {w : World} {v : Value} {E : List Ent} (h : EntsAt w v E) : ∃ a cap, v = .slice a E.length cap ∧ (E.length : Int) ≤ 9223372036854775807 := by
  obtain ⟨l, ⟨a, cap, rfl, hn, _⟩, hl, _⟩ := h
  exact ⟨a, cap, by rw [hl], by rw [← hl]; exact hn⟩
theorem EntsAt.at {w : World} {a : Option Addr} {n cap : Nat} {E : List Ent} (h : EntsAt w (.slice a n cap) E) {j : Nat} (hj : j < E.length) :
    ∃ g o, a = some ⟨g, o, none⟩ ∧ ∃ sl : Sl, w.cell? ⟨g, o + j * 3, none⟩ = some (.string E[j].sv) ∧ w.cell? ⟨g, o + j * 3 + 1, none⟩ = some (.string E[j].op) ∧ w.cell? ⟨g, o + j * 3 + 2, none⟩ = some (slV sl) ∧ intE.Reads w (slV sl) E[j].tr := by
  obtain ⟨l, hr, hl, hn, ht⟩ := h
  have hjl : j < l.length := by rw [hl]; exact hj
  obtain ⟨g, o, rfl, hc⟩ := hr.at hjl
  have h0 := hc j hjl 0 (by decide)
  have h1 := hc j hjl 1 (by decide)
  have h2 := hc j hjl 2 (by decide)
  have hnm := hn j hjl hj
  refine ⟨g, o, rfl, l[j].2.2, ?_, ?_, ?_, ht j hjl hj⟩
  · rw [← hnm.1]; simpa [entE] using h0
  · rw [← hnm.2]; simpa [entE, Nat.add_assoc] using h1
  · simpa [entE, Nat.add_assoc] using h2
theorem ent_ext {e f : Ent} (h1 : e.sv = f.sv) (h2 : e.op = f.op) (h3 : e.tr = f.tr) : e = f := by cases e; cases f; simp only at *; subst_vars; rfl
set_option maxHeartbeats 2000000 in
set_option maxRecDepth 20000 in
theorem rsame_i (v u : Value) (E F : List Ent) (w : World) (hv : EntsAt w v E) (hu : EntsAt w u F) : Calls Tryz.prog 11 #[v, u] w fun e w' => e = .returned (.bool (decide (E = F))) ∧ Ext w w' := by
  obtain ⟨a, cap, rfl, hn⟩ := hv.form
  obtain ⟨a2, cap2, rfl, hn2⟩ := hu.form
  obtain ⟨n, hnl⟩ : ∃ n, n = E.length := ⟨_, rfl⟩
  obtain ⟨n2, hnl2⟩ : ∃ n, n = F.length := ⟨_, rfl⟩
  rw [← hnl] at hv hn ⊢
  rw [← hnl2] at hu hn2 ⊢
  have HS := Lib.hid (And.intro (show ∀ wr, Ext w wr → EntsAt wr (.slice a n cap) E from fun wr k => hv.ext k) (show ∀ wr, Ext w wr → EntsAt wr (.slice a2 n2 cap2) F from fun wr k => hu.ext k))
  have HNL := Lib.hid (And.intro hnl hnl2)
  clear hv hu hnl hnl2
  by_cases hlen : n = n2
  · subst hlen
    go_enter Tryz.func11, Tryz.ntmps11
    go_wp2_with fail
    go_loopg [5] n (fun k p wr => ∃ j : Nat, p = .int .i64 j ∧ j + k = n ∧ Ext w wr ∧ E.take j = F.take j)
    case atStart => exact ⟨0, rfl, Nat.zero_add _, Keeps.refl _ _, rfl⟩
    case round =>
      obtain ⟨j, rfl, hj, hE, hall⟩ := hrel
      by_cases hjn : (j : Int) < n
      · have hjl : j < E.length := by rw [← HNL.out.1]; omega
        have hjm : j < F.length := by rw [← HNL.out.2]; omega
        obtain ⟨g, o, rfl, sl, hc1, hc2, hc3, hc4⟩ := (HS.out.1 wr hE).at hjl
        obtain ⟨g2, o2, rfl, sl2, hd1, hd2, hd3, hd4⟩ := (HS.out.2 wr hE).at hjm
        obtain ⟨y, hyl⟩ : ∃ y, y = E[j] := ⟨_, rfl⟩
        obtain ⟨z, hzl⟩ : ∃ z, z = F[j] := ⟨_, rfl⟩
        rw [← hyl] at hc1 hc2 hc4
        rw [← hzl] at hd1 hd2 hd4
        obtain ⟨s1, s2, s3⟩ := sl
        obtain ⟨t1, t2, t3⟩ := sl2
        dsimp only [slV] at hc3 hc4 hd3 hd4
        have HE := Lib.hid (And.intro hE (And.intro hall (And.intro hyl (And.intro hzl (And.intro hc4 hd4)))))
        have hbad : y ≠ z → decide (E = F) = false := fun hyz => by
          rw [decide_eq_false_iff_not]
          rintro rfl
          exact hyz (hyl.trans hzl.symm)
        have HBD := Lib.hid hbad
        clear hE hall hyl hzl hc4 hd4 hbad
        have h1 := bless_eq y.sv z.sv
        have h2 := bless_eq y.op z.op
        by_cases c1 : y.sv = z.sv
        · rw [decide_eq_true c1] at h1
          have C1 := Lib.hid c1
          clear c1
          by_cases c2 : y.op = z.op
          · rw [decide_eq_true c2] at h2
            have C2 := Lib.hid c2
            clear c2
            go_wp2_with fail
            refine wp_drawE (way [0, 1, 2, 3, 4, 5, 6, 7, 8, 9, 10, 11, 12, 13, 14, 15, 16, 17, 18, 19, 20, 21, 22, 23, 24, 25, 26, 27, 28, 29, 30, 31, 32, 33, 34, 35, 36, 37]) (by kernel_rfl) (by kernel_rfl) (fun w1 hh hd hf hS => ?_)
            have HE1 := Lib.hid (And.intro (HE.out.1.trans hS) (And.intro (HE.out.2.2.2.2.1.ext intE hS) (HE.out.2.2.2.2.2.ext intE hS)))
            simp only [way]
            go_wp2_with (first | (refine' hl_q rfl rfl rfl (fun _ => ?_) ?_; rotate_left; (go_simp <;> (try go_bits) <;> rfl); (try simp only [Act.put, List.setIfInBounds_toArray, List.set_cons_zero, List.set_cons_succ])) | (refine' hl_rS rfl rfl rfl hS ?_ ?_; rotate_left; (intro w9 hS9; (first | have hc9 := Ext.cells hS9 | have hc9 := Keeps.cells hS9); (go_simp <;> rfl)); (try simp only [Act.put, List.setIfInBounds_toArray, List.set_cons_zero, List.set_cons_succ])) | (refine' hl_r rfl rfl rfl ?_ ?_; rotate_left; (rintro w9 (rfl | hS9); (go_simp <;> rfl); (first | have hc9 := Ext.cells hS9 | have hc9 := Keeps.cells hS9 | (try dsimp only at hS9)); (go_simp <;> rfl)); (try simp only [Act.put, List.setIfInBounds_toArray, List.set_cons_zero, List.set_cons_succ])) | (refine' hl_s rfl rfl ?_; (try simp only [Act.put, List.setIfInBounds_toArray, List.set_cons_zero, List.set_cons_succ])) | (refine hl_e rfl rfl rfl (fun K hK => ?_)) | (with_reducible refine And.intro (fun hn => ?_) ?_; (first | exact hS | exact Keeps.alloc hS _ | exact absurd hn (by rw [show needS _ _ = false from by kernel_rfl]; exact Bool.false_ne_true))) | (refine hl_done ?_) | gi_step)
            refine callsIn_wide.2 ((sameints_i _ _ y.tr z.tr _ HE1.out.2.1 HE1.out.2.2).mono ?_)
            rintro e9 w3 ⟨rfl, hE3⟩
            have hS3 := hS.trans hE3
            have HE3 := Lib.hid (HE1.out.1.trans hE3)
            clear hS hE3
            have hS := hS3
            clear hS3 hh hd hf
            by_cases c3 : y.tr = z.tr
            · rw [decide_eq_true c3]
              have HYZ := Lib.hid (ent_ext C1.out C2.out c3)
              clear c3
              go_wp2_with (first | (refine' hl_q rfl rfl rfl (fun _ => ?_) ?_; rotate_left; (go_simp <;> (try go_bits) <;> rfl); (try simp only [Act.put, List.setIfInBounds_toArray, List.set_cons_zero, List.set_cons_succ])) | (refine' hl_rS rfl rfl rfl hS ?_ ?_; rotate_left; (intro w9 hS9; (first | have hc9 := Ext.cells hS9 | have hc9 := Keeps.cells hS9); (go_simp <;> rfl)); (try simp only [Act.put, List.setIfInBounds_toArray, List.set_cons_zero, List.set_cons_succ])) | (refine' hl_r rfl rfl rfl ?_ ?_; rotate_left; (rintro w9 (rfl | hS9); (go_simp <;> rfl); (first | have hc9 := Ext.cells hS9 | have hc9 := Keeps.cells hS9 | (try dsimp only at hS9)); (go_simp <;> rfl)); (try simp only [Act.put, List.setIfInBounds_toArray, List.set_cons_zero, List.set_cons_succ])) | (refine' hl_s rfl rfl ?_; (try simp only [Act.put, List.setIfInBounds_toArray, List.set_cons_zero, List.set_cons_succ])) | (refine hl_e rfl rfl rfl (fun K hK => ?_)) | (with_reducible refine And.intro (fun hn => ?_) ?_; (first | exact hS | exact Keeps.alloc hS _ | exact absurd hn (by rw [show needS _ _ = false from by kernel_rfl]; exact Bool.false_ne_true))) | (refine hl_done ?_) | gi_step)
              go_roundg (gk - 1)
              case measure => omega
              case rel => exact ⟨j + 1, by simp, by omega, HE3.out, by rw [← List.take_append_getElem hjl, ← List.take_append_getElem hjm, HE.out.2.1, ← HE.out.2.2.1, ← HE.out.2.2.2.1, HYZ.out]⟩
            · rw [decide_eq_false c3]
              have HF := Lib.hid (HBD.out fun h => c3 (by rw [h]))
              clear c3
              go_wp2_with (first | (refine' hl_q rfl rfl rfl (fun _ => ?_) ?_; rotate_left; (go_simp <;> (try go_bits) <;> rfl); (try simp only [Act.put, List.setIfInBounds_toArray, List.set_cons_zero, List.set_cons_succ])) | (refine' hl_rS rfl rfl rfl hS ?_ ?_; rotate_left; (intro w9 hS9; (first | have hc9 := Ext.cells hS9 | have hc9 := Keeps.cells hS9); (go_simp <;> rfl)); (try simp only [Act.put, List.setIfInBounds_toArray, List.set_cons_zero, List.set_cons_succ])) | (refine' hl_r rfl rfl rfl ?_ ?_; rotate_left; (rintro w9 (rfl | hS9); (go_simp <;> rfl); (first | have hc9 := Ext.cells hS9 | have hc9 := Keeps.cells hS9 | (try dsimp only at hS9)); (go_simp <;> rfl)); (try simp only [Act.put, List.setIfInBounds_toArray, List.set_cons_zero, List.set_cons_succ])) | (refine' hl_s rfl rfl ?_; (try simp only [Act.put, List.setIfInBounds_toArray, List.set_cons_zero, List.set_cons_succ])) | (refine hl_e rfl rfl rfl (fun K hK => ?_)) | (with_reducible refine And.intro (fun hn => ?_) ?_; (first | exact hS | exact Keeps.alloc hS _ | exact absurd hn (by rw [show needS _ _ = false from by kernel_rfl]; exact Bool.false_ne_true))) | (refine hl_done ?_) | gi_step)
              go_ret
              exact ⟨by rw [HF.out]; rfl, HE3.out⟩
          · rw [decide_eq_false c2] at h2
            have HF := Lib.hid (HBD.out fun h => c2 (by rw [h]))
            clear c2
            go_wp2_with fail
            refine wp_drawE (way [0, 1, 2, 3, 4, 5, 6, 7, 8, 9, 10, 11, 12, 13, 14, 15, 16, 17, 18, 19, 20, 21, 22, 23, 24, 25, 26, 27, 28, 29, 30, 31, 32, 33, 34, 35, 36, 37]) (by kernel_rfl) (by kernel_rfl) (fun w1 hh hd hf hS => ?_)
            have HE1 := Lib.hid (HE.out.1.trans hS)
            simp only [way]
            go_wp2_with (first | (refine' hl_q rfl rfl rfl (fun _ => ?_) ?_; rotate_left; (go_simp <;> (try go_bits) <;> rfl); (try simp only [Act.put, List.setIfInBounds_toArray, List.set_cons_zero, List.set_cons_succ])) | (refine' hl_rS rfl rfl rfl hS ?_ ?_; rotate_left; (intro w9 hS9; (first | have hc9 := Ext.cells hS9 | have hc9 := Keeps.cells hS9); (go_simp <;> rfl)); (try simp only [Act.put, List.setIfInBounds_toArray, List.set_cons_zero, List.set_cons_succ])) | (refine' hl_r rfl rfl rfl ?_ ?_; rotate_left; (rintro w9 (rfl | hS9); (go_simp <;> rfl); (first | have hc9 := Ext.cells hS9 | have hc9 := Keeps.cells hS9 | (try dsimp only at hS9)); (go_simp <;> rfl)); (try simp only [Act.put, List.setIfInBounds_toArray, List.set_cons_zero, List.set_cons_succ])) | (refine' hl_s rfl rfl ?_; (try simp only [Act.put, List.setIfInBounds_toArray, List.set_cons_zero, List.set_cons_succ])) | (refine hl_e rfl rfl rfl (fun K hK => ?_)) | (with_reducible refine And.intro (fun hn => ?_) ?_; (first | exact hS | exact Keeps.alloc hS _ | exact absurd hn (by rw [show needS _ _ = false from by kernel_rfl]; exact Bool.false_ne_true))) | (refine hl_done ?_) | gi_step)
            go_ret
            exact ⟨by rw [HF.out]; rfl, HE1.out⟩
        · rw [decide_eq_false c1] at h1
          have HF := Lib.hid (HBD.out fun h => c1 (by rw [h]))
          clear c1 h2
          go_wp2_with fail
          refine wp_drawE (way [0, 1, 2, 3, 4, 5, 6, 7, 8, 9, 10, 11, 12, 13, 14, 15, 16, 17, 18, 19, 20, 21, 22, 23, 24, 25, 26, 27, 28, 29, 30, 31, 32, 33, 34, 35, 36, 37]) (by kernel_rfl) (by kernel_rfl) (fun w1 hh hd hf hS => ?_)
          have HE1 := Lib.hid (HE.out.1.trans hS)
          simp only [way]
          go_wp2_with (first | (refine' hl_q rfl rfl rfl (fun _ => ?_) ?_; rotate_left; (go_simp <;> (try go_bits) <;> rfl); (try simp only [Act.put, List.setIfInBounds_toArray, List.set_cons_zero, List.set_cons_succ])) | (refine' hl_rS rfl rfl rfl hS ?_ ?_; rotate_left; (intro w9 hS9; (first | have hc9 := Ext.cells hS9 | have hc9 := Keeps.cells hS9); (go_simp <;> rfl)); (try simp only [Act.put, List.setIfInBounds_toArray, List.set_cons_zero, List.set_cons_succ])) | (refine' hl_r rfl rfl rfl ?_ ?_; rotate_left; (rintro w9 (rfl | hS9); (go_simp <;> rfl); (first | have hc9 := Ext.cells hS9 | have hc9 := Keeps.cells hS9 | (try dsimp only at hS9)); (go_simp <;> rfl)); (try simp only [Act.put, List.setIfInBounds_toArray, List.set_cons_zero, List.set_cons_succ])) | (refine' hl_s rfl rfl ?_; (try simp only [Act.put, List.setIfInBounds_toArray, List.set_cons_zero, List.set_cons_succ])) | (refine hl_e rfl rfl rfl (fun K hK => ?_)) | (with_reducible refine And.intro (fun hn => ?_) ?_; (first | exact hS | exact Keeps.alloc hS _ | exact absurd hn (by rw [show needS _ _ = false from by kernel_rfl]; exact Bool.false_ne_true))) | (refine hl_done ?_) | gi_step)
          go_ret
          exact ⟨by rw [HF.out]; rfl, HE1.out⟩
      · have HE := Lib.hid (And.intro hE hall)
        clear hE hall
        go_wp2_with fail
        go_ret
        have e : decide (E = F) = true := by
          rw [decide_eq_true_iff]
          have h := HE.out.2
          have e1 : j = E.length := by rw [← HNL.out.1]; omega
          have e2 : j = F.length := by rw [← HNL.out.2]; omega
          conv at h => lhs; rw [e1]
          conv at h => rhs; rw [e2]
          rw [List.take_length, List.take_length] at h; exact h
        exact ⟨by rw [e]; rfl, HE.out.1⟩
  · have hne : ((n : Int) == n2) = false := by rw [beq_eq_false_iff_ne]; omega
    have HL := Lib.hid hlen
    clear hlen
    go_enter Tryz.func11, Tryz.ntmps11
    go_wp2_with fail
    all_goals try (exfalso; have := HL.out; omega)
    go_ret
    have e : decide (E = F) = false := by
      rw [decide_eq_false_iff_not]
      rintro rfl
      exact HL.out (HNL.out.1.trans HNL.out.2.symm)
    exact ⟨by rw [e]; rfl, Keeps.refl _ _⟩
end Go.Proofs.YtdonmmjikcbihaaGreatDoor
/- A view that holds what the document's list says. -/
namespace Go.Proofs.YtdonmmjikcbihaaGreatDoor
open Go.RowKit Go.Proofs Go.Vc
attribute [local irreducible] Calls CallsIn Code.wp Code.wpIn
theorem Bnd.mono {m : List (ByteArray × Int)} {N M : Nat} (h : Bnd m N) (k : N ≤ M) : Bnd m M := ⟨Nat.le_trans h.1 k, fun q => by have := h.2 q; omega⟩
theorem bnd_vOut : ∀ (l done : List Spn) {m : List (ByteArray × Int)} {N : Nat}, Bnd m N → Bnd (vOut m done l).1 (N + done.length + 2 * l.length)
  | [], done, m, N, h => h.mono (by omega)
  | x :: l, done, m, N, h => by
    have h1 := h.chg x (d := -1) (.inr rfl)
    simp only [vOut]
    split
    · have := bnd_vOut l (done ++ [x]) h1
      exact this.mono (by simp only [List.length_append, List.length_cons, List.length_nil]; omega)
    · have := bnd_redo h1 done
      exact this.mono (by simp only [List.length_cons]; omega)
theorem bnd_vApply {m : List (ByteArray × Int)} {N : Nat} (h : Bnd m N) (out inn : List Spn) : Bnd (vApply m out inn).1 (N + 2 * out.length + inn.length) := by
  unfold vApply
  have h1 := bnd_vOut out [] h
  split
  · split
    · exact (bnd_redo h1 inn).mono (by simp only [List.length_nil]; omega)
    · exact h1.mono (by simp only [List.length_nil]; omega)
  · exact h.mono (by omega)
/-- the view holds what the list says -/
def VIs (ty : TypeId) (b N : Nat) (L : List Spn) (S : Nat → Prop) (wr : World) : Prop := ∃ m, LMapsi ty b 0 m S wr ∧ EntRel m L ∧ Bnd m N
theorem VIs.keeps {F : Nat → Prop} {ty : TypeId} {b N : Nat} {L : List Spn} {S : Nat → Prop} {w w' : World} (h : VIs ty b N L S w) (k : Keeps F w w') (hF : ∀ i, S i → ¬ F i) : VIs ty b N L S w' := by
  obtain ⟨m, h1, h2, h3⟩ := h
  exact ⟨m, h1.keeps k hF, h2, h3⟩
theorem VIs.ext {ty : TypeId} {b N : Nat} {L : List Spn} {S : Nat → Prop} {w w' : World} (h : VIs ty b N L S w) (k : Ext w w') : VIs ty b N L S w' := h.keeps k fun _ _ hf => hf
theorem VIs.lt {ty : TypeId} {b N : Nat} {L : List Spn} {S : Nat → Prop} {w : World} (h : VIs ty b N L S w) {i : Nat} (hi : S i) : i < w.heap.size := by
  obtain ⟨m, h1, _⟩ := h
  exact h1.lt hi
theorem VIs.new (w : World) (tid : TypeId) : VIs tid w.heap.size 0 [] (fun i => i = w.heap.size) (w.alloc (.cells #[.pointer none, .int .i64 0] tid)) := ⟨[], view_new w tid, EntRel.nil, bnd_nil⟩
def VApp (ty : TypeId) (b N : Nat) (L out inn : List Spn) (S : Nat → Prop) (w : World) (e : Ending) (w' : World) : Prop :=
  e = .returned (.bool (rApply L out inn).2) ∧ (∃ S', VIs ty b (N + 2 * out.length + inn.length) (rApply L out inn).1 S' w' ∧ ∀ i, S' i → S i ∨ w.heap.size ≤ i) ∧ Keeps S w w'
theorem VIs.apply {ty : TypeId} {b N : Nat} {L : List Spn} {S : Nat → Prop} {w : World} (h : VIs ty b N L S w) (hN : N ≤ 10000) {vo vi : Value} {out inn : List Spn} (ho : SpnsAt w vo out) (hi : SpnsAt w vi inn)
    (hso : out ≠ [] → ∀ g, slBlock vo = some g → ¬ S g) (hsi : inn ≠ [] → ∀ g, slBlock vi = some g → ¬ S g) (hfo : ∀ x ∈ out, x.Fits) (hfi : ∀ x ∈ inn, x.Fits) (hlo : out.length ≤ 100) (hli : inn.length ≤ 100) :
    Calls Tryz.prog 9 #[.pointer (some ⟨b, 0, none⟩), .agg #[vo, vi]] w (VApp ty b N L out inn S w) := by
  obtain ⟨m, h1, h2, h3⟩ := h
  refine (vapply_i ty b m S vo vi out inn w N h3 hN h1 ho hi hso hsi hfo hfi hlo hli).mono ?_
  rintro e w' ⟨rfl, ⟨S', hm, hs⟩, hk⟩
  have hr := apply_rel h2 (fun x hx => (hfo x hx).tr) (fun x hx => (hfi x hx).tr)
  exact ⟨by rw [hr.1], ⟨S', ⟨_, hm, hr.2, bnd_vApply h3 out inn⟩, hs⟩, hk⟩
def VAll (L : List Spn) (w : World) (e : Ending) (w' : World) : Prop := AllPost (refAll L) w e w'
theorem VIs.all {ty : TypeId} {b N : Nat} {L : List Spn} {S : Nat → Prop} {w : World} (h : VIs ty b N L S w) (hN : N ≤ 100000) {mx : Int} (hm : w.cell? ⟨0, 0, none⟩ = some (.int .i64 mx)) :
    Calls Tryz.prog 12 #[.pointer (some ⟨b, 0, none⟩)] w (AllPost (refAll L) w) := by
  obtain ⟨m, h1, h2, h3⟩ := h
  exact evall_rel ty b m S w L mx h1 h2 (Nat.le_trans h3.1 hN) hm
end Go.Proofs.YtdonmmjikcbihaaGreatDoor
/- What the law's fixed call comes to (plain). -/
namespace Go.Proofs.YtdonmmjikcbihaaGreatDoor
open Go Go.Vc
def webB : ByteArray := ⟨#[119, 101, 98]⟩
def getB : ByteArray := ⟨#[103, 101, 116]⟩
def putB : ByteArray := ⟨#[112, 117, 116]⟩
def sp1 : Spn := ⟨2, 1, 0, 0, webB, getB, 0, 0, false⟩
def sp2 : Spn := ⟨1, 1, 0, 0, webB, getB, 0, 0, false⟩
def sp3 : Spn := ⟨1, 2, 0, 0, webB, getB, 0, 0, false⟩
def sp4 : Spn := ⟨1, 3, 0, 0, webB, putB, 0, 0, false⟩
def spA : List Spn := [sp1, sp2, sp3, sp4]
/-- the order over the bytes themselves -/
def eless8 (e : Ent) (x : Spn) : Bool := Op.bytesLess e.sv.data.toList x.sv.data.toList || (decide (e.sv = x.sv) && Op.bytesLess e.op.data.toList x.op.data.toList)
theorem eless_8 (e : Ent) (x : Spn) : eless e x = eless8 e x := by unfold eless eless8; rw [toList_data, toList_data, toList_data, toList_data]
def entIns8 (L : List Spn) (x : Spn) : List Ent → List Ent
  | [] => [⟨x.sv, x.op, trOf L x.sv x.op⟩]
  | e :: E => if eless8 e x then e :: entIns8 L x E else if e.sv = x.sv ∧ e.op = x.op then e :: E else ⟨x.sv, x.op, trOf L x.sv x.op⟩ :: e :: E
theorem entIns_8 (L : List Spn) (x : Spn) : ∀ E, entIns L x E = entIns8 L x E
  | [] => rfl
  | e :: E => by rw [entIns, entIns8, eless_8, entIns_8 L x E]
theorem refAll_8 (L : List Spn) : refAll L = L.foldl (fun E x => entIns8 L x E) [] := by
  unfold refAll
  congr 1
  funext E x; exact entIns_8 L x E
theorem spA_fits : ∀ x ∈ spA, x.Fits := by
  intro x hx
  simp only [spA, List.mem_cons, List.not_mem_nil, or_false] at hx
  rcases hx with rfl | rfl | rfl | rfl <;> exact ⟨by decide, by decide, by decide, by decide, by decide, by decide, by decide, by decide⟩
theorem setA : setL spA = [sp2, sp3, sp4, sp1] := by
  have h := (newest_own spA spA_fits).2
  show (newestL spA).map (·.2) = _
  rw [← h]
  decide
theorem awkOf : refAll (rIn [] (setL spA)) = [⟨webB, getB, [1, 2]⟩, ⟨webB, putB, [1]⟩] := by
  rw [setA, refAll_8]
  decide
theorem awk1 : rApply [] [] spA = (spA, true) := by decide
theorem awk2 : rApply spA [sp2] [] = ([sp1, sp3, sp4], true) := by decide
theorem awk3 : rApply [sp1, sp3, sp4] [sp1] [] = ([sp3, sp4], true) := by decide
theorem awk4 : refAll [sp3, sp4] = [⟨webB, getB, [1]⟩, ⟨webB, putB, [1]⟩] := by
  rw [refAll_8]
  decide
theorem awk5 : rApply [sp3, sp4] [sp1] [] = ([sp3, sp4], false) := by decide
end Go.Proofs.YtdonmmjikcbihaaGreatDoor
/- What the law's fixed call answers. -/
namespace Go.Proofs.YtdonmmjikcbihaaGreatDoor
open Go.RowKit Go.Proofs Go.Vc
attribute [local irreducible] Calls CallsIn Code.wp Code.wpIn
theorem of28_i (t i : Int) (o : ByteArray) (w : World) : Calls Tryz.prog 22 #[.int .i64 t, .int .i64 i, .string o] w fun e w' => e = .returned (spnV ⟨t, i, 0, 0, webB, o, 0, 0, false⟩) ∧ Ext w w' := by
  go_enter Tryz.func22, Tryz.ntmps22
  go_wp2_with fail
  refine bodyPost_ret (v := spnV ⟨t, i, 0, 0, webB, o, 0, 0, false⟩) (by simp [results, Tryz.results22, go_sem, webB]) rfl ⟨rfl, ?_⟩
  (repeat' (first | with_reducible refine Keeps.alloc ?_ _ | (with_reducible refine Keeps.setCell ?_ ?_ _; rotate_left; (simp; done)) | exact Keeps.refl _ _))
theorem ext_keeps {F : Nat → Prop} {w w' w'' : World} (h : Ext w w') (k : Keeps F w' w'') (hF : ∀ i, F i → w.heap.size ≤ i) : Ext w w'' :=
  ⟨Nat.le_trans h.size k.size, fun i hi _ => (k.same i (Nat.lt_of_lt_of_le hi h.size) (fun hf => absurd (hF i hf) (by omega))).trans (Ext.same h hi), (h.ost).trans k.ost⟩
set_option maxHeartbeats 4000000 in
set_option maxRecDepth 20000 in
theorem awake_i (w : World) (mx : Int) (hm : w.cell? ⟨0, 0, none⟩ = some (.int .i64 mx)) : Calls Tryz.prog 7 #[] w fun e w' => e = .returned (.bool true) ∧ Ext w w' := by
  have HM := Lib.hid (show ∀ wr, Ext w wr → wr.cell? ⟨0, 0, none⟩ = some (.int .i64 mx) from fun wr k => (Ext.cells k 0 0 (by rw [hm]; rfl)).trans hm)
  have h0w : 0 < w.heap.size := World.block_lt_of_cell? _ _ hm
  clear hm
  go_enter Tryz.func7, Tryz.ntmps7
  go_wp2_with fail
  refine (of28_i 2 1 getB _).mono ?_
  rintro e9 w1 ⟨rfl, hE1⟩
  have HE1 := Lib.hid hE1
  clear hE1
  go_wp2_with fail
  refine (of28_i 1 1 getB _).mono ?_
  rintro e9 w2 ⟨rfl, hE2⟩
  have HE2 := Lib.hid (HE1.out.trans hE2)
  clear hE2
  go_wp2_with fail
  refine (of28_i 1 2 getB _).mono ?_
  rintro e9 w3 ⟨rfl, hE3⟩
  have HE3 := Lib.hid (HE2.out.trans hE3)
  clear hE3
  go_wp2_with fail
  refine (of28_i 1 3 putB _).mono ?_
  rintro e9 w4 ⟨rfl, hE4⟩
  have HE4 := Lib.hid (HE3.out.trans hE4)
  clear hE4
  go_wp2_with fail
  obtain ⟨wl, hwl⟩ : ∃ wl, wl = w4.alloc (.cells #[.int .i64 2, .int .i64 1, .int .i64 0, .int .i64 0, .string webB, .string getB, .int .i64 0, .int .i64 0, .bool false, .int .i64 1, .int .i64 1, .int .i64 0, .int .i64 0, .string webB, .string getB, .int .i64 0, .int .i64 0, .bool false, .int .i64 1, .int .i64 2, .int .i64 0, .int .i64 0, .string webB, .string getB, .int .i64 0, .int .i64 0, .bool false, .int .i64 1, .int .i64 3, .int .i64 0, .int .i64 0, .string webB, .string putB, .int .i64 0, .int .i64 0, .bool false] 48) := ⟨_, rfl⟩
  have hrd : spnE.Reads wl (.slice (some ⟨w4.heap.size, 0, none⟩) 4 4) spA := by rw [hwl]; exact Ek.reads_row spnE w4 spA _ _ 4 4 rfl (by decide) rfl
  have hEl : Ext w wl := by rw [hwl]; exact HE4.out.alloc _
  obtain ⟨p, hp⟩ : ∃ p, p = w4.heap.size := ⟨_, rfl⟩
  rw [← hp] at hrd ⊢
  rw [← hwl]
  have HL := Lib.hid (And.intro hrd hEl)
  clear hwl hp hrd hEl HE1 HE2 HE3 HE4
  refine (eof0_i (.slice (some ⟨p, 0, none⟩) 4 4) spA _ mx (spns_of_reads HL.out.1 rfl (by decide)) (by decide) spA_fits (by decide) (HM.out _ HL.out.2)).mono ?_
  rintro e9 w5 ⟨v5, rfl, hv5, hE5⟩
  rw [awkOf] at hv5
  obtain ⟨a5, c5, rfl, _⟩ := hv5.form
  have hrd5 := HL.out.1.ext spnE hE5
  have hp5 : p < w5.heap.size := Ek.Reads.cell_mem (hrd5.elem spnE 0 0 (by decide) (by decide))
  have HK := Lib.hid (show ∀ wr, Ext w5 wr → SpnsAt wr (.slice (some ⟨p, 0, none⟩) 4 4) spA ∧ SpnsAt wr (.slice (some ⟨p, 9, none⟩) 1 3) [sp2] ∧ SpnsAt wr (.slice (some ⟨p, 0, none⟩) 1 4) [sp1] ∧ EntsAt wr (.slice a5 2 c5) [⟨webB, getB, [1, 2]⟩, ⟨webB, putB, [1]⟩] ∧ Ext w wr from fun wr k =>
    ⟨spns_of_reads (hrd5.ext spnE k) rfl (by decide),
     spns_of_reads (v := .slice (some ⟨p, 9, none⟩) 1 3) (l := [sp2]) (Ek.Reads.part spnE (hrd5.ext spnE k) 1 1 3 (by decide) (by decide) (some ⟨p, 9, none⟩) (fun e => nomatch e) (fun g o s e => ⟨0, by injection e with e; injection e with e1 e2 e3; rw [← e1, ← e3], by injection e with e; injection e with e1 e2 e3; rw [← e2]; rfl⟩)) rfl (by decide),
     spns_of_reads (v := .slice (some ⟨p, 0, none⟩) 1 4) (l := [sp1]) (Ek.Reads.part spnE (hrd5.ext spnE k) 0 1 4 (by decide) (by decide) (some ⟨p, 0, none⟩) (fun e => nomatch e) (fun g o s e => ⟨0, by injection e with e; injection e with e1 e2 e3; rw [← e1, ← e3], by injection e with e; injection e with e1 e2 e3; rw [← e2]; rfl⟩)) rfl (by decide),
     hv5.ext k, HL.out.2.trans (hE5.trans k)⟩)
  have HP := Lib.hid hp5
  clear hv5 hE5 hrd5 hp5 HL
  obtain ⟨wv, hwv⟩ : ∃ wv, wv = w5.alloc (.cells #[.pointer none, .int .i64 0] 28) := ⟨_, rfl⟩
  have hEv : Ext w5 wv := by rw [hwv]; exact (Keeps.refl _ w5).alloc _
  have hV : VIs 28 w5.heap.size 0 [] (fun i => i = w5.heap.size) wv := by rw [hwv]; exact VIs.new w5 _
  obtain ⟨b, hb⟩ : ∃ b, b = w5.heap.size := ⟨_, rfl⟩
  rw [← hb] at hV
  have HV := Lib.hid (And.intro hEv (And.intro hV hb))
  clear hEv hV
  go_wp2_with fail
  rw [← hwv, ← hb]
  clear hwv hb
  refine wp_drawE (way [0, 1, 3, 4, 5, 2, 6, 7, 8]) (by kernel_rfl) (by kernel_rfl) (fun w6 hh hd hf hS => ?_)
  have H6 := Lib.hid (And.intro (HV.out.1.trans hS) (HV.out.2.1.ext hS))
  clear hh hd hf
  simp only [way]
  go_wp2_with (first | (refine' hl_q rfl rfl rfl (fun _ => ?_) ?_; rotate_left; (go_simp <;> (try go_bits) <;> rfl); (try simp only [Act.put, List.setIfInBounds_toArray, List.set_cons_zero, List.set_cons_succ])) | (refine' hl_rS rfl rfl rfl hS ?_ ?_; rotate_left; (intro w9 hS9; (first | have hc9 := Ext.cells hS9 | have hc9 := Keeps.cells hS9); (go_simp <;> rfl)); (try simp only [Act.put, List.setIfInBounds_toArray, List.set_cons_zero, List.set_cons_succ])) | (refine' hl_r rfl rfl rfl ?_ ?_; rotate_left; (rintro w9 (rfl | hS9); (go_simp <;> rfl); (first | have hc9 := Ext.cells hS9 | have hc9 := Keeps.cells hS9 | (try dsimp only at hS9)); (go_simp <;> rfl)); (try simp only [Act.put, List.setIfInBounds_toArray, List.set_cons_zero, List.set_cons_succ])) | (refine' hl_s rfl rfl ?_; (try simp only [Act.put, List.setIfInBounds_toArray, List.set_cons_zero, List.set_cons_succ])) | (refine hl_e rfl rfl rfl (fun K hK => ?_)) | (with_reducible refine And.intro (fun hn => ?_) ?_; (first | exact hS | exact Keeps.alloc hS _ | exact absurd hn (by rw [show needS _ _ = false from by kernel_rfl]; exact Bool.false_ne_true))) | (refine hl_done ?_) | gi_step)
  have hnil : ∀ wr, SpnsAt wr (.slice none 0 0) [] := fun wr => ⟨none, 0, rfl, ⟨by decide, by decide⟩, fun _ => rfl, fun _ _ _ h => nomatch h⟩
  have HNI := Lib.hid hnil
  clear hnil
  refine callsIn_wide.2 ((H6.out.2.apply (by decide) (vo := .slice none 0 0) (vi := .slice (some ⟨p, 0, none⟩) 4 4) (out := []) (inn := spA) (HNI.out _) (HK.out _ H6.out.1).1 (fun _ g hg => nomatch hg) (fun _ g hg hs => by injection hg with hg; have := HP.out; have := HV.out.2.2; subst hg; dsimp only at hs; omega) (fun _ h => nomatch h) spA_fits (by decide) (by decide)).mono ?_)
  rintro e9 w7 ⟨rfl, ⟨S7, hV7, hs7⟩, hk7⟩
  rw [awk1] at hV7
  rw [awk1]
  have hb7 : ∀ i, S7 i → w5.heap.size ≤ i := fun i hi => by
    rcases hs7 i hi with h | h
    · rw [h, HV.out.2.2]; exact Nat.le_refl _
    · exact Nat.le_trans H6.out.1.size h
  have H7 := Lib.hid (And.intro (ext_keeps H6.out.1 hk7 (fun i hi => by rw [hi, HV.out.2.2]; exact Nat.le_refl _)) (And.intro hV7 hb7))
  clear hV7 hs7 hk7 hb7 hS
  go_wp2_with (first | (refine' hl_q rfl rfl rfl (fun _ => ?_) ?_; rotate_left; (go_simp <;> (try go_bits) <;> rfl); (try simp only [Act.put, List.setIfInBounds_toArray, List.set_cons_zero, List.set_cons_succ])) | (refine' hl_rS rfl rfl rfl hS ?_ ?_; rotate_left; (intro w9 hS9; (first | have hc9 := Ext.cells hS9 | have hc9 := Keeps.cells hS9); (go_simp <;> rfl)); (try simp only [Act.put, List.setIfInBounds_toArray, List.set_cons_zero, List.set_cons_succ])) | (refine' hl_r rfl rfl rfl ?_ ?_; rotate_left; (rintro w9 (rfl | hS9); (go_simp <;> rfl); (first | have hc9 := Ext.cells hS9 | have hc9 := Keeps.cells hS9 | (try dsimp only at hS9)); (go_simp <;> rfl)); (try simp only [Act.put, List.setIfInBounds_toArray, List.set_cons_zero, List.set_cons_succ])) | (refine' hl_s rfl rfl ?_; (try simp only [Act.put, List.setIfInBounds_toArray, List.set_cons_zero, List.set_cons_succ])) | (refine hl_e rfl rfl rfl (fun K hK => ?_)) | (with_reducible refine And.intro (fun hn => ?_) ?_; (first | exact hS | exact Keeps.alloc hS _ | exact absurd hn (by rw [show needS _ _ = false from by kernel_rfl]; exact Bool.false_ne_true))) | (refine hl_done ?_) | gi_step)
  refine callsIn_wide.2 ((H7.out.2.1.apply (by decide) (vo := .slice (some ⟨p, 9, none⟩) 1 3) (vi := .slice none 0 0) (out := [sp2]) (inn := []) (HK.out _ H7.out.1).2.1 (HNI.out _) (fun _ g hg hs => by injection hg with hg; have := HP.out; have := H7.out.2.2 _ hs; subst hg; dsimp only at this; omega) (fun _ g hg => nomatch hg) (fun x hx => spA_fits x (by rw [List.mem_singleton] at hx; subst hx; simp [spA])) (fun _ h => nomatch h) (by decide) (by decide)).mono ?_)
  rintro e9 w8 ⟨rfl, ⟨S8, hV8, hs8⟩, hk8⟩
  rw [awk2] at hV8
  rw [awk2]
  have hb8 : ∀ i, S8 i → w5.heap.size ≤ i := fun i hi => by
    rcases hs8 i hi with h | h
    · exact H7.out.2.2 i h
    · exact Nat.le_trans H7.out.1.size h
  have H8 := Lib.hid (And.intro (ext_keeps H7.out.1 hk8 H7.out.2.2) (And.intro hV8 hb8))
  clear hV8 hs8 hk8 hb8
  go_wp2_with (first | (refine' hl_q rfl rfl rfl (fun _ => ?_) ?_; rotate_left; (go_simp <;> (try go_bits) <;> rfl); (try simp only [Act.put, List.setIfInBounds_toArray, List.set_cons_zero, List.set_cons_succ])) | (refine' hl_rS rfl rfl rfl hS ?_ ?_; rotate_left; (intro w9 hS9; (first | have hc9 := Ext.cells hS9 | have hc9 := Keeps.cells hS9); (go_simp <;> rfl)); (try simp only [Act.put, List.setIfInBounds_toArray, List.set_cons_zero, List.set_cons_succ])) | (refine' hl_r rfl rfl rfl ?_ ?_; rotate_left; (rintro w9 (rfl | hS9); (go_simp <;> rfl); (first | have hc9 := Ext.cells hS9 | have hc9 := Keeps.cells hS9 | (try dsimp only at hS9)); (go_simp <;> rfl)); (try simp only [Act.put, List.setIfInBounds_toArray, List.set_cons_zero, List.set_cons_succ])) | (refine' hl_s rfl rfl ?_; (try simp only [Act.put, List.setIfInBounds_toArray, List.set_cons_zero, List.set_cons_succ])) | (refine hl_e rfl rfl rfl (fun K hK => ?_)) | (with_reducible refine And.intro (fun hn => ?_) ?_; (first | exact hS | exact Keeps.alloc hS _ | exact absurd hn (by rw [show needS _ _ = false from by kernel_rfl]; exact Bool.false_ne_true))) | (refine hl_done ?_) | gi_step)
  refine (H8.out.2.1.apply (by decide) (vo := .slice (some ⟨p, 0, none⟩) 1 4) (vi := .slice none 0 0) (out := [sp1]) (inn := []) (HK.out _ H8.out.1).2.2.1 (HNI.out _) (fun _ g hg hs => by injection hg with hg; have := HP.out; have := H8.out.2.2 _ hs; subst hg; dsimp only at this; omega) (fun _ g hg => nomatch hg) (fun x hx => spA_fits x (by rw [List.mem_singleton] at hx; subst hx; simp [spA])) (fun _ h => nomatch h) (by decide) (by decide)).mono ?_
  rintro e9 w9 ⟨rfl, ⟨S9, hV9, hs9⟩, hk9⟩
  rw [awk3] at hV9
  rw [awk3]
  have hb9 : ∀ i, S9 i → w5.heap.size ≤ i := fun i hi => by
    rcases hs9 i hi with h | h
    · exact H8.out.2.2 i h
    · exact Nat.le_trans H8.out.1.size h
  have H9 := Lib.hid (And.intro (ext_keeps H8.out.1 hk9 H8.out.2.2) (And.intro hV9 hb9))
  clear hV9 hs9 hk9 hb9
  go_wp2_with fail
  refine (H9.out.2.1.all (by decide) (HM.out _ (HK.out _ H9.out.1).2.2.2.2)).mono ?_
  rintro e9 w10 ⟨v10, rfl, hv10, hE10⟩
  rw [awk4] at hv10
  obtain ⟨a10, c10, rfl, _⟩ := hv10.form
  have H10 := Lib.hid (And.intro (H9.out.1.trans hE10) (And.intro (H9.out.2.1.ext hE10) (And.intro hv10 hE10)))
  clear hv10 hE10
  obtain ⟨g5, o5, rfl, ⟨s1, s2, s3⟩, _, _, hs5, hr5⟩ := (HK.out _ H10.out.1).2.2.2.1.at (j := 0) (by decide)
  dsimp only [slV] at hs5 hr5
  have HR5 := Lib.hid hr5
  clear hr5
  go_wp2_with fail
  refine (sameints_i _ _ [1, 2] [1, 2] _ (HR5.out.ext intE ((Keeps.refl _ _).alloc _)) (Ek.reads_row intE _ [1, 2] _ _ 2 2 rfl (by decide) rfl)).mono ?_
  rintro e9 w11 ⟨rfl, hE11⟩
  have hE11' : Ext w10 w11 := ((Keeps.refl _ _).alloc _).trans hE11
  have H11 := Lib.hid (And.intro hE11' (H10.out.2.2.1.ext hE11'))
  clear hE11 hE11' hs5
  obtain ⟨g6, o6, rfl, ⟨t1, t2, t3⟩, _, hop6, hs6, hr6⟩ := H11.out.2.at (j := 0) (by decide)
  dsimp only [slV] at hs6 hr6
  have hop6' : w11.cell? ⟨g6, o6 + 0 * 3 + 1, none⟩ = some (.string getB) := hop6
  have HR6 := Lib.hid hr6
  have hgt : getB.toList = [103, 101, 116] := by rw [toList_data]; rfl
  clear hr6 hop6
  go_wp2_with fail
  refine (sameints_i _ _ [1] [1] _ (HR6.out.ext intE ((Keeps.refl _ _).alloc _)) (Ek.reads_row intE _ [1] _ _ 1 1 rfl (by decide) rfl)).mono ?_
  rintro e9 w12 ⟨rfl, hE12⟩
  have hE12' : Ext w11 w12 := ((Keeps.refl _ _).alloc _).trans hE12
  have H12 := Lib.hid (And.intro (H10.out.1.trans (H11.out.1.trans hE12')) (H10.out.2.1.ext (H11.out.1.trans hE12')))
  clear hE12 hE12' hs6 hop6' hgt
  go_wp2_with fail
  refine (H12.out.2.apply (by decide) (vo := .slice (some ⟨p, 0, none⟩) 1 4) (vi := .slice none 0 0) (out := [sp1]) (inn := []) (HK.out _ H12.out.1).2.2.1 (HNI.out _) (fun _ g hg hs => by injection hg with hg; have := HP.out; have := H9.out.2.2 _ hs; subst hg; dsimp only at this; omega) (fun _ g hg => nomatch hg) (fun x hx => spA_fits x (by rw [List.mem_singleton] at hx; subst hx; simp [spA])) (fun _ h => nomatch h) (by decide) (by decide)).mono ?_
  rintro e9 w13 ⟨rfl, _, hk13⟩
  rw [awk5]
  have H13 := Lib.hid (HK.out _ (ext_keeps H12.out.1 hk13 H9.out.2.2)).2.2.2.2
  clear hk13
  go_wp2_with fail
  go_ret
  exact ⟨rfl, H13.out⟩
end Go.Proofs.YtdonmmjikcbihaaGreatDoor
/- The law EntryPlays, walked. -/
namespace Go.Proofs.YtdonmmjikcbihaaGreatDoor
open Go.RowKit Go.Proofs Go.Vc
attribute [local irreducible] Calls CallsIn Code.wp Code.wpIn
/-- deltas: two slices -/
theorem dltF : (Tryz.prog.info? 36).map (fun i => (i.zero, i.size, i.bytes)) = some (some (.agg #[.slice none 0 0, .slice none 0 0]), 2, 48) := by kernel_rfl
noncomputable def dltE : Ek Tryz.prog (Sl × Sl) where
  t := 22
  e := 36
  i := infoOf 36 (by kernel_rfl)
  z := .agg #[.slice none 0 0, .slice none 0 0]
  size := 2
  bytes := 48
  enc x := [slV x.1, slV x.2]
  ht := by kernel_rfl
  hi := infoOf_eq _ _
  hz := (facts_of dltF (infoOf_eq _ _)).1
  hs := (facts_of dltF (infoOf_eq _ _)).2.1
  hb := (facts_of dltF (infoOf_eq _ _)).2.2
  zs := rfl
  pos := by decide
  bb := by decide
  len _ := rfl
  one x u hu := by
    simp only [List.mem_cons, List.not_mem_nil, or_false] at hu
    rcases hu with rfl | rfl <;> rfl
/-- a slice of deltas that reads so -/
def DltsAt (w : World) (v : Value) (D : List (List Spn × List Spn)) : Prop :=
  ∃ l : List (Sl × Sl), dltE.Reads w v l ∧ l.length = D.length ∧ ∀ i (h : i < l.length) (h' : i < D.length), SpnsAt w (slV l[i].1) D[i].1 ∧ SpnsAt w (slV l[i].2) D[i].2
theorem DltsAt.ext {w w' : World} {v : Value} {D : List (List Spn × List Spn)} (h : DltsAt w v D) (k : Ext w w') : DltsAt w' v D := by
  obtain ⟨l, h1, h2, h3⟩ := h
  exact ⟨l, h1.ext dltE k, h2, fun i h h' => ⟨(h3 i h h').1.ext k, (h3 i h h').2.ext k⟩⟩
theorem few_short {l : List Spn} {n : Nat} (h : fewL l n = true) : l.length ≤ n ∧ ∀ x ∈ l, Shrt x := by
  unfold fewL at h
  rw [Bool.and_eq_true, decide_eq_true_eq, List.all_eq_true] at h
  refine ⟨h.2, fun x hx => ?_⟩
  have := h.1 x (by rw [List.take_of_length_le h.2]; exact hx)
  unfold short at this
  rw [Bool.and_eq_true, decide_eq_true_eq, decide_eq_true_eq] at this
  exact ⟨by omega, by omega⟩
theorem rApply_len (L out inn : List Spn) : (rApply L out inn).1.length ≤ L.length + inn.length := by
  unfold rApply
  have hro : ∀ (l : List Spn) (L L' : List Spn), rOut L l = some L' → L'.length ≤ L.length := by
    intro l
    induction l with
    | nil => intro L L' h; injection h with h; rw [h]; exact Nat.le_refl _
    | cons x l ih =>
      intro L L' h
      simp only [rOut] at h
      cases ht : takeOut L x with
      | none => rw [ht] at h; cases h
      | some L1 =>
        rw [ht] at h
        have := ih L1 L' h
        have := takeOut_len ht
        omega
  split
  · cases hr : rOut L out with
    | none => dsimp only; omega
    | some L' => have := hro out L L' hr; have := rIn_len L' inn; dsimp only; omega
  · dsimp only; omega
theorem VIs.mono {ty : TypeId} {b N M : Nat} {L : List Spn} {S : Nat → Prop} {w : World} (h : VIs ty b N L S w) (k : N ≤ M) : VIs ty b M L S w := by
  obtain ⟨m, h1, h2, h3⟩ := h
  exact ⟨m, h1, h2, h3.mono k⟩
theorem spns_len {w : World} {v : Value} {l m : List Spn} {w' : World} (h : SpnsAt w v l) (k : SpnsAt w' v m) : l.length = m.length := by
  obtain ⟨a, c, rfl, _⟩ := h
  obtain ⟨a', c', e, _⟩ := k
  injection e
/-- both views between two rounds -/
structure Both (n0 b xb : Nat) (j : Nat) (L : List Spn) (S : Nat → Prop) (vL : Value) (wr : World) : Prop where
  v : VIs 28 b (36 * j) L S wr
  x : wr.heap[xb]? = some (.cells #[vL] 33 (0, 0))
  r : SpnsAt wr vL L
  nx : ¬ S xb
  nv : slBlock vL ≠ some xb
  na : L ≠ [] → ∀ g, slBlock vL = some g → ¬ S g
  lo : ∀ i, S i → n0 ≤ i
  len : L.length ≤ 12 * j
set_option maxHeartbeats 4000000 in
set_option maxRecDepth 20000 in
theorem eplays_i (v : Value) (D : List (List Spn × List Spn)) (w : World) (mx : Int) (h : DltsAt w v D) (hf : ∀ d ∈ D, (∀ x ∈ d.1, x.Fits) ∧ ∀ x ∈ d.2, x.Fits) (hm : w.cell? ⟨0, 0, none⟩ = some (.int .i64 mx)) :
    Calls Tryz.prog 3 #[v] w fun e w' => e = .returned (.bool true) ∧ Ext w w' := by
  obtain ⟨l, hr, hlen, hs⟩ := h
  have hr' := hr
  obtain ⟨a, cap, rfl, hn, h0, _⟩ := hr'
  obtain ⟨n, hnl⟩ : ∃ n, n = l.length := ⟨_, rfl⟩
  rw [← hnl] at hr hn ⊢
  have HM := Lib.hid (show ∀ wr, Ext w wr → wr.cell? ⟨0, 0, none⟩ = some (.int .i64 mx) from fun wr k => (Ext.cells k 0 0 (by rw [hm]; rfl)).trans hm)
  have HD := Lib.hid (And.intro (show ∀ wr, Ext w wr → dltE.Reads wr (.slice a n cap) l from fun wr k => hr.ext dltE k) (And.intro (show ∀ wr, Ext w wr → ∀ i (h : i < l.length) (h' : i < D.length), SpnsAt wr (slV l[i].1) D[i].1 ∧ SpnsAt wr (slV l[i].2) D[i].2 from fun wr k i h h' => ⟨(hs i h h').1.ext k, (hs i h h').2.ext k⟩) (And.intro hlen hf)))
  have HN := Lib.hid hnl
  clear hr hs hm hlen hf h0 hnl
  by_cases h8 : (8 : Int) < n
  · go_enter Tryz.func3, Tryz.ntmps3
    go_wp2_with fail
    refine (awake_i _ mx (HM.out _ (Keeps.refl _ _))).mono ?_
    rintro e9 w1 ⟨rfl, hE1⟩
    have HE1 := Lib.hid hE1
    clear hE1
    go_wp2_with fail
    go_ret
    exact ⟨rfl, HE1.out⟩
  · have hn8 : (n : Int) ≤ 8 := by omega
    go_enter Tryz.func3, Tryz.ntmps3
    go_wp2_with fail
    obtain ⟨wx, hwx⟩ : ∃ wx, wx = (w.alloc (.cells #[.pointer none, .int .i64 0] 28)).alloc (.cells #[.slice none 0 0] 33) := ⟨_, rfl⟩
    have hEv : Ext w (w.alloc (.cells #[.pointer none, .int .i64 0] 28)) := (Keeps.refl _ w).alloc _
    have hEx : Ext (w.alloc (.cells #[.pointer none, .int .i64 0] 28)) wx := by rw [hwx]; exact (Keeps.refl _ _).alloc _
    have hV := (VIs.new w 28).ext hEx
    have hX : wx.heap[w.heap.size + 1]? = some (.cells #[.slice none 0 0] 33 (0, 0)) := by
      have := World.alloc_heap_new (w.alloc (.cells #[.pointer none, .int .i64 0] 28)) (.cells #[.slice none 0 0] 33)
      rw [World.size_alloc] at this; rw [hwx]; exact this
    obtain ⟨b, hb⟩ : ∃ b, b = w.heap.size := ⟨_, rfl⟩
    rw [← hb] at hV hX
    have HX := Lib.hid (And.intro (show Both w.heap.size b (b + 1) 0 [] (fun i => i = b) (.slice none 0 0) wx from
      { v := hV, x := hX, r := ⟨none, 0, rfl, ⟨by decide, by decide⟩, fun _ => rfl, fun _ _ _ h => nomatch h⟩, nx := by omega, nv := (fun h => nomatch h), na := (fun h => absurd rfl h), lo := fun i hi => by rw [hi, hb]; exact Nat.le_refl _, len := Nat.zero_le _ }) (And.intro (hEv.trans hEx) hb))
    clear hEv hEx hV hX
    rw [← hwx, ← hb]
    clear hwx hb
    go_loopg [6] n (fun k p6 wr => ∃ (j : Nat) (L : List Spn) (S : Nat → Prop) (vL : Value), p6 = .int .i64 j ∧ j + k = n ∧ Ext w wr ∧ Both w.heap.size b (b + 1) j L S vL wr)
    case atStart => exact ⟨0, [], _, _, rfl, Nat.zero_add _, HX.out.2.1, HX.out.1⟩
    case round =>
      obtain ⟨j, L, S, vL, rfl, hj, hE, hB⟩ := hrel
      by_cases hjn : (j : Int) < n
      · have hjl : j < l.length := by rw [← HN.out]; omega
        have hjD : j < D.length := by rw [← HD.out.2.2.1]; exact hjl
        obtain ⟨g, o, rfl, hc⟩ := (HD.out.1 wr hE).at hjl
        have hgl : g < w.heap.size := by
          obtain ⟨g', o', e', hc'⟩ := (HD.out.1 w (Keeps.refl _ _)).at hjl
          injection e' with e'
          injection e' with e1 _ _
          subst e1
          have h1 := hc' j hjl 0 (by decide)
          exact World.block_lt_of_cell? w ⟨g, o' + (j * 2 + 0), none⟩ h1
        obtain ⟨d, hd⟩ : ∃ d, d = l[j] := ⟨_, rfl⟩
        have hk0 := hc j hjl 0 (by decide)
        have hk1 := hc j hjl 1 (by decide)
        rw [← hd] at hk0 hk1
        obtain ⟨⟨p1, p2, p3⟩, ⟨q1, q2, q3⟩⟩ := d
        have hk0' : wr.cell? ⟨g, o + j * 2, none⟩ = some (.slice p1 p2 p3) := hk0
        have hk1' : wr.cell? ⟨g, o + j * 2 + 1, none⟩ = some (.slice q1 q2 q3) := hk1
        obtain ⟨out, hout⟩ : ∃ x, x = D[j].1 := ⟨_, rfl⟩
        obtain ⟨inn, hinn⟩ : ∃ x, x = D[j].2 := ⟨_, rfl⟩
        have hsp : ∀ wr, Ext w wr → SpnsAt wr (.slice p1 p2 p3) out ∧ SpnsAt wr (.slice q1 q2 q3) inn := fun wr k => by
          have := HD.out.2.1 wr k j hjl hjD
          rw [← hd, ← hout, ← hinn] at this; exact this
        have hfit := HD.out.2.2.2 D[j] (List.getElem_mem hjD)
        rw [← hout, ← hinn] at hfit
        have HSP := Lib.hid (And.intro hsp (And.intro hfit (And.intro hgl (And.intro hk0' hk1'))))
        have HB := Lib.hid (And.intro hB hE)
        have HPQ := Lib.hid (show p2 = out.length ∧ q2 = inn.length from by
          have h := HSP.out.1 w (Keeps.refl _ _)
          obtain ⟨⟨a1, c1, e1, _⟩, ⟨a2, c2, e2, _⟩⟩ := h
          injection e1 with _ e1 _
          injection e2 with _ e2 _
          exact ⟨e1, e2⟩)
        have hng : ¬ w.heap.size ≤ g := by omega
        clear hc hd hk0 hk1 hout hinn hsp hfit hB hE
        go_wp2_with fail
        refine (dfew_i (.slice p1 p2 p3) (.slice q1 q2 q3) out inn _ (HSP.out.1 _ HB.out.2).1 (HSP.out.1 _ HB.out.2).2).mono ?_
        rintro e9 w1 ⟨rfl, hE1⟩
        have HE1 := Lib.hid (And.intro (HB.out.2.trans hE1) hE1)
        have hk10 : w1.cell? ⟨g, o + j * 2, none⟩ = some (.slice p1 p2 p3) := (Ext.cells hE1 _ _ (by rw [hk0']; rfl)).trans hk0'
        have hk11 : w1.cell? ⟨g, o + j * 2 + 1, none⟩ = some (.slice q1 q2 q3) := (Ext.cells hE1 _ _ (by rw [hk1']; rfl)).trans hk1'
        clear hE1
        cases hfew : (fewL out 12 && fewL inn 12)
        · clear hfew
          go_wp2_with fail
          refine (awake_i _ mx (HM.out _ HE1.out.1)).mono ?_
          rintro e9 w2 ⟨rfl, hE2⟩
          have HE2 := Lib.hid hE2
          clear hE2
          go_wp2_with fail
          go_ret
          exact ⟨rfl, HE1.out.1.trans HE2.out⟩
        · rw [Bool.and_eq_true] at hfew
          have HF := Lib.hid (And.intro (few_short hfew.1) (few_short hfew.2))
          have HBW := Lib.hid (show VIs 28 b (36 * j) L S w1 from HB.out.1.v.ext HE1.out.2)
          clear hfew hk0' hk1'
          go_wp2_with fail
          refine wp_drawK (fun i => w.heap.size ≤ i) (way [0, 1, 2, 3, 5, 6, 7, 8, 9, 4, 10, 11, 12, 14, 13, 15, 16, 17, 18]) (by kernel_rfl) (by kernel_rfl) (fun w2 hh hd hf hS => ?_)
          have hE2 : Ext w1 w2 := ⟨by rw [hh]; exact Nat.le_refl _, fun i _ _ => by rw [hh], hS.ost⟩
          have hk20 : w2.cell? ⟨g, o + j * 2, none⟩ = some (.slice p1 p2 p3) := (hd _ _).trans hk10
          have hk21 : w2.cell? ⟨g, o + j * 2 + 1, none⟩ = some (.slice q1 q2 q3) := (hd _ _).trans hk11
          have H2 := Lib.hid (And.intro (HE1.out.1.trans hE2) (And.intro (HBW.out.ext hE2) (HE1.out.2.trans hE2)))
          clear hh hd hf hE2
          simp only [way]
          go_wp2_with (first | (refine' hl_q rfl rfl rfl (fun _ => ?_) ?_; rotate_left; (go_simp <;> (try go_bits) <;> rfl); (try simp only [Act.put, List.setIfInBounds_toArray, List.set_cons_zero, List.set_cons_succ])) | (refine' hl_rS rfl rfl rfl hS ?_ ?_; rotate_left; (intro w9 hS9; (first | have hc9 := Ext.cells hS9 | have hc9 := Keeps.cells hS9); (go_simp <;> rfl)); (try simp only [Act.put, List.setIfInBounds_toArray, List.set_cons_zero, List.set_cons_succ])) | (refine' hl_r rfl rfl rfl ?_ ?_; rotate_left; (rintro w9 (rfl | hS9); (go_simp <;> rfl); (first | have hc9 := Ext.cells hS9 | have hc9 := Keeps.cells hS9 | (try dsimp only at hS9)); (go_simp <;> rfl)); (try simp only [Act.put, List.setIfInBounds_toArray, List.set_cons_zero, List.set_cons_succ])) | (refine' hl_s rfl rfl ?_; (try simp only [Act.put, List.setIfInBounds_toArray, List.set_cons_zero, List.set_cons_succ])) | (refine hl_e rfl rfl rfl (fun K hK => ?_)) | (with_reducible refine And.intro (fun hn => ?_) ?_; (first | exact hS | exact Keeps.alloc hS _ | exact absurd hn (by rw [show needS _ _ = false from by kernel_rfl]; exact Bool.false_ne_true))) | (refine hl_done ?_) | gi_step)
          have hex : ∀ {vv : Value} {ll : List Spn}, SpnsAt w vv ll → ll ≠ [] → ∀ g, slBlock vv = some g → ¬ S g := fun hh hl g hg hs => by
            have h1 := hh.blk_lt hl hg
            have h2 := HB.out.1.lo g hs
            omega
          have hso := hex (HSP.out.1 _ (Keeps.refl _ _)).1
          have hsi := hex (HSP.out.1 _ (Keeps.refl _ _)).2
          have HSO := Lib.hid (And.intro hso hsi)
          clear hex hso hsi
          have hj8 : j ≤ 8 := by omega
          refine callsIn_wide.2 ((H2.out.2.1.apply (by omega) (HSP.out.1 _ H2.out.1).1 (HSP.out.1 _ H2.out.1).2 HSO.out.1 HSO.out.2 HSP.out.2.1.1 HSP.out.2.1.2 (by have := HF.out.1.1; omega) (by have := HF.out.2.1; omega)).mono ?_)
          rintro e9 w3 ⟨rfl, ⟨S3, hV3, hs3⟩, hk3⟩
          have hE3 := ext_keeps H2.out.1 hk3 HB.out.1.lo
          have hS3 : Keeps (fun i => w.heap.size ≤ i) w1 w3 := hS.andThen hk3 fun i _ hi => HB.out.1.lo i hi
          have hx2 : w2.heap[b + 1]? = some (.cells #[vL] 33 (0, 0)) := (Ext.same H2.out.2.2 (lt_of_heap HB.out.1.x)).trans HB.out.1.x
          have hx3 := (hk3.same _ (lt_of_heap hx2) HB.out.1.nx).trans hx2
          have hr2 := HB.out.1.r.ext H2.out.2.2
          have hr3 := hr2.keeps2 hk3 HB.out.1.na
          have hnx3 : ¬ S3 (b + 1) := fun h => (hs3 _ h).elim HB.out.1.nx (fun h => by have := lt_of_heap hx2; omega)
          have hna3 : L ≠ [] → ∀ g, slBlock vL = some g → ¬ S3 g := fun hl g hg h => (hs3 _ h).elim (HB.out.1.na hl g hg) (fun h => by have := hr2.blk_lt hl hg; omega)
          have hlo3 : ∀ i, S3 i → w.heap.size ≤ i := fun i hi => (hs3 i hi).elim (HB.out.1.lo i) (fun h => Nat.le_trans H2.out.1.size h)
          have H3 := Lib.hid (And.intro hE3 (And.intro hV3 (And.intro hx3 (And.intro hr3 (And.intro hnx3 (And.intro hna3 hlo3))))))
          clear hS hE3 hV3 hs3 hk3 hx2 hx3 hr2 hr3 hnx3 hna3 hlo3 hk20 hk21
          have hS := hS3
          clear hS3
          go_wp2_with (first | (refine' hl_q rfl rfl rfl (fun _ => ?_) ?_; rotate_left; (go_simp <;> (try go_bits) <;> rfl); (try simp only [Act.put, List.setIfInBounds_toArray, List.set_cons_zero, List.set_cons_succ])) | (refine' hl_rS rfl rfl rfl hS ?_ ?_; rotate_left; (intro w9 hS9; (first | have hc9 := Ext.cells hS9 | have hc9 := Keeps.cells hS9); (go_simp <;> rfl)); (try simp only [Act.put, List.setIfInBounds_toArray, List.set_cons_zero, List.set_cons_succ])) | (refine' hl_r rfl rfl rfl ?_ ?_; rotate_left; (rintro w9 (rfl | hS9); (go_simp <;> rfl); (first | have hc9 := Ext.cells hS9 | have hc9 := Keeps.cells hS9 | (try dsimp only at hS9)); (go_simp <;> rfl)); (try simp only [Act.put, List.setIfInBounds_toArray, List.set_cons_zero, List.set_cons_succ])) | (refine' hl_s rfl rfl ?_; (try simp only [Act.put, List.setIfInBounds_toArray, List.set_cons_zero, List.set_cons_succ])) | (refine hl_e rfl rfl rfl (fun K hK => ?_)) | (with_reducible refine And.intro (fun hn => ?_) ?_; (first | exact hS | exact Keeps.alloc hS _ | exact absurd hn (by rw [show needS _ _ = false from by kernel_rfl]; exact Bool.false_ne_true))) | (refine hl_done ?_) | gi_step)
          refine callsIn_wide.2 ((rapply_i 33 (b + 1) vL _ _ L out inn _ H3.out.2.2.1 H3.out.2.2.2.1 (HSP.out.1 _ H3.out.1).1 (HSP.out.1 _ H3.out.1).2 HB.out.1.nv (fun x hx => ⟨HSP.out.2.1.1 x hx, HF.out.1.2 x hx⟩) (fun x hx => ⟨HSP.out.2.1.2 x hx, HF.out.2.2 x hx⟩) (by have := HB.out.1.len; omega) (by have := HF.out.1.1; omega) (by have := HF.out.2.1; omega)).mono ?_)
          rintro e9 w4 ⟨rfl, ⟨vL', hx4, hr4, hor4⟩, hk4⟩
          have hE4 := ext_keeps H3.out.1 hk4 (fun i hi => by have h1 := HX.out.2.2; omega)
          have hS4 : Keeps (fun i => w.heap.size ≤ i) w1 w4 := hS.andThen hk4 fun i _ hi => by have h1 := HX.out.2.2; omega
          obtain ⟨L', hL'⟩ : ∃ L', L' = (rApply L out inn).1 := ⟨_, rfl⟩
          obtain ⟨r, hr⟩ : ∃ r, r = (rApply L out inn).2 := ⟨_, rfl⟩
          have hlen' := rApply_len L out inn
          rw [← hL'] at hr4 hlen'
          have hV4 := H3.out.2.1.keeps hk4 (fun i hi he => by subst he; exact H3.out.2.2.2.2.1 hi)
          rw [← hL'] at hV4
          rw [← hr]
          have hB4 : Both w.heap.size b (b + 1) (j + 1) L' S3 vL' w4 :=
            { v := hV4.mono (by have := HF.out.1.1; have := HF.out.2.1; omega), x := hx4, r := hr4, nx := H3.out.2.2.2.2.1,
              nv := by
                rcases hor4 with h | h
                · rw [h]; exact HB.out.1.nv
                · intro hg; have h1 := h _ hg; have h2 := lt_of_heap H3.out.2.2.1; omega
              na := fun hl g hg hs => by
                rcases hor4 with h | h
                · subst h
                  have hle := spns_len hr4 H3.out.2.2.2.1
                  exact H3.out.2.2.2.2.2.1 (fun e => hl (List.eq_nil_of_length_eq_zero (by rw [hle, e]; rfl))) g hg hs
                · have h1 := h g hg
                  have h2 := H3.out.2.1.lt hs
                  omega
              lo := H3.out.2.2.2.2.2.2,
              len := by have := HB.out.1.len; have := HF.out.2.1; omega }
          have H4 := Lib.hid (And.intro hE4 hB4)
          clear hS hE4 hk4 hx4 hr4 hor4 hlen' hV4 hB4 hL' hr
          have hS := hS4
          clear hS4
          cases r
          all_goals
            go_wp2_with (first | (refine' hl_q rfl rfl rfl (fun _ => ?_) ?_; rotate_left; (go_simp <;> (try go_bits) <;> rfl); (try simp only [Act.put, List.setIfInBounds_toArray, List.set_cons_zero, List.set_cons_succ])) | (refine' hl_rS rfl rfl rfl hS ?_ ?_; rotate_left; (intro w9 hS9; (first | have hc9 := Ext.cells hS9 | have hc9 := Keeps.cells hS9); (go_simp <;> rfl)); (try simp only [Act.put, List.setIfInBounds_toArray, List.set_cons_zero, List.set_cons_succ])) | (refine' hl_r rfl rfl rfl ?_ ?_; rotate_left; (rintro w9 (rfl | hS9); (go_simp <;> rfl); (first | have hc9 := Ext.cells hS9 | have hc9 := Keeps.cells hS9 | (try dsimp only at hS9)); (go_simp <;> rfl)); (try simp only [Act.put, List.setIfInBounds_toArray, List.set_cons_zero, List.set_cons_succ])) | (refine' hl_s rfl rfl ?_; (try simp only [Act.put, List.setIfInBounds_toArray, List.set_cons_zero, List.set_cons_succ])) | (refine hl_e rfl rfl rfl (fun K hK => ?_)) | (with_reducible refine And.intro (fun hn => ?_) ?_; (first | exact hS | exact Keeps.alloc hS _ | exact absurd hn (by rw [show needS _ _ = false from by kernel_rfl]; exact Bool.false_ne_true))) | (refine hl_done ?_) | gi_step)
            refine callsIn_wide.2 ((H4.out.2.v.all (by omega) (HM.out _ H4.out.1)).mono ?_)
            rintro e9 w5 ⟨v5, rfl, hv5, hE5⟩
            have hS5 : Keeps (fun i => w.heap.size ≤ i) w1 w5 := hS.trans (hE5.mono fun _ _ hf => hf.elim)
            have H5 := Lib.hid (And.intro hv5 hE5)
            clear hS hv5 hE5
            have hS := hS5
            clear hS5
            go_wp2_with (first | (refine' hl_q rfl rfl rfl (fun _ => ?_) ?_; rotate_left; (go_simp <;> (try go_bits) <;> rfl); (try simp only [Act.put, List.setIfInBounds_toArray, List.set_cons_zero, List.set_cons_succ])) | (refine' hl_rS rfl rfl rfl hS ?_ ?_; rotate_left; (intro w9 hS9; (first | have hc9 := Ext.cells hS9 | have hc9 := Keeps.cells hS9); (go_simp <;> rfl)); (try simp only [Act.put, List.setIfInBounds_toArray, List.set_cons_zero, List.set_cons_succ])) | (refine' hl_r rfl rfl rfl ?_ ?_; rotate_left; (rintro w9 (rfl | hS9); (go_simp <;> rfl); (first | have hc9 := Ext.cells hS9 | have hc9 := Keeps.cells hS9 | (try dsimp only at hS9)); (go_simp <;> rfl)); (try simp only [Act.put, List.setIfInBounds_toArray, List.set_cons_zero, List.set_cons_succ])) | (refine' hl_s rfl rfl ?_; (try simp only [Act.put, List.setIfInBounds_toArray, List.set_cons_zero, List.set_cons_succ])) | (refine hl_e rfl rfl rfl (fun K hK => ?_)) | (with_reducible refine And.intro (fun hn => ?_) ?_; (first | exact hS | exact Keeps.alloc hS _ | exact absurd hn (by rw [show needS _ _ = false from by kernel_rfl]; exact Bool.false_ne_true))) | (refine hl_done ?_) | gi_step)
            refine callsIn_wide.2 ((rall_i 33 (b + 1) vL' L' _ ((Ext.same H5.out.2 (lt_of_heap H4.out.2.x)).trans H4.out.2.x) (H4.out.2.r.ext H5.out.2) (by have := H4.out.2.len; omega)).mono ?_)
            rintro e9 w6 ⟨v6, rfl, hv6, hE6⟩
            have hS6 : Keeps (fun i => w.heap.size ≤ i) w1 w6 := hS.trans (hE6.mono fun _ _ hf => hf.elim)
            have H6 := Lib.hid (And.intro hv6 (And.intro (H5.out.2.trans hE6) (H5.out.1.ext hE6)))
            clear hS hv6 hE6
            have hS := hS6
            clear hS6
            go_wp2_with (first | (refine' hl_q rfl rfl rfl (fun _ => ?_) ?_; rotate_left; (go_simp <;> (try go_bits) <;> rfl); (try simp only [Act.put, List.setIfInBounds_toArray, List.set_cons_zero, List.set_cons_succ])) | (refine' hl_rS rfl rfl rfl hS ?_ ?_; rotate_left; (intro w9 hS9; (first | have hc9 := Ext.cells hS9 | have hc9 := Keeps.cells hS9); (go_simp <;> rfl)); (try simp only [Act.put, List.setIfInBounds_toArray, List.set_cons_zero, List.set_cons_succ])) | (refine' hl_r rfl rfl rfl ?_ ?_; rotate_left; (rintro w9 (rfl | hS9); (go_simp <;> rfl); (first | have hc9 := Ext.cells hS9 | have hc9 := Keeps.cells hS9 | (try dsimp only at hS9)); (go_simp <;> rfl)); (try simp only [Act.put, List.setIfInBounds_toArray, List.set_cons_zero, List.set_cons_succ])) | (refine' hl_s rfl rfl ?_; (try simp only [Act.put, List.setIfInBounds_toArray, List.set_cons_zero, List.set_cons_succ])) | (refine hl_e rfl rfl rfl (fun K hK => ?_)) | (with_reducible refine And.intro (fun hn => ?_) ?_; (first | exact hS | exact Keeps.alloc hS _ | exact absurd hn (by rw [show needS _ _ = false from by kernel_rfl]; exact Bool.false_ne_true))) | (refine hl_done ?_) | gi_step)
            refine callsIn_wide.2 ((rsame_i v5 v6 _ _ _ H6.out.2.2 H6.out.1).mono ?_)
            rintro e9 w7 ⟨rfl, hE7⟩
            rw [decide_eq_true rfl]
            have hS7 : Keeps (fun i => w.heap.size ≤ i) w1 w7 := hS.trans (hE7.mono fun _ _ hf => hf.elim)
            have H7 := Lib.hid (H6.out.2.1.trans hE7)
            clear hS hE7
            have hS := hS7
            clear hS7
            go_wp2_with (first | (refine' hl_q rfl rfl rfl (fun _ => ?_) ?_; rotate_left; (go_simp <;> (try go_bits) <;> rfl); (try simp only [Act.put, List.setIfInBounds_toArray, List.set_cons_zero, List.set_cons_succ])) | (refine' hl_rS rfl rfl rfl hS ?_ ?_; rotate_left; (intro w9 hS9; (first | have hc9 := Ext.cells hS9 | have hc9 := Keeps.cells hS9); (go_simp <;> rfl)); (try simp only [Act.put, List.setIfInBounds_toArray, List.set_cons_zero, List.set_cons_succ])) | (refine' hl_r rfl rfl rfl ?_ ?_; rotate_left; (rintro w9 (rfl | hS9); (go_simp <;> rfl); (first | have hc9 := Ext.cells hS9 | have hc9 := Keeps.cells hS9 | (try dsimp only at hS9)); (go_simp <;> rfl)); (try simp only [Act.put, List.setIfInBounds_toArray, List.set_cons_zero, List.set_cons_succ])) | (refine' hl_s rfl rfl ?_; (try simp only [Act.put, List.setIfInBounds_toArray, List.set_cons_zero, List.set_cons_succ])) | (refine hl_e rfl rfl rfl (fun K hK => ?_)) | (with_reducible refine And.intro (fun hn => ?_) ?_; (first | exact hS | exact Keeps.alloc hS _ | exact absurd hn (by rw [show needS _ _ = false from by kernel_rfl]; exact Bool.false_ne_true))) | (refine hl_done ?_) | gi_step)
            have hk70 : w7.cell? ⟨g, o + j * 2, none⟩ = some (.slice p1 p2 p3) := (Keeps.cells hS _ _ (by rw [hk10]; rfl) hng).trans hk10
            have hk71 : w7.cell? ⟨g, o + j * 2 + 1, none⟩ = some (.slice q1 q2 q3) := (Keeps.cells hS _ _ (by rw [hk11]; rfl) hng).trans hk11
            have HS7 := Lib.hid (H4.out.1.trans H7.out)
            clear hS
            refine wp_drawE (way [0, 1, 2, 3, 4, 6, 7, 8, 9, 10, 11, 12, 13, 14, 15, 16, 17, 18, 19, 5, 20, 21, 22, 23, 24, 25, 26]) (by kernel_rfl) (by kernel_rfl) (fun w8 hh hd hf hS => ?_)
            have hk80 : w8.cell? ⟨g, o + j * 2, none⟩ = some (.slice p1 p2 p3) := (hd _ _).trans hk70
            have hk81 : w8.cell? ⟨g, o + j * 2 + 1, none⟩ = some (.slice q1 q2 q3) := (hd _ _).trans hk71
            have hp12 : (p2 : Int) ≤ 12 := by have h1 := HPQ.out.1; have h2 := HF.out.1.1; omega
            have hq12 : (q2 : Int) ≤ 12 := by have h1 := HPQ.out.2; have h2 := HF.out.2.1; omega
            clear hh hd hf
            simp only [way]
            go_wp2_with (first | (refine' hl_q rfl rfl rfl (fun _ => ?_) ?_; rotate_left; (go_simp <;> (try go_bits) <;> rfl); (try simp only [Act.put, List.setIfInBounds_toArray, List.set_cons_zero, List.set_cons_succ])) | (refine' hl_rS rfl rfl rfl hS ?_ ?_; rotate_left; (intro w9 hS9; (first | have hc9 := Ext.cells hS9 | have hc9 := Keeps.cells hS9); (go_simp <;> rfl)); (try simp only [Act.put, List.setIfInBounds_toArray, List.set_cons_zero, List.set_cons_succ])) | (refine' hl_r rfl rfl rfl ?_ ?_; rotate_left; (rintro w9 (rfl | hS9); (go_simp <;> rfl); (first | have hc9 := Ext.cells hS9 | have hc9 := Keeps.cells hS9 | (try dsimp only at hS9)); (go_simp <;> rfl)); (try simp only [Act.put, List.setIfInBounds_toArray, List.set_cons_zero, List.set_cons_succ])) | (refine' hl_s rfl rfl ?_; (try simp only [Act.put, List.setIfInBounds_toArray, List.set_cons_zero, List.set_cons_succ])) | (refine hl_e rfl rfl rfl (fun K hK => ?_)) | (with_reducible refine And.intro (fun hn => ?_) ?_; (first | exact hS | exact Keeps.alloc hS _ | exact absurd hn (by rw [show needS _ _ = false from by kernel_rfl]; exact Bool.false_ne_true))) | (refine hl_done ?_) | gi_step)
            refine callsIn_wide.2 ((vapplynil_i (.slice p1 p2 p3) (.slice q1 q2 q3) out inn _ (HSP.out.1 _ (HS7.out.trans hS)).1 (HSP.out.1 _ (HS7.out.trans hS)).2 (by have := HF.out.1.1; omega) (by have := HF.out.2.1; omega)).mono ?_)
            rintro e9 w9 ⟨rfl, hE9⟩
            rw [← HPQ.out.1, ← HPQ.out.2]
            have hS9 := hS.trans hE9
            have hk90 := (Ext.cells hE9 _ _ (by rw [hk80]; rfl)).trans hk80
            have hk91 := (Ext.cells hE9 _ _ (by rw [hk81]; rfl)).trans hk81
            clear hS hE9 hk80 hk81
            have hS := hS9
            clear hS9
            rcases Decidable.em ((p2 : Int) + q2 = 0) with hz | hz
            · have hzb : ((p2 : Int) + q2 == 0) = true := by simpa using hz
              clear hz
              go_wp2_with (first | (refine' hl_q rfl rfl rfl (fun _ => ?_) ?_; rotate_left; (go_simp <;> (try go_bits) <;> rfl); (try simp only [Act.put, List.setIfInBounds_toArray, List.set_cons_zero, List.set_cons_succ])) | (refine' hl_rS rfl rfl rfl hS ?_ ?_; rotate_left; (intro w9 hS9; (first | have hc9 := Ext.cells hS9 | have hc9 := Keeps.cells hS9); (go_simp <;> rfl)); (try simp only [Act.put, List.setIfInBounds_toArray, List.set_cons_zero, List.set_cons_succ])) | (refine' hl_r rfl rfl rfl ?_ ?_; rotate_left; (rintro w9 (rfl | hS9); (go_simp <;> rfl); (first | have hc9 := Ext.cells hS9 | have hc9 := Keeps.cells hS9 | (try dsimp only at hS9)); (go_simp <;> rfl)); (try simp only [Act.put, List.setIfInBounds_toArray, List.set_cons_zero, List.set_cons_succ])) | (refine' hl_s rfl rfl ?_; (try simp only [Act.put, List.setIfInBounds_toArray, List.set_cons_zero, List.set_cons_succ])) | (refine hl_e rfl rfl rfl (fun K hK => ?_)) | (with_reducible refine And.intro (fun hn => ?_) ?_; (first | exact hS | exact Keeps.alloc hS _ | exact absurd hn (by rw [show needS _ _ = false from by kernel_rfl]; exact Bool.false_ne_true))) | (refine hl_done ?_) | gi_step)
              refine callsIn_wide.2 ((evallnil_i _).mono ?_)
              rintro e9 w10 ⟨rfl, hE10⟩
              have hS10 := hS.trans hE10
              have H10 := Lib.hid (HS7.out.trans hS10)
              have HB10 := Lib.hid (H7.out.trans hS10)
              clear hS hE10
              have hS := hS10
              clear hS10
              go_wp2_with (first | (refine' hl_q rfl rfl rfl (fun _ => ?_) ?_; rotate_left; (go_simp <;> (try go_bits) <;> rfl); (try simp only [Act.put, List.setIfInBounds_toArray, List.set_cons_zero, List.set_cons_succ])) | (refine' hl_rS rfl rfl rfl hS ?_ ?_; rotate_left; (intro w9 hS9; (first | have hc9 := Ext.cells hS9 | have hc9 := Keeps.cells hS9); (go_simp <;> rfl)); (try simp only [Act.put, List.setIfInBounds_toArray, List.set_cons_zero, List.set_cons_succ])) | (refine' hl_r rfl rfl rfl ?_ ?_; rotate_left; (rintro w9 (rfl | hS9); (go_simp <;> rfl); (first | have hc9 := Ext.cells hS9 | have hc9 := Keeps.cells hS9 | (try dsimp only at hS9)); (go_simp <;> rfl)); (try simp only [Act.put, List.setIfInBounds_toArray, List.set_cons_zero, List.set_cons_succ])) | (refine' hl_s rfl rfl ?_; (try simp only [Act.put, List.setIfInBounds_toArray, List.set_cons_zero, List.set_cons_succ])) | (refine hl_e rfl rfl rfl (fun K hK => ?_)) | (with_reducible refine And.intro (fun hn => ?_) ?_; (first | exact hS | exact Keeps.alloc hS _ | exact absurd hn (by rw [show needS _ _ = false from by kernel_rfl]; exact Bool.false_ne_true))) | (refine hl_done ?_) | gi_step)
              go_roundg (gk - 1)
              case measure => omega
              case rel => exact ⟨j + 1, L', S3, vL', by simp, by omega, H10.out, { v := H4.out.2.v.ext HB10.out, x := (Ext.same HB10.out (lt_of_heap H4.out.2.x)).trans H4.out.2.x, r := H4.out.2.r.ext HB10.out, nx := H4.out.2.nx, nv := H4.out.2.nv, na := H4.out.2.na, lo := H4.out.2.lo, len := H4.out.2.len }⟩
            · have hzb : ((p2 : Int) + q2 == 0) = false := by simpa using hz
              clear hz
              go_wp2_with (first | (refine' hl_q rfl rfl rfl (fun _ => ?_) ?_; rotate_left; (go_simp <;> (try go_bits) <;> rfl); (try simp only [Act.put, List.setIfInBounds_toArray, List.set_cons_zero, List.set_cons_succ])) | (refine' hl_rS rfl rfl rfl hS ?_ ?_; rotate_left; (intro w9 hS9; (first | have hc9 := Ext.cells hS9 | have hc9 := Keeps.cells hS9); (go_simp <;> rfl)); (try simp only [Act.put, List.setIfInBounds_toArray, List.set_cons_zero, List.set_cons_succ])) | (refine' hl_r rfl rfl rfl ?_ ?_; rotate_left; (rintro w9 (rfl | hS9); (go_simp <;> rfl); (first | have hc9 := Ext.cells hS9 | have hc9 := Keeps.cells hS9 | (try dsimp only at hS9)); (go_simp <;> rfl)); (try simp only [Act.put, List.setIfInBounds_toArray, List.set_cons_zero, List.set_cons_succ])) | (refine' hl_s rfl rfl ?_; (try simp only [Act.put, List.setIfInBounds_toArray, List.set_cons_zero, List.set_cons_succ])) | (refine hl_e rfl rfl rfl (fun K hK => ?_)) | (with_reducible refine And.intro (fun hn => ?_) ?_; (first | exact hS | exact Keeps.alloc hS _ | exact absurd hn (by rw [show needS _ _ = false from by kernel_rfl]; exact Bool.false_ne_true))) | (refine hl_done ?_) | gi_step)
              refine callsIn_wide.2 ((evallnil_i _).mono ?_)
              rintro e9 w10 ⟨rfl, hE10⟩
              have hS10 := hS.trans hE10
              have H10 := Lib.hid (HS7.out.trans hS10)
              have HB10 := Lib.hid (H7.out.trans hS10)
              clear hS hE10
              have hS := hS10
              clear hS10
              go_wp2_with (first | (refine' hl_q rfl rfl rfl (fun _ => ?_) ?_; rotate_left; (go_simp <;> (try go_bits) <;> rfl); (try simp only [Act.put, List.setIfInBounds_toArray, List.set_cons_zero, List.set_cons_succ])) | (refine' hl_rS rfl rfl rfl hS ?_ ?_; rotate_left; (intro w9 hS9; (first | have hc9 := Ext.cells hS9 | have hc9 := Keeps.cells hS9); (go_simp <;> rfl)); (try simp only [Act.put, List.setIfInBounds_toArray, List.set_cons_zero, List.set_cons_succ])) | (refine' hl_r rfl rfl rfl ?_ ?_; rotate_left; (rintro w9 (rfl | hS9); (go_simp <;> rfl); (first | have hc9 := Ext.cells hS9 | have hc9 := Keeps.cells hS9 | (try dsimp only at hS9)); (go_simp <;> rfl)); (try simp only [Act.put, List.setIfInBounds_toArray, List.set_cons_zero, List.set_cons_succ])) | (refine' hl_s rfl rfl ?_; (try simp only [Act.put, List.setIfInBounds_toArray, List.set_cons_zero, List.set_cons_succ])) | (refine hl_e rfl rfl rfl (fun K hK => ?_)) | (with_reducible refine And.intro (fun hn => ?_) ?_; (first | exact hS | exact Keeps.alloc hS _ | exact absurd hn (by rw [show needS _ _ = false from by kernel_rfl]; exact Bool.false_ne_true))) | (refine hl_done ?_) | gi_step)
              go_roundg (gk - 1)
              case measure => omega
              case rel => exact ⟨j + 1, L', S3, vL', by simp, by omega, H10.out, { v := H4.out.2.v.ext HB10.out, x := (Ext.same HB10.out (lt_of_heap H4.out.2.x)).trans H4.out.2.x, r := H4.out.2.r.ext HB10.out, nx := H4.out.2.nx, nv := H4.out.2.nv, na := H4.out.2.na, lo := H4.out.2.lo, len := H4.out.2.len }⟩
      · have HE := Lib.hid hE
        clear hE hB
        go_wp2_with fail
        refine (awake_i _ mx (HM.out _ HE.out)).mono ?_
        rintro e9 w2 ⟨rfl, hE2⟩
        have HE2 := Lib.hid (HE.out.trans hE2)
        clear hE2
        go_wp2_with fail
        go_ret
        exact ⟨rfl, HE2.out⟩
end Go.Proofs.YtdonmmjikcbihaaGreatDoor
/- What comes in, opened: slices of spans, of deltas. -/
namespace Go.Proofs.YtdonmmjikcbihaaGreatDoor
open Go.RowKit Go.Proofs Go.Vc Go.ChangeShapes Go.WideShapes
/-- a slice of elements that are read one by one -/
theorem reads_of_fn {P : Program} {α : Type} (E : Ek P α) {w : World} {a : Addr} {len cap : Nat} (hc : len ≤ cap) (hm : cap ≤ maxLen) (f : Nat → α) (h : ∀ i, i < len → w.cells? 0 (a.add (i * E.size)) E.size = some (E.enc (f i))) :
    E.Reads w (.slice (some a) len cap) ((List.range len).map f) := by
  have hl : ((List.range len).map f).length = len := by simp
  have hcell : ∀ i k, i < len → k < E.size → ∃ g o, a = ⟨g, o, none⟩ ∧ w.cell? ⟨g, o + (i * E.size + k), none⟩ = (E.enc (f i))[k]? := fun i k hi hk => by
    obtain ⟨_, hlen, hg⟩ := World.cells?_some (h i hi)
    have h0 := hg k hk
    rw [Deep.add_add] at h0
    have hlk : k < (E.enc (f i)).length := by rw [E.len]; exact hk
    have h00 := (World.cells?_some (h 0 (by omega))).2.2 0 E.pos
    rw [Deep.add_add, Nat.zero_mul, Nat.zero_add] at h00
    have hl0 : 0 < (E.enc (f 0)).length := by rw [E.len]; exact E.pos
    rw [List.getElem?_eq_getElem hl0] at h00
    have hs := World.cell?_spot h00
    obtain ⟨g, o, s⟩ := a
    have hs' : s = none := by simpa [Addr.add] using hs
    subst hs'
    refine ⟨g, o, rfl, ?_⟩
    rw [Addr.add_lit] at h0
    exact h0
  refine ⟨some a, cap, by rw [hl], by rw [hl]; unfold maxLen at hm; omega, (fun e => nomatch e), fun g o s e => ?_⟩
  injection e with e
  refine ⟨fun hne => ?_, fun j u hj => ?_⟩
  · have : 0 < len := by rcases Nat.eq_zero_or_pos len with h0 | h0; · rw [h0] at hne; exact absurd rfl hne
                         · exact h0
    obtain ⟨g', o', e', _⟩ := hcell 0 0 this E.pos
    rw [e'] at e; injection e with _ _ e; exact e.symm
  · have hjl : j < len * E.size := by
      rcases Nat.lt_or_ge j (len * E.size) with h1 | h1
      · exact h1
      · rw [List.getElem?_eq_none (by rw [E.cells_len, hl]; exact h1)] at hj; cases hj
    have hi : j / E.size < len := (Nat.div_lt_iff_lt_mul E.pos).2 hjl
    have hk : j % E.size < E.size := Nat.mod_lt _ E.pos
    have hjr : j = j / E.size * E.size + j % E.size := by rw [Nat.mul_comm]; exact (Nat.div_add_mod j E.size).symm
    obtain ⟨g', o', e', hcl⟩ := hcell _ _ hi hk
    rw [e'] at e; injection e with e1 e2 e3
    subst e1; subst e2
    have hat := E.cells_at ((List.range len).map f) (j / E.size) (j % E.size) (by rw [hl]; exact hi) hk
    rw [← hjr, hj] at hat
    rw [← hjr] at hcl
    rw [hcl, hat]
    simp
section
variable {H : Type} {enc : TypeId × Value → H} {w : World}
theorem c3 : Tryz.prog.cellsOf 3 = 1 := by kernel_rfl
theorem c9 : Tryz.prog.cellsOf 9 = 1 := by kernel_rfl
theorem c4 : Tryz.prog.cellsOf 4 = 1 := by kernel_rfl
theorem cSpn : Tryz.prog.cellsOf 48 = 9 := by kernel_rfl
theorem cSps : Tryz.prog.cellsOf 31 = 1 := by kernel_rfl
theorem cDlt : Tryz.prog.cellsOf 36 = 2 := by kernel_rfl
theorem wf64 {n : Int} (h : (Lit.int .i64 n).wf = true) : I64 n := by
  simpa [Lit.wf, IntKind.min, IntKind.max, IntKind.signed, IntKind.bits] using h
set_option maxRecDepth 100000 in
/-- one span read -/
theorem open_spn {fuel : Nat} {cs : List Value} {x : DataW H × List MemPlace} (h : DataW.trod enc Tryz.prog w 0 (fun _ => true) true fuel 48 cs = some x) : ∃ y : Spn, cs = (spnC y).toList ∧ y.Fits := by
  obtain ⟨xs, n, _, _, hl, hlen, hf⟩ := DataW.trod_struct Tryz.underlying48 h
  rw [cSpn] at hl
  match cs, hl, xs, hlen, hf with
  | [c0, c1, c2, c3', c4', c5, c6, c7, c8], _, [x0, x1, x2, x3, x4, x5, x6, x7, x8], _, hf =>
    have f0 : DataW.trod enc Tryz.prog w 0 (fun _ => true) true n 3 (List.take (Tryz.prog.cellsOf 3) [c0, c1, c2, c3', c4', c5, c6, c7, c8]) = some x0 := hf 0 _ rfl
    have f1 : DataW.trod enc Tryz.prog w 0 (fun _ => true) true n 3 (List.take (Tryz.prog.cellsOf 3) [c1, c2, c3', c4', c5, c6, c7, c8]) = some x1 := hf 1 _ rfl
    have f2 : DataW.trod enc Tryz.prog w 0 (fun _ => true) true n 3 (List.take (Tryz.prog.cellsOf 3) [c2, c3', c4', c5, c6, c7, c8]) = some x2 := hf 2 _ rfl
    have f3 : DataW.trod enc Tryz.prog w 0 (fun _ => true) true n 3 (List.take (Tryz.prog.cellsOf 3) [c3', c4', c5, c6, c7, c8]) = some x3 := hf 3 _ rfl
    have f4 : DataW.trod enc Tryz.prog w 0 (fun _ => true) true n 9 (List.take (Tryz.prog.cellsOf 9) [c4', c5, c6, c7, c8]) = some x4 := hf 4 _ rfl
    have f5 : DataW.trod enc Tryz.prog w 0 (fun _ => true) true n 9 (List.take (Tryz.prog.cellsOf 9) [c5, c6, c7, c8]) = some x5 := hf 5 _ rfl
    have f6 : DataW.trod enc Tryz.prog w 0 (fun _ => true) true n 3 (List.take (Tryz.prog.cellsOf 3) [c6, c7, c8]) = some x6 := hf 6 _ rfl
    have f7 : DataW.trod enc Tryz.prog w 0 (fun _ => true) true n 3 (List.take (Tryz.prog.cellsOf 3) [c7, c8]) = some x7 := hf 7 _ rfl
    have f8 : DataW.trod enc Tryz.prog w 0 (fun _ => true) true n 4 (List.take (Tryz.prog.cellsOf 4) [c8]) = some x8 := hf 8 _ rfl
    rw [c3] at f0 f1 f2 f3 f6 f7
    rw [c9] at f4 f5
    rw [c4] at f8
    obtain ⟨a0, e0, _, g0⟩ := DataW.trod_int Tryz.underlying3 f0
    obtain ⟨a1, e1, _, g1⟩ := DataW.trod_int Tryz.underlying3 f1
    obtain ⟨a2, e2, _, g2⟩ := DataW.trod_int Tryz.underlying3 f2
    obtain ⟨a3, e3, _, g3⟩ := DataW.trod_int Tryz.underlying3 f3
    obtain ⟨a4, e4, _, g4⟩ := DataW.trod_string Tryz.underlying9 f4
    obtain ⟨a5, e5, _, g5⟩ := DataW.trod_string Tryz.underlying9 f5
    obtain ⟨a6, e6, _, g6⟩ := DataW.trod_int Tryz.underlying3 f6
    obtain ⟨a7, e7, _, g7⟩ := DataW.trod_int Tryz.underlying3 f7
    obtain ⟨a8, e8, _⟩ := DataW.trod_bool Tryz.underlying4 f8
    simp at e0 e1 e2 e3 e4 e5 e6 e7 e8
    subst e0 e1 e2 e3 e4 e5 e6 e7 e8
    exact ⟨⟨a0, a1, a2, a3, a4, a5, a6, a7, a8⟩, rfl, ⟨wf64 g0, wf64 g1, wf64 g2, wf64 g3, wf64 g6, wf64 g7, by unfold maxLen at g4; show a4.size ≤ _; omega, by unfold maxLen at g5; show a5.size ≤ _; omega⟩⟩
/-- a slice of spans read -/
theorem open_spns {fuel : Nat} {cs : List Value} {x : DataW H × List MemPlace} (h : DataW.trod enc Tryz.prog w 0 (fun _ => true) true fuel 31 cs = some x) : ∃ (s : Sl) (l : List Spn), cs = [slV s] ∧ SpnsAt w (slV s) l ∧ ∀ y ∈ l, y.Fits := by
  rcases Deep.open_slice Tryz.underlying31 h with ⟨rfl, _⟩ | ⟨a, len, cap, m, n, D, Pl, rfl, _, hlc, hcm, hm, _, hx⟩
  · exact ⟨(none, 0, 0), [], rfl, ⟨none, 0, rfl, ⟨by decide, by decide⟩, fun _ => rfl, fun _ _ _ h => nomatch h⟩, fun _ h => nomatch h⟩
  · simp only [if_true] at hm
    subst hm
    have hall : ∀ i, i < len → ∃ y : Spn, w.cells? 0 (a.add (i * 9)) 9 = some (spnC y).toList ∧ y.Fits := fun i hi => by
      obtain ⟨cs', h1, h2⟩ := hx i (by omega)
      obtain ⟨y, e, hy⟩ := open_spn h2
      rw [cSpn, e] at h1
      exact ⟨y, h1, hy⟩
    haveI : Inhabited Spn := ⟨⟨0, 0, 0, 0, ⟨#[]⟩, ⟨#[]⟩, 0, 0, false⟩⟩
    obtain ⟨f, hf⟩ := Deep.choose_lt hall
    refine ⟨(some a, len, m), (List.range len).map f, rfl, spns_of_reads (reads_of_fn spnE hlc hcm f fun i hi => (hf i hi).1) rfl hlc, fun y hy => ?_⟩
    obtain ⟨i, hi, rfl⟩ := List.mem_map.1 hy
    exact (hf i (List.mem_range.1 hi)).2
set_option maxRecDepth 100000 in
/-- a slice of deltas read -/
theorem open_dlts {fuel : Nat} {cs : List Value} {x : DataW H × List MemPlace} (h : DataW.trod enc Tryz.prog w 0 (fun _ => true) true fuel 22 cs = some x) :
    ∃ (s : Sl) (D : List (List Spn × List Spn)), cs = [slV s] ∧ DltsAt w (slV s) D ∧ ∀ d ∈ D, (∀ y ∈ d.1, y.Fits) ∧ ∀ y ∈ d.2, y.Fits := by
  rcases Deep.open_slice Tryz.underlying22 h with ⟨rfl, _⟩ | ⟨a, len, cap, m, n, D, Pl, rfl, _, hlc, hcm, hm, _, hx⟩
  · exact ⟨(none, 0, 0), [], rfl, ⟨[], Ek.Reads.nil dltE w 0, rfl, fun i h => nomatch h⟩, fun _ h => nomatch h⟩
  · simp only [if_true] at hm
    subst hm
    have hall : ∀ i, i < len → ∃ y : (Sl × Sl) × (List Spn × List Spn), w.cells? 0 (a.add (i * 2)) 2 = some (dltE.enc y.1) ∧ (SpnsAt w (slV y.1.1) y.2.1 ∧ SpnsAt w (slV y.1.2) y.2.2) ∧ (∀ z ∈ y.2.1, z.Fits) ∧ ∀ z ∈ y.2.2, z.Fits := fun i hi => by
      obtain ⟨cs', h1, h2⟩ := hx i (by omega)
      obtain ⟨xs, n, _, _, hl, hlen, hf⟩ := DataW.trod_struct Tryz.underlying36 h2
      rw [cDlt] at hl h1
      match cs', hl, xs, hlen, hf with
      | [c0, c1], _, [x0, x1], _, hf =>
        have f0 : DataW.trod enc Tryz.prog w 0 (fun _ => true) true n 31 (List.take (Tryz.prog.cellsOf 31) [c0, c1]) = some x0 := hf 0 _ rfl
        have f1 : DataW.trod enc Tryz.prog w 0 (fun _ => true) true n 31 (List.take (Tryz.prog.cellsOf 31) [c1]) = some x1 := hf 1 _ rfl
        rw [cSps] at f0 f1
        obtain ⟨s0, l0, e0, g0, k0⟩ := open_spns f0
        obtain ⟨s1, l1, e1, g1, k1⟩ := open_spns f1
        simp at e0 e1
        subst e0 e1
        exact ⟨((s0, s1), (l0, l1)), h1, ⟨g0, g1⟩, k0, k1⟩
    haveI : Inhabited ((Sl × Sl) × (List Spn × List Spn)) := ⟨(((none, 0, 0), (none, 0, 0)), ([], []))⟩
    obtain ⟨f, hf⟩ := Deep.choose_lt hall
    refine ⟨(some a, len, m), (List.range len).map fun i => (f i).2, rfl, ⟨(List.range len).map fun i => (f i).1, reads_of_fn dltE hlc hcm _ fun i hi => (hf i hi).1, by simp, fun i h h' => ?_⟩, fun d hd => ?_⟩
    · have hi : i < len := by simpa using h
      simpa using (hf i hi).2.1
    · obtain ⟨i, hi, rfl⟩ := List.mem_map.1 hd
      exact (hf i (List.mem_range.1 hi)).2.2
end
/-- what the machine's own variable of bytealg holds -/
theorem maxlen_of {w : World} (h : w.ShapedOpen Tryz.prog) : ∃ m, w.cell? ⟨0, 0, none⟩ = some (.int .i64 m) :=
  cell_of_shapedOpen_int (zero := #[.int .i64 0]) (t := 3) h (of_decide_eq_true (by kernel_rfl)) (by kernel_rfl) rfl (by kernel_rfl) (by kernel_rfl) Tryz.underlying3
theorem _root_.Go.Vc.Ext.below {w w' : World} (h : Ext w w') : Below w.heap.size w { w' with tape := w.tape } := ⟨h.ost.1, rfl, h.ost.2, h.size, fun _ hk => Ext.same h hk⟩
end Go.Proofs.YtdonmmjikcbihaaGreatDoor
