/- The document's answers for entry: All, walked. -/
import Derived.Test.YtdonmmjikcbihaaGreatDoorRef28d
import Derived.Test.YtdonmmjikcbihaaGreatDoorEnt3
namespace Go.Proofs.YtdonmmjikcbihaaGreatDoor
open Go.RowKit Go.Proofs Go.Vc
attribute [local irreducible] Calls CallsIn Code.wp Code.wpIn
set_option maxHeartbeats 8000000 in
set_option maxRecDepth 20000 in
theorem rall_i (ty : TypeId) (b : Nat) (vL : Value) (L : List Spn) (w : World) (hb : w.heap[b]? = some (.cells #[vL] ty (0, 0))) (hL : SpnsAt w vL L) (hlL : L.length ≤ 10000) :
    Calls Tryz.prog 13 #[.pointer (some ⟨b, 0, none⟩)] w (AllPost (refAll L) w) := by
  have hL' := hL
  obtain ⟨aL, capL, rfl, hnL, _, hju⟩ := hL'
  obtain ⟨n, hnl⟩ : ∃ n, n = L.length := ⟨_, rfl⟩
  rw [← hnl] at hb hL hnL
  have HN := Lib.hid (And.intro hnl hlL)
  have hn2 : (n : Int) ≤ 10000 := by omega
  have HB := Lib.hid (show ∀ wr, Ext w wr → wr.heap[b]? = some (.cells #[.slice aL n capL] ty (0, 0)) ∧ SpnsAt wr (.slice aL n capL) L from fun wr k => ⟨(Ext.same k (lt_of_heap hb)).trans hb, hL.ext k⟩)
  have hbw := blk_cell hb
  clear hb hL hju hnl hlL
  go_enter Tryz.func13, Tryz.ntmps13
  go_wp2_with fail
  go_loopg [3, 4] n (fun k p3 p4 wr => ∃ (j : Nat) (l : List (ByteArray × ByteArray × Sl)), p4 = .int .i64 j ∧ j + k = n ∧ Ext w wr ∧ entE.Own w.heap.size p3 l wr ∧ EntsOwn w.heap.size wr l (reTo L j))
  case atStart => exact ⟨0, [], rfl, Nat.zero_add _, Keeps.refl _ _, Ek.Own.nil entE _ _, trivial⟩
  case round =>
    obtain ⟨j, l, rfl, hj, hE, hown, hents⟩ := hrel
    have hcr := blk_cell (HB.out wr hE).1
    by_cases hjn : (j : Int) < n
    · have hjl : j < L.length := by rw [← HN.out.1]; omega
      obtain ⟨g, q, rfl, hc9⟩ := (HB.out wr hE).2.at hjl
      have hy := hc9 j hjl
      obtain ⟨x, hxl⟩ : ∃ x, x = L[j] := ⟨_, rfl⟩
      rw [← hxl] at hy
      have hstep := reTo_succ L j hjl
      rw [← hxl] at hstep
      obtain ⟨wa, hwa⟩ : ∃ wa, wa = wr.alloc (.cells (spnC x) 48) := ⟨_, rfl⟩
      have hEa : Ext wr wa := by rw [hwa]; exact (Keeps.refl _ wr).alloc _
      have hNa : wa.heap[wr.heap.size]? = some (.cells (spnC x) 48 (0, 0)) := by rw [hwa]; exact World.alloc_heap_new wr _
      obtain ⟨p, hp⟩ : ∃ p, p = wr.heap.size := ⟨_, rfl⟩
      rw [← hp] at hNa
      obtain ⟨E, hEE⟩ : ∃ E, E = reTo L j := ⟨_, rfl⟩
      rw [← hEE] at hents hstep
      have hNl : l.length ≤ 10000 := by
        have h1 := reTo_len L j
        have h2 := hents.len
        rw [hEE] at h2; omega
      have HX := Lib.hid (And.intro (hE.trans hEa) (And.intro hNa (And.intro (hown.ext entE hEa) (And.intro (hents.ext hEa) hstep))))
      unfold C9 at hy
      have hpx := blk_cell hNa
      clear hc9 hxl hstep hE hown hEa hEE hents
      obtain ⟨gk0, hgk0⟩ : ∃ gg, gg = gk := ⟨_, rfl⟩
      subst hgk0
      obtain ⟨w0, hw0⟩ : ∃ w0, w0 = wr := ⟨_, rfl⟩
      subst hw0
      obtain ⟨ln, hln⟩ : ∃ n, n = l.length := ⟨_, rfl⟩
      have hln2 : (ln : Int) ≤ 10000 := by omega
      have HLN := Lib.hid (And.intro hln (show ln = E.length from hln.trans HX.out.2.2.2.1.len))
      rcases HX.out.2.2.1.form entE with hf | ⟨g7, cap7, hf, hcap7⟩
      · subst hf
        have hN0 : l = [] := by
          have h := HX.out.2.2.1.2
          rcases h with ⟨_, h⟩ | ⟨g', cap', cur, h, _⟩
          · exact List.eq_nil_of_length_eq_zero h
          · cases h
        subst hN0
        have hE0 : E = [] := List.eq_nil_of_length_eq_zero (by rw [← HLN.out.2, HLN.out.1]; rfl)
        subst hE0
        have HTR := Lib.hid (show entIns L x [] = [⟨x.sv, x.op, trOf L x.sv x.op⟩] from rfl)
        clear hNa hNl hln hln2
        go_wp2_with fail
        rw [← hwa, ← hp]
        have HPP := Lib.hid hp
        clear hwa hp hcr hy
        go_loopg [6] 0 (fun k p6 wr => p6 = .int .i64 0 ∧ k = 0 ∧ Ext wa wr)
        case atStart => exact ⟨rfl, rfl, Keeps.refl _ _⟩
        case round =>
          obtain ⟨rfl, rfl, hE⟩ := hrel
          have HA := Lib.hid hE
          clear hE
          go_wp2_with fail
          refine wp_drawE (way [0, 1, 2, 3, 4, 5, 6, 7, 8, 9, 10, 11, 12, 13, 14, 15, 16, 17, 18, 19, 20, 21, 22, 23, 24, 25, 26, 27, 28, 29, 30, 31, 32, 33]) (by kernel_rfl) (by kernel_rfl) (fun w1 hh hd hf hS => ?_)
          have HS1 := Lib.hid (HA.out.trans hS)
          simp only [way]
          go_wp2_with (first | (refine' hl_q rfl rfl rfl (fun _ => ?_) ?_; rotate_left; (go_simp <;> (try go_bits) <;> rfl); (try simp only [Act.put, List.setIfInBounds_toArray, List.set_cons_zero, List.set_cons_succ])) | (refine' hl_rS rfl rfl rfl hS ?_ ?_; rotate_left; (intro w9 hS9; (first | have hc9 := Ext.cells hS9 | have hc9 := Keeps.cells hS9); (go_simp <;> rfl)); (try simp only [Act.put, List.setIfInBounds_toArray, List.set_cons_zero, List.set_cons_succ])) | (refine' hl_r rfl rfl rfl ?_ ?_; rotate_left; (rintro w9 (rfl | hS9); (go_simp <;> rfl); (first | have hc9 := Ext.cells hS9 | have hc9 := Keeps.cells hS9 | (try dsimp only at hS9)); (go_simp <;> rfl)); (try simp only [Act.put, List.setIfInBounds_toArray, List.set_cons_zero, List.set_cons_succ])) | (refine' hl_s rfl rfl ?_; (try simp only [Act.put, List.setIfInBounds_toArray, List.set_cons_zero, List.set_cons_succ])) | (refine hl_e rfl rfl rfl (fun K hK => ?_)) | (with_reducible refine And.intro (fun hn => ?_) ?_; (first | exact hS | exact Keeps.alloc hS _ | exact absurd hn (by rw [show needS _ _ = false from by kernel_rfl]; exact Bool.false_ne_true))) | (refine hl_done ?_) | gi_step)
          refine wp_drawE (way [0, 1, 2, 3, 4, 5, 6, 7, 8, 9, 10, 11, 12, 13, 14, 15, 16, 17, 18, 19, 20, 21, 22, 23]) (by kernel_rfl) (by kernel_rfl) (fun w2 hh2 hd2 hf2 hS2 => ?_)
          have HS2 := Lib.hid (HS1.out.trans hS2)
          simp only [way]
          have hp2 := blk_cell ((Ext.same HS2.out (lt_of_heap HX.out.2.1)).trans HX.out.2.1)
          have HR2 := Lib.hid (HX.out.1.trans HS2.out)
          go_wp2_with (first | (at_builtin; refine Ek.app' entE rfl _ _ rfl w.heap.size (.slice none 0 0) [] [] rfl (Ek.Own.nil entE _ _) (Ek.Reads.nil entE _ _) (by simp) HR2.out.size ?_) | (refine' hl_q rfl rfl rfl (fun _ => ?_) ?_; rotate_left; (go_simp <;> (try go_bits) <;> rfl); (try simp only [Act.put, List.setIfInBounds_toArray, List.set_cons_zero, List.set_cons_succ])) | (refine' hl_rS rfl rfl rfl hS ?_ ?_; rotate_left; (intro w9 hS9; (first | have hc9 := Ext.cells hS9 | have hc9 := Keeps.cells hS9); (go_simp <;> rfl)); (try simp only [Act.put, List.setIfInBounds_toArray, List.set_cons_zero, List.set_cons_succ])) | (refine' hl_r rfl rfl rfl ?_ ?_; rotate_left; (rintro w9 (rfl | hS9); (go_simp <;> rfl); (first | have hc9 := Ext.cells hS9 | have hc9 := Keeps.cells hS9 | (try dsimp only at hS9)); (go_simp <;> rfl)); (try simp only [Act.put, List.setIfInBounds_toArray, List.set_cons_zero, List.set_cons_succ])) | (refine' hl_s rfl rfl ?_; (try simp only [Act.put, List.setIfInBounds_toArray, List.set_cons_zero, List.set_cons_succ])) | (refine hl_e rfl rfl rfl (fun K hK => ?_)) | (with_reducible refine And.intro (fun hn => ?_) ?_; (first | exact hS | exact Keeps.alloc hS _ | exact absurd hn (by rw [show needS _ _ = false from by kernel_rfl]; exact Bool.false_ne_true))) | (refine hl_done ?_) | gi_step)
          intro v5 w5 hown5 hgr5 hv5 _
          have hv5' : v5 = .slice none 0 0 := by simpa using hv5
          subst hv5'
          have hE5 : Ext w2 w5 := hgr5.mono fun _ _ h => by cases h
          have hN5 := (Ext.same (HS2.out.trans hE5) (lt_of_heap HX.out.2.1)).trans HX.out.2.1
          have hp5 := blk_cell hN5
          have H5 := Lib.hid (And.intro (HR2.out.trans hE5) hN5)
          clear hown5 hgr5 hv5 hE5 hp2 hN5
          go_wp2_with fail
          refine wp_drawE (way [0, 1, 2, 3, 4, 5, 6, 7, 8, 9, 10, 11, 12, 13, 14]) (by kernel_rfl) (by kernel_rfl) (fun w6 hh6 hd6 hf6 hS => ?_)
          have hp6 := blk_cell ((Ext.same hS (lt_of_heap H5.out.2)).trans H5.out.2)
          clear hh6 hd6 hf6
          simp only [way]
          go_wp2_with (first | (refine' hl_q rfl rfl rfl (fun _ => ?_) ?_; rotate_left; (go_simp <;> (try go_bits) <;> rfl); (try simp only [Act.put, List.setIfInBounds_toArray, List.set_cons_zero, List.set_cons_succ])) | (refine' hl_rS rfl rfl rfl hS ?_ ?_; rotate_left; (intro w9 hS9; (first | have hc9 := Ext.cells hS9 | have hc9 := Keeps.cells hS9); (go_simp <;> rfl)); (try simp only [Act.put, List.setIfInBounds_toArray, List.set_cons_zero, List.set_cons_succ])) | (refine' hl_r rfl rfl rfl ?_ ?_; rotate_left; (rintro w9 (rfl | hS9); (go_simp <;> rfl); (first | have hc9 := Ext.cells hS9 | have hc9 := Keeps.cells hS9 | (try dsimp only at hS9)); (go_simp <;> rfl)); (try simp only [Act.put, List.setIfInBounds_toArray, List.set_cons_zero, List.set_cons_succ])) | (refine' hl_s rfl rfl ?_; (try simp only [Act.put, List.setIfInBounds_toArray, List.set_cons_zero, List.set_cons_succ])) | (refine hl_e rfl rfl rfl (fun K hK => ?_)) | (with_reducible refine And.intro (fun hn => ?_) ?_; (first | exact hS | exact Keeps.alloc hS _ | exact absurd hn (by rw [show needS _ _ = false from by kernel_rfl]; exact Bool.false_ne_true))) | (refine hl_done ?_) | gi_step)
          refine callsIn_wide.2 ((rtraces_i ty b _ L x.sv x.op _ (HB.out w6 (H5.out.1.trans hS)).1 (HB.out w6 (H5.out.1.trans hS)).2 HN.out.2).mono ?_)
          rintro e9 w8 ⟨v8, rfl, hown8, hE8⟩
          have hS8 := hS.trans hE8
          have hw6 : w.heap.size ≤ w6.heap.size := (H5.out.1.trans hS).size
          clear hS
          have hS := hS8
          clear hS8
          obtain ⟨a8, c8, rfl, _, _⟩ := hown8.slice intE
          have H8 := Lib.hid (And.intro (hown8.mono intE hw6) (H5.out.1.trans hS))
          clear hown8 hE8 hp6 hw6
          go_wp2_with (first | (refine Ek.hl_app entE rfl rfl rfl _ _ rfl w.heap.size (.slice none 0 0) [] [(x.sv, x.op, (a8, (trOf L x.sv x.op).length, c8))] rfl (Ek.Own.nil entE _ _) (Ek.reads_new entE _ _ _ _ rfl) (by simp) (Nat.le_trans H8.out.2.size ((Keeps.refl Non w8).alloc _).size) ?_) | (refine' hl_q rfl rfl rfl (fun _ => ?_) ?_; rotate_left; (go_simp <;> (try go_bits) <;> rfl); (try simp only [Act.put, List.setIfInBounds_toArray, List.set_cons_zero, List.set_cons_succ])) | (refine' hl_rS rfl rfl rfl hS ?_ ?_; rotate_left; (intro w9 hS9; (first | have hc9 := Ext.cells hS9 | have hc9 := Keeps.cells hS9); (go_simp <;> rfl)); (try simp only [Act.put, List.setIfInBounds_toArray, List.set_cons_zero, List.set_cons_succ])) | (refine' hl_r rfl rfl rfl ?_ ?_; rotate_left; (rintro w9 (rfl | hS9); (go_simp <;> rfl); (first | have hc9 := Ext.cells hS9 | have hc9 := Keeps.cells hS9 | (try dsimp only at hS9)); (go_simp <;> rfl)); (try simp only [Act.put, List.setIfInBounds_toArray, List.set_cons_zero, List.set_cons_succ])) | (refine' hl_s rfl rfl ?_; (try simp only [Act.put, List.setIfInBounds_toArray, List.set_cons_zero, List.set_cons_succ])) | (refine hl_e rfl rfl rfl (fun K hK => ?_)) | (with_reducible refine And.intro (fun hn => ?_) ?_; (first | exact hS | exact Keeps.alloc hS _ | exact absurd hn (by rw [show needS _ _ = false from by kernel_rfl]; exact Bool.false_ne_true))) | (refine hl_done ?_) | gi_step)
          intro v9 w9 hown9 hgr9 _ _
          have hE9 : Ext w8 w9 := ((Keeps.refl Non w8).alloc (.cells #[.string x.sv, .string x.op, .slice a8 (trOf L x.sv x.op).length c8] 46)).trans (hgr9.mono fun _ _ h => by cases h)
          have H9 := Lib.hid (And.intro hown9 (And.intro (H8.out.2.trans hE9) (H8.out.1.ext intE hE9)))
          clear hown9 hgr9 hE9 hp5 hS
          go_wp2_with (first | (at_builtin; refine Ek.app' entE rfl _ _ rfl w.heap.size v9 [(x.sv, x.op, (a8, (trOf L x.sv x.op).length, c8))] [] rfl H9.out.1 (Ek.Reads.nil entE _ _) (by simp) H9.out.2.1.size ?_) | (refine' hl_q rfl rfl rfl (fun _ => ?_) ?_; rotate_left; (go_simp <;> (try go_bits) <;> rfl); (try simp only [Act.put, List.setIfInBounds_toArray, List.set_cons_zero, List.set_cons_succ])) | (refine' hl_rS rfl rfl rfl hS ?_ ?_; rotate_left; (intro w9 hS9; (first | have hc9 := Ext.cells hS9 | have hc9 := Keeps.cells hS9); (go_simp <;> rfl)); (try simp only [Act.put, List.setIfInBounds_toArray, List.set_cons_zero, List.set_cons_succ])) | (refine' hl_r rfl rfl rfl ?_ ?_; rotate_left; (rintro w9 (rfl | hS9); (go_simp <;> rfl); (first | have hc9 := Ext.cells hS9 | have hc9 := Keeps.cells hS9 | (try dsimp only at hS9)); (go_simp <;> rfl)); (try simp only [Act.put, List.setIfInBounds_toArray, List.set_cons_zero, List.set_cons_succ])) | (refine' hl_s rfl rfl ?_; (try simp only [Act.put, List.setIfInBounds_toArray, List.set_cons_zero, List.set_cons_succ])) | (refine hl_e rfl rfl rfl (fun K hK => ?_)) | (with_reducible refine And.intro (fun hn => ?_) ?_; (first | exact hS | exact Keeps.alloc hS _ | exact absurd hn (by rw [show needS _ _ = false from by kernel_rfl]; exact Bool.false_ne_true))) | (refine hl_done ?_) | gi_step)
          intro v10 w10 hown10 hgr10 _ _
          have hint10 := H9.out.2.2.keeps intE hgr10 (fun gg hg hv => kinds_apart H9.out.1 H9.out.2.2 hv hg)
          have H10 := Lib.hid (And.intro hown10 (And.intro (H9.out.1.grow entE H9.out.2.1 (Nat.le_refl _) hgr10) hint10))
          clear hown10 hgr10 hint10
          go_wp2_with fail
          go_roundg (gk0 - 1)
          case measure => omega
          case rel => exact ⟨j + 1, _, by simp, by omega, H10.out.2.1, H10.out.1, by rw [HX.out.2.2.2.2]; exact ⟨⟨rfl, rfl, H10.out.2.2⟩, trivial⟩⟩
      · subst hf
        rw [← hln] at hcap7 HX ⊢
        clear hNa hNl
        go_wp2_with fail
        rw [← hwa, ← hp]
        have HPP := Lib.hid hp
        clear hwa hp hcr hy hln
        go_loopg [6] ln (fun k p6 wr => ∃ i : Nat, p6 = .int .i64 i ∧ i + k = ln ∧ Ext wa wr ∧ ∀ e ∈ E.take i, eless e x = true)
        case atStart => exact ⟨0, rfl, Nat.zero_add _, Keeps.refl _ _, fun y hy => by simp at hy⟩
        case round =>
          obtain ⟨i, rfl, hi, hE, hall⟩ := hrel
          have hpr := blk_cell ((Ext.same hE (lt_of_heap HX.out.2.1)).trans HX.out.2.1)
          have HA := Lib.hid (And.intro hE hall)
          clear hE hall
          by_cases hil : (i : Int) < ln
          · have hill : i < l.length := by rw [← HLN.out.1]; omega
            have hilE : i < E.length := by rw [← HLN.out.2]; omega
            have hrd := (HX.out.2.2.1.ext entE HA.out.1).reads entE (by rw [← HLN.out.1]; omega)
            have hr0 := hrd.elem entE i 0 hill (by decide)
            have hr1 := hrd.elem entE i 1 hill (by decide)
            obtain ⟨e, hel⟩ : ∃ e, e = E[i] := ⟨_, rfl⟩
            have hat := HX.out.2.2.2.1.at i hill hilE
            rw [← hel] at hat
            have hsv : wr.cell? ⟨g7, i * 3, none⟩ = some (.string e.sv) := by rw [← hat.1]; simpa [entE] using hr0
            have hop : wr.cell? ⟨g7, i * 3 + 1, none⟩ = some (.string e.op) := by rw [← hat.2.1]; simpa [entE] using hr1
            have HY := Lib.hid hel
            clear hrd hr0 hr1 hel hat
            have HTK := Lib.hid (show E.take (i + 1) = E.take i ++ [e] from by rw [HY.out]; exact (List.take_append_getElem hilE).symm)
            have HSP := Lib.hid (show E.take i ++ e :: E.drop (i + 1) = E from by rw [HY.out, List.getElem_cons_drop, List.take_append_drop])
            have HDR := Lib.hid (show E.drop i = e :: E.drop (i + 1) from by rw [HY.out]; exact List.drop_eq_getElem_cons hilE)
            cases ha : Op.bytesLess e.sv.toList x.sv.toList
            · cases hbq : (e.sv.toList == x.sv.toList)
              · have HLS := Lib.hid (show eless e x = false from by unfold eless; rw [ha, ← bless_eq, hbq]; rfl)
                have HNE := Lib.hid (show ¬ (e.sv = x.sv ∧ e.op = x.op) from fun h => by rw [bless_eq, decide_eq_false_iff_not] at hbq; exact hbq h.1)
                go_wp2_with fail
                refine wp_drawE (way [0, 1, 2, 3, 4, 5, 6, 7, 8, 9, 10, 11, 12, 13, 14, 15, 16, 17, 18, 19, 20, 21, 22, 23, 24, 25, 26, 27, 28, 29, 30, 31, 32, 33]) (by kernel_rfl) (by kernel_rfl) (fun w1 hh hd hf hS => ?_)
                have HS1 := Lib.hid (HA.out.1.trans hS)
                simp only [way]
                go_wp2_with (first | (refine' hl_q rfl rfl rfl (fun _ => ?_) ?_; rotate_left; (go_simp <;> (try go_bits) <;> rfl); (try simp only [Act.put, List.setIfInBounds_toArray, List.set_cons_zero, List.set_cons_succ])) | (refine' hl_rS rfl rfl rfl hS ?_ ?_; rotate_left; (intro w9 hS9; (first | have hc9 := Ext.cells hS9 | have hc9 := Keeps.cells hS9); (go_simp <;> rfl)); (try simp only [Act.put, List.setIfInBounds_toArray, List.set_cons_zero, List.set_cons_succ])) | (refine' hl_r rfl rfl rfl ?_ ?_; rotate_left; (rintro w9 (rfl | hS9); (go_simp <;> rfl); (first | have hc9 := Ext.cells hS9 | have hc9 := Keeps.cells hS9 | (try dsimp only at hS9)); (go_simp <;> rfl)); (try simp only [Act.put, List.setIfInBounds_toArray, List.set_cons_zero, List.set_cons_succ])) | (refine' hl_s rfl rfl ?_; (try simp only [Act.put, List.setIfInBounds_toArray, List.set_cons_zero, List.set_cons_succ])) | (refine hl_e rfl rfl rfl (fun K hK => ?_)) | (with_reducible refine And.intro (fun hn => ?_) ?_; (first | exact hS | exact Keeps.alloc hS _ | exact absurd hn (by rw [show needS _ _ = false from by kernel_rfl]; exact Bool.false_ne_true))) | (refine hl_done ?_) | gi_step)
                refine wp_drawE (way [0, 1, 2, 3, 4, 5, 6, 7, 8, 9, 10, 11, 12, 13, 14, 15, 16, 17, 18, 19, 20, 21, 22, 23]) (by kernel_rfl) (by kernel_rfl) (fun w2 hh2 hd2 hf2 hS2 => ?_)
                have HS2 := Lib.hid (HS1.out.trans hS2)
                simp only [way]
                have HTR := Lib.hid (show entIns L x E = E.take i ++ ⟨x.sv, x.op, trOf L x.sv x.op⟩ :: E.drop i from by
                  have h := entIns_mid L x e (E.drop (i + 1)) HLS.out HNE.out (E.take i) HA.out.2
                  rw [HSP.out] at h
                  rw [HDR.out]; exact h)
                have hp2 := blk_cell ((Ext.same HS2.out (lt_of_heap HX.out.2.1)).trans HX.out.2.1)
                have HR2 := Lib.hid (And.intro (HX.out.2.2.1.ext entE HS2.out) (And.intro (HX.out.2.2.2.1.ext HS2.out) (HX.out.1.trans HS2.out)))
                have hiN : i ≤ l.length := by rw [← HLN.out.1]; omega
                have hilk : i ≤ cap7 := by omega
                go_wp2_with (first | (at_builtin; refine Ek.app' entE rfl _ _ rfl w.heap.size (.slice none 0 0) [] (l.take i) rfl (Ek.Own.nil entE _ _) (HR2.out.1.front entE (by rw [← HLN.out.1]; omega) i _ hiN) (by rw [List.length_take, List.length_nil, ← HLN.out.1]; omega) HR2.out.2.2.size ?_) | (refine' hl_q rfl rfl rfl (fun _ => ?_) ?_; rotate_left; (go_simp <;> (try go_bits) <;> rfl); (try simp only [Act.put, List.setIfInBounds_toArray, List.set_cons_zero, List.set_cons_succ])) | (refine' hl_rS rfl rfl rfl hS ?_ ?_; rotate_left; (intro w9 hS9; (first | have hc9 := Ext.cells hS9 | have hc9 := Keeps.cells hS9); (go_simp <;> rfl)); (try simp only [Act.put, List.setIfInBounds_toArray, List.set_cons_zero, List.set_cons_succ])) | (refine' hl_r rfl rfl rfl ?_ ?_; rotate_left; (rintro w9 (rfl | hS9); (go_simp <;> rfl); (first | have hc9 := Ext.cells hS9 | have hc9 := Keeps.cells hS9 | (try dsimp only at hS9)); (go_simp <;> rfl)); (try simp only [Act.put, List.setIfInBounds_toArray, List.set_cons_zero, List.set_cons_succ])) | (refine' hl_s rfl rfl ?_; (try simp only [Act.put, List.setIfInBounds_toArray, List.set_cons_zero, List.set_cons_succ])) | (refine hl_e rfl rfl rfl (fun K hK => ?_)) | (with_reducible refine And.intro (fun hn => ?_) ?_; (first | exact hS | exact Keeps.alloc hS _ | exact absurd hn (by rw [show needS _ _ = false from by kernel_rfl]; exact Bool.false_ne_true))) | (refine hl_done ?_) | gi_step)
                intro v5 w5 hown5 hgr5 _ hblk5
                have hE5 : Ext w2 w5 := hgr5.mono fun _ _ h => by cases h
                have hN5 := (Ext.same (HS2.out.trans hE5) (lt_of_heap HX.out.2.1)).trans HX.out.2.1
                have hp5 := blk_cell hN5
                have H5 := Lib.hid (And.intro hown5 (And.intro (HR2.out.2.2.trans hE5) (And.intro (HR2.out.1.ext entE hE5) (And.intro (HR2.out.2.1.ext hE5) (And.intro hblk5 (And.intro (HR2.out.1.lt entE (g := g7) rfl).2 hN5))))))
                clear hown5 hgr5 hblk5 hE5 hp2 hN5
                go_wp2_with fail
                refine wp_drawE (way [0, 1, 2, 3, 4, 5, 6, 7, 8, 9, 10, 11, 12, 13, 14]) (by kernel_rfl) (by kernel_rfl) (fun w6 hh6 hd6 hf6 hS => ?_)
                have hp6 := blk_cell ((Ext.same hS (lt_of_heap H5.out.2.2.2.2.2.2)).trans H5.out.2.2.2.2.2.2)
                clear hh6 hd6 hf6
                simp only [way]
                go_wp2_with (first | (refine' hl_q rfl rfl rfl (fun _ => ?_) ?_; rotate_left; (go_simp <;> (try go_bits) <;> rfl); (try simp only [Act.put, List.setIfInBounds_toArray, List.set_cons_zero, List.set_cons_succ])) | (refine' hl_rS rfl rfl rfl hS ?_ ?_; rotate_left; (intro w9 hS9; (first | have hc9 := Ext.cells hS9 | have hc9 := Keeps.cells hS9); (go_simp <;> rfl)); (try simp only [Act.put, List.setIfInBounds_toArray, List.set_cons_zero, List.set_cons_succ])) | (refine' hl_r rfl rfl rfl ?_ ?_; rotate_left; (rintro w9 (rfl | hS9); (go_simp <;> rfl); (first | have hc9 := Ext.cells hS9 | have hc9 := Keeps.cells hS9 | (try dsimp only at hS9)); (go_simp <;> rfl)); (try simp only [Act.put, List.setIfInBounds_toArray, List.set_cons_zero, List.set_cons_succ])) | (refine' hl_s rfl rfl ?_; (try simp only [Act.put, List.setIfInBounds_toArray, List.set_cons_zero, List.set_cons_succ])) | (refine hl_e rfl rfl rfl (fun K hK => ?_)) | (with_reducible refine And.intro (fun hn => ?_) ?_; (first | exact hS | exact Keeps.alloc hS _ | exact absurd hn (by rw [show needS _ _ = false from by kernel_rfl]; exact Bool.false_ne_true))) | (refine hl_done ?_) | gi_step)
                refine callsIn_wide.2 ((rtraces_i ty b _ L x.sv x.op _ (HB.out w6 (H5.out.2.1.trans hS)).1 (HB.out w6 (H5.out.2.1.trans hS)).2 HN.out.2).mono ?_)
                rintro e9 w8 ⟨v8, rfl, hown8, hE8⟩
                have hS8 := hS.trans hE8
                have hw6 : w.heap.size ≤ w6.heap.size := (H5.out.2.1.trans hS).size
                clear hS
                have hS := hS8
                clear hS8
                obtain ⟨a8, c8, rfl, _, _⟩ := hown8.slice intE
                have H8 := Lib.hid (And.intro (hown8.mono intE hw6) (And.intro (H5.out.1.ext entE hS) (And.intro (H5.out.2.1.trans hS) (And.intro (H5.out.2.2.1.ext entE hS) (H5.out.2.2.2.1.ext hS)))))
                clear hown8 hE8 hp6 hw6
                go_wp2_with (first | (refine Ek.hl_app entE rfl rfl rfl _ _ rfl w.heap.size v5 (l.take i) [(x.sv, x.op, (a8, (trOf L x.sv x.op).length, c8))] rfl (H8.out.2.1.ext entE ((Keeps.refl _ _).alloc _)) (Ek.reads_new entE _ _ _ _ rfl) (by rw [List.length_take, List.length_singleton, ← HLN.out.1]; omega) (Nat.le_trans H8.out.2.2.1.size ((Keeps.refl Non w8).alloc _).size) ?_) | (refine' hl_q rfl rfl rfl (fun _ => ?_) ?_; rotate_left; (go_simp <;> (try go_bits) <;> rfl); (try simp only [Act.put, List.setIfInBounds_toArray, List.set_cons_zero, List.set_cons_succ])) | (refine' hl_rS rfl rfl rfl hS ?_ ?_; rotate_left; (intro w9 hS9; (first | have hc9 := Ext.cells hS9 | have hc9 := Keeps.cells hS9); (go_simp <;> rfl)); (try simp only [Act.put, List.setIfInBounds_toArray, List.set_cons_zero, List.set_cons_succ])) | (refine' hl_r rfl rfl rfl ?_ ?_; rotate_left; (rintro w9 (rfl | hS9); (go_simp <;> rfl); (first | have hc9 := Ext.cells hS9 | have hc9 := Keeps.cells hS9 | (try dsimp only at hS9)); (go_simp <;> rfl)); (try simp only [Act.put, List.setIfInBounds_toArray, List.set_cons_zero, List.set_cons_succ])) | (refine' hl_s rfl rfl ?_; (try simp only [Act.put, List.setIfInBounds_toArray, List.set_cons_zero, List.set_cons_succ])) | (refine hl_e rfl rfl rfl (fun K hK => ?_)) | (with_reducible refine And.intro (fun hn => ?_) ?_; (first | exact hS | exact Keeps.alloc hS _ | exact absurd hn (by rw [show needS _ _ = false from by kernel_rfl]; exact Bool.false_ne_true))) | (refine hl_done ?_) | gi_step)
                intro v9 w9 hown9 hgr9 _ _
                have hEa9 := (Keeps.refl Non w8).alloc (.cells #[.string x.sv, .string x.op, .slice a8 (trOf L x.sv x.op).length c8] 46)
                have hgr9' : Keeps (fun b => v5.ownBlock = some b) w8 w9 := ⟨Nat.le_trans hEa9.size hgr9.size, fun i hi hf => (hgr9.same i (Nat.lt_of_lt_of_le hi hEa9.size) hf).trans (Ext.same hEa9 hi), (hEa9.ost).trans hgr9.ost⟩
                have hu9 := H8.out.2.2.2.1.keeps entE hgr9' (fun gg hg hv => by
                  simp only [Value.ownBlock, Option.some.injEq] at hg
                  subst hg
                  rcases H5.out.2.2.2.2.1 with h | h
                  · rw [h] at hv; cases hv
                  · rw [hv] at h; injection h with h
                    have := H5.out.2.2.2.2.2.1
                    try rw [hh2] at this
                    try rw [hh] at this
                    omega)
                have hint9 := H8.out.1.keeps intE hgr9' (fun gg hg hv => kinds_apart H8.out.2.1 H8.out.1 hv hg)
                have H9 := Lib.hid (And.intro hown9 (And.intro (H8.out.2.1.grow entE H8.out.2.2.1 (Nat.le_refl _) hgr9') (And.intro hu9 (And.intro (H8.out.2.2.2.2.grow H8.out.2.1 hgr9') hint9))))
                clear hown9 hgr9 hgr9' hu9 hint9 hEa9 hp5 hS
                go_wp2_with (first | (at_builtin; refine Ek.app' entE rfl _ _ rfl w.heap.size v9 (l.take i ++ [(x.sv, x.op, (a8, (trOf L x.sv x.op).length, c8))]) (l.drop i) rfl H9.out.1 (H9.out.2.2.1.suffix entE (by rw [← HLN.out.1]; omega) i _ _ (by rw [← HLN.out.1]; omega) _ (by simp [entE])) (by rw [List.length_append, List.length_take, List.length_drop, List.length_singleton, ← HLN.out.1]; omega) H9.out.2.1.size ?_) | (refine' hl_q rfl rfl rfl (fun _ => ?_) ?_; rotate_left; (go_simp <;> (try go_bits) <;> rfl); (try simp only [Act.put, List.setIfInBounds_toArray, List.set_cons_zero, List.set_cons_succ])) | (refine' hl_rS rfl rfl rfl hS ?_ ?_; rotate_left; (intro w9 hS9; (first | have hc9 := Ext.cells hS9 | have hc9 := Keeps.cells hS9); (go_simp <;> rfl)); (try simp only [Act.put, List.setIfInBounds_toArray, List.set_cons_zero, List.set_cons_succ])) | (refine' hl_r rfl rfl rfl ?_ ?_; rotate_left; (rintro w9 (rfl | hS9); (go_simp <;> rfl); (first | have hc9 := Ext.cells hS9 | have hc9 := Keeps.cells hS9 | (try dsimp only at hS9)); (go_simp <;> rfl)); (try simp only [Act.put, List.setIfInBounds_toArray, List.set_cons_zero, List.set_cons_succ])) | (refine' hl_s rfl rfl ?_; (try simp only [Act.put, List.setIfInBounds_toArray, List.set_cons_zero, List.set_cons_succ])) | (refine hl_e rfl rfl rfl (fun K hK => ?_)) | (with_reducible refine And.intro (fun hn => ?_) ?_; (first | exact hS | exact Keeps.alloc hS _ | exact absurd hn (by rw [show needS _ _ = false from by kernel_rfl]; exact Bool.false_ne_true))) | (refine hl_done ?_) | gi_step)
                intro v10 w10 hown10 hgr10 _ _
                have hents := H9.out.2.2.2.1.grow H9.out.1 hgr10
                have hint10 := H9.out.2.2.2.2.keeps intE hgr10 (fun gg hg hv => kinds_apart H9.out.1 H9.out.2.2.2.2 hv hg)
                have H10 := Lib.hid (And.intro hown10 (And.intro (H9.out.1.grow entE H9.out.2.1 (Nat.le_refl _) hgr10) (show EntsOwn w.heap.size w10 ((l.take i ++ [(x.sv, x.op, (a8, (trOf L x.sv x.op).length, c8))]) ++ l.drop i) ((E.take i ++ [⟨x.sv, x.op, trOf L x.sv x.op⟩]) ++ E.drop i) from (hents.drop i).append ((show EntsOwn w.heap.size w10 [(x.sv, x.op, (a8, (trOf L x.sv x.op).length, c8))] [⟨x.sv, x.op, trOf L x.sv x.op⟩] from ⟨⟨rfl, rfl, hint10⟩, trivial⟩).append (hents.take i)))))
                clear hown10 hgr10 hents hint10
                go_wp2_with fail
                go_roundg (gk0 - 1)
                case measure => omega
                case rel => exact ⟨j + 1, _, by simp, by omega, H10.out.2.1, H10.out.1, by rw [HX.out.2.2.2.2, HTR.out]; have h := H10.out.2.2; simp only [List.append_assoc, List.singleton_append] at h; exact h⟩
              · cases hc : Op.bytesLess e.op.toList x.op.toList
                · have HLS := Lib.hid (show eless e x = false from by unfold eless; rw [ha, hc]; simp)
                  cases hdq : (e.op.toList == x.op.toList)
                  · have HNE := Lib.hid (show ¬ (e.sv = x.sv ∧ e.op = x.op) from fun h => by rw [bless_eq, decide_eq_false_iff_not] at hdq; exact hdq h.2)
                    go_wp2_with fail
                    refine wp_drawE (way [0, 1, 2, 3, 4, 5, 6, 7, 8, 9, 10, 11, 12, 13, 14, 15, 16, 17, 18, 19, 20, 21, 22, 23, 24, 25, 26, 27, 28, 29, 30, 31, 32, 33]) (by kernel_rfl) (by kernel_rfl) (fun w1 hh hd hf hS => ?_)
                    have HS1 := Lib.hid (HA.out.1.trans hS)
                    simp only [way]
                    go_wp2_with (first | (refine' hl_q rfl rfl rfl (fun _ => ?_) ?_; rotate_left; (go_simp <;> (try go_bits) <;> rfl); (try simp only [Act.put, List.setIfInBounds_toArray, List.set_cons_zero, List.set_cons_succ])) | (refine' hl_rS rfl rfl rfl hS ?_ ?_; rotate_left; (intro w9 hS9; (first | have hc9 := Ext.cells hS9 | have hc9 := Keeps.cells hS9); (go_simp <;> rfl)); (try simp only [Act.put, List.setIfInBounds_toArray, List.set_cons_zero, List.set_cons_succ])) | (refine' hl_r rfl rfl rfl ?_ ?_; rotate_left; (rintro w9 (rfl | hS9); (go_simp <;> rfl); (first | have hc9 := Ext.cells hS9 | have hc9 := Keeps.cells hS9 | (try dsimp only at hS9)); (go_simp <;> rfl)); (try simp only [Act.put, List.setIfInBounds_toArray, List.set_cons_zero, List.set_cons_succ])) | (refine' hl_s rfl rfl ?_; (try simp only [Act.put, List.setIfInBounds_toArray, List.set_cons_zero, List.set_cons_succ])) | (refine hl_e rfl rfl rfl (fun K hK => ?_)) | (with_reducible refine And.intro (fun hn => ?_) ?_; (first | exact hS | exact Keeps.alloc hS _ | exact absurd hn (by rw [show needS _ _ = false from by kernel_rfl]; exact Bool.false_ne_true))) | (refine hl_done ?_) | gi_step)
                    refine wp_drawE (way [0, 1, 2, 3, 4, 5, 6, 7, 8, 9, 10, 11, 12, 13, 14, 15, 16, 17, 18, 19, 20, 21, 22, 23]) (by kernel_rfl) (by kernel_rfl) (fun w2 hh2 hd2 hf2 hS2 => ?_)
                    have HS2 := Lib.hid (HS1.out.trans hS2)
                    simp only [way]
                    have HTR := Lib.hid (show entIns L x E = E.take i ++ ⟨x.sv, x.op, trOf L x.sv x.op⟩ :: E.drop i from by
                      have h := entIns_mid L x e (E.drop (i + 1)) HLS.out HNE.out (E.take i) HA.out.2
                      rw [HSP.out] at h
                      rw [HDR.out]; exact h)
                    have hp2 := blk_cell ((Ext.same HS2.out (lt_of_heap HX.out.2.1)).trans HX.out.2.1)
                    have HR2 := Lib.hid (And.intro (HX.out.2.2.1.ext entE HS2.out) (And.intro (HX.out.2.2.2.1.ext HS2.out) (HX.out.1.trans HS2.out)))
                    have hiN : i ≤ l.length := by rw [← HLN.out.1]; omega
                    have hilk : i ≤ cap7 := by omega
                    go_wp2_with (first | (at_builtin; refine Ek.app' entE rfl _ _ rfl w.heap.size (.slice none 0 0) [] (l.take i) rfl (Ek.Own.nil entE _ _) (HR2.out.1.front entE (by rw [← HLN.out.1]; omega) i _ hiN) (by rw [List.length_take, List.length_nil, ← HLN.out.1]; omega) HR2.out.2.2.size ?_) | (refine' hl_q rfl rfl rfl (fun _ => ?_) ?_; rotate_left; (go_simp <;> (try go_bits) <;> rfl); (try simp only [Act.put, List.setIfInBounds_toArray, List.set_cons_zero, List.set_cons_succ])) | (refine' hl_rS rfl rfl rfl hS ?_ ?_; rotate_left; (intro w9 hS9; (first | have hc9 := Ext.cells hS9 | have hc9 := Keeps.cells hS9); (go_simp <;> rfl)); (try simp only [Act.put, List.setIfInBounds_toArray, List.set_cons_zero, List.set_cons_succ])) | (refine' hl_r rfl rfl rfl ?_ ?_; rotate_left; (rintro w9 (rfl | hS9); (go_simp <;> rfl); (first | have hc9 := Ext.cells hS9 | have hc9 := Keeps.cells hS9 | (try dsimp only at hS9)); (go_simp <;> rfl)); (try simp only [Act.put, List.setIfInBounds_toArray, List.set_cons_zero, List.set_cons_succ])) | (refine' hl_s rfl rfl ?_; (try simp only [Act.put, List.setIfInBounds_toArray, List.set_cons_zero, List.set_cons_succ])) | (refine hl_e rfl rfl rfl (fun K hK => ?_)) | (with_reducible refine And.intro (fun hn => ?_) ?_; (first | exact hS | exact Keeps.alloc hS _ | exact absurd hn (by rw [show needS _ _ = false from by kernel_rfl]; exact Bool.false_ne_true))) | (refine hl_done ?_) | gi_step)
                    intro v5 w5 hown5 hgr5 _ hblk5
                    have hE5 : Ext w2 w5 := hgr5.mono fun _ _ h => by cases h
                    have hN5 := (Ext.same (HS2.out.trans hE5) (lt_of_heap HX.out.2.1)).trans HX.out.2.1
                    have hp5 := blk_cell hN5
                    have H5 := Lib.hid (And.intro hown5 (And.intro (HR2.out.2.2.trans hE5) (And.intro (HR2.out.1.ext entE hE5) (And.intro (HR2.out.2.1.ext hE5) (And.intro hblk5 (And.intro (HR2.out.1.lt entE (g := g7) rfl).2 hN5))))))
                    clear hown5 hgr5 hblk5 hE5 hp2 hN5
                    go_wp2_with fail
                    refine wp_drawE (way [0, 1, 2, 3, 4, 5, 6, 7, 8, 9, 10, 11, 12, 13, 14]) (by kernel_rfl) (by kernel_rfl) (fun w6 hh6 hd6 hf6 hS => ?_)
                    have hp6 := blk_cell ((Ext.same hS (lt_of_heap H5.out.2.2.2.2.2.2)).trans H5.out.2.2.2.2.2.2)
                    clear hh6 hd6 hf6
                    simp only [way]
                    go_wp2_with (first | (refine' hl_q rfl rfl rfl (fun _ => ?_) ?_; rotate_left; (go_simp <;> (try go_bits) <;> rfl); (try simp only [Act.put, List.setIfInBounds_toArray, List.set_cons_zero, List.set_cons_succ])) | (refine' hl_rS rfl rfl rfl hS ?_ ?_; rotate_left; (intro w9 hS9; (first | have hc9 := Ext.cells hS9 | have hc9 := Keeps.cells hS9); (go_simp <;> rfl)); (try simp only [Act.put, List.setIfInBounds_toArray, List.set_cons_zero, List.set_cons_succ])) | (refine' hl_r rfl rfl rfl ?_ ?_; rotate_left; (rintro w9 (rfl | hS9); (go_simp <;> rfl); (first | have hc9 := Ext.cells hS9 | have hc9 := Keeps.cells hS9 | (try dsimp only at hS9)); (go_simp <;> rfl)); (try simp only [Act.put, List.setIfInBounds_toArray, List.set_cons_zero, List.set_cons_succ])) | (refine' hl_s rfl rfl ?_; (try simp only [Act.put, List.setIfInBounds_toArray, List.set_cons_zero, List.set_cons_succ])) | (refine hl_e rfl rfl rfl (fun K hK => ?_)) | (with_reducible refine And.intro (fun hn => ?_) ?_; (first | exact hS | exact Keeps.alloc hS _ | exact absurd hn (by rw [show needS _ _ = false from by kernel_rfl]; exact Bool.false_ne_true))) | (refine hl_done ?_) | gi_step)
                    refine callsIn_wide.2 ((rtraces_i ty b _ L x.sv x.op _ (HB.out w6 (H5.out.2.1.trans hS)).1 (HB.out w6 (H5.out.2.1.trans hS)).2 HN.out.2).mono ?_)
                    rintro e9 w8 ⟨v8, rfl, hown8, hE8⟩
                    have hS8 := hS.trans hE8
                    have hw6 : w.heap.size ≤ w6.heap.size := (H5.out.2.1.trans hS).size
                    clear hS
                    have hS := hS8
                    clear hS8
                    obtain ⟨a8, c8, rfl, _, _⟩ := hown8.slice intE
                    have H8 := Lib.hid (And.intro (hown8.mono intE hw6) (And.intro (H5.out.1.ext entE hS) (And.intro (H5.out.2.1.trans hS) (And.intro (H5.out.2.2.1.ext entE hS) (H5.out.2.2.2.1.ext hS)))))
                    clear hown8 hE8 hp6 hw6
                    go_wp2_with (first | (refine Ek.hl_app entE rfl rfl rfl _ _ rfl w.heap.size v5 (l.take i) [(x.sv, x.op, (a8, (trOf L x.sv x.op).length, c8))] rfl (H8.out.2.1.ext entE ((Keeps.refl _ _).alloc _)) (Ek.reads_new entE _ _ _ _ rfl) (by rw [List.length_take, List.length_singleton, ← HLN.out.1]; omega) (Nat.le_trans H8.out.2.2.1.size ((Keeps.refl Non w8).alloc _).size) ?_) | (refine' hl_q rfl rfl rfl (fun _ => ?_) ?_; rotate_left; (go_simp <;> (try go_bits) <;> rfl); (try simp only [Act.put, List.setIfInBounds_toArray, List.set_cons_zero, List.set_cons_succ])) | (refine' hl_rS rfl rfl rfl hS ?_ ?_; rotate_left; (intro w9 hS9; (first | have hc9 := Ext.cells hS9 | have hc9 := Keeps.cells hS9); (go_simp <;> rfl)); (try simp only [Act.put, List.setIfInBounds_toArray, List.set_cons_zero, List.set_cons_succ])) | (refine' hl_r rfl rfl rfl ?_ ?_; rotate_left; (rintro w9 (rfl | hS9); (go_simp <;> rfl); (first | have hc9 := Ext.cells hS9 | have hc9 := Keeps.cells hS9 | (try dsimp only at hS9)); (go_simp <;> rfl)); (try simp only [Act.put, List.setIfInBounds_toArray, List.set_cons_zero, List.set_cons_succ])) | (refine' hl_s rfl rfl ?_; (try simp only [Act.put, List.setIfInBounds_toArray, List.set_cons_zero, List.set_cons_succ])) | (refine hl_e rfl rfl rfl (fun K hK => ?_)) | (with_reducible refine And.intro (fun hn => ?_) ?_; (first | exact hS | exact Keeps.alloc hS _ | exact absurd hn (by rw [show needS _ _ = false from by kernel_rfl]; exact Bool.false_ne_true))) | (refine hl_done ?_) | gi_step)
                    intro v9 w9 hown9 hgr9 _ _
                    have hEa9 := (Keeps.refl Non w8).alloc (.cells #[.string x.sv, .string x.op, .slice a8 (trOf L x.sv x.op).length c8] 46)
                    have hgr9' : Keeps (fun b => v5.ownBlock = some b) w8 w9 := ⟨Nat.le_trans hEa9.size hgr9.size, fun i hi hf => (hgr9.same i (Nat.lt_of_lt_of_le hi hEa9.size) hf).trans (Ext.same hEa9 hi), (hEa9.ost).trans hgr9.ost⟩
                    have hu9 := H8.out.2.2.2.1.keeps entE hgr9' (fun gg hg hv => by
                      simp only [Value.ownBlock, Option.some.injEq] at hg
                      subst hg
                      rcases H5.out.2.2.2.2.1 with h | h
                      · rw [h] at hv; cases hv
                      · rw [hv] at h; injection h with h
                        have := H5.out.2.2.2.2.2.1
                        try rw [hh2] at this
                        try rw [hh] at this
                        omega)
                    have hint9 := H8.out.1.keeps intE hgr9' (fun gg hg hv => kinds_apart H8.out.2.1 H8.out.1 hv hg)
                    have H9 := Lib.hid (And.intro hown9 (And.intro (H8.out.2.1.grow entE H8.out.2.2.1 (Nat.le_refl _) hgr9') (And.intro hu9 (And.intro (H8.out.2.2.2.2.grow H8.out.2.1 hgr9') hint9))))
                    clear hown9 hgr9 hgr9' hu9 hint9 hEa9 hp5 hS
                    go_wp2_with (first | (at_builtin; refine Ek.app' entE rfl _ _ rfl w.heap.size v9 (l.take i ++ [(x.sv, x.op, (a8, (trOf L x.sv x.op).length, c8))]) (l.drop i) rfl H9.out.1 (H9.out.2.2.1.suffix entE (by rw [← HLN.out.1]; omega) i _ _ (by rw [← HLN.out.1]; omega) _ (by simp [entE])) (by rw [List.length_append, List.length_take, List.length_drop, List.length_singleton, ← HLN.out.1]; omega) H9.out.2.1.size ?_) | (refine' hl_q rfl rfl rfl (fun _ => ?_) ?_; rotate_left; (go_simp <;> (try go_bits) <;> rfl); (try simp only [Act.put, List.setIfInBounds_toArray, List.set_cons_zero, List.set_cons_succ])) | (refine' hl_rS rfl rfl rfl hS ?_ ?_; rotate_left; (intro w9 hS9; (first | have hc9 := Ext.cells hS9 | have hc9 := Keeps.cells hS9); (go_simp <;> rfl)); (try simp only [Act.put, List.setIfInBounds_toArray, List.set_cons_zero, List.set_cons_succ])) | (refine' hl_r rfl rfl rfl ?_ ?_; rotate_left; (rintro w9 (rfl | hS9); (go_simp <;> rfl); (first | have hc9 := Ext.cells hS9 | have hc9 := Keeps.cells hS9 | (try dsimp only at hS9)); (go_simp <;> rfl)); (try simp only [Act.put, List.setIfInBounds_toArray, List.set_cons_zero, List.set_cons_succ])) | (refine' hl_s rfl rfl ?_; (try simp only [Act.put, List.setIfInBounds_toArray, List.set_cons_zero, List.set_cons_succ])) | (refine hl_e rfl rfl rfl (fun K hK => ?_)) | (with_reducible refine And.intro (fun hn => ?_) ?_; (first | exact hS | exact Keeps.alloc hS _ | exact absurd hn (by rw [show needS _ _ = false from by kernel_rfl]; exact Bool.false_ne_true))) | (refine hl_done ?_) | gi_step)
                    intro v10 w10 hown10 hgr10 _ _
                    have hents := H9.out.2.2.2.1.grow H9.out.1 hgr10
                    have hint10 := H9.out.2.2.2.2.keeps intE hgr10 (fun gg hg hv => kinds_apart H9.out.1 H9.out.2.2.2.2 hv hg)
                    have H10 := Lib.hid (And.intro hown10 (And.intro (H9.out.1.grow entE H9.out.2.1 (Nat.le_refl _) hgr10) (show EntsOwn w.heap.size w10 ((l.take i ++ [(x.sv, x.op, (a8, (trOf L x.sv x.op).length, c8))]) ++ l.drop i) ((E.take i ++ [⟨x.sv, x.op, trOf L x.sv x.op⟩]) ++ E.drop i) from (hents.drop i).append ((show EntsOwn w.heap.size w10 [(x.sv, x.op, (a8, (trOf L x.sv x.op).length, c8))] [⟨x.sv, x.op, trOf L x.sv x.op⟩] from ⟨⟨rfl, rfl, hint10⟩, trivial⟩).append (hents.take i)))))
                    clear hown10 hgr10 hents hint10
                    go_wp2_with fail
                    go_roundg (gk0 - 1)
                    case measure => omega
                    case rel => exact ⟨j + 1, _, by simp, by omega, H10.out.2.1, H10.out.1, by rw [HX.out.2.2.2.2, HTR.out]; have h := H10.out.2.2; simp only [List.append_assoc, List.singleton_append] at h; exact h⟩
                  · have HTR := Lib.hid (show entIns L x E = E from by
                      have h := entIns_same L x e (E.drop (i + 1)) HLS.out ⟨by rw [bless_eq, decide_eq_true_iff] at hbq; exact hbq, by rw [bless_eq, decide_eq_true_iff] at hdq; exact hdq⟩ (E.take i) HA.out.2
                      rw [HSP.out] at h; exact h)
                    go_wp2_with fail
                    refine wp_drawE (way [0, 1, 2, 3, 4, 5, 6, 7, 8, 9, 10, 11, 12, 13, 14, 15, 16, 17, 18, 19, 20, 21, 22, 23, 24, 25, 26, 27, 28, 29, 30, 31, 32, 33]) (by kernel_rfl) (by kernel_rfl) (fun w1 hh hd hf hS => ?_)
                    have HS1 := Lib.hid (HA.out.1.trans hS)
                    simp only [way]
                    go_wp2_with (first | (refine' hl_q rfl rfl rfl (fun _ => ?_) ?_; rotate_left; (go_simp <;> (try go_bits) <;> rfl); (try simp only [Act.put, List.setIfInBounds_toArray, List.set_cons_zero, List.set_cons_succ])) | (refine' hl_rS rfl rfl rfl hS ?_ ?_; rotate_left; (intro w9 hS9; (first | have hc9 := Ext.cells hS9 | have hc9 := Keeps.cells hS9); (go_simp <;> rfl)); (try simp only [Act.put, List.setIfInBounds_toArray, List.set_cons_zero, List.set_cons_succ])) | (refine' hl_r rfl rfl rfl ?_ ?_; rotate_left; (rintro w9 (rfl | hS9); (go_simp <;> rfl); (first | have hc9 := Ext.cells hS9 | have hc9 := Keeps.cells hS9 | (try dsimp only at hS9)); (go_simp <;> rfl)); (try simp only [Act.put, List.setIfInBounds_toArray, List.set_cons_zero, List.set_cons_succ])) | (refine' hl_s rfl rfl ?_; (try simp only [Act.put, List.setIfInBounds_toArray, List.set_cons_zero, List.set_cons_succ])) | (refine hl_e rfl rfl rfl (fun K hK => ?_)) | (with_reducible refine And.intro (fun hn => ?_) ?_; (first | exact hS | exact Keeps.alloc hS _ | exact absurd hn (by rw [show needS _ _ = false from by kernel_rfl]; exact Bool.false_ne_true))) | (refine hl_done ?_) | gi_step)
                    refine wp_drawE (way [0, 1, 2, 3, 4, 5, 6, 7, 8, 9, 10, 11, 12, 13, 14, 15, 16, 17, 18, 19, 20, 21, 22, 23]) (by kernel_rfl) (by kernel_rfl) (fun w2 hh2 hd2 hf2 hS2 => ?_)
                    have HS2 := Lib.hid (HS1.out.trans hS2)
                    simp only [way]
                    go_wp2_with (first | (refine' hl_q rfl rfl rfl (fun _ => ?_) ?_; rotate_left; (go_simp <;> (try go_bits) <;> rfl); (try simp only [Act.put, List.setIfInBounds_toArray, List.set_cons_zero, List.set_cons_succ])) | (refine' hl_rS rfl rfl rfl hS ?_ ?_; rotate_left; (intro w9 hS9; (first | have hc9 := Ext.cells hS9 | have hc9 := Keeps.cells hS9); (go_simp <;> rfl)); (try simp only [Act.put, List.setIfInBounds_toArray, List.set_cons_zero, List.set_cons_succ])) | (refine' hl_r rfl rfl rfl ?_ ?_; rotate_left; (rintro w9 (rfl | hS9); (go_simp <;> rfl); (first | have hc9 := Ext.cells hS9 | have hc9 := Keeps.cells hS9 | (try dsimp only at hS9)); (go_simp <;> rfl)); (try simp only [Act.put, List.setIfInBounds_toArray, List.set_cons_zero, List.set_cons_succ])) | (refine' hl_s rfl rfl ?_; (try simp only [Act.put, List.setIfInBounds_toArray, List.set_cons_zero, List.set_cons_succ])) | (refine hl_e rfl rfl rfl (fun K hK => ?_)) | (with_reducible refine And.intro (fun hn => ?_) ?_; (first | exact hS | exact Keeps.alloc hS _ | exact absurd hn (by rw [show needS _ _ = false from by kernel_rfl]; exact Bool.false_ne_true))) | (refine hl_done ?_) | gi_step)
                    go_roundg (gk0 - 1)
                    case measure => omega
                    case rel => exact ⟨j + 1, l, by simp, by omega, HX.out.1.trans HS2.out, HX.out.2.2.1.ext entE HS2.out, by rw [HX.out.2.2.2.2, HTR.out]; exact HX.out.2.2.2.1.ext HS2.out⟩
                · have HLS := Lib.hid (show eless e x = true from by unfold eless; rw [ha, hc, ← bless_eq, hbq]; rfl)
                  go_wp2_with fail
                  refine wp_drawE (way [0, 1, 2, 3, 4, 5, 6, 7, 8, 9, 10, 11, 12, 13, 14, 15, 16, 17, 18, 19, 20, 21, 22, 23, 24, 25, 26, 27, 28, 29, 30, 31, 32, 33]) (by kernel_rfl) (by kernel_rfl) (fun w1 hh hd hf hS => ?_)
                  have HS1 := Lib.hid (HA.out.1.trans hS)
                  simp only [way]
                  go_wp2_with (first | (refine' hl_q rfl rfl rfl (fun _ => ?_) ?_; rotate_left; (go_simp <;> (try go_bits) <;> rfl); (try simp only [Act.put, List.setIfInBounds_toArray, List.set_cons_zero, List.set_cons_succ])) | (refine' hl_rS rfl rfl rfl hS ?_ ?_; rotate_left; (intro w9 hS9; (first | have hc9 := Ext.cells hS9 | have hc9 := Keeps.cells hS9); (go_simp <;> rfl)); (try simp only [Act.put, List.setIfInBounds_toArray, List.set_cons_zero, List.set_cons_succ])) | (refine' hl_r rfl rfl rfl ?_ ?_; rotate_left; (rintro w9 (rfl | hS9); (go_simp <;> rfl); (first | have hc9 := Ext.cells hS9 | have hc9 := Keeps.cells hS9 | (try dsimp only at hS9)); (go_simp <;> rfl)); (try simp only [Act.put, List.setIfInBounds_toArray, List.set_cons_zero, List.set_cons_succ])) | (refine' hl_s rfl rfl ?_; (try simp only [Act.put, List.setIfInBounds_toArray, List.set_cons_zero, List.set_cons_succ])) | (refine hl_e rfl rfl rfl (fun K hK => ?_)) | (with_reducible refine And.intro (fun hn => ?_) ?_; (first | exact hS | exact Keeps.alloc hS _ | exact absurd hn (by rw [show needS _ _ = false from by kernel_rfl]; exact Bool.false_ne_true))) | (refine hl_done ?_) | gi_step)
                  go_roundg (gk - 1)
                  case measure => omega
                  case rel => exact ⟨i + 1, by simp, by omega, HS1.out, fun z hz => by
                    rw [HTK.out, List.mem_append, List.mem_singleton] at hz
                    rcases hz with hz | rfl
                    · exact HA.out.2 z hz
                    · exact HLS.out⟩
            · have HLS := Lib.hid (show eless e x = true from by unfold eless; rw [ha]; rfl)
              go_wp2_with fail
              refine wp_drawE (way [0, 1, 2, 3, 4, 5, 6, 7, 8, 9, 10, 11, 12, 13, 14, 15, 16, 17, 18, 19, 20, 21, 22, 23, 24, 25, 26, 27, 28, 29, 30, 31, 32, 33]) (by kernel_rfl) (by kernel_rfl) (fun w1 hh hd hf hS => ?_)
              have HS1 := Lib.hid (HA.out.1.trans hS)
              simp only [way]
              go_wp2_with (first | (refine' hl_q rfl rfl rfl (fun _ => ?_) ?_; rotate_left; (go_simp <;> (try go_bits) <;> rfl); (try simp only [Act.put, List.setIfInBounds_toArray, List.set_cons_zero, List.set_cons_succ])) | (refine' hl_rS rfl rfl rfl hS ?_ ?_; rotate_left; (intro w9 hS9; (first | have hc9 := Ext.cells hS9 | have hc9 := Keeps.cells hS9); (go_simp <;> rfl)); (try simp only [Act.put, List.setIfInBounds_toArray, List.set_cons_zero, List.set_cons_succ])) | (refine' hl_r rfl rfl rfl ?_ ?_; rotate_left; (rintro w9 (rfl | hS9); (go_simp <;> rfl); (first | have hc9 := Ext.cells hS9 | have hc9 := Keeps.cells hS9 | (try dsimp only at hS9)); (go_simp <;> rfl)); (try simp only [Act.put, List.setIfInBounds_toArray, List.set_cons_zero, List.set_cons_succ])) | (refine' hl_s rfl rfl ?_; (try simp only [Act.put, List.setIfInBounds_toArray, List.set_cons_zero, List.set_cons_succ])) | (refine hl_e rfl rfl rfl (fun K hK => ?_)) | (with_reducible refine And.intro (fun hn => ?_) ?_; (first | exact hS | exact Keeps.alloc hS _ | exact absurd hn (by rw [show needS _ _ = false from by kernel_rfl]; exact Bool.false_ne_true))) | (refine hl_done ?_) | gi_step)
              go_roundg (gk - 1)
              case measure => omega
              case rel => exact ⟨i + 1, by simp, by omega, HS1.out, fun z hz => by
                rw [HTK.out, List.mem_append, List.mem_singleton] at hz
                rcases hz with hz | rfl
                · exact HA.out.2 z hz
                · exact HLS.out⟩
          · have hie : i = E.length := by rw [← HLN.out.2]; omega
            have HTR := Lib.hid (show entIns L x E = E.take i ++ ⟨x.sv, x.op, trOf L x.sv x.op⟩ :: E.drop i from by
              have h := HA.out.2
              rw [hie, List.take_length] at h
              rw [hie, List.take_length, List.drop_length]
              exact entIns_end L x E h)
            have hfl : ((i : Int) < ln) = False := eq_false hil
            have hil2 : i ≤ ln := by omega
            have HIL := Lib.hid (show ln ≤ i from by omega)
            clear hie hil
            go_wp2_with fail
            refine wp_drawE (way [0, 1, 2, 3, 4, 5, 6, 7, 8, 9, 10, 11, 12, 13, 14, 15, 16, 17, 18, 19, 20, 21, 22, 23, 24, 25, 26, 27, 28, 29, 30, 31, 32, 33]) (by kernel_rfl) (by kernel_rfl) (fun w1 hh hd hf hS => ?_)
            have HS1 := Lib.hid (HA.out.1.trans hS)
            simp only [way]
            go_wp2_with (first | (refine' hl_q rfl rfl rfl (fun _ => ?_) ?_; rotate_left; (go_simp <;> (try go_bits) <;> rfl); (try simp only [Act.put, List.setIfInBounds_toArray, List.set_cons_zero, List.set_cons_succ])) | (refine' hl_rS rfl rfl rfl hS ?_ ?_; rotate_left; (intro w9 hS9; (first | have hc9 := Ext.cells hS9 | have hc9 := Keeps.cells hS9); (go_simp <;> rfl)); (try simp only [Act.put, List.setIfInBounds_toArray, List.set_cons_zero, List.set_cons_succ])) | (refine' hl_r rfl rfl rfl ?_ ?_; rotate_left; (rintro w9 (rfl | hS9); (go_simp <;> rfl); (first | have hc9 := Ext.cells hS9 | have hc9 := Keeps.cells hS9 | (try dsimp only at hS9)); (go_simp <;> rfl)); (try simp only [Act.put, List.setIfInBounds_toArray, List.set_cons_zero, List.set_cons_succ])) | (refine' hl_s rfl rfl ?_; (try simp only [Act.put, List.setIfInBounds_toArray, List.set_cons_zero, List.set_cons_succ])) | (refine hl_e rfl rfl rfl (fun K hK => ?_)) | (with_reducible refine And.intro (fun hn => ?_) ?_; (first | exact hS | exact Keeps.alloc hS _ | exact absurd hn (by rw [show needS _ _ = false from by kernel_rfl]; exact Bool.false_ne_true))) | (refine hl_done ?_) | gi_step)
            refine wp_drawE (way [0, 1, 2, 3, 4, 5, 6, 7, 8, 9, 10, 11, 12, 13, 14, 15, 16, 17, 18, 19, 20, 21, 22, 23]) (by kernel_rfl) (by kernel_rfl) (fun w2 hh2 hd2 hf2 hS2 => ?_)
            have HS2 := Lib.hid (HS1.out.trans hS2)
            simp only [way]
            have hp2 := blk_cell ((Ext.same HS2.out (lt_of_heap HX.out.2.1)).trans HX.out.2.1)
            have HR2 := Lib.hid (And.intro (HX.out.2.2.1.ext entE HS2.out) (And.intro (HX.out.2.2.2.1.ext HS2.out) (HX.out.1.trans HS2.out)))
            have hiN : i ≤ l.length := by rw [← HLN.out.1]; omega
            have hilk : i ≤ cap7 := by omega
            go_wp2_with (first | (at_builtin; refine Ek.app' entE rfl _ _ rfl w.heap.size (.slice none 0 0) [] (l.take i) rfl (Ek.Own.nil entE _ _) (HR2.out.1.front entE (by rw [← HLN.out.1]; omega) i _ hiN) (by rw [List.length_take, List.length_nil, ← HLN.out.1]; omega) HR2.out.2.2.size ?_) | (refine' hl_q rfl rfl rfl (fun _ => ?_) ?_; rotate_left; (go_simp <;> (try go_bits) <;> rfl); (try simp only [Act.put, List.setIfInBounds_toArray, List.set_cons_zero, List.set_cons_succ])) | (refine' hl_rS rfl rfl rfl hS ?_ ?_; rotate_left; (intro w9 hS9; (first | have hc9 := Ext.cells hS9 | have hc9 := Keeps.cells hS9); (go_simp <;> rfl)); (try simp only [Act.put, List.setIfInBounds_toArray, List.set_cons_zero, List.set_cons_succ])) | (refine' hl_r rfl rfl rfl ?_ ?_; rotate_left; (rintro w9 (rfl | hS9); (go_simp <;> rfl); (first | have hc9 := Ext.cells hS9 | have hc9 := Keeps.cells hS9 | (try dsimp only at hS9)); (go_simp <;> rfl)); (try simp only [Act.put, List.setIfInBounds_toArray, List.set_cons_zero, List.set_cons_succ])) | (refine' hl_s rfl rfl ?_; (try simp only [Act.put, List.setIfInBounds_toArray, List.set_cons_zero, List.set_cons_succ])) | (refine hl_e rfl rfl rfl (fun K hK => ?_)) | (with_reducible refine And.intro (fun hn => ?_) ?_; (first | exact hS | exact Keeps.alloc hS _ | exact absurd hn (by rw [show needS _ _ = false from by kernel_rfl]; exact Bool.false_ne_true))) | (refine hl_done ?_) | gi_step)
            intro v5 w5 hown5 hgr5 _ hblk5
            have hE5 : Ext w2 w5 := hgr5.mono fun _ _ h => by cases h
            have hN5 := (Ext.same (HS2.out.trans hE5) (lt_of_heap HX.out.2.1)).trans HX.out.2.1
            have hp5 := blk_cell hN5
            have H5 := Lib.hid (And.intro hown5 (And.intro (HR2.out.2.2.trans hE5) (And.intro (HR2.out.1.ext entE hE5) (And.intro (HR2.out.2.1.ext hE5) (And.intro hblk5 (And.intro (HR2.out.1.lt entE (g := g7) rfl).2 hN5))))))
            clear hown5 hgr5 hblk5 hE5 hp2 hN5
            go_wp2_with fail
            refine wp_drawE (way [0, 1, 2, 3, 4, 5, 6, 7, 8, 9, 10, 11, 12, 13, 14]) (by kernel_rfl) (by kernel_rfl) (fun w6 hh6 hd6 hf6 hS => ?_)
            have hp6 := blk_cell ((Ext.same hS (lt_of_heap H5.out.2.2.2.2.2.2)).trans H5.out.2.2.2.2.2.2)
            clear hh6 hd6 hf6
            simp only [way]
            go_wp2_with (first | (refine' hl_q rfl rfl rfl (fun _ => ?_) ?_; rotate_left; (go_simp <;> (try go_bits) <;> rfl); (try simp only [Act.put, List.setIfInBounds_toArray, List.set_cons_zero, List.set_cons_succ])) | (refine' hl_rS rfl rfl rfl hS ?_ ?_; rotate_left; (intro w9 hS9; (first | have hc9 := Ext.cells hS9 | have hc9 := Keeps.cells hS9); (go_simp <;> rfl)); (try simp only [Act.put, List.setIfInBounds_toArray, List.set_cons_zero, List.set_cons_succ])) | (refine' hl_r rfl rfl rfl ?_ ?_; rotate_left; (rintro w9 (rfl | hS9); (go_simp <;> rfl); (first | have hc9 := Ext.cells hS9 | have hc9 := Keeps.cells hS9 | (try dsimp only at hS9)); (go_simp <;> rfl)); (try simp only [Act.put, List.setIfInBounds_toArray, List.set_cons_zero, List.set_cons_succ])) | (refine' hl_s rfl rfl ?_; (try simp only [Act.put, List.setIfInBounds_toArray, List.set_cons_zero, List.set_cons_succ])) | (refine hl_e rfl rfl rfl (fun K hK => ?_)) | (with_reducible refine And.intro (fun hn => ?_) ?_; (first | exact hS | exact Keeps.alloc hS _ | exact absurd hn (by rw [show needS _ _ = false from by kernel_rfl]; exact Bool.false_ne_true))) | (refine hl_done ?_) | gi_step)
            refine callsIn_wide.2 ((rtraces_i ty b _ L x.sv x.op _ (HB.out w6 (H5.out.2.1.trans hS)).1 (HB.out w6 (H5.out.2.1.trans hS)).2 HN.out.2).mono ?_)
            rintro e9 w8 ⟨v8, rfl, hown8, hE8⟩
            have hS8 := hS.trans hE8
            have hw6 : w.heap.size ≤ w6.heap.size := (H5.out.2.1.trans hS).size
            clear hS
            have hS := hS8
            clear hS8
            obtain ⟨a8, c8, rfl, _, _⟩ := hown8.slice intE
            have H8 := Lib.hid (And.intro (hown8.mono intE hw6) (And.intro (H5.out.1.ext entE hS) (And.intro (H5.out.2.1.trans hS) (And.intro (H5.out.2.2.1.ext entE hS) (H5.out.2.2.2.1.ext hS)))))
            clear hown8 hE8 hp6 hw6
            go_wp2_with (first | (refine Ek.hl_app entE rfl rfl rfl _ _ rfl w.heap.size v5 (l.take i) [(x.sv, x.op, (a8, (trOf L x.sv x.op).length, c8))] rfl (H8.out.2.1.ext entE ((Keeps.refl _ _).alloc _)) (Ek.reads_new entE _ _ _ _ rfl) (by rw [List.length_take, List.length_singleton, ← HLN.out.1]; omega) (Nat.le_trans H8.out.2.2.1.size ((Keeps.refl Non w8).alloc _).size) ?_) | (refine' hl_q rfl rfl rfl (fun _ => ?_) ?_; rotate_left; (go_simp <;> (try go_bits) <;> rfl); (try simp only [Act.put, List.setIfInBounds_toArray, List.set_cons_zero, List.set_cons_succ])) | (refine' hl_rS rfl rfl rfl hS ?_ ?_; rotate_left; (intro w9 hS9; (first | have hc9 := Ext.cells hS9 | have hc9 := Keeps.cells hS9); (go_simp <;> rfl)); (try simp only [Act.put, List.setIfInBounds_toArray, List.set_cons_zero, List.set_cons_succ])) | (refine' hl_r rfl rfl rfl ?_ ?_; rotate_left; (rintro w9 (rfl | hS9); (go_simp <;> rfl); (first | have hc9 := Ext.cells hS9 | have hc9 := Keeps.cells hS9 | (try dsimp only at hS9)); (go_simp <;> rfl)); (try simp only [Act.put, List.setIfInBounds_toArray, List.set_cons_zero, List.set_cons_succ])) | (refine' hl_s rfl rfl ?_; (try simp only [Act.put, List.setIfInBounds_toArray, List.set_cons_zero, List.set_cons_succ])) | (refine hl_e rfl rfl rfl (fun K hK => ?_)) | (with_reducible refine And.intro (fun hn => ?_) ?_; (first | exact hS | exact Keeps.alloc hS _ | exact absurd hn (by rw [show needS _ _ = false from by kernel_rfl]; exact Bool.false_ne_true))) | (refine hl_done ?_) | gi_step)
            intro v9 w9 hown9 hgr9 _ _
            have hEa9 := (Keeps.refl Non w8).alloc (.cells #[.string x.sv, .string x.op, .slice a8 (trOf L x.sv x.op).length c8] 46)
            have hgr9' : Keeps (fun b => v5.ownBlock = some b) w8 w9 := ⟨Nat.le_trans hEa9.size hgr9.size, fun i hi hf => (hgr9.same i (Nat.lt_of_lt_of_le hi hEa9.size) hf).trans (Ext.same hEa9 hi), (hEa9.ost).trans hgr9.ost⟩
            have hu9 := H8.out.2.2.2.1.keeps entE hgr9' (fun gg hg hv => by
              simp only [Value.ownBlock, Option.some.injEq] at hg
              subst hg
              rcases H5.out.2.2.2.2.1 with h | h
              · rw [h] at hv; cases hv
              · rw [hv] at h; injection h with h
                have := H5.out.2.2.2.2.2.1
                try rw [hh2] at this
                try rw [hh] at this
                omega)
            have hint9 := H8.out.1.keeps intE hgr9' (fun gg hg hv => kinds_apart H8.out.2.1 H8.out.1 hv hg)
            have H9 := Lib.hid (And.intro hown9 (And.intro (H8.out.2.1.grow entE H8.out.2.2.1 (Nat.le_refl _) hgr9') (And.intro hu9 (And.intro (H8.out.2.2.2.2.grow H8.out.2.1 hgr9') hint9))))
            clear hown9 hgr9 hgr9' hu9 hint9 hEa9 hp5 hS
            have hdr : l.drop i = [] := List.drop_of_length_le (by rw [← HLN.out.1]; exact HIL.out)
            have hlk : ln - i = 0 := by have := HIL.out; omega
            have HDR := Lib.hid (And.intro hdr hlk)
            clear hdr hlk
            rcases Decidable.em (cap7 = i) with hcap | hcap
            all_goals
              go_wp2_with (first | (at_builtin; refine Ek.app' entE rfl _ _ rfl w.heap.size v9 (l.take i ++ [(x.sv, x.op, (a8, (trOf L x.sv x.op).length, c8))]) (l.drop i) rfl H9.out.1 (Ek.Reads.rest entE _ HDR.out.2 HDR.out.1) (by rw [List.length_append, List.length_take, List.length_drop, List.length_singleton, ← HLN.out.1]; omega) H9.out.2.1.size ?_) | (refine' hl_q rfl rfl rfl (fun _ => ?_) ?_; rotate_left; (go_simp <;> (try go_bits) <;> rfl); (try simp only [Act.put, List.setIfInBounds_toArray, List.set_cons_zero, List.set_cons_succ])) | (refine' hl_rS rfl rfl rfl hS ?_ ?_; rotate_left; (intro w9 hS9; (first | have hc9 := Ext.cells hS9 | have hc9 := Keeps.cells hS9); (go_simp <;> rfl)); (try simp only [Act.put, List.setIfInBounds_toArray, List.set_cons_zero, List.set_cons_succ])) | (refine' hl_r rfl rfl rfl ?_ ?_; rotate_left; (rintro w9 (rfl | hS9); (go_simp <;> rfl); (first | have hc9 := Ext.cells hS9 | have hc9 := Keeps.cells hS9 | (try dsimp only at hS9)); (go_simp <;> rfl)); (try simp only [Act.put, List.setIfInBounds_toArray, List.set_cons_zero, List.set_cons_succ])) | (refine' hl_s rfl rfl ?_; (try simp only [Act.put, List.setIfInBounds_toArray, List.set_cons_zero, List.set_cons_succ])) | (refine hl_e rfl rfl rfl (fun K hK => ?_)) | (with_reducible refine And.intro (fun hn => ?_) ?_; (first | exact hS | exact Keeps.alloc hS _ | exact absurd hn (by rw [show needS _ _ = false from by kernel_rfl]; exact Bool.false_ne_true))) | (refine hl_done ?_) | gi_step)
              intro v10 w10 hown10 hgr10 _ _
              have hents := H9.out.2.2.2.1.grow H9.out.1 hgr10
              have hint10 := H9.out.2.2.2.2.keeps intE hgr10 (fun gg hg hv => kinds_apart H9.out.1 H9.out.2.2.2.2 hv hg)
              have H10 := Lib.hid (And.intro hown10 (And.intro (H9.out.1.grow entE H9.out.2.1 (Nat.le_refl _) hgr10) (show EntsOwn w.heap.size w10 ((l.take i ++ [(x.sv, x.op, (a8, (trOf L x.sv x.op).length, c8))]) ++ l.drop i) ((E.take i ++ [⟨x.sv, x.op, trOf L x.sv x.op⟩]) ++ E.drop i) from (hents.drop i).append ((show EntsOwn w.heap.size w10 [(x.sv, x.op, (a8, (trOf L x.sv x.op).length, c8))] [⟨x.sv, x.op, trOf L x.sv x.op⟩] from ⟨⟨rfl, rfl, hint10⟩, trivial⟩).append (hents.take i)))))
              clear hown10 hgr10 hents hint10
              go_wp2_with fail
              go_roundg (gk0 - 1)
              case measure => omega
              case rel => exact ⟨j + 1, _, by simp, by omega, H10.out.2.1, H10.out.1, by rw [HX.out.2.2.2.2, HTR.out]; have h := H10.out.2.2; simp only [List.append_assoc, List.singleton_append] at h; exact h⟩
    · have hje : j = L.length := by rw [← HN.out.1]; omega
      have HF := Lib.hid (show AllPost (refAll L) w (.returned u3) wr from ⟨u3, rfl, by
        have hR : reTo L j = refAll L := by unfold reTo refAll; rw [hje, List.take_length]
        rw [hR] at hents
        refine hents.reads hown ?_ ?_
        · rw [← hR]; have := reTo_len L j; have := HN.out; omega
        · intro e he
          rw [← hR] at he
          have := reTo_tr L j e he; have := HN.out; omega, hE⟩)
      clear hje hown hE hents
      go_wp2_with fail
      go_ret
      exact HF.out
end Go.Proofs.YtdonmmjikcbihaaGreatDoor
