/- Package code: a record's bytes; package rank: which record goes ahead. -/
import Derived.Test.YtdonmmjikcbihaaGreatDoorCode
namespace Go.Proofs.YtdonmmjikcbihaaGreatDoor
open Go.RowKit Go.Proofs Go.Vc
attribute [local irreducible] Calls CallsIn Code.wp Code.wpIn
/-- what Write leaves -/
def Wrote (b : Nat) (x : Spn) (w w' : World) : Prop := ∃ B, w.heap.size ≤ B ∧ Wr B b (sbytes x) w' ∧ Keeps (fun i => i = b) w w'
/-- a record whose numbers may be written -/
structure Good (x : Spn) : Prop where
  fits : x.Fits
  tr : 0 ≤ x.tr
  id : 0 ≤ x.id
  pa : 0 ≤ x.pa
  rv : 0 ≤ x.rv
  sv : x.sv.size ≤ 24
  op : x.op.size ≤ 24
theorem nth4_val {x : Spn} (h : Good x) (j : Nat) (hj : j < 4) : (#[.int .i64 x.tr, .int .i64 x.id, .int .i64 x.pa, .int .i64 x.rv] : Array Value)[j]? = some (.int .i64 (nth4 x j : Int)) := by
  obtain ⟨hf, h1, h2, h3, h4, _, _⟩ := h
  match j, hj with
  | 0, _ => simp [nth4, Int.toNat_of_nonneg h1]
  | 1, _ => simp [nth4, Int.toNat_of_nonneg h2]
  | 2, _ => simp [nth4, Int.toNat_of_nonneg h3]
  | 3, _ => simp [nth4, Int.toNat_of_nonneg h4]
theorem nth4_le {x : Spn} (h : Good x) (j : Nat) : nth4 x j ≤ 9223372036854775807 := by
  obtain ⟨hf, _⟩ := h
  have := hf.tr.2; have := hf.id.2; have := hf.pa.2; have := hf.rv.2
  unfold nth4; split <;> omega
theorem pre4_len {x : Spn} (h : Good x) (j : Nat) : (pre4 x j).length ≤ 10 * j := by
  induction j with
  | zero => simp [pre4]
  | succ j ih =>
    have := vbytes_len 9 (nth4 x j) (by have := nth4_le h j; omega)
    simp only [pre4, List.length_append]; omega
theorem index4 (a b c d : Value) (w : World) (j : Nat) (hj : j < 4) : (Instr.index 165 (.agg #[a, b, c, d]) (.int .i64 j)).run Tryz.prog w = .ok ((#[a, b, c, d] : Array Value).getD j undef) w := by
  have h1 : Tryz.prog.underlying 165 = some (.array 4 3) := by kernel_rfl
  match j, hj with
  | 0, _ | 1, _ | 2, _ | 3, _ => simp [Instr.index, asIntOf, run_underlying h1, part, Tryz.sizeOf3, Tryz.isAgg3, Result.andThen]
set_option maxRecDepth 20000 in
theorem write_i (b : Nat) (x : Spn) (hx : Good x) (w : World) (hb : w.heap[b]? = some (.cells #[.pointer none, .slice none 0 0] TW (0, 0))) :
    Calls Tryz.prog 115 #[.pointer (some ⟨b, 0, none⟩), spnV x] w fun e w' => e = .returned (.tuple #[]) ∧ Wrote b x w w' := by
  obtain ⟨wa, hwa⟩ : ∃ wa, wa = w.alloc (.cells (spnC x) 48) := ⟨_, rfl⟩
  have hE : Ext w wa := by rw [hwa]; exact (Keeps.refl _ w).alloc _
  have hN : wa.heap[w.heap.size]? = some (.cells (spnC x) 48 (0, 0)) := by rw [hwa]; exact World.alloc_heap_new w _
  obtain ⟨c, hc0⟩ : ∃ c, c = w.heap.size := ⟨_, rfl⟩
  rw [← hc0] at hN
  have hc := blk_cell hN
  have hbc : b < c := by rw [hc0]; exact lt_of_heap hb
  have hW : Wr wa.heap.size b [] wa := ⟨_, _, .inl rfl, (Ext.same hE (lt_of_heap hb)).trans hb, World.ownsRow_nil _ _ _ _, by simp [Value.ownBlock], Nat.le_refl _⟩
  have HX := Lib.hid hx
  have HE := Lib.hid (And.intro hE (And.intro hN (And.intro hW hbc)))
  clear hx hE hN hW hbc hb
  go_enter Tryz.func115, Tryz.ntmps115
  go_wp2_with fail
  rw [← hwa, ← hc0]
  have HC := Lib.hid hc0
  clear hwa hc0
  go_wp2_with fail
  go_loopg [15] 4 (fun k p wr => ∃ j : Nat, p = .int .i64 j ∧ j + k = 4 ∧ Wr wa.heap.size b (pre4 x j) wr ∧ Fresh wa.heap.size b wa wr)
  case atStart => exact ⟨0, rfl, rfl, HE.out.2.2.1, Keeps.refl _ _⟩
  case round =>
    obtain ⟨j, rfl, hj, hwr, hfr⟩ := hrel
    have HJ := Lib.hid (And.intro hwr hfr)
    clear hwr hfr hc
    by_cases hj4 : j < 4
    · have hj4' : (j : Int) < 4 := by omega
      have HV := Lib.hid (show (#[.int .i64 x.tr, .int .i64 x.id, .int .i64 x.pa, .int .i64 x.rv] : Array Value).getD j undef = .int .i64 (nth4 x j : Int) from by
        have := nth4_val HX.out j hj4
        rw [Array.getD_eq_getD_getElem?, this]; rfl)
      go_wp2_with fail
      rw [index4 _ _ _ _ _ j hj4, HV.out]
      go_wp2_with fail
      refine (num_b _ b _ _ (nth4_le HX.out j) _ HJ.out.1 (by have := pre4_len HX.out j; omega)).mono ?_
      rintro e9 w3 ⟨rfl, hw3, hf3⟩
      have H3 := Lib.hid (And.intro hw3 (HJ.out.2.trans hf3))
      clear hw3 hf3
      go_wp2_with fail
      go_roundg (gk - 1)
      case measure => omega
      case rel => exact ⟨j + 1, by simp, by omega, H3.out⟩
    · have hj4' : ¬ (j : Int) < 4 := by omega
      have : j = 4 := by omega
      subst this
      have hw4 : ¬ (((4 : Nat) : Int) < 4) := by omega
      have HCC := Lib.hid (fun (w' : World) (hf : Fresh wa.heap.size b wa w') => blk_cell ((hf.same c (lt_of_heap HE.out.2.1) (fun hf => hf.elim (fun e => absurd HE.out.2.2.2 (by omega)) (fun e => absurd (lt_of_heap HE.out.2.1) (by omega)))).trans HE.out.2.1))
      have HLN := Lib.hid (And.intro (pre4_len HX.out 4) (And.intro (vbytes_len 9 x.sv.size (by have := HX.out.sv; omega)) (And.intro (vbytes_len 9 x.op.size (by have := HX.out.op; omega)) (And.intro (vbytes_len 9 (zig x.st) (by have := zig_lt x.st HX.out.fits.st.1 HX.out.fits.st.2; omega)) (vbytes_len 9 (zig x.du) (by have := zig_lt x.du HX.out.fits.du.1 HX.out.fits.du.2; omega))))))
      have HSZ := Lib.hid (And.intro (size_list x.sv) (And.intro (size_list x.op) (And.intro HX.out.sv HX.out.op)))
      have hc := HCC.out _ HJ.out.2
      clear hj hj4 hj4'
      go_wp2_with fail
      refine (text_b _ b _ _ (by have := HX.out.sv; omega) _ HJ.out.1 (by have := HLN.out; have := HSZ.out; (try simp only [List.length_append]); omega)).mono ?_
      rintro e9 w5 ⟨rfl, hw5, hf5⟩
      have H5 := Lib.hid (And.intro hw5 (HJ.out.2.trans hf5))
      have hc5 := HCC.out _ H5.out.2
      clear hw5 hf5 hc
      go_wp2_with fail
      refine (text_b _ b _ _ (by have := HX.out.op; omega) _ H5.out.1 (by have := HLN.out; have := HSZ.out; (try simp only [List.length_append]); omega)).mono ?_
      rintro e9 w6 ⟨rfl, hw6, hf6⟩
      have H6 := Lib.hid (And.intro hw6 (H5.out.2.trans hf6))
      have hc6 := HCC.out _ H6.out.2
      clear hw6 hf6 hc5
      go_wp2_with fail
      refine (signed_b _ b _ _ HX.out.fits.st.1 HX.out.fits.st.2 _ H6.out.1 (by have := HLN.out; have := HSZ.out; (try simp only [List.length_append]); omega)).mono ?_
      rintro e9 w7 ⟨rfl, hw7, hf7⟩
      have H7 := Lib.hid (And.intro hw7 (H6.out.2.trans hf7))
      have hc7 := HCC.out _ H7.out.2
      clear hw7 hf7 hc6
      go_wp2_with fail
      refine (signed_b _ b _ _ HX.out.fits.du.1 HX.out.fits.du.2 _ H7.out.1 (by have := HLN.out; have := HSZ.out; (try simp only [List.length_append]); omega)).mono ?_
      rintro e9 w8 ⟨rfl, hw8, hf8⟩
      have H8 := Lib.hid (And.intro hw8 (H7.out.2.trans hf8))
      have hc8 := HCC.out _ H8.out.2
      clear hw8 hf8 hc7
      go_wp2_with fail
      refine (flag_b _ b _ _ _ H8.out.1 (by have := HLN.out; have := HSZ.out; (try simp only [List.length_append]); omega)).mono ?_
      rintro e9 w9 ⟨rfl, hw9, hf9⟩
      have H9 := Lib.hid (And.intro hw9 (H8.out.2.trans hf9))
      have hc9 := HCC.out _ H9.out.2
      clear hw9 hf9 hc8
      go_wp2_with fail
      go_end0
      refine ⟨rfl, wa.heap.size, HE.out.1.size, H9.out.1, ?_⟩
      refine ⟨Nat.le_trans HE.out.1.size H9.out.2.size, fun i hi hib => ?_, (HE.out.1.ost).trans H9.out.2.ost⟩
      exact (H9.out.2.same i (Nat.lt_of_lt_of_le hi HE.out.1.size) (fun h => h.elim hib fun h => absurd (Nat.lt_of_lt_of_le hi HE.out.1.size) (by omega))).trans (Ext.same HE.out.1 hi)
end Go.Proofs.YtdonmmjikcbihaaGreatDoor
