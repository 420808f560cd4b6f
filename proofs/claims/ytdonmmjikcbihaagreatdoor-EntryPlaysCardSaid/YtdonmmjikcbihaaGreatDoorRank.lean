/- Package code: Put; package rank: which record goes ahead. -/
import Derived.Test.YtdonmmjikcbihaaGreatDoorWrite
namespace Go.Vc
/-- what Put tells -/
def putS (x : Spn) : ByteArray := if may x then ⟨(sbytes x).toArray⟩ else ⟨#[]⟩
/-- the order of two numbers -/
def cmpN (a b : Int) : Int := if a < b then -1 else if b < a then 1 else 0
/-- the order of two records -/
def rankO (a b : Spn) : Int := if cmpN a.rv b.rv = 0 then Lib.compareBytes (putS (kept a)).data.toList (putS (kept b)).data.toList else cmpN a.rv b.rv
/-- does a record go ahead of another one? -/
def newer (a b : Spn) : Bool := decide (0 < rankO a b)
end Go.Vc
namespace Go.Proofs.YtdonmmjikcbihaaGreatDoor
open Go.RowKit Go.Proofs Go.Vc
attribute [local irreducible] Calls CallsIn Code.wp Code.wpIn
theorem good_of {x : Spn} (hf : x.Fits) (h : may x = true) : Good x := by
  unfold may at h
  simp only [Bool.and_eq_true, decide_eq_true_eq] at h
  obtain ⟨⟨⟨⟨⟨⟨⟨h1, h2⟩, h3⟩, h4⟩, h5⟩, h6⟩, _⟩, _⟩ := h
  have key : ∀ s : ByteArray, named s = true → s.size ≤ 24 := by
    intro s h; unfold named at h; simp only [Bool.and_eq_true, decide_eq_true_eq] at h; exact h.2
  exact ⟨hf, by omega, by omega, h3, h4, key _ h5, key _ h6⟩
theorem sbytes_ne (x : Spn) : sbytes x ≠ [] := by unfold sbytes; simp
set_option maxRecDepth 20000 in
theorem put_i (x : Spn) (hx : x.Fits) (w : World) : Calls Tryz.prog 100 #[spnV x] w fun e w' => e = .returned (.tuple #[.string (putS x), .int .i64 (mayE x)]) ∧ Ext w w' := by
  obtain ⟨wa, hwa⟩ : ∃ wa, wa = w.alloc (.cells (spnC x) 48) := ⟨_, rfl⟩
  have hE : Ext w wa := by rw [hwa]; exact (Keeps.refl _ w).alloc _
  have hN : wa.heap[w.heap.size]? = some (.cells (spnC x) 48 (0, 0)) := by rw [hwa]; exact World.alloc_heap_new w _
  obtain ⟨c, hc0⟩ : ∃ c, c = w.heap.size := ⟨_, rfl⟩
  rw [← hc0] at hN
  have hc := blk_cell hN
  have HX := Lib.hid hx
  have HE := Lib.hid (And.intro hE hN)
  clear hx hE hN
  go_enter Tryz.func100, Tryz.ntmps100
  go_wp2_with fail
  rw [← hwa, ← hc0]
  have HC := Lib.hid hc0
  clear hwa hc0
  go_wp2_with fail
  refine (may_i x HX.out _).mono ?_
  rintro e9 w2 ⟨rfl, hE2⟩
  have hN2 := (Ext.same hE2 (lt_of_heap HE.out.2)).trans HE.out.2
  have hc2 := blk_cell hN2
  have H2 := Lib.hid (And.intro (HE.out.1.trans hE2) hN2)
  clear hE2 hN2 hc
  cases hm : may x
  · have hme : mayE x = 1 := mayE_f hm
    have hps : putS x = ⟨#[]⟩ := by unfold putS; rw [hm]; rfl
    have HM := Lib.hid (And.intro hm (And.intro hme hps))
    rw [hme]
    clear hm hme hps
    go_wp2_with fail
    go_ret2
    exact ⟨by rw [HM.out.2.2, HM.out.2.1]; rfl, H2.out.1⟩
  · have hme : mayE x = 0 := mayE_t hm
    have hps : putS x = ⟨(sbytes x).toArray⟩ := by unfold putS; rw [hm]; rfl
    have HG := Lib.hid (good_of HX.out hm)
    have HM := Lib.hid (And.intro hme hps)
    rw [hme]
    clear hm hme hps
    have hlt := lt_of_heap H2.out.2
    go_wp2_with fail
    have hnew : (w2.alloc (.cells #[.pointer none, .slice none 0 0] TW)).heap[w2.heap.size]? = some (.cells #[.pointer none, .slice none 0 0] TW (0, 0)) := World.alloc_heap_new w2 _
    refine (write_i w2.heap.size x HG.out _ hnew).mono ?_
    rintro e9 w4 ⟨rfl, B, hB, hwr, hk⟩
    have hEa : Ext w2 (w2.alloc (.cells #[.pointer none, .slice none 0 0] TW)) := (Keeps.refl _ w2).alloc _
    have hnlt : w2.heap.size < (w2.alloc (.cells #[.pointer none, .slice none 0 0] TW)).heap.size := lt_of_heap hnew
    have hE4 : Ext w2 w4 := ⟨Nat.le_trans hEa.size hk.size, fun i hi _ => (hk.same i (Nat.lt_of_lt_of_le hi hEa.size) (fun e => absurd hi (by omega))).trans (Ext.same hEa hi), (hEa.ost).trans hk.ost⟩
    have H4 := Lib.hid (And.intro hwr (And.intro hE4 (Nat.lt_of_lt_of_le hnlt hB)))
    clear hnew hB hwr hk hEa hnlt hE4 hlt hc2
    go_wp2_with fail
    refine (pk_bytes B w2.heap.size (sbytes x) _ H4.out.1 (sbytes_ne x)).mono ?_
    rintro e9 w5 ⟨rfl, hF⟩
    have hE5 : Ext w2 w5 := ⟨Nat.le_trans H4.out.2.1.size hF.size, fun i hi _ => (hF.same i (Nat.lt_of_lt_of_le hi H4.out.2.1.size) (fun h => h.elim (fun e => absurd hi (by omega)) (fun e => absurd H4.out.2.2 (by omega)))).trans (Ext.same H4.out.2.1 hi), (H4.out.2.1.ost).trans hF.ost⟩
    have H5 := Lib.hid (H2.out.1.trans hE5)
    clear hF hE5
    go_wp2_with fail
    go_ret2
    exact ⟨by rw [HM.out.2, HM.out.1]; rfl, H5.out⟩
theorem nan_i (x : Int) (w : World) : Calls Tryz.prog 114 #[.int .i64 x] w fun e w' => e = .returned (.bool false) ∧ w' = w := by
  go_enter Tryz.func114, Tryz.ntmps114
  go_wp2_with fail
  go_ret
  exact ⟨rfl, rfl⟩
theorem cmp_i (a b : Int) (w : World) : Calls Tryz.prog 99 #[.int .i64 a, .int .i64 b] w fun e w' => e = .returned (.int .i64 (cmpN a b)) ∧ w' = w := by
  rcases Int.lt_trichotomy a b with h | h | h
  · have HM := Lib.hid (show cmpN a b = -1 from by unfold cmpN; rw [if_pos h])
    go_enter Tryz.func99, Tryz.ntmps99
    go_wp2_with fail
    refine (nan_i a _).mono ?_
    rintro e9 w1 ⟨rfl, rfl⟩
    go_wp2_with fail
    refine (nan_i b _).mono ?_
    rintro e9 w2 ⟨rfl, rfl⟩
    go_wp2_with fail
    go_ret
    exact ⟨by rw [HM.out]; rfl, rfl⟩
  · subst h
    have HM := Lib.hid (show cmpN a a = 0 from by unfold cmpN; rw [if_neg (by omega), if_neg (by omega)])
    go_enter Tryz.func99, Tryz.ntmps99
    go_wp2_with fail
    refine (nan_i a _).mono ?_
    rintro e9 w1 ⟨rfl, rfl⟩
    go_wp2_with fail
    refine (nan_i a _).mono ?_
    rintro e9 w2 ⟨rfl, rfl⟩
    go_wp2_with fail
    go_ret
    exact ⟨by rw [HM.out]; rfl, rfl⟩
  · have HM := Lib.hid (show cmpN a b = 1 from by unfold cmpN; rw [if_neg (by omega), if_pos h])
    have h' : ¬ a < b := by omega
    go_enter Tryz.func99, Tryz.ntmps99
    go_wp2_with fail
    refine (nan_i a _).mono ?_
    rintro e9 w1 ⟨rfl, rfl⟩
    go_wp2_with fail
    refine (nan_i b _).mono ?_
    rintro e9 w2 ⟨rfl, rfl⟩
    go_wp2_with fail
    go_ret
    exact ⟨by rw [HM.out]; rfl, rfl⟩
theorem kept_fits {x : Spn} (h : x.Fits) : (kept x).Fits := ⟨h.tr, h.id, h.pa, h.rv, h.st, by unfold kept clamp; simp only; omega, h.sv, h.op⟩
set_option maxRecDepth 20000 in
theorem order_i (x y : Spn) (hx : x.Fits) (hy : y.Fits) (w : World) : Calls Tryz.prog 87 #[spnV x, spnV y] w fun e w' => e = .returned (.int .i64 (rankO x y)) ∧ Ext w w' := by
  obtain ⟨wa, hwa⟩ : ∃ wa, wa = w.alloc (.cells (spnC x) 48) := ⟨_, rfl⟩
  have hE : Ext w wa := by rw [hwa]; exact (Keeps.refl _ w).alloc _
  have hN : wa.heap[w.heap.size]? = some (.cells (spnC x) 48 (0, 0)) := by rw [hwa]; exact World.alloc_heap_new w _
  have hsz : wa.heap.size = w.heap.size + 1 := by rw [hwa]; show (w.heap.push _).size = _; rw [Array.size_push]
  obtain ⟨wb, hwb⟩ : ∃ wb, wb = wa.alloc (.cells (spnC y) 48) := ⟨_, rfl⟩
  have hEb : Ext wa wb := by rw [hwb]; exact (Keeps.refl _ wa).alloc _
  have hNb : wb.heap[w.heap.size + 1]? = some (.cells (spnC y) 48 (0, 0)) := by rw [hwb, ← hsz]; exact World.alloc_heap_new wa _
  obtain ⟨c, hc0⟩ : ∃ c, c = w.heap.size := ⟨_, rfl⟩
  rw [← hc0] at hN hNb
  have hNa : wb.heap[c]? = some (.cells (spnC x) 48 (0, 0)) := (Ext.same hEb (lt_of_heap hN)).trans hN
  have HCC := Lib.hid (fun (w' : World) (h : Ext wb w') => And.intro (blk_cell ((Ext.same h (lt_of_heap hNa)).trans hNa)) (blk_cell ((Ext.same h (lt_of_heap hNb)).trans hNb)))
  have HX := Lib.hid (And.intro hx hy)
  have HE := Lib.hid (hE.trans hEb)
  have hc := HCC.out wb (Keeps.refl _ _)
  rw [hwa] at hwb
  clear hx hy hE hN hEb hNb hNa hsz hwa
  go_enter Tryz.func87, Tryz.ntmps87
  go_wp2_with fail
  rw [← hwb, ← hc0]
  have HC := Lib.hid hc0
  clear hwb hc0
  go_wp2_with fail
  refine (cmp_i x.rv y.rv _).mono ?_
  rintro e9 w1 ⟨rfl, rfl⟩
  by_cases h0 : cmpN x.rv y.rv = 0
  · have HM := Lib.hid (show rankO x y = _ from by unfold rankO; rw [if_pos h0])
    rw [h0]
    clear h0
    go_wp2_with fail
    refine (kept_i x _).mono ?_
    rintro e9 w2 ⟨rfl, hE2⟩
    have H2 := Lib.hid hE2
    clear hE2
    go_wp2_with fail
    refine (put_i (kept x) (kept_fits HX.out.1) _).mono ?_
    rintro e9 w3 ⟨rfl, hE3⟩
    have H3 := Lib.hid (H2.out.trans hE3)
    have hc3 := HCC.out _ H3.out
    clear hE3 hc
    go_wp2_with fail
    refine (kept_i y _).mono ?_
    rintro e9 w4 ⟨rfl, hE4⟩
    have H4 := Lib.hid (H3.out.trans hE4)
    clear hE4
    go_wp2_with fail
    refine (put_i (kept y) (kept_fits HX.out.2) _).mono ?_
    rintro e9 w5 ⟨rfl, hE5⟩
    have H5 := Lib.hid (H4.out.trans hE5)
    clear hE5 hc3
    go_wp2_with fail
    refine (Tryz.strings_Compare _ _ _).mono ?_
    rintro e9 w6 ⟨rfl, rfl⟩
    go_wp2_with fail
    go_ret
    exact ⟨by rw [HM.out]; rfl, HE.out.trans H5.out⟩
  · have HM := Lib.hid (show rankO x y = _ from by unfold rankO; rw [if_neg h0])
    go_wp2_with fail
    go_ret
    exact ⟨by rw [HM.out]; rfl, HE.out⟩
theorem newer_i (x y : Spn) (hx : x.Fits) (hy : y.Fits) (w : World) : Calls Tryz.prog 60 #[spnV x, spnV y] w fun e w' => e = .returned (.bool (newer x y)) ∧ Ext w w' := by
  obtain ⟨wb, hwb⟩ : ∃ wb, wb = (w.alloc (.cells (spnC x) 48)).alloc (.cells (spnC y) 48) := ⟨_, rfl⟩
  have hE : Ext w wb := by rw [hwb]; exact ((Keeps.refl _ w).alloc _).alloc _
  have HX := Lib.hid (And.intro hx hy)
  have HE := Lib.hid hE
  clear hx hy hE
  go_enter Tryz.func60, Tryz.ntmps60
  go_wp2_with fail
  rw [← hwb]
  clear hwb
  refine (order_i x y HX.out.1 HX.out.2 _).mono ?_
  rintro e9 w1 ⟨rfl, hE1⟩
  have H1 := Lib.hid (HE.out.trans hE1)
  clear hE1
  go_wp2_with fail
  go_ret
  exact ⟨rfl, H1.out⟩
end Go.Proofs.YtdonmmjikcbihaaGreatDoor
