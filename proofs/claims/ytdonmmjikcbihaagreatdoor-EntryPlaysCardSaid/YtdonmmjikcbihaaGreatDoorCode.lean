/- Package code: which records may be, and their bytes. -/
import Derived.Test.YtdonmmjikcbihaaGreatDoorPack
import Derived.Test.YtdonmmjikcbihaaGreatDoorKeyed
namespace Go.Vc
/-- a name's bytes may stand in it -/
def nameByte (c : UInt8) : Bool := decide (32 < c.toNat) && decide (c.toNat ≤ 126)
/-- may a text be a name? -/
def named (s : ByteArray) : Bool := s.data.toList.all nameByte && !(s.size == 0) && decide (s.size ≤ 24)
/-- may a record be? -/
def may (x : Spn) : Bool := decide (0 < x.tr) && decide (0 < x.id) && decide (0 ≤ x.pa) && decide (0 ≤ x.rv) && named x.sv && named x.op && decide (-4611686018427387904 ≤ x.st) && decide (x.st ≤ 4611686018427387903)
/-- the first of a record's numbers -/
def nth4 (x : Spn) : Nat → Nat
  | 0 => x.tr.toNat
  | 1 => x.id.toNat
  | 2 => x.pa.toNat
  | _ => x.rv.toNat
def pre4 (x : Spn) : Nat → List UInt8
  | 0 => []
  | j + 1 => pre4 x j ++ vbytes (nth4 x j)
/-- a record's bytes -/
def sbytes (x : Spn) : List UInt8 := pre4 x 4 ++ (vbytes x.sv.size ++ x.sv.data.toList) ++ (vbytes x.op.size ++ x.op.data.toList) ++ vbytes (zig x.st) ++ vbytes (zig x.du) ++ [if x.gone then 1 else 0]
/-- a duration that may be -/
def clamp (n lo hi : Int) : Int := max lo (min n hi)
def kept (x : Spn) : Spn := { x with du := clamp x.du 0 4611686018427387904 }
/-- the error of a record -/
def mayE (x : Spn) : Int := if may x then 0 else 1
theorem mayE_t {x : Spn} (h : may x = true) : mayE x = 0 := by rw [mayE, h]; rfl
theorem mayE_f {x : Spn} (h : may x = false) : mayE x = 1 := by rw [mayE, h]; rfl
/-- a span's cells -/
abbrev spnC (x : Spn) : Array Value := #[.int .i64 x.tr, .int .i64 x.id, .int .i64 x.pa, .int .i64 x.rv, .string x.sv, .string x.op, .int .i64 x.st, .int .i64 x.du, .bool x.gone]
end Go.Vc
namespace Go.Proofs.YtdonmmjikcbihaaGreatDoor
open Go.RowKit Go.Proofs Go.Vc
attribute [local irreducible] Calls CallsIn Code.wp Code.wpIn
theorem clamp_i (n lo hi : Int) (w : World) : Calls Tryz.prog 85 #[.int .i64 n, .int .i64 lo, .int .i64 hi] w fun e w' => e = .returned (.int .i64 (clamp n lo hi)) ∧ w' = w := by
  go_enter Tryz.func85, Tryz.ntmps85
  go_wp2_with fail
  go_ret
  exact ⟨rfl, rfl⟩
theorem kept_i (x : Spn) (w : World) : Calls Tryz.prog 57 #[spnV x] w fun e w' => e = .returned (spnV (kept x)) ∧ Ext w w' := by
  go_enter Tryz.func57, Tryz.ntmps57
  go_wp2_with fail
  refine (clamp_i _ _ _ _).mono ?_
  rintro e9 w1 ⟨rfl, rfl⟩
  go_wp2_with fail
  refine bodyPost_ret (v := spnV (kept x)) (by simp [results, Tryz.results57, go_sem, kept]) rfl ⟨rfl, ?_⟩
  (repeat' (first | with_reducible refine Keeps.alloc ?_ _ | (with_reducible refine Keeps.setCell ?_ ?_ _; rotate_left; (simp; done)) | exact Keeps.refl _ _))
theorem toList_data (s : ByteArray) : s.toList = s.data.toList := ByteArray.toList_eq s
theorem getD_of {l : List UInt8} {j : Nat} (h : j < l.length) : l.getD j 0 = l[j] := by simp [List.getD, h]
theorem named_all (s : ByteArray) (h : ∀ i, i < s.size → nameByte (s.data.toList.getD i 0) = true) : s.data.toList.all nameByte = true := by
  rw [List.all_eq_true]
  intro c hc
  obtain ⟨i, hi, rfl⟩ := List.getElem_of_mem hc
  rw [← getD_of hi]
  exact h i (by rw [← size_list]; exact hi)
theorem named_bad (s : ByteArray) (j : Nat) (hj : j < s.size) (h : nameByte (s.data.toList.getD j 0) = false) : named s = false := by
  have hl : j < s.data.toList.length := by rw [size_list]; exact hj
  have : s.data.toList.all nameByte = false := by
    rw [Bool.eq_false_iff]
    intro ha
    rw [List.all_eq_true] at ha
    have := ha _ (List.getElem_mem hl)
    rw [← getD_of hl, h] at this
    cases this
  unfold named; rw [this]; rfl
set_option maxRecDepth 20000 in
theorem named_i (s : ByteArray) (hs : s.size ≤ 9223372036854775807) (w : World) : Calls Tryz.prog 64 #[.string s] w fun e w' => e = .returned (.bool (named s)) ∧ Ext w w' := by
  obtain ⟨cap, w1, hcv, hcl, hE⟩ := text_bytes s w
  obtain ⟨b, hb⟩ : ∃ b, b = w.heap.size := ⟨_, rfl⟩
  rw [← hb] at hcv hcl
  have HC := Lib.hid hcv
  have HL := Lib.hid hcl
  have HE := Lib.hid hE
  have h0 : (0 : Int) ≤ s.size := by omega
  clear hb hcv hcl hE
  go_enter Tryz.func64, Tryz.ntmps64
  go_wp2_with fail
  rw [HC.out]
  go_wp2_with fail
  go_loopg [8] s.size (fun k p8 wr => ∃ j : Nat, p8 = .int .i64 j ∧ j + k = s.size ∧ (∀ i, i < j → nameByte (s.data.toList.getD i 0) = true) ∧ wr = w1)
  case atStart => exact ⟨0, rfl, Nat.zero_add _, fun i hi => absurd hi (Nat.not_lt_zero _), rfl⟩
  case round =>
    obtain ⟨j, rfl, hj, hall, rfl⟩ := hrel
    have HA := Lib.hid hall
    clear hall
    by_cases hjs : j < s.size
    · have hc := HL.out j hjs
      have hjs' : (j : Int) < s.size := by omega
      obtain ⟨c, hcc⟩ : ∃ c, c = s.data.toList.getD j 0 := ⟨_, rfl⟩
      rw [← hcc] at hc
      have HCC := Lib.hid hcc
      clear hcc
      have hcb : c.toNat < 256 := c.toNat_lt
      by_cases h32 : (c.toNat : Int) ≤ 32
      · go_wp2_with fail
        go_ret
        exact ⟨by rw [named_bad s j hjs (by rw [← HCC.out, nameByte, decide_eq_false (by omega)]; rfl)]; rfl, HE.out⟩
      · by_cases h126 : (126 : Int) < c.toNat
        · have h32' : (32 : Int) < c.toNat := by omega
          go_wp2_with fail
          go_ret
          exact ⟨by rw [named_bad s j hjs (by rw [← HCC.out, nameByte, decide_eq_false (p := c.toNat ≤ 126) (by omega), Bool.and_false])]; rfl, HE.out⟩
        · have h32' : (32 : Int) < c.toNat := by omega
          go_wp2_with fail
          go_roundg (gk - 1)
          case measure => omega
          case rel =>
            refine ⟨j + 1, by simp, by omega, fun i hi => ?_, rfl⟩
            by_cases hij : i = j
            · subst hij; rw [← HCC.out, nameByte, decide_eq_true (by omega), decide_eq_true (by omega)]; rfl
            · exact HA.out i (by omega)
    · have hjs' : ¬ (j : Int) < s.size := by omega
      have hja : j = s.size := by omega
      have hall : s.data.toList.all nameByte = true := named_all s fun i hi => HA.out i (by omega)
      have hnm : named s = (!(s.size == 0) && decide (s.size ≤ 24)) := by unfold named; rw [hall, Bool.true_and]
      have HN := Lib.hid hnm
      have hem : s.toList.isEmpty = (s.size == 0) := by rw [toList_data, ← size_list]; cases s.data.toList <;> rfl
      clear hall hnm hja
      cases hz : (s.size == 0)
      · rw [hz] at hem HN
        by_cases h24 : s.size ≤ 24
        · have h24' : (s.size : Int) ≤ 24 := by omega
          go_wp2_with fail
          go_ret
          exact ⟨by rw [HN.out, decide_eq_true h24]; rfl, HE.out⟩
        · have h24' : ¬ (s.size : Int) ≤ 24 := by omega
          go_wp2_with fail
          go_ret
          exact ⟨by rw [HN.out, decide_eq_false h24]; rfl, HE.out⟩
      · rw [hz] at hem HN
        go_wp2_with fail
        go_ret
        exact ⟨by rw [HN.out]; rfl, HE.out⟩
set_option maxRecDepth 20000 in
theorem may_i (x : Spn) (hx : x.Fits) (w : World) : Calls Tryz.prog 41 #[spnV x] w fun e w' => e = .returned (.int .i64 (mayE x)) ∧ Ext w w' := by
  obtain ⟨wa, hwa⟩ : ∃ wa, wa = w.alloc (.cells (spnC x) 48) := ⟨_, rfl⟩
  have hE : Ext w wa := by rw [hwa]; exact (Keeps.refl _ w).alloc _
  have hN : wa.heap[w.heap.size]? = some (.cells (spnC x) 48 (0, 0)) := by rw [hwa]; exact World.alloc_heap_new w _
  obtain ⟨b, hb⟩ : ∃ b, b = w.heap.size := ⟨_, rfl⟩
  rw [← hb] at hN
  have hc := blk_cell hN
  have HX := Lib.hid (And.intro hx.sv hx.op)
  have HE := Lib.hid (And.intro hE hN)
  clear hx hE hN
  by_cases h1 : (0 < x.tr ∧ 0 < x.id) ∧ (0 ≤ x.pa ∧ 0 ≤ x.rv)
  · have hm : may x = (named x.sv && (named x.op && (decide (-4611686018427387904 ≤ x.st) && decide (x.st ≤ 4611686018427387903)))) := by
      unfold may; rw [decide_eq_true h1.1.1, decide_eq_true h1.1.2, decide_eq_true h1.2.1, decide_eq_true h1.2.2]; simp only [Bool.true_and, Bool.and_assoc]
    have HM := Lib.hid hm
    clear hm
    obtain ⟨⟨h11, h12⟩, h13, h14⟩ := h1
    go_enter Tryz.func41, Tryz.ntmps41
    go_wp2_with fail
    rw [← hwa, ← hb]
    clear hwa hb
    refine (named_i x.sv HX.out.1 _).mono ?_
    rintro e9 w2 ⟨rfl, hE2⟩
    have hN2 : w2.heap[b]? = some (.cells (spnC x) 48 (0, 0)) := (Ext.same hE2 (lt_of_heap HE.out.2)).trans HE.out.2
    have hc2 := blk_cell hN2
    have HE2 := Lib.hid (And.intro (HE.out.1.trans hE2) hN2)
    clear hE2 hN2 hc
    cases hn1 : named x.sv
    · rw [hn1] at HM
      clear hn1
      go_wp2_with fail
      go_ret
      exact ⟨by rw [mayE_f HM.out]; rfl, HE2.out.1⟩
    · rw [hn1] at HM
      clear hn1
      go_wp2_with fail
      refine (named_i x.op HX.out.2 _).mono ?_
      rintro e9 w3 ⟨rfl, hE3⟩
      have hN3 : w3.heap[b]? = some (.cells (spnC x) 48 (0, 0)) := (Ext.same hE3 (lt_of_heap HE2.out.2)).trans HE2.out.2
      have hc3 := blk_cell hN3
      have HE3 := Lib.hid (HE2.out.1.trans hE3)
      clear hE3 hN3 hc2
      cases hn2 : named x.op
      · rw [hn2] at HM
        clear hn2
        go_wp2_with fail
        go_ret
        exact ⟨by rw [mayE_f HM.out]; rfl, HE3.out⟩
      · rw [hn2] at HM
        clear hn2
        by_cases h5 : -4611686018427387904 ≤ x.st
        · by_cases h6 : x.st ≤ 4611686018427387903
          · have HM1 := Lib.hid (mayE_t (x := x) (by rw [HM.out, decide_eq_true h5, decide_eq_true h6]; rfl))
            go_wp2_with fail
            go_ret
            exact ⟨by rw [HM1.out]; rfl, HE3.out⟩
          · have HM1 := Lib.hid (mayE_f (x := x) (by rw [HM.out, decide_eq_false h6, Bool.and_false]; rfl))
            have h6' : 4611686018427387903 < x.st := by omega
            go_wp2_with fail
            go_ret
            exact ⟨by rw [HM1.out]; rfl, HE3.out⟩
        · have HM1 := Lib.hid (mayE_f (x := x) (by rw [HM.out, decide_eq_false h5]; rfl))
          have h5' : x.st < -4611686018427387904 := by omega
          go_wp2_with fail
          go_ret
          exact ⟨by rw [HM1.out]; rfl, HE3.out⟩
  · have hm : may x = false := by unfold may; simp only [Bool.and_eq_false_iff, decide_eq_false_iff_not]; omega
    have HM := Lib.hid (mayE_f hm)
    clear hm hc
    go_enter Tryz.func41, Tryz.ntmps41
    go_wp2_with fail
    all_goals (go_ret; exact ⟨by rw [HM.out]; rfl, (Keeps.refl _ w).alloc _⟩)
end Go.Proofs.YtdonmmjikcbihaaGreatDoor
