/- Package keyed: numbers as bytes whose order is theirs; keys. -/
import Derived.Test.YtdonmmjikcbihaaGreatDoorRows
import Derived.Test.YtdonmmjikcbihaaGreatDoorData
import Derived.Lib.Hide
import Derived.Deep.LoopGhost
import Derived.Lib.ConvBytes
namespace Go.Proofs.YtdonmmjikcbihaaGreatDoor
open Go.RowKit Go.Proofs Go.Vc
attribute [local irreducible] Calls CallsIn Code.wp Code.wpIn
def B8 (u : Int) (i : Nat) : Int := u / 2 ^ (8 * i) % 256
def byte8 (u : Int) (j i : Nat) : Value := .int .u8 (if i < j then B8 u i else 0)
def cells8 (u : Int) (j : Nat) : Array Value := #[byte8 u j 7, byte8 u j 6, byte8 u j 5, byte8 u j 4, byte8 u j 3, byte8 u j 2, byte8 u j 1, byte8 u j 0]
theorem cells8_step (u : Int) (j : Nat) (h : j < 8) : (cells8 u j).setIfInBounds (7 - j) (.int .u8 (u / 2 ^ (8 * j) % 256)) = cells8 u (j + 1) := by
  match j, h with
  | 0, _ | 1, _ | 2, _ | 3, _ | 4, _ | 5, _ | 6, _ | 7, _ => simp [cells8, byte8, B8]
theorem cells8_some (u : Int) (j : Nat) (i : Nat) : ∃ x, (cells8 u j)[7 - i]? = some x := by
  refine ⟨(cells8 u j)[7 - i]'(by simp [cells8]; omega), by simp⟩
/-- the eight bytes of a number -/
def key8 (u : Int) : ByteArray := ⟨#[UInt8.ofNat (B8 u 7).toNat, UInt8.ofNat (B8 u 6).toNat, UInt8.ofNat (B8 u 5).toNat, UInt8.ofNat (B8 u 4).toNat, UInt8.ofNat (B8 u 3).toNat, UInt8.ofNat (B8 u 2).toNat, UInt8.ofNat (B8 u 1).toNat, UInt8.ofNat (B8 u 0).toNat]⟩
theorem key8_size (u : Int) : (key8 u).size = 8 := rfl
/-- the bytes of an int -/
def num (n : Int) : ByteArray := key8 (n + 9223372036854775808)
theorem num_size (n : Int) : (num n).size = 8 := rfl
theorem xor_top (a : Nat) (h : a < 18446744073709551616) : a ^^^ 9223372036854775808 = (a + 9223372036854775808) % 18446744073709551616 := by
  have key : ∀ c : Nat, c < 2 ^ 63 → c ^^^ 2 ^ 63 = c + 2 ^ 63 := by
    intro c hc
    apply Nat.eq_of_testBit_eq
    intro i
    rw [Nat.testBit_xor, Nat.testBit_two_pow, Nat.add_comm]
    rcases Nat.lt_trichotomy i 63 with hi | hi | hi
    · rw [Nat.testBit_two_pow_add_gt hi, show decide (63 = i) = false from decide_eq_false (by omega), Bool.xor_false]
    · subst hi; rw [Nat.testBit_two_pow_add_eq]; simp
    · have hp : (2:Nat) ^ 64 ≤ 2 ^ i := Nat.pow_le_pow_right (by omega) hi
      rw [Nat.testBit_lt_two_pow (show c < 2 ^ i from by omega), Nat.testBit_lt_two_pow (show 2 ^ 63 + c < 2 ^ i from by omega)]
      rw [show decide (63 = i) = false from decide_eq_false (by omega)]; rfl
  by_cases hc : a < 2 ^ 63
  · have := key a hc
    rw [show (9223372036854775808 : Nat) = 2 ^ 63 from rfl, this]; omega
  · have := key (a - 2 ^ 63) (by omega)
    have e : a = (a - 2 ^ 63) ^^^ 2 ^ 63 := by rw [this]; omega
    rw [show (9223372036854775808 : Nat) = 2 ^ 63 from rfl]
    conv => lhs; rw [e]
    rw [Nat.xor_assoc, Nat.xor_self, Nat.xor_zero]; omega
theorem flip_up (n : Int) (h1 : -9223372036854775808 ≤ n) (h2 : n ≤ 9223372036854775807) : bits .xor .u64 (IntKind.u64.wrap n) 9223372036854775808 = n + 9223372036854775808 := by
  obtain ⟨a, ha⟩ : ∃ a : Nat, IntKind.u64.wrap n = (a : Int) := ⟨(IntKind.u64.wrap n).toNat, by rw [IntKind.wrap_u64]; omega⟩
  have hw := ha
  rw [IntKind.wrap_u64] at hw
  rw [ha, show (9223372036854775808 : Int) = ((9223372036854775808 : Nat) : Int) from rfl, bits_xor_u64_nat _ _ (by omega) (by omega), xor_top _ (by omega)]
  omega
theorem flip_down (n : Int) (h1 : -9223372036854775808 ≤ n) (h2 : n ≤ 9223372036854775807) : IntKind.i64.wrap (bits .xor .u64 (n + 9223372036854775808) 9223372036854775808) = n := by
  obtain ⟨a, ha⟩ : ∃ a : Nat, n + 9223372036854775808 = (a : Int) := ⟨(n + 9223372036854775808).toNat, by omega⟩
  rw [ha, show (9223372036854775808 : Int) = ((9223372036854775808 : Nat) : Int) from rfl, bits_xor_u64_nat _ _ (by omega) (by omega), xor_top _ (by omega), IntKind.wrap_i64]
  omega
theorem conv8 {u : Int} {b : Nat} {wr : World} (hc : ∀ i, wr.cell? ⟨b, i, none⟩ = (#[.int .u8 (B8 u 7), .int .u8 (B8 u 6), .int .u8 (B8 u 5), .int .u8 (B8 u 4), .int .u8 (B8 u 3), .int .u8 (B8 u 2), .int .u8 (B8 u 1), .int .u8 (B8 u 0)] : Array Value)[i]?) :
    (convert 131 9 (.slice (some ⟨b, 0, none⟩) 8 8)).run Tryz.prog wr = .ok (.string (key8 u)) wr := by
  rw [run_convert_bytes_string wr _ _ 5 _ 8 8 (by kernel_rfl) (by kernel_rfl) (by kernel_rfl), run_bytesToString wr _ 8 8 [B8 u 7, B8 u 6, B8 u 5, B8 u 4, B8 u 3, B8 u 2, B8 u 1, B8 u 0]]
  · rfl
  · have := run_loadCells_list (P := Tryz.prog) (w := wr) ⟨b, 0, none⟩ [.int .u8 (B8 u 7), .int .u8 (B8 u 6), .int .u8 (B8 u 5), .int .u8 (B8 u 4), .int .u8 (B8 u 3), .int .u8 (B8 u 2), .int .u8 (B8 u 1), .int .u8 (B8 u 0)] (by
      intro j v hv
      have : Addr.add ⟨b, 0, none⟩ j = ⟨b, j, none⟩ := by simp [Addr.add]; intro e; subst e; rfl
      rw [this, hc j, ← hv]; simp)
    exact this
set_option maxRecDepth 20000 in
theorem kput (n : Int) (h1 : -9223372036854775808 ≤ n) (h2 : n ≤ 9223372036854775807) (w : World) : Calls Tryz.prog 91 #[.int .i64 n] w fun e w' => e = .returned (.string (num n)) ∧ Ext w w' := by
  have H12 := Lib.hid (And.intro h1 h2)
  clear h1 h2
  go_enter Tryz.func91, Tryz.ntmps91
  go_wp2_with fail
  obtain ⟨u, hu⟩ : ∃ u, u = bits BinOp.xor IntKind.u64 (IntKind.u64.wrap n) 9223372036854775808 := ⟨_, rfl⟩
  rw [← hu]
  obtain ⟨b, hb⟩ : ∃ b, b = w.heap.size := ⟨_, rfl⟩
  rw [← hb]
  have HU := Lib.hid hu
  have HB := Lib.hid hb
  clear hu hb
  go_loopg [9] 8 (fun k p wr => ∃ j : Nat, p = .int .i64 j ∧ j + k = 8 ∧ wr.heap[b]? = some (.cells (cells8 u j) 141 (0, 0)) ∧ Ext w wr)
  case atStart => 
    refine ⟨0, rfl, rfl, ?_, (Keeps.refl _ w).alloc _⟩
    rw [HB.out]; exact World.alloc_heap_new w _
  case round =>
    obtain ⟨j, rfl, hj, hc, hE⟩ := hrel
    have HC := Lib.hid hc
    have HE := Lib.hid hE
    have hl := lt_of_heap hc
    have hz := blk_free hc
    have hc0 := blk_cell hc
    obtain ⟨x, hx⟩ := cells8_some u j j
    by_cases hj8 : j < 8
    · clear hc hE
      have hj8' : (j : Int) < 8 := by omega
      go_wp2_with fail
      go_roundg (gk - 1)
      case measure => omega
      case rel =>
        refine ⟨j + 1, by simp, by omega, ?_, ?_⟩
        · rw [heap_set HC.out, cells8_step u j hj8]
        · exact HE.out.setCell (by rw [HB.out]; exact Nat.lt_irrefl _) _
    · have : j = 8 := by omega
      subst this
      clear hj hj8 hc hE hx
      simp only [cells8, byte8, Nat.lt_irrefl, reduceIte, show (0:Nat) < 8 from by omega, show (1:Nat) < 8 from by omega, show (2:Nat) < 8 from by omega, show (3:Nat) < 8 from by omega, show (4:Nat) < 8 from by omega, show (5:Nat) < 8 from by omega, show (6:Nat) < 8 from by omega, show (7:Nat) < 8 from by omega] at hc0
      go_wp2_with fail
      rw [conv8 hc0]
      go_wp2_with fail
      go_ret
      exact ⟨by rw [HU.out, flip_up n H12.out.1 H12.out.2]; rfl, HE.out⟩
theorem of_i (t i : Int) (h1 : -9223372036854775808 ≤ t ∧ t ≤ 9223372036854775807) (h2 : -9223372036854775808 ≤ i ∧ i ≤ 9223372036854775807) (w : World) : Calls Tryz.prog 66 #[.int .i64 t, .int .i64 i] w fun e w' => e = .returned (.string (num t ++ num i)) ∧ Ext w w' := by
  have H1 := Lib.hid h1
  have H2 := Lib.hid h2
  have hs1 := num_size t
  have hs2 := num_size i
  clear h1 h2
  go_enter Tryz.func66, Tryz.ntmps66
  go_wp2_with fail
  refine (kput t H1.out.1 H1.out.2 _).mono ?_
  rintro e9 w1 ⟨rfl, hE1⟩
  have HE1 := Lib.hid hE1
  clear hE1
  go_wp2_with fail
  refine (kput i H2.out.1 H2.out.2 _).mono ?_
  rintro e9 w2 ⟨rfl, hE2⟩
  have HE2 := Lib.hid hE2
  clear hE2
  go_wp2_with fail
  go_ret
  exact ⟨rfl, HE1.out.trans HE2.out⟩
/-- a text's bytes as a row -/
theorem text_bytes (s : ByteArray) (w : World) : ∃ cap w1, (convert 9 131 (.string s)).run Tryz.prog w = .ok (.slice (some ⟨w.heap.size, 0, none⟩) s.size cap) w1 ∧
    (∀ j, j < s.size → w1.cell? ⟨w.heap.size, j, none⟩ = some (.int .u8 ((s.data.toList.getD j 0).toNat : Int))) ∧ Ext w w1 :=
  ⟨_, _, Lib.run_convert_string_bytes w _ _ 5 s (u := .string) (by kernel_rfl) (by kernel_rfl) (by kernel_rfl), fun j hj => Lib.bytesWorld_cell w _ s j hj,
    ⟨by rw [Lib.bytesWorld_size]; omega, fun j hj _ => Lib.bytesWorld_at_old w _ s j hj, rfl, rfl⟩⟩
theorem B8_bound (u : Int) (i : Nat) : 0 ≤ B8 u i ∧ B8 u i < 256 := by unfold B8; omega
theorem u8_back {x : Int} (h : 0 ≤ x ∧ x < 256) : ((UInt8.ofNat x.toNat).toNat : Int) = x := by
  rw [UInt8.toNat_ofNat']; omega
theorem num_byte (n : Int) (j : Nat) (h : j < 8) : (((num n).data.toList.getD j 0).toNat : Int) = B8 (n + 9223372036854775808) (7 - j) := by
  match j, h with
  | 0, _ | 1, _ | 2, _ | 3, _ | 4, _ | 5, _ | 6, _ | 7, _ => exact u8_back (B8_bound _ _)
theorem or_up (x c : Nat) (hx : x < 72057594037927936) (hc : c < 256) : bits .or .u64 ((x : Int) * 256) (c : Int) = (x : Int) * 256 + c := by
  rw [show (x : Int) * 256 = ((x * 256 : Nat) : Int) from by omega, bits_or_u64_nat _ _ (by omega) (by omega)]
  have := Nat.two_pow_add_eq_or_of_lt (i := 8) (b := c) (by omega) x
  rw [show x * 256 = 2 ^ 8 * x from by omega, ← this]; omega
theorem take_step (u : Int) (h0 : 0 ≤ u) (h1 : u < 18446744073709551616) (j : Nat) (hj : j < 8) : bits .or .u64 (IntKind.u64.wrap (u / 2 ^ (8 * (8 - j)) * 256)) (B8 u (7 - j)) = u / 2 ^ (8 * (8 - (j + 1))) := by
  have hx : 0 ≤ u / 2 ^ (8 * (8 - j)) ∧ u / 2 ^ (8 * (8 - j)) < 72057594037927936 := by
    match j, hj with
    | 0, _ | 1, _ | 2, _ | 3, _ | 4, _ | 5, _ | 6, _ | 7, _ => simp only [Nat.reduceSub, Nat.reduceMul, Int.reducePow]; omega
  have hs : u / 2 ^ (8 * (8 - j)) * 256 + B8 u (7 - j) = u / 2 ^ (8 * (8 - (j + 1))) := by
    unfold B8
    match j, hj with
    | 0, _ | 1, _ | 2, _ | 3, _ | 4, _ | 5, _ | 6, _ | 7, _ => simp only [Nat.reduceSub, Nat.reduceMul, Nat.reduceAdd, Int.reducePow]; omega
  obtain ⟨x, hxe⟩ : ∃ x : Nat, u / 2 ^ (8 * (8 - j)) = (x : Int) := ⟨_, (Int.toNat_of_nonneg hx.1).symm⟩
  have hb := B8_bound u (7 - j)
  obtain ⟨c, hce⟩ : ∃ c : Nat, B8 u (7 - j) = (c : Int) := ⟨_, (Int.toNat_of_nonneg hb.1).symm⟩
  rw [hxe] at hx
  rw [← hs, hxe, hce, IntKind.wrap_u64, show (x : Int) * 256 % 18446744073709551616 = (x : Int) * 256 from by omega, or_up x c (by omega) (by omega)]
set_option maxRecDepth 20000 in
theorem take_i (n : Int) (h1 : -9223372036854775808 ≤ n) (h2 : n ≤ 9223372036854775807) (w : World) : Calls Tryz.prog 73 #[.string (num n)] w fun e w' => e = .returned (.int .i64 n) ∧ Ext w w' := by
  have H12 := Lib.hid (And.intro h1 h2)
  clear h1 h2
  have hs1 := num_size n
  obtain ⟨cap, w1, hcv, hcl, hE⟩ := text_bytes (num n) w
  have hcl' : ∀ j, j < 8 → w1.cell? ⟨w.heap.size, j, none⟩ = some (.int .u8 (B8 (n + 9223372036854775808) (7 - j))) := fun j hj => by rw [hcl j hj, num_byte n j hj]
  obtain ⟨b, hb⟩ : ∃ b, b = w.heap.size := ⟨_, rfl⟩
  rw [← hb, hs1] at hcv
  rw [← hb] at hcl'
  have HC := Lib.hid hcv
  have HL := Lib.hid hcl'
  have HE := Lib.hid hE
  clear hb hcv hcl hcl' hE
  obtain ⟨u, hu⟩ : ∃ u, u = n + 9223372036854775808 := ⟨_, rfl⟩
  rw [← hu] at HL
  have HU := Lib.hid hu
  clear hu
  go_enter Tryz.func73, Tryz.ntmps73
  go_wp2_with fail
  rw [HC.out]
  go_wp2_with fail
  go_loopg [3, 9] 8 (fun k p3 p9 wr => ∃ j : Nat, p9 = .int .i64 j ∧ p3 = .int .u64 (u / 2 ^ (8 * (8 - j))) ∧ j + k = 8 ∧ wr = w1)
  case atStart =>
    refine ⟨0, rfl, ?_, rfl, rfl⟩
    rw [HU.out]; have := H12.out
    simp only [Nat.reduceSub, Nat.reduceMul, Int.reducePow]
    congr 1; omega
  case round =>
    obtain ⟨j, rfl, rfl, hj, rfl⟩ := hrel
    by_cases hj8 : j < 8
    · have hc := HL.out j hj8
      have hj8' : (j : Int) < 8 := by omega
      have HS := Lib.hid (take_step u (by have := H12.out; rw [HU.out]; omega) (by have := H12.out; rw [HU.out]; omega) j hj8)
      obtain ⟨x, hx⟩ : ∃ x, x = u / 2 ^ (8 * (8 - j)) := ⟨_, rfl⟩
      rw [← hx] at HS ⊢
      obtain ⟨c, hc'⟩ : ∃ c, c = B8 u (7 - j) := ⟨_, rfl⟩
      have hbd := B8_bound u (7 - j)
      rw [← hc'] at HS hc hbd
      have HW := Lib.hid (show IntKind.u64.wrap c = c from by rw [IntKind.wrap_u64]; omega)
      clear hx hc' hbd
      go_wp2_with fail
      go_roundg (gk - 1)
      case measure => omega
      case rel =>
        refine ⟨j + 1, by simp, ?_, by omega, rfl⟩
        rw [← HS.out, HW.out]
    · have : j = 8 := by omega
      subst this
      clear hj hj8
      go_wp2_with fail
      go_ret
      refine ⟨?_, HE.out⟩
      show Ending.returned (.int .i64 (wrap64 (bits .xor .u64 u 9223372036854775808))) = _
      rw [HU.out, show ∀ x, wrap64 x = IntKind.i64.wrap x from fun x => by rw [IntKind.wrap_i64]; unfold wrap64; omega, flip_down n H12.out.1 H12.out.2]
theorem num_lo (n : Int) (s : ByteArray) : (num n ++ s).extract 0 8 = num n := ByteArray.extract_append_eq_left (by rw [num_size])
theorem num_hi (n : Int) (s : ByteArray) (k : Nat) (h : k = 8 + s.size) : (num n ++ s).extract 8 k = s := ByteArray.extract_append_eq_right (by rw [num_size]) (by rw [num_size, h])
/-- what Split answers of a key -/
theorem split_i (t i : Int) (h1 : -9223372036854775808 ≤ t ∧ t ≤ 9223372036854775807) (h2 : -9223372036854775808 ≤ i ∧ i ≤ 9223372036854775807) (w : World) : Calls Tryz.prog 49 #[.string (num t ++ num i)] w fun e w' => e = .returned (.tuple #[.int .i64 t, .int .i64 i, .bool true]) ∧ Ext w w' := by
  have H1 := Lib.hid h1
  have H2 := Lib.hid h2
  have hs1 : (num t ++ num i).size = 16 := by rw [ByteArray.size_append, num_size, num_size]
  clear h1 h2
  go_enter Tryz.func49, Tryz.ntmps49
  go_wp2_with fail
  refine wp_drawE (way [0, 1, 3, 4, 2, 5, 6, 7, 8]) (by kernel_rfl) (by kernel_rfl) (fun w1 hh hd hf hS => ?_)
  simp only [way]
  go_wp2_with (first | (refine' hl_q rfl rfl rfl (fun _ => ?_) ?_; rotate_left; (go_simp <;> (try go_bits) <;> rfl); (try simp only [Act.put, List.setIfInBounds_toArray, List.set_cons_zero, List.set_cons_succ])) | (refine' hl_rS rfl rfl rfl hS ?_ ?_; rotate_left; (intro w9 hS9; (first | have hc9 := Ext.cells hS9 | have hc9 := Keeps.cells hS9); (go_simp <;> rfl)); (try simp only [Act.put, List.setIfInBounds_toArray, List.set_cons_zero, List.set_cons_succ])) | (refine' hl_r rfl rfl rfl ?_ ?_; rotate_left; (rintro w9 (rfl | hS9); (go_simp <;> rfl); (first | have hc9 := Ext.cells hS9 | have hc9 := Keeps.cells hS9 | (try dsimp only at hS9)); (go_simp <;> rfl)); (try simp only [Act.put, List.setIfInBounds_toArray, List.set_cons_zero, List.set_cons_succ])) | (refine' hl_s rfl rfl ?_; (try simp only [Act.put, List.setIfInBounds_toArray, List.set_cons_zero, List.set_cons_succ])) | (refine hl_e rfl rfl rfl (fun K hK => ?_)) | (with_reducible refine And.intro (fun hn => ?_) ?_; (first | exact hS | exact Keeps.alloc hS _ | exact absurd hn (by rw [show needS _ _ = false from by kernel_rfl]; exact Bool.false_ne_true))) | (refine hl_done ?_) | gi_step)
  rw [num_lo]
  refine callsIn_wide.2 ((take_i t H1.out.1 H1.out.2 _).mono ?_)
  rintro e9 w2 ⟨rfl, hE2⟩
  have HE2 := Lib.hid (hS.trans hE2)
  clear hS hE2 hh hd hf
  have hS := HE2.out
  go_wp2_with (first | (refine' hl_q rfl rfl rfl (fun _ => ?_) ?_; rotate_left; (go_simp <;> (try go_bits) <;> rfl); (try simp only [Act.put, List.setIfInBounds_toArray, List.set_cons_zero, List.set_cons_succ])) | (refine' hl_rS rfl rfl rfl hS ?_ ?_; rotate_left; (intro w9 hS9; (first | have hc9 := Ext.cells hS9 | have hc9 := Keeps.cells hS9); (go_simp <;> rfl)); (try simp only [Act.put, List.setIfInBounds_toArray, List.set_cons_zero, List.set_cons_succ])) | (refine' hl_r rfl rfl rfl ?_ ?_; rotate_left; (rintro w9 (rfl | hS9); (go_simp <;> rfl); (first | have hc9 := Ext.cells hS9 | have hc9 := Keeps.cells hS9 | (try dsimp only at hS9)); (go_simp <;> rfl)); (try simp only [Act.put, List.setIfInBounds_toArray, List.set_cons_zero, List.set_cons_succ])) | (refine' hl_s rfl rfl ?_; (try simp only [Act.put, List.setIfInBounds_toArray, List.set_cons_zero, List.set_cons_succ])) | (refine hl_e rfl rfl rfl (fun K hK => ?_)) | (with_reducible refine And.intro (fun hn => ?_) ?_; (first | exact hS | exact Keeps.alloc hS _ | exact absurd hn (by rw [show needS _ _ = false from by kernel_rfl]; exact Bool.false_ne_true))) | (refine hl_done ?_) | gi_step)
  rw [num_hi t (num i) 16 (by rw [num_size])]
  refine callsIn_wide.2 ((take_i i H2.out.1 H2.out.2 _).mono ?_)
  rintro e9 w3 ⟨rfl, hE3⟩
  have HE3 := Lib.hid (HE2.out.trans hE3)
  clear hS hE3
  have hS := HE3.out
  go_wp2_with (first | (refine' hl_q rfl rfl rfl (fun _ => ?_) ?_; rotate_left; (go_simp <;> (try go_bits) <;> rfl); (try simp only [Act.put, List.setIfInBounds_toArray, List.set_cons_zero, List.set_cons_succ])) | (refine' hl_rS rfl rfl rfl hS ?_ ?_; rotate_left; (intro w9 hS9; (first | have hc9 := Ext.cells hS9 | have hc9 := Keeps.cells hS9); (go_simp <;> rfl)); (try simp only [Act.put, List.setIfInBounds_toArray, List.set_cons_zero, List.set_cons_succ])) | (refine' hl_r rfl rfl rfl ?_ ?_; rotate_left; (rintro w9 (rfl | hS9); (go_simp <;> rfl); (first | have hc9 := Ext.cells hS9 | have hc9 := Keeps.cells hS9 | (try dsimp only at hS9)); (go_simp <;> rfl)); (try simp only [Act.put, List.setIfInBounds_toArray, List.set_cons_zero, List.set_cons_succ])) | (refine' hl_s rfl rfl ?_; (try simp only [Act.put, List.setIfInBounds_toArray, List.set_cons_zero, List.set_cons_succ])) | (refine hl_e rfl rfl rfl (fun K hK => ?_)) | (with_reducible refine And.intro (fun hn => ?_) ?_; (first | exact hS | exact Keeps.alloc hS _ | exact absurd hn (by rw [show needS _ _ = false from by kernel_rfl]; exact Bool.false_ne_true))) | (refine hl_done ?_) | gi_step)
  refine bodyPost_ret (v := .tuple #[.int .i64 t, .int .i64 i, .bool true]) (by simp [results, Tryz.results49, go_sem]) rfl ?_
  exact ⟨rfl, HE3.out⟩
end Go.Proofs.YtdonmmjikcbihaaGreatDoor
