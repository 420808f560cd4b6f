/- Package vari: a number's bytes, seven bits each. -/
import Derived.Test.YtdonmmjikcbihaaGreatDoorBld
import Derived.Deep.LoopGhost
import Derived.Lib.AppendIntMem
namespace Go.Vc
/-- a number's bytes, seven bits each, the lowest first -/
def vbytes (u : Nat) : List UInt8 := if u < 128 then [UInt8.ofNat u] else UInt8.ofNat (u % 128 + 128) :: vbytes (u / 128)
termination_by u
decreasing_by omega
theorem vbytes_lo {u : Nat} (h : u < 128) : vbytes u = [UInt8.ofNat u] := by rw [vbytes, if_pos h]
theorem vbytes_hi {u : Nat} (h : ¬ u < 128) : vbytes u = UInt8.ofNat (u % 128 + 128) :: vbytes (u / 128) := by rw [vbytes, if_neg h]
theorem vbytes_len : ∀ (k u : Nat), u < 128 ^ (k + 1) → (vbytes u).length ≤ k + 1
  | 0, u, h => by rw [vbytes_lo (by omega)]; simp
  | k + 1, u, h => by
    by_cases hu : u < 128
    · rw [vbytes_lo hu]; simp
    · rw [vbytes_hi hu]
      have := vbytes_len k (u / 128) (by rw [Nat.div_lt_iff_lt_mul (by omega)]; rw [Nat.pow_succ] at h; exact h)
      simp only [List.length_cons]; omega
theorem vbytes_ne (u : Nat) : vbytes u ≠ [] := by
  by_cases hu : u < 128
  · rw [vbytes_lo hu]; simp
  · rw [vbytes_hi hu]; simp
/-- a number with its sign in the lowest bit -/
def zig (n : Int) : Nat := if n < 0 then (-2 * n - 1).toNat else (2 * n).toNat
end Go.Vc
namespace Go.Proofs.YtdonmmjikcbihaaGreatDoor
open Go.RowKit Go.Proofs Go.Vc
attribute [local irreducible] Calls CallsIn Code.wp Code.wpIn
theorem foldl_push (l : List UInt8) : ∀ r : ByteArray, (l.map fun b => (b.toNat : Int)).foldl (fun r n => r.push (UInt8.ofNat n.toNat)) r = ⟨r.data ++ l.toArray⟩ := by
  induction l with
  | nil => intro r; simp
  | cons a t ih =>
    intro r
    simp only [List.map_cons, List.foldl_cons]
    rw [ih]
    show ByteArray.mk _ = ByteArray.mk _
    congr 1
    simp [ByteArray.push]
theorem row_form {w : World} {base size n : Nat} {e : TypeId} {v : Value} {xs : List Value} (h : w.ownsRow base e size v n xs) (hn : 0 < n) : ∃ g cap, v = .slice (some ⟨g, 0, none⟩) n cap := by
  rcases h.2 with ⟨_, h0⟩ | ⟨g, cap, cur, hv, _⟩
  · omega
  · exact ⟨g, cap, hv⟩
/-- the text of an own row of bytes -/
theorem row_text {B : Nat} {v : Value} {l : List UInt8} {w : World} (h : w.ownsRow B TB 1 v l.length (Lib.byteCells l)) (h0 : l ≠ []) : (convert 131 9 v).run Tryz.prog w = .ok (.string ⟨l.toArray⟩) w := by
  obtain ⟨g, cap, rfl⟩ := row_form h (by have : l.length ≠ 0 := by simpa using h0
                                         omega)
  rw [run_convert_bytes_string w _ _ TB _ l.length cap (by kernel_rfl) (by kernel_rfl) (by kernel_rfl), run_bytesToString w _ l.length cap (l.map fun b => (b.toNat : Int))]
  · rw [foldl_push]; simp
  · have := run_loadCells_list (P := Tryz.prog) (w := w) ⟨g, 0, none⟩ (Lib.byteCells l) (h.cells rfl)
    rw [Lib.byteCells_length] at this
    simpa [Lib.byteCells, Function.comp_def] using this
theorem or_128' : ∀ a : Fin 256, bits .or .u8 ((a.val : Nat) : Int) 128 = ((a.val % 128 + 128 : Nat) : Int) := by decide +kernel
theorem or_128 (u : Nat) : bits .or .u8 ((u : Int) % 256) 128 = ((u % 128 + 128 : Nat) : Int) := by
  have := or_128' ⟨u % 256, Nat.mod_lt _ (by omega)⟩
  simp only at this
  rw [show (u : Int) % 256 = ((u % 256 : Nat) : Int) from by omega, this]; omega
theorem ext_grown {w wr w2 : World} {e : TypeId} {size n : Nat} {v : Value} {xs : List Value} {o : Obj} (h : Ext w wr) (hr : wr.ownsRow w.heap.size e size v n xs) (hg : (wr.alloc o).grownBy w2 v.ownBlock) : Ext w w2 := by
  have h1 : Ext w (wr.alloc o) := Keeps.alloc h o
  refine ⟨Nat.le_trans h1.size hg.size, fun b hb _ => ?_, Ost.trans h1.ost ⟨hg.os, hg.output⟩⟩
  rw [hg.block b (Nat.lt_of_lt_of_le hb h1.size) (fun e => absurd (hr.lt b e.symm).1 (Nat.not_le_of_lt hb))]
  exact Ext.same h1 hb
theorem byteCells_snoc (xs : List UInt8) (n : Nat) (h : n < 256) : Lib.byteCells (xs ++ [UInt8.ofNat n]) = Lib.byteCells xs ++ [.int .u8 (n : Int)] := by
  rw [Lib.byteCells_append]
  congr 1
  simp only [Lib.byteCells, List.map_cons, List.map_nil]
  rw [UInt8.toNat_ofNat', Nat.mod_eq_of_lt (by omega)]
set_option maxRecDepth 20000 in
theorem vput (u0 : Nat) (hu : u0 < 18446744073709551616) (w : World) : Calls Tryz.prog 141 #[.int .u64 u0] w fun e w' => e = .returned (.string ⟨(vbytes u0).toArray⟩) ∧ Ext w w' := by
  obtain ⟨i0, hi, hz0, hz1, hz2⟩ := info_parts (show (Tryz.prog.info? TB).map (fun i => (i.zero, i.size, i.bytes)) = some (some (.int .u8 0), 1, 1) from by kernel_rfl)
  have HI := Lib.hid (And.intro hi (And.intro hz0 (And.intro hz1 hz2)))
  clear hi hz0 hz1 hz2
  have HL := Lib.hid (vbytes_len 9 u0 (by omega))
  go_enter Tryz.func141, Tryz.ntmps141
  go_wp2_with fail
  go_loopg [0, 3] u0 (fun k p0 p3 wr => ∃ (u : Nat) (xs : List UInt8), p0 = .int .u64 u ∧ u ≤ k ∧ u < 18446744073709551616 ∧ xs ++ vbytes u = vbytes u0 ∧ wr.ownsRow w.heap.size TB 1 p3 xs.length (Lib.byteCells xs) ∧ Ext w wr)
  case atStart => exact ⟨u0, [], rfl, Nat.le_refl _, hu, rfl, World.ownsRow_nil _ _ _ _, Keeps.refl _ _⟩
  case round =>
    obtain ⟨u, xs, rfl, hk, hub, hx, hown, hE⟩ := hrel
    have hxl : xs.length ≤ 10 := by have := HL.out; rw [← hx, List.length_append] at this; omega
    have HX := Lib.hid (And.intro hx (And.intro hown (And.intro hE (And.intro hxl hub))))
    clear hx hown hE hxl
    have hcl : ∀ x : Int, ∀ j u', [Value.int .u8 x][j]? = some u' → (wr.alloc (.cells #[.int .u8 x] TB)).cell? (Addr.add ⟨wr.heap.size, 0, none⟩ j) = some u' := by
      intro x j u' hj
      match j, hj with
      | 0, hj =>
        simp only [List.getElem?_cons_zero, Option.some.injEq] at hj; subst hj
        rw [Addr.add_zero', blk_cell (World.alloc_heap_new wr _)]; rfl
    have HC := Lib.hid hcl
    clear hcl
    have hsz : w.heap.size ≤ wr.heap.size := HX.out.2.2.1.size
    by_cases h128 : u < 128
    · have h1 : (u : Int) < 128 := by omega
      go_wp2_with (at_builtin; refine wpList_append_own _ rfl _ _ 131 rfl w.heap.size TB i0 (.int .u8 0) 1 1 (by kernel_rfl) HI.out.1 HI.out.2.1 HI.out.2.2.1 HI.out.2.2.2 rfl (by decide) _ _ _ rfl (HX.out.2.1.alloc _) ⟨wr.heap.size, 0, none⟩ 1 1 [_] rfl rfl (HC.out _) ?c2 ?c3 ?c4 ?c5 ?_)
      case c2 => intro u' hu'; simp at hu'; subst hu'; rfl
      case c3 => unfold maxLen; have := HX.out.2.2.2.1; omega
      case c4 => have := HX.out.2.2.2.1; omega
      case c5 => have := ((Keeps.refl Non wr).alloc (.cells #[.int .u8 0] TB)).size; simp only [World.alloc, Array.size_push] at this ⊢; omega
      intro v' w2 hown' hgrow _
      have HP := Lib.hid (And.intro hown' hgrow)
      clear hown' hgrow
      have hf : vbytes u0 = xs ++ [UInt8.ofNat u] := by rw [← HX.out.1, vbytes_lo h128]
      have hrow : w2.ownsRow w.heap.size TB 1 v' (vbytes u0).length (Lib.byteCells (vbytes u0)) := by
        have := HP.out.1
        rw [hf, byteCells_snoc xs _ (by omega), List.length_append]
        exact this
      have HR := Lib.hid (row_text hrow (vbytes_ne u0))
      obtain ⟨g, cap, rfl⟩ := row_form HP.out.1 (by omega)
      clear hf hrow
      go_wp2_with fail
      rw [HR.out]
      go_wp2_with fail
      go_ret
      exact ⟨rfl, ext_grown HX.out.2.2.1 HX.out.2.1 HP.out.2⟩
    · have h1 : (128 : Int) ≤ u := by omega
      go_wp2_with (at_builtin; refine wpList_append_own _ rfl _ _ 131 rfl w.heap.size TB i0 (.int .u8 0) 1 1 (by kernel_rfl) HI.out.1 HI.out.2.1 HI.out.2.2.1 HI.out.2.2.2 rfl (by decide) _ _ _ rfl (HX.out.2.1.alloc _) ⟨wr.heap.size, 0, none⟩ 1 1 [_] rfl rfl (HC.out _) ?c2 ?c3 ?c4 ?c5 ?_)
      case c2 => intro u' hu'; simp at hu'; subst hu'; rfl
      case c3 => unfold maxLen; have := HX.out.2.2.2.1; omega
      case c4 => have := HX.out.2.2.2.1; omega
      case c5 => have := ((Keeps.refl Non wr).alloc (.cells #[.int .u8 0] TB)).size; simp only [World.alloc, Array.size_push] at this ⊢; omega
      intro v' w2 hown' hgrow _
      have HP := Lib.hid (And.intro hown' hgrow)
      clear hown' hgrow
      go_wp2_with fail
      go_roundg (u / 128)
      case measure => omega
      case rel => 
        refine ⟨u / 128, xs ++ [UInt8.ofNat (u % 128 + 128)], ?_, Nat.le_refl _, by omega, ?_, ?_, ?_⟩
        · congr 1
        · rw [List.append_assoc]; rw [← HX.out.1, vbytes_hi h128]; rfl
        · have := HP.out.1
          rw [or_128] at this
          rw [byteCells_snoc xs _ (by omega), List.length_append]
          exact this
        · exact ext_grown HX.out.2.2.1 HX.out.2.1 HP.out.2
theorem xor_ones (a : Nat) (h : a < 2 ^ 64) : a ^^^ (2 ^ 64 - 1) = 2 ^ 64 - (a + 1) := by
  apply Nat.eq_of_testBit_eq
  intro i
  rw [Nat.testBit_xor, Nat.testBit_two_pow_sub_succ h, Nat.testBit_two_pow_sub_one]
  by_cases hi : i < 64
  · simp [hi]
  · have : a.testBit i = false := Nat.testBit_lt_two_pow (Nat.lt_of_lt_of_le h (Nat.pow_le_pow_right (by omega) (by omega)))
    simp [hi, this]
theorem zig_bits (n : Int) (h1 : -9223372036854775808 ≤ n) (h2 : n ≤ 9223372036854775807) :
    bits BinOp.xor IntKind.u64 (IntKind.u64.wrap (IntKind.u64.wrap n * 2)) (IntKind.u64.wrap (n / 9223372036854775808)) = (zig n : Int) := by
  by_cases hn : n < 0
  · have e1 : n / 9223372036854775808 = -1 := by omega
    have e2 : IntKind.u64.wrap (-1) = ((2 ^ 64 - 1 : Nat) : Int) := by rw [IntKind.wrap_u64]; rfl
    have e3 : IntKind.u64.wrap (IntKind.u64.wrap n * 2) = (((2 * n + 18446744073709551616).toNat : Nat) : Int) := by
      rw [IntKind.wrap_u64, IntKind.wrap_u64]; omega
    rw [e1, e2, e3, bits_xor_u64_nat _ _ (by omega) (by omega), xor_ones _ (by omega), zig, if_pos hn]
    omega
  · have e1 : n / 9223372036854775808 = 0 := by omega
    have e2 : IntKind.u64.wrap 0 = ((0 : Nat) : Int) := by rw [IntKind.wrap_u64]; rfl
    have e3 : IntKind.u64.wrap (IntKind.u64.wrap n * 2) = (((2 * n).toNat : Nat) : Int) := by
      rw [IntKind.wrap_u64, IntKind.wrap_u64]; omega
    rw [e1, e2, e3, bits_xor_u64_nat _ _ (by omega) (by omega), Nat.xor_zero, zig, if_neg hn]
theorem zig_lt (n : Int) (h1 : -9223372036854775808 ≤ n) (h2 : n ≤ 9223372036854775807) : zig n < 18446744073709551616 := by
  unfold zig; split <;> omega
/-- Put of a number that is not below 0 -/
theorem vPut (n : Nat) (hn : n ≤ 9223372036854775807) (w : World) : Calls Tryz.prog 136 #[.int .i64 n] w fun e w' => e = .returned (.string ⟨(vbytes n).toArray⟩) ∧ Ext w w' := by
  have h1 : (0 : Int) ≤ n := by omega
  have h2 : (n : Int) ≤ 9223372036854775807 := by omega
  go_enter Tryz.func136, Tryz.ntmps136
  go_wp2_with fail
  refine (vput n (by omega) _).mono ?_
  rintro e9 w1 ⟨rfl, hE⟩
  have HE := Lib.hid hE
  clear hE
  go_wp2_with fail
  go_ret
  exact ⟨rfl, HE.out⟩
theorem vPutSigned (n : Int) (h1 : -9223372036854775808 ≤ n) (h2 : n ≤ 9223372036854775807) (w : World) : Calls Tryz.prog 137 #[.int .i64 n] w fun e w' => e = .returned (.string ⟨(vbytes (zig n)).toArray⟩) ∧ Ext w w' := by
  go_enter Tryz.func137, Tryz.ntmps137
  go_wp2_with fail
  rw [zig_bits n h1 h2]
  refine (vput (zig n) (zig_lt n h1 h2) _).mono ?_
  rintro e9 w1 ⟨rfl, hE⟩
  have HE := Lib.hid hE
  clear hE
  go_wp2_with fail
  go_ret
  exact ⟨rfl, HE.out⟩
end Go.Proofs.YtdonmmjikcbihaaGreatDoor
