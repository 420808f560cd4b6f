/- Parts of the proof, one behind the other: Vari, Pack, Keyed, Code, Sls, Eks, Sorted, KeyOrd, Write, Rank, EntP, EntR, Slf, Avlasi. No condition beyond each theorem's own. -/
import Derived.Deep.LoopGhost
import Derived.Lib.AppendIntMem
import Derived.Test.YtdonmmjikcbihaaGreatDoorRows
import Derived.Lib.Hide
import Derived.Lib.ConvBytes
import Derived.Lib.SplitLaws
import Derived.Test.YtdonmmjikcbihaaGreatDoorGAA
/- Package vari: a number's bytes, seven bits each. -/
namespace Go.Vc
/-- a number's bytes, seven bits each, the lowest first -/
def vbytes (u : Nat) : List UInt8 := if u < 128 then [UInt8.ofNat u] else UInt8.ofNat (u % 128 + 128) :: vbytes (u / 128)
termination_by u
decreasing_by omega
theorem vbytes_lo {u : Nat} (h : u < 128) : vbytes u = [UInt8.ofNat u] := by rw [vbytes, if_pos h]
theorem vbytes_hi {u : Nat} (h : ¬ u < 128) : vbytes u = UInt8.ofNat (u % 128 + 128) :: vbytes (u / 128) := by rw [vbytes, if_neg h]
theorem vbytes_len : ∀ (k u : Nat), u < 128 ^ (k + 1) → (vbytes u).length ≤ k + 1
  | 0, u, h => by rw [vbytes_lo (by omega)]; simp
  | k + 1, u, h => by
    by_cases hu : u < 128
    · rw [vbytes_lo hu]; simp
    · rw [vbytes_hi hu]
      have := vbytes_len k (u / 128) (by rw [Nat.div_lt_iff_lt_mul (by omega)]; rw [Nat.pow_succ] at h; exact h)
      simp only [List.length_cons]; omega
theorem vbytes_ne (u : Nat) : vbytes u ≠ [] := by
  by_cases hu : u < 128
  · rw [vbytes_lo hu]; simp
  · rw [vbytes_hi hu]; simp
/-- a number with its sign in the lowest bit -/
def zig (n : Int) : Nat := if n < 0 then (-2 * n - 1).toNat else (2 * n).toNat
end Go.Vc
namespace Go.Proofs.YtdonmmjikcbihaaGreatDoor
open Go.RowKit Go.Proofs Go.Vc
attribute [local irreducible] Calls CallsIn Code.wp Code.wpIn
theorem foldl_push (l : List UInt8) : ∀ r : ByteArray, (l.map fun b => (b.toNat : Int)).foldl (fun r n => r.push (UInt8.ofNat n.toNat)) r = ⟨r.data ++ l.toArray⟩ := by
  induction l with
  | nil => intro r; simp
  | cons a t ih =>
    intro r
    simp only [List.map_cons, List.foldl_cons]
    rw [ih]
    show ByteArray.mk _ = ByteArray.mk _
    congr 1
    simp [ByteArray.push]
theorem row_form {w : World} {base size n : Nat} {e : TypeId} {v : Value} {xs : List Value} (h : w.ownsRow base e size v n xs) (hn : 0 < n) : ∃ g cap, v = .slice (some ⟨g, 0, none⟩) n cap := by
  rcases h.2 with ⟨_, h0⟩ | ⟨g, cap, cur, hv, _⟩
  · omega
  · exact ⟨g, cap, hv⟩
/-- the text of an own row of bytes -/
theorem row_text {B : Nat} {v : Value} {l : List UInt8} {w : World} (h : w.ownsRow B TB 1 v l.length (Lib.byteCells l)) (h0 : l ≠ []) : (convert 131 9 v).run Tryz.prog w = .ok (.string ⟨l.toArray⟩) w := by
  obtain ⟨g, cap, rfl⟩ := row_form h (by have : l.length ≠ 0 := by simpa using h0
                                         omega)
  rw [run_convert_bytes_string w _ _ TB _ l.length cap (by kernel_rfl) (by kernel_rfl) (by kernel_rfl), run_bytesToString w _ l.length cap (l.map fun b => (b.toNat : Int))]
  · rw [foldl_push]; simp
  · have := run_loadCells_list (P := Tryz.prog) (w := w) ⟨g, 0, none⟩ (Lib.byteCells l) (h.cells rfl)
    rw [Lib.byteCells_length] at this
    simpa [Lib.byteCells, Function.comp_def] using this
theorem or_128' : ∀ a : Fin 256, bits .or .u8 ((a.val : Nat) : Int) 128 = ((a.val % 128 + 128 : Nat) : Int) := by decide +kernel
theorem or_128 (u : Nat) : bits .or .u8 ((u : Int) % 256) 128 = ((u % 128 + 128 : Nat) : Int) := by
  have := or_128' ⟨u % 256, Nat.mod_lt _ (by omega)⟩
  simp only at this
  rw [show (u : Int) % 256 = ((u % 256 : Nat) : Int) from by omega, this]; omega
theorem ext_grown {w wr w2 : World} {e : TypeId} {size n : Nat} {v : Value} {xs : List Value} {o : Obj} (h : Ext w wr) (hr : wr.ownsRow w.heap.size e size v n xs) (hg : (wr.alloc o).grownBy w2 v.ownBlock) : Ext w w2 := by
  have h1 : Ext w (wr.alloc o) := Keeps.alloc h o
  refine ⟨Nat.le_trans h1.size hg.size, fun b hb _ => ?_, Ost.trans h1.ost ⟨hg.os, hg.output⟩⟩
  rw [hg.block b (Nat.lt_of_lt_of_le hb h1.size) (fun e => absurd (hr.lt b e.symm).1 (Nat.not_le_of_lt hb))]
  exact Ext.same h1 hb
theorem byteCells_snoc (xs : List UInt8) (n : Nat) (h : n < 256) : Lib.byteCells (xs ++ [UInt8.ofNat n]) = Lib.byteCells xs ++ [.int .u8 (n : Int)] := by
  rw [Lib.byteCells_append]
  congr 1
  simp only [Lib.byteCells, List.map_cons, List.map_nil]
  rw [UInt8.toNat_ofNat', Nat.mod_eq_of_lt (by omega)]
set_option maxRecDepth 20000 in
theorem vput (u0 : Nat) (hu : u0 < 18446744073709551616) (w : World) : Calls Tryz.prog 141 #[.int .u64 u0] w fun e w' => e = .returned (.string ⟨(vbytes u0).toArray⟩) ∧ Ext w w' := by
  obtain ⟨i0, hi, hz0, hz1, hz2⟩ := info_parts (show (Tryz.prog.info? TB).map (fun i => (i.zero, i.size, i.bytes)) = some (some (.int .u8 0), 1, 1) from by kernel_rfl)
  have HI := Lib.hid (And.intro hi (And.intro hz0 (And.intro hz1 hz2)))
  clear hi hz0 hz1 hz2
  have HL := Lib.hid (vbytes_len 9 u0 (by omega))
  go_enter Tryz.func141, Tryz.ntmps141
  go_wp2_with fail
  go_loopg [0, 3] u0 (fun k p0 p3 wr => ∃ (u : Nat) (xs : List UInt8), p0 = .int .u64 u ∧ u ≤ k ∧ u < 18446744073709551616 ∧ xs ++ vbytes u = vbytes u0 ∧ wr.ownsRow w.heap.size TB 1 p3 xs.length (Lib.byteCells xs) ∧ Ext w wr)
  case atStart => exact ⟨u0, [], rfl, Nat.le_refl _, hu, rfl, World.ownsRow_nil _ _ _ _, Keeps.refl _ _⟩
  case round =>
    obtain ⟨u, xs, rfl, hk, hub, hx, hown, hE⟩ := hrel
    have hxl : xs.length ≤ 10 := by have := HL.out; rw [← hx, List.length_append] at this; omega
    have HX := Lib.hid (And.intro hx (And.intro hown (And.intro hE (And.intro hxl hub))))
    clear hx hown hE hxl
    have hcl : ∀ x : Int, ∀ j u', [Value.int .u8 x][j]? = some u' → (wr.alloc (.cells #[.int .u8 x] TB)).cell? (Addr.add ⟨wr.heap.size, 0, none⟩ j) = some u' := by
      intro x j u' hj
      match j, hj with
      | 0, hj =>
        simp only [List.getElem?_cons_zero, Option.some.injEq] at hj; subst hj
        rw [Addr.add_zero', blk_cell (World.alloc_heap_new wr _)]; rfl
    have HC := Lib.hid hcl
    clear hcl
    have hsz : w.heap.size ≤ wr.heap.size := HX.out.2.2.1.size
    by_cases h128 : u < 128
    · have h1 : (u : Int) < 128 := by omega
      go_wp2_with (at_builtin; refine wpList_append_own _ rfl _ _ 131 rfl w.heap.size TB i0 (.int .u8 0) 1 1 (by kernel_rfl) HI.out.1 HI.out.2.1 HI.out.2.2.1 HI.out.2.2.2 rfl (by decide) _ _ _ rfl (HX.out.2.1.alloc _) ⟨wr.heap.size, 0, none⟩ 1 1 [_] rfl rfl (HC.out _) ?c2 ?c3 ?c4 ?c5 ?_)
      case c2 => intro u' hu'; simp at hu'; subst hu'; rfl
      case c3 => unfold maxLen; have := HX.out.2.2.2.1; omega
      case c4 => have := HX.out.2.2.2.1; omega
      case c5 => have := ((Keeps.refl Non wr).alloc (.cells #[.int .u8 0] TB)).size; simp only [World.alloc, Array.size_push] at this ⊢; omega
      intro v' w2 hown' hgrow _
      have HP := Lib.hid (And.intro hown' hgrow)
      clear hown' hgrow
      have hf : vbytes u0 = xs ++ [UInt8.ofNat u] := by rw [← HX.out.1, vbytes_lo h128]
      have hrow : w2.ownsRow w.heap.size TB 1 v' (vbytes u0).length (Lib.byteCells (vbytes u0)) := by
        have := HP.out.1
        rw [hf, byteCells_snoc xs _ (by omega), List.length_append]
        exact this
      have HR := Lib.hid (row_text hrow (vbytes_ne u0))
      obtain ⟨g, cap, rfl⟩ := row_form HP.out.1 (by omega)
      clear hf hrow
      go_wp2_with fail
      rw [HR.out]
      go_wp2_with fail
      go_ret
      exact ⟨rfl, ext_grown HX.out.2.2.1 HX.out.2.1 HP.out.2⟩
    · have h1 : (128 : Int) ≤ u := by omega
      go_wp2_with (at_builtin; refine wpList_append_own _ rfl _ _ 131 rfl w.heap.size TB i0 (.int .u8 0) 1 1 (by kernel_rfl) HI.out.1 HI.out.2.1 HI.out.2.2.1 HI.out.2.2.2 rfl (by decide) _ _ _ rfl (HX.out.2.1.alloc _) ⟨wr.heap.size, 0, none⟩ 1 1 [_] rfl rfl (HC.out _) ?c2 ?c3 ?c4 ?c5 ?_)
      case c2 => intro u' hu'; simp at hu'; subst hu'; rfl
      case c3 => unfold maxLen; have := HX.out.2.2.2.1; omega
      case c4 => have := HX.out.2.2.2.1; omega
      case c5 => have := ((Keeps.refl Non wr).alloc (.cells #[.int .u8 0] TB)).size; simp only [World.alloc, Array.size_push] at this ⊢; omega
      intro v' w2 hown' hgrow _
      have HP := Lib.hid (And.intro hown' hgrow)
      clear hown' hgrow
      go_wp2_with fail
      go_roundg (u / 128)
      case measure => omega
      case rel => 
        refine ⟨u / 128, xs ++ [UInt8.ofNat (u % 128 + 128)], ?_, Nat.le_refl _, by omega, ?_, ?_, ?_⟩
        · congr 1
        · rw [List.append_assoc]; rw [← HX.out.1, vbytes_hi h128]; rfl
        · have := HP.out.1
          rw [or_128] at this
          rw [byteCells_snoc xs _ (by omega), List.length_append]
          exact this
        · exact ext_grown HX.out.2.2.1 HX.out.2.1 HP.out.2
theorem xor_ones (a : Nat) (h : a < 2 ^ 64) : a ^^^ (2 ^ 64 - 1) = 2 ^ 64 - (a + 1) := by
  apply Nat.eq_of_testBit_eq
  intro i
  rw [Nat.testBit_xor, Nat.testBit_two_pow_sub_succ h, Nat.testBit_two_pow_sub_one]
  by_cases hi : i < 64
  · simp [hi]
  · have : a.testBit i = false := Nat.testBit_lt_two_pow (Nat.lt_of_lt_of_le h (Nat.pow_le_pow_right (by omega) (by omega)))
    simp [hi, this]
theorem zig_bits (n : Int) (h1 : -9223372036854775808 ≤ n) (h2 : n ≤ 9223372036854775807) :
    bits BinOp.xor IntKind.u64 (IntKind.u64.wrap (IntKind.u64.wrap n * 2)) (IntKind.u64.wrap (n / 9223372036854775808)) = (zig n : Int) := by
  by_cases hn : n < 0
  · have e1 : n / 9223372036854775808 = -1 := by omega
    have e2 : IntKind.u64.wrap (-1) = ((2 ^ 64 - 1 : Nat) : Int) := by rw [IntKind.wrap_u64]; rfl
    have e3 : IntKind.u64.wrap (IntKind.u64.wrap n * 2) = (((2 * n + 18446744073709551616).toNat : Nat) : Int) := by
      rw [IntKind.wrap_u64, IntKind.wrap_u64]; omega
    rw [e1, e2, e3, bits_xor_u64_nat _ _ (by omega) (by omega), xor_ones _ (by omega), zig, if_pos hn]
    omega
  · have e1 : n / 9223372036854775808 = 0 := by omega
    have e2 : IntKind.u64.wrap 0 = ((0 : Nat) : Int) := by rw [IntKind.wrap_u64]; rfl
    have e3 : IntKind.u64.wrap (IntKind.u64.wrap n * 2) = (((2 * n).toNat : Nat) : Int) := by
      rw [IntKind.wrap_u64, IntKind.wrap_u64]; omega
    rw [e1, e2, e3, bits_xor_u64_nat _ _ (by omega) (by omega), Nat.xor_zero, zig, if_neg hn]
theorem zig_lt (n : Int) (h1 : -9223372036854775808 ≤ n) (h2 : n ≤ 9223372036854775807) : zig n < 18446744073709551616 := by
  unfold zig; split <;> omega
/-- Put of a number that is not below 0 -/
theorem vPut (n : Nat) (hn : n ≤ 9223372036854775807) (w : World) : Calls Tryz.prog 136 #[.int .i64 n] w fun e w' => e = .returned (.string ⟨(vbytes n).toArray⟩) ∧ Ext w w' := by
  have h1 : (0 : Int) ≤ n := by omega
  have h2 : (n : Int) ≤ 9223372036854775807 := by omega
  go_enter Tryz.func136, Tryz.ntmps136
  go_wp2_with fail
  refine (vput n (by omega) _).mono ?_
  rintro e9 w1 ⟨rfl, hE⟩
  have HE := Lib.hid hE
  clear hE
  go_wp2_with fail
  go_ret
  exact ⟨rfl, HE.out⟩
theorem vPutSigned (n : Int) (h1 : -9223372036854775808 ≤ n) (h2 : n ≤ 9223372036854775807) (w : World) : Calls Tryz.prog 137 #[.int .i64 n] w fun e w' => e = .returned (.string ⟨(vbytes (zig n)).toArray⟩) ∧ Ext w w' := by
  go_enter Tryz.func137, Tryz.ntmps137
  go_wp2_with fail
  rw [zig_bits n h1 h2]
  refine (vput (zig n) (zig_lt n h1 h2) _).mono ?_
  rintro e9 w1 ⟨rfl, hE⟩
  have HE := Lib.hid hE
  clear hE
  go_wp2_with fail
  go_ret
  exact ⟨rfl, HE.out⟩
end Go.Proofs.YtdonmmjikcbihaaGreatDoor
/- Package pack: the writer's parts. -/
namespace Go.Proofs.YtdonmmjikcbihaaGreatDoor
open Go.RowKit Go.Proofs Go.Vc
attribute [local irreducible] Calls CallsIn Code.wp Code.wpIn
theorem Fresh.of_ext {B b : Nat} {w w' : World} (h : Ext w w') : Fresh B b w w' := ⟨h.size, fun _ hb _ => Ext.same h hb, h.ost⟩
theorem num_b (B b : Nat) (l : List UInt8) (n : Nat) (hn : n ≤ 9223372036854775807) (w : World) (h : Wr B b l w) (hlen : l.length ≤ 100000) :
    Calls Tryz.prog 126 #[.pointer (some ⟨b, 0, none⟩), .int .i64 n] w fun e w' => e = .returned (.tuple #[]) ∧ Wr B b (l ++ vbytes n) w' ∧ Fresh B b w w' := by
  have H := Lib.hid (And.intro h hlen)
  have HV := Lib.hid (vbytes_len 9 n (by omega))
  clear h hlen
  go_enter Tryz.func126, Tryz.ntmps126
  go_wp2_with fail
  refine (vPut n hn _).mono ?_
  rintro e9 w1 ⟨rfl, hE⟩
  have HE := Lib.hid hE
  clear hE
  go_wp2_with fail
  refine (put_b B b l (vbytes n) _ (H.out.1.ext HE.out) (by have := HV.out; have := H.out.2; omega)).mono ?_
  rintro e9 w2 ⟨rfl, hW, hF⟩
  have HW := Lib.hid (And.intro hW ((Fresh.of_ext HE.out).trans hF))
  clear hW hF
  go_wp2_with fail
  go_end0
  exact ⟨rfl, HW.out⟩
theorem signed_b (B b : Nat) (l : List UInt8) (n : Int) (h1 : -9223372036854775808 ≤ n) (h2 : n ≤ 9223372036854775807) (w : World) (h : Wr B b l w) (hlen : l.length ≤ 100000) :
    Calls Tryz.prog 128 #[.pointer (some ⟨b, 0, none⟩), .int .i64 n] w fun e w' => e = .returned (.tuple #[]) ∧ Wr B b (l ++ vbytes (zig n)) w' ∧ Fresh B b w w' := by
  have H := Lib.hid (And.intro h hlen)
  have HV := Lib.hid (vbytes_len 9 (zig n) (by have := zig_lt n h1 h2; omega))
  have HN := Lib.hid (And.intro h1 h2)
  clear h hlen h1 h2
  go_enter Tryz.func128, Tryz.ntmps128
  go_wp2_with fail
  refine (vPutSigned n HN.out.1 HN.out.2 _).mono ?_
  rintro e9 w1 ⟨rfl, hE⟩
  have HE := Lib.hid hE
  clear hE
  go_wp2_with fail
  refine (put_b B b l (vbytes (zig n)) _ (H.out.1.ext HE.out) (by have := HV.out; have := H.out.2; omega)).mono ?_
  rintro e9 w2 ⟨rfl, hW, hF⟩
  have HW := Lib.hid (And.intro hW ((Fresh.of_ext HE.out).trans hF))
  clear hW hF
  go_wp2_with fail
  go_end0
  exact ⟨rfl, HW.out⟩
theorem flag_b (B b : Nat) (l : List UInt8) (f : Bool) (w : World) (h : Wr B b l w) (hlen : l.length ≤ 100000) :
    Calls Tryz.prog 129 #[.pointer (some ⟨b, 0, none⟩), .bool f] w fun e w' => e = .returned (.tuple #[]) ∧ Wr B b (l ++ [if f then 1 else 0]) w' ∧ Fresh B b w w' := by
  have H := Lib.hid (And.intro h hlen)
  clear h hlen
  cases f
  · go_enter Tryz.func129, Tryz.ntmps129
    go_wp2_with fail
    refine (put_b B b l [0] _ H.out.1 (by have := H.out.2; simp; omega)).mono ?_
    rintro e9 w2 ⟨rfl, hW⟩
    have HW := Lib.hid hW
    clear hW
    go_wp2_with fail
    go_end0
    exact ⟨rfl, HW.out⟩
  · go_enter Tryz.func129, Tryz.ntmps129
    go_wp2_with fail
    refine (put_b B b l [1] _ H.out.1 (by have := H.out.2; simp; omega)).mono ?_
    rintro e9 w2 ⟨rfl, hW⟩
    have HW := Lib.hid hW
    clear hW
    go_wp2_with fail
    go_end0
    exact ⟨rfl, HW.out⟩
theorem text_b (B b : Nat) (l : List UInt8) (s : ByteArray) (hs : s.size ≤ 1000) (w : World) (h : Wr B b l w) (hlen : l.length ≤ 100000) :
    Calls Tryz.prog 127 #[.pointer (some ⟨b, 0, none⟩), .string s] w fun e w' => e = .returned (.tuple #[]) ∧ Wr B b (l ++ (vbytes s.size ++ s.data.toList)) w' ∧ Fresh B b w w' := by
  have H := Lib.hid (And.intro h hlen)
  have hv : (vbytes s.size).length ≤ 10 := vbytes_len 9 s.size (by omega)
  have hvs : (⟨(vbytes s.size).toArray⟩ : ByteArray).size ≤ 10 := by rw [size_mk]; exact hv
  clear h hlen
  go_enter Tryz.func127, Tryz.ntmps127
  go_wp2_with fail
  refine (vPut s.size (by omega) _).mono ?_
  rintro e9 w1 ⟨rfl, hE⟩
  have HE := Lib.hid hE
  clear hE
  go_wp2_with fail
  have hcat : (⟨(vbytes s.size).toArray⟩ : ByteArray) ++ s = ⟨(vbytes s.size ++ s.data.toList).toArray⟩ := by
    apply ByteArray.ext; simp [ByteArray.data_append]
  rw [hcat]
  have HV := Lib.hid hv
  refine (put_b B b l (vbytes s.size ++ s.data.toList) _ (H.out.1.ext HE.out) (by have := HV.out; have := H.out.2; rw [List.length_append, size_list]; omega)).mono ?_
  rintro e9 w2 ⟨rfl, hW, hF⟩
  have HW := Lib.hid (And.intro hW ((Fresh.of_ext HE.out).trans hF))
  clear hW hF hcat hv hvs
  go_wp2_with fail
  go_end0
  exact ⟨rfl, HW.out⟩
end Go.Proofs.YtdonmmjikcbihaaGreatDoor
/- Package keyed: numbers as bytes whose order is theirs; keys. -/
namespace Go.Proofs.YtdonmmjikcbihaaGreatDoor
open Go.RowKit Go.Proofs Go.Vc
attribute [local irreducible] Calls CallsIn Code.wp Code.wpIn
def B8 (u : Int) (i : Nat) : Int := u / 2 ^ (8 * i) % 256
def byte8 (u : Int) (j i : Nat) : Value := .int .u8 (if i < j then B8 u i else 0)
def cells8 (u : Int) (j : Nat) : Array Value := #[byte8 u j 7, byte8 u j 6, byte8 u j 5, byte8 u j 4, byte8 u j 3, byte8 u j 2, byte8 u j 1, byte8 u j 0]
theorem cells8_step (u : Int) (j : Nat) (h : j < 8) : (cells8 u j).setIfInBounds (7 - j) (.int .u8 (u / 2 ^ (8 * j) % 256)) = cells8 u (j + 1) := by
  match j, h with
  | 0, _ | 1, _ | 2, _ | 3, _ | 4, _ | 5, _ | 6, _ | 7, _ => simp [cells8, byte8, B8]
theorem cells8_some (u : Int) (j : Nat) (i : Nat) : ∃ x, (cells8 u j)[7 - i]? = some x := by
  refine ⟨(cells8 u j)[7 - i]'(by simp [cells8]; omega), by simp⟩
/-- the eight bytes of a number -/
def key8 (u : Int) : ByteArray := ⟨#[UInt8.ofNat (B8 u 7).toNat, UInt8.ofNat (B8 u 6).toNat, UInt8.ofNat (B8 u 5).toNat, UInt8.ofNat (B8 u 4).toNat, UInt8.ofNat (B8 u 3).toNat, UInt8.ofNat (B8 u 2).toNat, UInt8.ofNat (B8 u 1).toNat, UInt8.ofNat (B8 u 0).toNat]⟩
theorem key8_size (u : Int) : (key8 u).size = 8 := rfl
/-- the bytes of an int -/
def num (n : Int) : ByteArray := key8 (n + 9223372036854775808)
theorem num_size (n : Int) : (num n).size = 8 := rfl
theorem xor_top (a : Nat) (h : a < 18446744073709551616) : a ^^^ 9223372036854775808 = (a + 9223372036854775808) % 18446744073709551616 := by
  have key : ∀ c : Nat, c < 2 ^ 63 → c ^^^ 2 ^ 63 = c + 2 ^ 63 := by
    intro c hc
    apply Nat.eq_of_testBit_eq
    intro i
    rw [Nat.testBit_xor, Nat.testBit_two_pow, Nat.add_comm]
    rcases Nat.lt_trichotomy i 63 with hi | hi | hi
    · rw [Nat.testBit_two_pow_add_gt hi, show decide (63 = i) = false from decide_eq_false (by omega), Bool.xor_false]
    · subst hi; rw [Nat.testBit_two_pow_add_eq]; simp
    · have hp : (2:Nat) ^ 64 ≤ 2 ^ i := Nat.pow_le_pow_right (by omega) hi
      rw [Nat.testBit_lt_two_pow (show c < 2 ^ i from by omega), Nat.testBit_lt_two_pow (show 2 ^ 63 + c < 2 ^ i from by omega)]
      rw [show decide (63 = i) = false from decide_eq_false (by omega)]; rfl
  by_cases hc : a < 2 ^ 63
  · have := key a hc
    rw [show (9223372036854775808 : Nat) = 2 ^ 63 from rfl, this]; omega
  · have := key (a - 2 ^ 63) (by omega)
    have e : a = (a - 2 ^ 63) ^^^ 2 ^ 63 := by rw [this]; omega
    rw [show (9223372036854775808 : Nat) = 2 ^ 63 from rfl]
    conv => lhs; rw [e]
    rw [Nat.xor_assoc, Nat.xor_self, Nat.xor_zero]; omega
theorem flip_up (n : Int) (h1 : -9223372036854775808 ≤ n) (h2 : n ≤ 9223372036854775807) : bits .xor .u64 (IntKind.u64.wrap n) 9223372036854775808 = n + 9223372036854775808 := by
  obtain ⟨a, ha⟩ : ∃ a : Nat, IntKind.u64.wrap n = (a : Int) := ⟨(IntKind.u64.wrap n).toNat, by rw [IntKind.wrap_u64]; omega⟩
  have hw := ha
  rw [IntKind.wrap_u64] at hw
  rw [ha, show (9223372036854775808 : Int) = ((9223372036854775808 : Nat) : Int) from rfl, bits_xor_u64_nat _ _ (by omega) (by omega), xor_top _ (by omega)]
  omega
theorem flip_down (n : Int) (h1 : -9223372036854775808 ≤ n) (h2 : n ≤ 9223372036854775807) : IntKind.i64.wrap (bits .xor .u64 (n + 9223372036854775808) 9223372036854775808) = n := by
  obtain ⟨a, ha⟩ : ∃ a : Nat, n + 9223372036854775808 = (a : Int) := ⟨(n + 9223372036854775808).toNat, by omega⟩
  rw [ha, show (9223372036854775808 : Int) = ((9223372036854775808 : Nat) : Int) from rfl, bits_xor_u64_nat _ _ (by omega) (by omega), xor_top _ (by omega), IntKind.wrap_i64]
  omega
theorem conv8 {u : Int} {b : Nat} {wr : World} (hc : ∀ i, wr.cell? ⟨b, i, none⟩ = (#[.int .u8 (B8 u 7), .int .u8 (B8 u 6), .int .u8 (B8 u 5), .int .u8 (B8 u 4), .int .u8 (B8 u 3), .int .u8 (B8 u 2), .int .u8 (B8 u 1), .int .u8 (B8 u 0)] : Array Value)[i]?) :
    (convert 131 9 (.slice (some ⟨b, 0, none⟩) 8 8)).run Tryz.prog wr = .ok (.string (key8 u)) wr := by
  rw [run_convert_bytes_string wr _ _ 5 _ 8 8 (by kernel_rfl) (by kernel_rfl) (by kernel_rfl), run_bytesToString wr _ 8 8 [B8 u 7, B8 u 6, B8 u 5, B8 u 4, B8 u 3, B8 u 2, B8 u 1, B8 u 0]]
  · rfl
  · have := run_loadCells_list (P := Tryz.prog) (w := wr) ⟨b, 0, none⟩ [.int .u8 (B8 u 7), .int .u8 (B8 u 6), .int .u8 (B8 u 5), .int .u8 (B8 u 4), .int .u8 (B8 u 3), .int .u8 (B8 u 2), .int .u8 (B8 u 1), .int .u8 (B8 u 0)] (by
      intro j v hv
      have : Addr.add ⟨b, 0, none⟩ j = ⟨b, j, none⟩ := by simp [Addr.add]; intro e; subst e; rfl
      rw [this, hc j, ← hv]; simp)
    exact this
set_option maxRecDepth 20000 in
theorem kput (n : Int) (h1 : -9223372036854775808 ≤ n) (h2 : n ≤ 9223372036854775807) (w : World) : Calls Tryz.prog 91 #[.int .i64 n] w fun e w' => e = .returned (.string (num n)) ∧ Ext w w' := by
  have H12 := Lib.hid (And.intro h1 h2)
  clear h1 h2
  go_enter Tryz.func91, Tryz.ntmps91
  go_wp2_with fail
  obtain ⟨u, hu⟩ : ∃ u, u = bits BinOp.xor IntKind.u64 (IntKind.u64.wrap n) 9223372036854775808 := ⟨_, rfl⟩
  rw [← hu]
  obtain ⟨b, hb⟩ : ∃ b, b = w.heap.size := ⟨_, rfl⟩
  rw [← hb]
  have HU := Lib.hid hu
  have HB := Lib.hid hb
  clear hu hb
  go_loopg [9] 8 (fun k p wr => ∃ j : Nat, p = .int .i64 j ∧ j + k = 8 ∧ wr.heap[b]? = some (.cells (cells8 u j) 141 (0, 0)) ∧ Ext w wr)
  case atStart => 
    refine ⟨0, rfl, rfl, ?_, (Keeps.refl _ w).alloc _⟩
    rw [HB.out]; exact World.alloc_heap_new w _
  case round =>
    obtain ⟨j, rfl, hj, hc, hE⟩ := hrel
    have HC := Lib.hid hc
    have HE := Lib.hid hE
    have hl := lt_of_heap hc
    have hz := blk_free hc
    have hc0 := blk_cell hc
    obtain ⟨x, hx⟩ := cells8_some u j j
    by_cases hj8 : j < 8
    · clear hc hE
      have hj8' : (j : Int) < 8 := by omega
      go_wp2_with fail
      go_roundg (gk - 1)
      case measure => omega
      case rel =>
        refine ⟨j + 1, by simp, by omega, ?_, ?_⟩
        · rw [heap_set HC.out, cells8_step u j hj8]
        · exact HE.out.setCell (by rw [HB.out]; exact Nat.lt_irrefl _) _
    · have : j = 8 := by omega
      subst this
      clear hj hj8 hc hE hx
      simp only [cells8, byte8, reduceIte, show (0:Nat) < 8 from by omega, show (1:Nat) < 8 from by omega, show (2:Nat) < 8 from by omega, show (3:Nat) < 8 from by omega, show (4:Nat) < 8 from by omega, show (5:Nat) < 8 from by omega, show (6:Nat) < 8 from by omega, show (7:Nat) < 8 from by omega] at hc0
      go_wp2_with fail
      rw [conv8 hc0]
      go_wp2_with fail
      go_ret
      exact ⟨by rw [HU.out, flip_up n H12.out.1 H12.out.2]; rfl, HE.out⟩
theorem of_i (t i : Int) (h1 : -9223372036854775808 ≤ t ∧ t ≤ 9223372036854775807) (h2 : -9223372036854775808 ≤ i ∧ i ≤ 9223372036854775807) (w : World) : Calls Tryz.prog 66 #[.int .i64 t, .int .i64 i] w fun e w' => e = .returned (.string (num t ++ num i)) ∧ Ext w w' := by
  have H1 := Lib.hid h1
  have H2 := Lib.hid h2
  have hs1 := num_size t
  have hs2 := num_size i
  clear h1 h2
  go_enter Tryz.func66, Tryz.ntmps66
  go_wp2_with fail
  refine (kput t H1.out.1 H1.out.2 _).mono ?_
  rintro e9 w1 ⟨rfl, hE1⟩
  have HE1 := Lib.hid hE1
  clear hE1
  go_wp2_with fail
  refine (kput i H2.out.1 H2.out.2 _).mono ?_
  rintro e9 w2 ⟨rfl, hE2⟩
  have HE2 := Lib.hid hE2
  clear hE2
  go_wp2_with fail
  go_ret
  exact ⟨rfl, HE1.out.trans HE2.out⟩
/-- a text's bytes as a row -/
theorem text_bytes (s : ByteArray) (w : World) : ∃ cap w1, (convert 9 131 (.string s)).run Tryz.prog w = .ok (.slice (some ⟨w.heap.size, 0, none⟩) s.size cap) w1 ∧
    (∀ j, j < s.size → w1.cell? ⟨w.heap.size, j, none⟩ = some (.int .u8 ((s.data.toList.getD j 0).toNat : Int))) ∧ Ext w w1 :=
  ⟨_, _, Lib.run_convert_string_bytes w _ _ 5 s (u := .string) (by kernel_rfl) (by kernel_rfl) (by kernel_rfl), fun j hj => Lib.bytesWorld_cell w _ s j hj,
    ⟨by rw [Lib.bytesWorld_size]; omega, fun j hj _ => Lib.bytesWorld_at_old w _ s j hj, rfl, rfl⟩⟩
theorem B8_bound (u : Int) (i : Nat) : 0 ≤ B8 u i ∧ B8 u i < 256 := by unfold B8; omega
theorem u8_back {x : Int} (h : 0 ≤ x ∧ x < 256) : ((UInt8.ofNat x.toNat).toNat : Int) = x := by
  rw [UInt8.toNat_ofNat']; omega
theorem num_byte (n : Int) (j : Nat) (h : j < 8) : (((num n).data.toList.getD j 0).toNat : Int) = B8 (n + 9223372036854775808) (7 - j) := by
  match j, h with
  | 0, _ | 1, _ | 2, _ | 3, _ | 4, _ | 5, _ | 6, _ | 7, _ => exact u8_back (B8_bound _ _)
theorem or_up (x c : Nat) (hx : x < 72057594037927936) (hc : c < 256) : bits .or .u64 ((x : Int) * 256) (c : Int) = (x : Int) * 256 + c := by
  rw [show (x : Int) * 256 = ((x * 256 : Nat) : Int) from by omega, bits_or_u64_nat _ _ (by omega) (by omega)]
  have := Nat.two_pow_add_eq_or_of_lt (i := 8) (b := c) (by omega) x
  rw [show x * 256 = 2 ^ 8 * x from by omega, ← this]; omega
theorem take_step (u : Int) (h0 : 0 ≤ u) (h1 : u < 18446744073709551616) (j : Nat) (hj : j < 8) : bits .or .u64 (IntKind.u64.wrap (u / 2 ^ (8 * (8 - j)) * 256)) (B8 u (7 - j)) = u / 2 ^ (8 * (8 - (j + 1))) := by
  have hx : 0 ≤ u / 2 ^ (8 * (8 - j)) ∧ u / 2 ^ (8 * (8 - j)) < 72057594037927936 := by
    match j, hj with
    | 0, _ | 1, _ | 2, _ | 3, _ | 4, _ | 5, _ | 6, _ | 7, _ => simp only [Nat.reduceSub, Nat.reduceMul, Int.reducePow]; omega
  have hs : u / 2 ^ (8 * (8 - j)) * 256 + B8 u (7 - j) = u / 2 ^ (8 * (8 - (j + 1))) := by
    unfold B8
    match j, hj with
    | 0, _ | 1, _ | 2, _ | 3, _ | 4, _ | 5, _ | 6, _ | 7, _ => simp only [Nat.reduceSub, Nat.reduceMul, Nat.reduceAdd, Int.reducePow]; omega
  obtain ⟨x, hxe⟩ : ∃ x : Nat, u / 2 ^ (8 * (8 - j)) = (x : Int) := ⟨_, (Int.toNat_of_nonneg hx.1).symm⟩
  have hb := B8_bound u (7 - j)
  obtain ⟨c, hce⟩ : ∃ c : Nat, B8 u (7 - j) = (c : Int) := ⟨_, (Int.toNat_of_nonneg hb.1).symm⟩
  rw [hxe] at hx
  rw [← hs, hxe, hce, IntKind.wrap_u64, show (x : Int) * 256 % 18446744073709551616 = (x : Int) * 256 from by omega, or_up x c (by omega) (by omega)]
set_option maxRecDepth 20000 in
theorem take_i (n : Int) (h1 : -9223372036854775808 ≤ n) (h2 : n ≤ 9223372036854775807) (w : World) : Calls Tryz.prog 73 #[.string (num n)] w fun e w' => e = .returned (.int .i64 n) ∧ Ext w w' := by
  have H12 := Lib.hid (And.intro h1 h2)
  clear h1 h2
  have hs1 := num_size n
  obtain ⟨cap, w1, hcv, hcl, hE⟩ := text_bytes (num n) w
  have hcl' : ∀ j, j < 8 → w1.cell? ⟨w.heap.size, j, none⟩ = some (.int .u8 (B8 (n + 9223372036854775808) (7 - j))) := fun j hj => by rw [hcl j hj, num_byte n j hj]
  obtain ⟨b, hb⟩ : ∃ b, b = w.heap.size := ⟨_, rfl⟩
  rw [← hb, hs1] at hcv
  rw [← hb] at hcl'
  have HC := Lib.hid hcv
  have HL := Lib.hid hcl'
  have HE := Lib.hid hE
  clear hb hcv hcl hcl' hE
  obtain ⟨u, hu⟩ : ∃ u, u = n + 9223372036854775808 := ⟨_, rfl⟩
  rw [← hu] at HL
  have HU := Lib.hid hu
  clear hu
  go_enter Tryz.func73, Tryz.ntmps73
  go_wp2_with fail
  rw [HC.out]
  go_wp2_with fail
  go_loopg [3, 9] 8 (fun k p3 p9 wr => ∃ j : Nat, p9 = .int .i64 j ∧ p3 = .int .u64 (u / 2 ^ (8 * (8 - j))) ∧ j + k = 8 ∧ wr = w1)
  case atStart =>
    refine ⟨0, rfl, ?_, rfl, rfl⟩
    rw [HU.out]; have := H12.out
    simp only [Nat.reduceSub, Nat.reduceMul, Int.reducePow]
    congr 1; omega
  case round =>
    obtain ⟨j, rfl, rfl, hj, rfl⟩ := hrel
    by_cases hj8 : j < 8
    · have hc := HL.out j hj8
      have hj8' : (j : Int) < 8 := by omega
      have HS := Lib.hid (take_step u (by have := H12.out; rw [HU.out]; omega) (by have := H12.out; rw [HU.out]; omega) j hj8)
      obtain ⟨x, hx⟩ : ∃ x, x = u / 2 ^ (8 * (8 - j)) := ⟨_, rfl⟩
      rw [← hx] at HS ⊢
      obtain ⟨c, hc'⟩ : ∃ c, c = B8 u (7 - j) := ⟨_, rfl⟩
      have hbd := B8_bound u (7 - j)
      rw [← hc'] at HS hc hbd
      have HW := Lib.hid (show IntKind.u64.wrap c = c from by rw [IntKind.wrap_u64]; omega)
      clear hx hc' hbd
      go_wp2_with fail
      go_roundg (gk - 1)
      case measure => omega
      case rel =>
        refine ⟨j + 1, by simp, ?_, by omega, rfl⟩
        rw [← HS.out, HW.out]
    · have : j = 8 := by omega
      subst this
      clear hj hj8
      go_wp2_with fail
      go_ret
      refine ⟨?_, HE.out⟩
      show Ending.returned (.int .i64 (wrap64 (bits .xor .u64 u 9223372036854775808))) = _
      rw [HU.out, show ∀ x, wrap64 x = IntKind.i64.wrap x from fun x => by rw [IntKind.wrap_i64]; unfold wrap64; omega, flip_down n H12.out.1 H12.out.2]
theorem num_lo (n : Int) (s : ByteArray) : (num n ++ s).extract 0 8 = num n := ByteArray.extract_append_eq_left (by rw [num_size])
theorem num_hi (n : Int) (s : ByteArray) (k : Nat) (h : k = 8 + s.size) : (num n ++ s).extract 8 k = s := ByteArray.extract_append_eq_right (by rw [num_size]) (by rw [num_size, h])
/-- what Split answers of a key -/
theorem split_i (t i : Int) (h1 : -9223372036854775808 ≤ t ∧ t ≤ 9223372036854775807) (h2 : -9223372036854775808 ≤ i ∧ i ≤ 9223372036854775807) (w : World) : Calls Tryz.prog 49 #[.string (num t ++ num i)] w fun e w' => e = .returned (.tuple #[.int .i64 t, .int .i64 i, .bool true]) ∧ Ext w w' := by
  have H1 := Lib.hid h1
  have H2 := Lib.hid h2
  have hs1 : (num t ++ num i).size = 16 := by rw [ByteArray.size_append, num_size, num_size]
  clear h1 h2
  go_enter Tryz.func49, Tryz.ntmps49
  go_wp2_with fail
  refine wp_drawE (way [0, 1, 3, 4, 2, 5, 6, 7, 8]) (by kernel_rfl) (by kernel_rfl) (fun w1 hh hd hf hS => ?_)
  simp only [way]
  go_wp2_with (first | (refine' hl_q rfl rfl rfl (fun _ => ?_) ?_; rotate_left; (go_simp <;> (try go_bits) <;> rfl); (try simp only [Act.put, List.setIfInBounds_toArray, List.set_cons_zero, List.set_cons_succ])) | (refine' hl_rS rfl rfl rfl hS ?_ ?_; rotate_left; (intro w9 hS9; (first | have hc9 := Ext.cells hS9 | have hc9 := Keeps.cells hS9); (go_simp <;> rfl)); (try simp only [Act.put, List.setIfInBounds_toArray, List.set_cons_zero, List.set_cons_succ])) | (refine' hl_r rfl rfl rfl ?_ ?_; rotate_left; (rintro w9 (rfl | hS9); (go_simp <;> rfl); (first | have hc9 := Ext.cells hS9 | have hc9 := Keeps.cells hS9 | (try dsimp only at hS9)); (go_simp <;> rfl)); (try simp only [Act.put, List.setIfInBounds_toArray, List.set_cons_zero, List.set_cons_succ])) | (refine' hl_s rfl rfl ?_; (try simp only [Act.put, List.setIfInBounds_toArray, List.set_cons_zero, List.set_cons_succ])) | (refine hl_e rfl rfl rfl (fun K hK => ?_)) | (with_reducible refine And.intro (fun hn => ?_) ?_; (first | exact hS | exact Keeps.alloc hS _ | exact absurd hn (by rw [show needS _ _ = false from by kernel_rfl]; exact Bool.false_ne_true))) | (refine hl_done ?_) | gi_step)
  rw [num_lo]
  refine callsIn_wide.2 ((take_i t H1.out.1 H1.out.2 _).mono ?_)
  rintro e9 w2 ⟨rfl, hE2⟩
  have HE2 := Lib.hid (hS.trans hE2)
  clear hS hE2 hh hd hf
  have hS := HE2.out
  go_wp2_with (first | (refine' hl_q rfl rfl rfl (fun _ => ?_) ?_; rotate_left; (go_simp <;> (try go_bits) <;> rfl); (try simp only [Act.put, List.setIfInBounds_toArray, List.set_cons_zero, List.set_cons_succ])) | (refine' hl_rS rfl rfl rfl hS ?_ ?_; rotate_left; (intro w9 hS9; (first | have hc9 := Ext.cells hS9 | have hc9 := Keeps.cells hS9); (go_simp <;> rfl)); (try simp only [Act.put, List.setIfInBounds_toArray, List.set_cons_zero, List.set_cons_succ])) | (refine' hl_r rfl rfl rfl ?_ ?_; rotate_left; (rintro w9 (rfl | hS9); (go_simp <;> rfl); (first | have hc9 := Ext.cells hS9 | have hc9 := Keeps.cells hS9 | (try dsimp only at hS9)); (go_simp <;> rfl)); (try simp only [Act.put, List.setIfInBounds_toArray, List.set_cons_zero, List.set_cons_succ])) | (refine' hl_s rfl rfl ?_; (try simp only [Act.put, List.setIfInBounds_toArray, List.set_cons_zero, List.set_cons_succ])) | (refine hl_e rfl rfl rfl (fun K hK => ?_)) | (with_reducible refine And.intro (fun hn => ?_) ?_; (first | exact hS | exact Keeps.alloc hS _ | exact absurd hn (by rw [show needS _ _ = false from by kernel_rfl]; exact Bool.false_ne_true))) | (refine hl_done ?_) | gi_step)
  rw [num_hi t (num i) 16 (by rw [num_size])]
  refine callsIn_wide.2 ((take_i i H2.out.1 H2.out.2 _).mono ?_)
  rintro e9 w3 ⟨rfl, hE3⟩
  have HE3 := Lib.hid (HE2.out.trans hE3)
  clear hS hE3
  have hS := HE3.out
  go_wp2_with (first | (refine' hl_q rfl rfl rfl (fun _ => ?_) ?_; rotate_left; (go_simp <;> (try go_bits) <;> rfl); (try simp only [Act.put, List.setIfInBounds_toArray, List.set_cons_zero, List.set_cons_succ])) | (refine' hl_rS rfl rfl rfl hS ?_ ?_; rotate_left; (intro w9 hS9; (first | have hc9 := Ext.cells hS9 | have hc9 := Keeps.cells hS9); (go_simp <;> rfl)); (try simp only [Act.put, List.setIfInBounds_toArray, List.set_cons_zero, List.set_cons_succ])) | (refine' hl_r rfl rfl rfl ?_ ?_; rotate_left; (rintro w9 (rfl | hS9); (go_simp <;> rfl); (first | have hc9 := Ext.cells hS9 | have hc9 := Keeps.cells hS9 | (try dsimp only at hS9)); (go_simp <;> rfl)); (try simp only [Act.put, List.setIfInBounds_toArray, List.set_cons_zero, List.set_cons_succ])) | (refine' hl_s rfl rfl ?_; (try simp only [Act.put, List.setIfInBounds_toArray, List.set_cons_zero, List.set_cons_succ])) | (refine hl_e rfl rfl rfl (fun K hK => ?_)) | (with_reducible refine And.intro (fun hn => ?_) ?_; (first | exact hS | exact Keeps.alloc hS _ | exact absurd hn (by rw [show needS _ _ = false from by kernel_rfl]; exact Bool.false_ne_true))) | (refine hl_done ?_) | gi_step)
  refine bodyPost_ret (v := .tuple #[.int .i64 t, .int .i64 i, .bool true]) (by simp [results, Tryz.results49, go_sem]) rfl ?_
  exact ⟨rfl, HE3.out⟩
end Go.Proofs.YtdonmmjikcbihaaGreatDoor
/- Package code: which records may be, and their bytes. -/
namespace Go.Vc
/-- a name's bytes may stand in it -/
def nameByte (c : UInt8) : Bool := decide (32 < c.toNat) && decide (c.toNat ≤ 126)
/-- may a text be a name? -/
def named (s : ByteArray) : Bool := s.data.toList.all nameByte && !(s.size == 0) && decide (s.size ≤ 24)
/-- may a record be? -/
def may (x : Spn) : Bool := decide (0 < x.tr) && decide (0 < x.id) && decide (0 ≤ x.pa) && decide (0 ≤ x.rv) && named x.sv && named x.op && decide (-4611686018427387904 ≤ x.st) && decide (x.st ≤ 4611686018427387903)
/-- the first of a record's numbers -/
def nth4 (x : Spn) : Nat → Nat
  | 0 => x.tr.toNat
  | 1 => x.id.toNat
  | 2 => x.pa.toNat
  | _ => x.rv.toNat
def pre4 (x : Spn) : Nat → List UInt8
  | 0 => []
  | j + 1 => pre4 x j ++ vbytes (nth4 x j)
/-- a record's bytes -/
def sbytes (x : Spn) : List UInt8 := pre4 x 4 ++ (vbytes x.sv.size ++ x.sv.data.toList) ++ (vbytes x.op.size ++ x.op.data.toList) ++ vbytes (zig x.st) ++ vbytes (zig x.du) ++ [if x.gone then 1 else 0]
/-- a duration that may be -/
def clamp (n lo hi : Int) : Int := max lo (min n hi)
def kept (x : Spn) : Spn := { x with du := clamp x.du 0 4611686018427387904 }
/-- the error of a record -/
def mayE (x : Spn) : Int := if may x then 0 else 1
theorem mayE_t {x : Spn} (h : may x = true) : mayE x = 0 := by rw [mayE, h]; rfl
theorem mayE_f {x : Spn} (h : may x = false) : mayE x = 1 := by rw [mayE, h]; rfl
/-- a span's cells -/
abbrev spnC (x : Spn) : Array Value := #[.int .i64 x.tr, .int .i64 x.id, .int .i64 x.pa, .int .i64 x.rv, .string x.sv, .string x.op, .int .i64 x.st, .int .i64 x.du, .bool x.gone]
end Go.Vc
namespace Go.Proofs.YtdonmmjikcbihaaGreatDoor
open Go.RowKit Go.Proofs Go.Vc
attribute [local irreducible] Calls CallsIn Code.wp Code.wpIn
theorem clamp_i (n lo hi : Int) (w : World) : Calls Tryz.prog 85 #[.int .i64 n, .int .i64 lo, .int .i64 hi] w fun e w' => e = .returned (.int .i64 (clamp n lo hi)) ∧ w' = w := by
  go_enter Tryz.func85, Tryz.ntmps85
  go_wp2_with fail
  go_ret
  exact ⟨rfl, rfl⟩
theorem kept_i (x : Spn) (w : World) : Calls Tryz.prog 57 #[spnV x] w fun e w' => e = .returned (spnV (kept x)) ∧ Ext w w' := by
  go_enter Tryz.func57, Tryz.ntmps57
  go_wp2_with fail
  refine (clamp_i _ _ _ _).mono ?_
  rintro e9 w1 ⟨rfl, rfl⟩
  go_wp2_with fail
  refine bodyPost_ret (v := spnV (kept x)) (by simp [results, Tryz.results57, go_sem, kept]) rfl ⟨rfl, ?_⟩
  (repeat' (first | with_reducible refine Keeps.alloc ?_ _ | (with_reducible refine Keeps.setCell ?_ ?_ _; rotate_left; (simp; done)) | exact Keeps.refl _ _))
theorem toList_data (s : ByteArray) : s.toList = s.data.toList := ByteArray.toList_eq s
theorem getD_of {l : List UInt8} {j : Nat} (h : j < l.length) : l.getD j 0 = l[j] := by simp [List.getD, h]
theorem named_all (s : ByteArray) (h : ∀ i, i < s.size → nameByte (s.data.toList.getD i 0) = true) : s.data.toList.all nameByte = true := by
  rw [List.all_eq_true]
  intro c hc
  obtain ⟨i, hi, rfl⟩ := List.getElem_of_mem hc
  rw [← getD_of hi]
  exact h i (by rw [← size_list]; exact hi)
theorem named_bad (s : ByteArray) (j : Nat) (hj : j < s.size) (h : nameByte (s.data.toList.getD j 0) = false) : named s = false := by
  have hl : j < s.data.toList.length := by rw [size_list]; exact hj
  have : s.data.toList.all nameByte = false := by
    rw [Bool.eq_false_iff]
    intro ha
    rw [List.all_eq_true] at ha
    have := ha _ (List.getElem_mem hl)
    rw [← getD_of hl, h] at this
    cases this
  unfold named; rw [this]; rfl
set_option maxRecDepth 20000 in
theorem named_i (s : ByteArray) (hs : s.size ≤ 9223372036854775807) (w : World) : Calls Tryz.prog 64 #[.string s] w fun e w' => e = .returned (.bool (named s)) ∧ Ext w w' := by
  obtain ⟨cap, w1, hcv, hcl, hE⟩ := text_bytes s w
  obtain ⟨b, hb⟩ : ∃ b, b = w.heap.size := ⟨_, rfl⟩
  rw [← hb] at hcv hcl
  have HC := Lib.hid hcv
  have HL := Lib.hid hcl
  have HE := Lib.hid hE
  have h0 : (0 : Int) ≤ s.size := by omega
  clear hb hcv hcl hE
  go_enter Tryz.func64, Tryz.ntmps64
  go_wp2_with fail
  rw [HC.out]
  go_wp2_with fail
  go_loopg [8] s.size (fun k p8 wr => ∃ j : Nat, p8 = .int .i64 j ∧ j + k = s.size ∧ (∀ i, i < j → nameByte (s.data.toList.getD i 0) = true) ∧ wr = w1)
  case atStart => exact ⟨0, rfl, Nat.zero_add _, fun i hi => absurd hi (Nat.not_lt_zero _), rfl⟩
  case round =>
    obtain ⟨j, rfl, hj, hall, rfl⟩ := hrel
    have HA := Lib.hid hall
    clear hall
    by_cases hjs : j < s.size
    · have hc := HL.out j hjs
      have hjs' : (j : Int) < s.size := by omega
      obtain ⟨c, hcc⟩ : ∃ c, c = s.data.toList.getD j 0 := ⟨_, rfl⟩
      rw [← hcc] at hc
      have HCC := Lib.hid hcc
      clear hcc
      have hcb : c.toNat < 256 := c.toNat_lt
      by_cases h32 : (c.toNat : Int) ≤ 32
      · go_wp2_with fail
        go_ret
        exact ⟨by rw [named_bad s j hjs (by rw [← HCC.out, nameByte, decide_eq_false (by omega)]; rfl)]; rfl, HE.out⟩
      · by_cases h126 : (126 : Int) < c.toNat
        · have h32' : (32 : Int) < c.toNat := by omega
          go_wp2_with fail
          go_ret
          exact ⟨by rw [named_bad s j hjs (by rw [← HCC.out, nameByte, decide_eq_false (p := c.toNat ≤ 126) (by omega), Bool.and_false])]; rfl, HE.out⟩
        · have h32' : (32 : Int) < c.toNat := by omega
          go_wp2_with fail
          go_roundg (gk - 1)
          case measure => omega
          case rel =>
            refine ⟨j + 1, by simp, by omega, fun i hi => ?_, rfl⟩
            by_cases hij : i = j
            · subst hij; rw [← HCC.out, nameByte, decide_eq_true (by omega), decide_eq_true (by omega)]; rfl
            · exact HA.out i (by omega)
    · have hjs' : ¬ (j : Int) < s.size := by omega
      have hja : j = s.size := by omega
      have hall : s.data.toList.all nameByte = true := named_all s fun i hi => HA.out i (by omega)
      have hnm : named s = (!(s.size == 0) && decide (s.size ≤ 24)) := by unfold named; rw [hall, Bool.true_and]
      have HN := Lib.hid hnm
      have hem : s.toList.isEmpty = (s.size == 0) := by rw [toList_data, ← size_list]; cases s.data.toList <;> rfl
      clear hall hnm hja
      cases hz : (s.size == 0)
      · rw [hz] at hem HN
        by_cases h24 : s.size ≤ 24
        · have h24' : (s.size : Int) ≤ 24 := by omega
          go_wp2_with fail
          go_ret
          exact ⟨by rw [HN.out, decide_eq_true h24]; rfl, HE.out⟩
        · have h24' : ¬ (s.size : Int) ≤ 24 := by omega
          go_wp2_with fail
          go_ret
          exact ⟨by rw [HN.out, decide_eq_false h24]; rfl, HE.out⟩
      · rw [hz] at hem HN
        go_wp2_with fail
        go_ret
        exact ⟨by rw [HN.out]; rfl, HE.out⟩
set_option maxRecDepth 20000 in
theorem may_i (x : Spn) (hx : x.Fits) (w : World) : Calls Tryz.prog 41 #[spnV x] w fun e w' => e = .returned (.int .i64 (mayE x)) ∧ Ext w w' := by
  obtain ⟨wa, hwa⟩ : ∃ wa, wa = w.alloc (.cells (spnC x) 48) := ⟨_, rfl⟩
  have hE : Ext w wa := by rw [hwa]; exact (Keeps.refl _ w).alloc _
  have hN : wa.heap[w.heap.size]? = some (.cells (spnC x) 48 (0, 0)) := by rw [hwa]; exact World.alloc_heap_new w _
  obtain ⟨b, hb⟩ : ∃ b, b = w.heap.size := ⟨_, rfl⟩
  rw [← hb] at hN
  have hc := blk_cell hN
  have HX := Lib.hid (And.intro hx.sv hx.op)
  have HE := Lib.hid (And.intro hE hN)
  clear hx hE hN
  by_cases h1 : (0 < x.tr ∧ 0 < x.id) ∧ (0 ≤ x.pa ∧ 0 ≤ x.rv)
  · have hm : may x = (named x.sv && (named x.op && (decide (-4611686018427387904 ≤ x.st) && decide (x.st ≤ 4611686018427387903)))) := by
      unfold may; rw [decide_eq_true h1.1.1, decide_eq_true h1.1.2, decide_eq_true h1.2.1, decide_eq_true h1.2.2]; simp only [Bool.true_and, Bool.and_assoc]
    have HM := Lib.hid hm
    clear hm
    obtain ⟨⟨h11, h12⟩, h13, h14⟩ := h1
    go_enter Tryz.func41, Tryz.ntmps41
    go_wp2_with fail
    rw [← hwa, ← hb]
    clear hwa hb
    refine (named_i x.sv HX.out.1 _).mono ?_
    rintro e9 w2 ⟨rfl, hE2⟩
    have hN2 : w2.heap[b]? = some (.cells (spnC x) 48 (0, 0)) := (Ext.same hE2 (lt_of_heap HE.out.2)).trans HE.out.2
    have hc2 := blk_cell hN2
    have HE2 := Lib.hid (And.intro (HE.out.1.trans hE2) hN2)
    clear hE2 hN2 hc
    cases hn1 : named x.sv
    · rw [hn1] at HM
      clear hn1
      go_wp2_with fail
      go_ret
      exact ⟨by rw [mayE_f HM.out]; rfl, HE2.out.1⟩
    · rw [hn1] at HM
      clear hn1
      go_wp2_with fail
      refine (named_i x.op HX.out.2 _).mono ?_
      rintro e9 w3 ⟨rfl, hE3⟩
      have hN3 : w3.heap[b]? = some (.cells (spnC x) 48 (0, 0)) := (Ext.same hE3 (lt_of_heap HE2.out.2)).trans HE2.out.2
      have hc3 := blk_cell hN3
      have HE3 := Lib.hid (HE2.out.1.trans hE3)
      clear hE3 hN3 hc2
      cases hn2 : named x.op
      · rw [hn2] at HM
        clear hn2
        go_wp2_with fail
        go_ret
        exact ⟨by rw [mayE_f HM.out]; rfl, HE3.out⟩
      · rw [hn2] at HM
        clear hn2
        by_cases h5 : -4611686018427387904 ≤ x.st
        · by_cases h6 : x.st ≤ 4611686018427387903
          · have HM1 := Lib.hid (mayE_t (x := x) (by rw [HM.out, decide_eq_true h5, decide_eq_true h6]; rfl))
            go_wp2_with fail
            go_ret
            exact ⟨by rw [HM1.out]; rfl, HE3.out⟩
          · have HM1 := Lib.hid (mayE_f (x := x) (by rw [HM.out, decide_eq_false h6, Bool.and_false]; rfl))
            have h6' : 4611686018427387903 < x.st := by omega
            go_wp2_with fail
            go_ret
            exact ⟨by rw [HM1.out]; rfl, HE3.out⟩
        · have HM1 := Lib.hid (mayE_f (x := x) (by rw [HM.out, decide_eq_false h5]; rfl))
          have h5' : x.st < -4611686018427387904 := by omega
          go_wp2_with fail
          go_ret
          exact ⟨by rw [HM1.out]; rfl, HE3.out⟩
  · have hm : may x = false := by unfold may; simp only [Bool.and_eq_false_iff, decide_eq_false_iff_not]; omega
    have HM := Lib.hid (mayE_f hm)
    clear hm hc
    go_enter Tryz.func41, Tryz.ntmps41
    go_wp2_with fail
    all_goals (go_ret; exact ⟨by rw [HM.out]; rfl, (Keeps.refl _ w).alloc _⟩)
end Go.Proofs.YtdonmmjikcbihaaGreatDoor
/- Slices of spans: reading, searching, comparing. -/
namespace Go.Vc
/-- are two spans the same? -/
def same (x y : Spn) : Bool := decide (x = y)
/-- nine cells hold a span -/
def C9 (w : World) (g p : Nat) (x : Spn) : Prop := ((w.cell? ⟨g, p, none⟩ = some (.int .i64 x.tr) ∧ w.cell? ⟨g, p + 1, none⟩ = some (.int .i64 x.id) ∧ w.cell? ⟨g, p + 2, none⟩ = some (.int .i64 x.pa)) ∧ w.cell? ⟨g, p + 3, none⟩ = some (.int .i64 x.rv) ∧ w.cell? ⟨g, p + 4, none⟩ = some (.string x.sv) ∧ w.cell? ⟨g, p + 5, none⟩ = some (.string x.op)) ∧ w.cell? ⟨g, p + 6, none⟩ = some (.int .i64 x.st) ∧ w.cell? ⟨g, p + 7, none⟩ = some (.int .i64 x.du) ∧ w.cell? ⟨g, p + 8, none⟩ = some (.bool x.gone)
/-- the block of a slice's cells -/
def slBlock : Value → Option Nat
  | .slice (some a) _ _ => some a.block
  | _ => none
/-- the slice holds these spans -/
def SpnsAt (w : World) (v : Value) (l : List Spn) : Prop :=
  ∃ a cap, v = .slice a l.length cap ∧ ((l.length : Int) ≤ 9223372036854775807 ∧ (l.length : Int) ≤ cap) ∧ (a = none → l = []) ∧ ∀ g o s, a = some ⟨g, o, s⟩ → (l ≠ [] → s = none) ∧ ∀ i (h : i < l.length), C9 w g (o + i * 9) l[i]
theorem C9.mem {w : World} {g p : Nat} {x : Spn} (h : C9 w g p x) : ∃ ob, w.heap[g]? = some ob := by
  have := h.1.1.1
  unfold World.cell? at this
  cases hh : w.heap[g]? with
  | none => simp [hh] at this
  | some ob => exact ⟨ob, rfl⟩
theorem C9.keeps {F : Nat → Prop} {w w' : World} {g p : Nat} {x : Spn} (h : C9 w g p x) (k : Keeps F w w') (hg : ¬ F g) : C9 w' g p x := by
  obtain ⟨ob, hob⟩ := h.mem
  have hs : w'.heap[g]? = w.heap[g]? := k.same g (lt_of_heap hob) hg
  have hc : ∀ q, w'.cell? ⟨g, q, none⟩ = w.cell? ⟨g, q, none⟩ := fun q => by unfold World.cell?; rw [hs]
  unfold C9 at h ⊢
  simp only [hc]; exact h
theorem SpnsAt.keeps {F : Nat → Prop} {w w' : World} {v : Value} {l : List Spn} (h : SpnsAt w v l) (k : Keeps F w w') (hF : ∀ g, slBlock v = some g → ¬ F g) : SpnsAt w' v l := by
  obtain ⟨a, cap, rfl, hn, h0, hc⟩ := h
  refine ⟨a, cap, rfl, hn, h0, fun g o s ha => ?_⟩
  obtain ⟨hs, hi⟩ := hc g o s ha
  subst ha
  exact ⟨hs, fun i h => (hi i h).keeps k (hF g rfl)⟩
theorem SpnsAt.keeps2 {F : Nat → Prop} {w w' : World} {v : Value} {l : List Spn} (h : SpnsAt w v l) (k : Keeps F w w') (hF : l ≠ [] → ∀ g, slBlock v = some g → ¬ F g) : SpnsAt w' v l := by
  obtain ⟨a, cap, rfl, hn, h0, hc⟩ := h
  refine ⟨a, cap, rfl, hn, h0, fun g o s ha => ?_⟩
  obtain ⟨hs, hi⟩ := hc g o s ha
  subst ha
  exact ⟨hs, fun i h => (hi i h).keeps k (hF (fun e => by rw [e] at h; exact absurd h (Nat.not_lt_zero _)) g rfl)⟩
theorem SpnsAt.blk_lt {w : World} {v : Value} {l : List Spn} (h : SpnsAt w v l) (hl : l ≠ []) {g : Nat} (hg : slBlock v = some g) : g < w.heap.size := by
  obtain ⟨a, cap, rfl, hn, h0, hc⟩ := h
  cases a with
  | none => cases hg
  | some ad =>
    obtain ⟨g', o, s⟩ := ad
    injection hg with hg
    dsimp only at hg
    subst hg
    obtain ⟨ob, hob⟩ := ((hc g' o s rfl).2 0 (List.length_pos_iff.2 hl)).mem
    exact lt_of_heap hob
theorem SpnsAt.ext {w w' : World} {v : Value} {l : List Spn} (h : SpnsAt w v l) (k : Ext w w') : SpnsAt w' v l := h.keeps k fun _ _ hf => hf
end Go.Vc
namespace Go.Proofs.YtdonmmjikcbihaaGreatDoor
open Go.RowKit Go.Proofs Go.Vc
theorem toList_inj {a b : ByteArray} (h : a.toList = b.toList) : a = b := by
  rw [toList_data, toList_data] at h
  obtain ⟨⟨x⟩⟩ := a; obtain ⟨⟨y⟩⟩ := b
  simp only at h; rw [h]
theorem spn_ext {x y : Spn} (h1 : x.tr = y.tr) (h2 : x.id = y.id) (h3 : x.pa = y.pa) (h4 : x.rv = y.rv) (h5 : x.sv.toList = y.sv.toList) (h6 : x.op.toList = y.op.toList) (h7 : x.st = y.st) (h8 : x.du = y.du) (h9 : x.gone = y.gone) : x = y := by
  have e5 := toList_inj h5
  have e6 := toList_inj h6
  cases x; cases y; simp only at *; subst_vars; rfl
theorem eql_spn (x y : Spn) (w : World) : (binOp .eql 48 (spnV x) (spnV y)).run Tryz.prog w = .ok (.bool (same x y)) w := by
  unfold same
  go_simp
  by_cases h : x = y
  · subst h; simp
  · rw [decide_eq_false h]
    repeat' split
    all_goals first | rfl | exact absurd (spn_ext ‹_› ‹_› ‹_› ‹_› ‹_› ‹_› ‹_› ‹_› ‹_›) h
theorem neq_spn (x y : Spn) (w : World) : (binOp .neq 48 (spnV x) (spnV y)).run Tryz.prog w = .ok (.bool (!same x y)) w := by
  unfold same
  go_simp
  by_cases h : x = y
  · subst h; simp
  · rw [decide_eq_false h]
    repeat' split
    all_goals first | rfl | exact absurd (spn_ext ‹_› ‹_› ‹_› ‹_› ‹_› ‹_› ‹_› ‹_› ‹_›) h
attribute [local go_sem high] eql_spn neq_spn
attribute [local irreducible] Calls CallsIn Code.wp Code.wpIn
/-- where in a list a span first stands, or -1 -/
def indexOf (p : Spn → Bool) (l : List Spn) : Int := match l.findIdx? p with | some i => (i : Int) | none => -1
theorem indexOf_hit {p : Spn → Bool} {l : List Spn} {j : Nat} (hj : j < l.length) (h : p l[j] = true) (hb : ∀ i (hi : i < j), p (l[i]'(Nat.lt_trans hi hj)) = false) : indexOf p l = j := by
  have : l.findIdx? p = some j := by
    rw [List.findIdx?_eq_some_iff_getElem]
    exact ⟨hj, h, fun i hi => by rw [hb i hi]; simp⟩
  unfold indexOf; rw [this]
theorem indexOf_miss {p : Spn → Bool} {l : List Spn} (hb : ∀ i (hi : i < l.length), p l[i] = false) : indexOf p l = -1 := by
  have : l.findIdx? p = none := by
    rw [List.findIdx?_eq_none_iff]
    intro x hx
    obtain ⟨i, hi, rfl⟩ := List.getElem_of_mem hx
    exact hb i hi
  unfold indexOf; rw [this]
/-- is a span among them? -/
def has (l : List Spn) (x : Spn) : Bool := l.any fun y => same x y
theorem indexOf_nonneg (p : Spn → Bool) (l : List Spn) : decide (0 ≤ indexOf p l) = l.any p := by
  unfold indexOf
  cases h : l.findIdx? p with
  | none =>
    rw [List.findIdx?_eq_none_iff] at h
    have : l.any p = false := by rw [List.any_eq_false]; intro x hx; rw [h x hx]; simp
    rw [this]; rfl
  | some i =>
    have : l.any p = true := by
      rw [List.findIdx?_eq_some_iff_getElem] at h
      obtain ⟨hi, hp, _⟩ := h
      exact List.any_eq_true.2 ⟨_, List.getElem_mem hi, hp⟩
    rw [this]; exact decide_eq_true (Int.natCast_nonneg i)
theorem list_ne {l m : List Spn} (hl : l.length = m.length) {j : Nat} (h1 : j < l.length) (h2 : j < m.length) (h : same l[j] m[j] = false) : decide (l = m) = false := by
  rw [decide_eq_false_iff_not]
  rintro rfl
  unfold same at h; simp at h
theorem list_eq {l m : List Spn} (hl : l.length = m.length) (h : ∀ i (h1 : i < l.length) (h2 : i < m.length), same l[i] m[i] = true) : decide (l = m) = true := by
  rw [decide_eq_true_iff]
  exact List.ext_getElem hl fun i h1 h2 => of_decide_eq_true (h i h1 h2)
theorem _root_.Go.Vc.SpnsAt.at {w : World} {a : Option Addr} {n cap : Nat} {l : List Spn} (h : SpnsAt w (.slice a n cap) l) {j : Nat} (hj : j < l.length) : ∃ g o, a = some ⟨g, o, none⟩ ∧ ∀ i (hi : i < l.length), C9 w g (o + i * 9) l[i] := by
  obtain ⟨a1, cap1, e1, _, h0, hc⟩ := h
  injection e1 with e1 _ _
  subst e1
  cases a with
  | none => rw [h0 rfl] at hj; exact absurd hj (Nat.not_lt_zero _)
  | some ad =>
    obtain ⟨g, o, s⟩ := ad
    obtain ⟨hs0, hi⟩ := hc g o s rfl
    obtain rfl := hs0 (ne_nil_of_lt hj)
    exact ⟨g, o, rfl, hi⟩
end Go.Proofs.YtdonmmjikcbihaaGreatDoor
/- Kinds of elements at this program. -/
namespace Go.Proofs.YtdonmmjikcbihaaGreatDoor
open Go.RowKit Go.Proofs Go.Vc
theorem some_isSome {α : Type} {o : Option α} {a : α} (h : o = some a) : o.isSome = true := by rw [h]; rfl
/-- the facts of a type, by its number -/
theorem facts_of {e : TypeId} {i : TypeInfo} {z : Value} {s n : Nat} (h : (Tryz.prog.info? e).map (fun i => (i.zero, i.size, i.bytes)) = some (some z, s, n)) (hi : Tryz.prog.info? e = some i) : i.zero = some z ∧ i.size = s ∧ i.bytes = n := by
  rw [hi] at h
  simp only [Option.map_some, Option.some.injEq, Prod.mk.injEq] at h
  exact h
noncomputable def infoOf (e : TypeId) (h : (Tryz.prog.info? e).isSome = true) : TypeInfo := (Tryz.prog.info? e).get h
theorem infoOf_eq (e : TypeId) (h : (Tryz.prog.info? e).isSome = true) : Tryz.prog.info? e = some (infoOf e h) := by unfold infoOf; rw [Option.some_get]
/-- numbers -/
theorem intF : (Tryz.prog.info? 3).map (fun i => (i.zero, i.size, i.bytes)) = some (some (.int .i64 0), 1, 8) := by kernel_rfl
noncomputable def intE : Ek Tryz.prog Int where
  t := 44
  e := 3
  i := infoOf 3 (by kernel_rfl)
  z := .int .i64 0
  size := 1
  bytes := 8
  enc n := [.int .i64 n]
  ht := by kernel_rfl
  hi := infoOf_eq _ _
  hz := (facts_of intF (infoOf_eq _ _)).1
  hs := (facts_of intF (infoOf_eq _ _)).2.1
  hb := (facts_of intF (infoOf_eq _ _)).2.2
  zs := rfl
  pos := by decide
  bb := by decide
  len _ := rfl
  one x u hu := by simp at hu; subst hu; rfl
/-- spans -/
theorem spnF : (Tryz.prog.info? 48).map (fun i => (i.zero, i.size, i.bytes)) = some (some (.agg #[.int .i64 0, .int .i64 0, .int .i64 0, .int .i64 0, .string ⟨#[]⟩, .string ⟨#[]⟩, .int .i64 0, .int .i64 0, .bool false]), 9, 88) := by kernel_rfl
noncomputable def spnE : Ek Tryz.prog Spn where
  t := 31
  e := 48
  i := infoOf 48 (by kernel_rfl)
  z := .agg #[.int .i64 0, .int .i64 0, .int .i64 0, .int .i64 0, .string ⟨#[]⟩, .string ⟨#[]⟩, .int .i64 0, .int .i64 0, .bool false]
  size := 9
  bytes := 88
  enc x := [.int .i64 x.tr, .int .i64 x.id, .int .i64 x.pa, .int .i64 x.rv, .string x.sv, .string x.op, .int .i64 x.st, .int .i64 x.du, .bool x.gone]
  ht := by kernel_rfl
  hi := infoOf_eq _ _
  hz := (facts_of spnF (infoOf_eq _ _)).1
  hs := (facts_of spnF (infoOf_eq _ _)).2.1
  hb := (facts_of spnF (infoOf_eq _ _)).2.2
  zs := rfl
  pos := by decide
  bb := by decide
  len _ := rfl
  one x u hu := by
    simp only [List.mem_cons, List.not_mem_nil, or_false] at hu
    rcases hu with rfl | rfl | rfl | rfl | rfl | rfl | rfl | rfl | rfl <;> rfl
/-- a slice's three parts -/
abbrev Sl := Option Addr × Nat × Nat
abbrev slV (s : Sl) : Value := .slice s.1 s.2.1 s.2.2
/-- entries: two names and a slice -/
theorem entF : (Tryz.prog.info? 46).map (fun i => (i.zero, i.size, i.bytes)) = some (some (.agg #[.string ⟨#[]⟩, .string ⟨#[]⟩, .slice none 0 0]), 3, 56) := by kernel_rfl
noncomputable def entE : Ek Tryz.prog (ByteArray × ByteArray × Sl) where
  t := 38
  e := 46
  i := infoOf 46 (by kernel_rfl)
  z := .agg #[.string ⟨#[]⟩, .string ⟨#[]⟩, .slice none 0 0]
  size := 3
  bytes := 56
  enc x := [.string x.1, .string x.2.1, slV x.2.2]
  ht := by kernel_rfl
  hi := infoOf_eq _ _
  hz := (facts_of entF (infoOf_eq _ _)).1
  hs := (facts_of entF (infoOf_eq _ _)).2.1
  hb := (facts_of entF (infoOf_eq _ _)).2.2
  zs := rfl
  pos := by decide
  bb := by decide
  len _ := rfl
  one x u hu := by
    simp only [List.mem_cons, List.not_mem_nil, or_false] at hu
    rcases hu with rfl | rfl | rfl <;> rfl
/-- a reading slice of spans -/
theorem spns_of_reads {w : World} {v : Value} {l : List Spn} {a : Option Addr} {n cap : Nat} (h : spnE.Reads w v l) (hv : v = .slice a n cap) (hc : n ≤ cap) : SpnsAt w v l := by
  have h' := h
  obtain ⟨a1, cap1, e, hn, h0, hcs⟩ := h'
  rw [hv] at e
  injection e with e1 e2 e3
  subst e1; subst e3
  refine ⟨a, cap, by rw [hv, e2], ⟨hn, by omega⟩, h0, fun g o s ha => ⟨(hcs g o s ha).1, fun i hi => ?_⟩⟩
  obtain rfl := (hcs g o s ha).1 (ne_nil_of_lt hi)
  subst ha
  rw [hv] at h
  have hq := fun j hj => h.elem spnE i j hi hj
  have h0 := hq 0 (by decide); have h1 := hq 1 (by decide); have h2 := hq 2 (by decide); have h3 := hq 3 (by decide); have h4 := hq 4 (by decide)
  have h5 := hq 5 (by decide); have h6 := hq 6 (by decide); have h7 := hq 7 (by decide); have h8 := hq 8 (by decide)
  exact ⟨⟨⟨h0, h1, h2⟩, h3, h4, h5⟩, h6, h7, h8⟩
theorem spns_of_own {B : Nat} {v : Value} {l : List Spn} {w : World} (h : spnE.Own B v l w) (hl : l.length ≤ 1000000) : SpnsAt w v l := by
  obtain ⟨a, cap, hv, h0, hc⟩ := h.slice spnE
  exact spns_of_reads (h.reads spnE hl) hv hc
theorem reads_of_spns {w : World} {v : Value} {l : List Spn} (h : SpnsAt w v l) : spnE.Reads w v l := by
  obtain ⟨a, cap, rfl, hn, h0, hc⟩ := h
  refine ⟨a, cap, rfl, hn.1, h0, fun g o s ha => ⟨(hc g o s ha).1, fun j u hj => ?_⟩⟩
  have hlt : j < l.length * 9 := by
    have := spnE.cells_len l
    rcases Nat.lt_or_ge j (l.length * 9) with h | h
    · exact h
    · rw [List.getElem?_eq_none (by rw [this]; exact h)] at hj; cases hj
  have hi : j / 9 < l.length := by omega
  have hr : j % 9 < 9 := Nat.mod_lt _ (by decide)
  have hjr : j = j / 9 * 9 + j % 9 := by omega
  have h9 := (hc g o s ha).2 (j / 9) hi
  have e := spnE.cells_at l (j / 9) (j % 9) hi hr
  have e9 : spnE.size = 9 := rfl
  rw [e9, ← hjr] at e
  rw [e] at hj
  have hcell : w.cell? ⟨g, o + j / 9 * 9 + j % 9, none⟩ = some u := by
    unfold C9 at h9
    obtain ⟨⟨⟨c0, c1, c2⟩, c3, c4, c5⟩, c6, c7, c8⟩ := h9
    generalize j / 9 = q at *
    generalize hm : j % 9 = r at *
    match r, hr with
    | 0, _ => rw [Nat.add_zero, c0]; exact hj
    | 1, _ => rw [c1]; exact hj
    | 2, _ => rw [c2]; exact hj
    | 3, _ => rw [c3]; exact hj
    | 4, _ => rw [c4]; exact hj
    | 5, _ => rw [c5]; exact hj
    | 6, _ => rw [c6]; exact hj
    | 7, _ => rw [c7]; exact hj
    | 8, _ => rw [c8]; exact hj
  rw [Nat.add_assoc, ← hjr] at hcell
  exact hcell
end Go.Proofs.YtdonmmjikcbihaaGreatDoor
/- Search trees as lists in order (plain). -/
namespace Go.Vc
variable {κ α : Type}
/-- an order of keys -/
structure Order (c : κ → κ → Ordering) : Prop where
  refl : ∀ a, c a a = .eq
  eq : ∀ {a b}, c a b = .eq → a = b
  flip : ∀ {a b}, c a b = .lt → c b a = .gt
  flip' : ∀ {a b}, c a b = .gt → c b a = .lt
  trans : ∀ {a b d}, c a b = .lt → c b d = .lt → c a d = .lt
theorem Order.gtrans {c : κ → κ → Ordering} (O : Order c) {a b d : κ} (h : c a b = .gt) (k : c b d = .gt) : c a d = .gt := O.flip (O.trans (O.flip' k) (O.flip' h))
/-- keys that rise -/
def Rises (c : κ → κ → Ordering) (l : List (κ × α)) : Prop := l.Pairwise fun a b => c a.1 b.1 = .lt
def putL (c : κ → κ → Ordering) (k : κ) (v : α) : List (κ × α) → List (κ × α)
  | [] => [(k, v)]
  | x :: t => match c k x.1 with
    | .lt => (k, v) :: x :: t
    | .eq => (x.1, v) :: t
    | .gt => x :: putL c k v t
def findL (c : κ → κ → Ordering) (k : κ) : List (κ × α) → Option α
  | [] => none
  | x :: t => match c k x.1 with
    | .eq => some x.2
    | _ => findL c k t
def dropL (c : κ → κ → Ordering) (k : κ) (l : List (κ × α)) : List (κ × α) := l.filter fun x => c k x.1 != .eq
def sinceL (c : κ → κ → Ordering) (k : κ) (l : List (κ × α)) : List (κ × α) := l.filter fun x => c x.1 k != .lt
theorem putL_below {c : κ → κ → Ordering} {k : κ} {v : α} {x : κ × α} {R : List (κ × α)} (h : c k x.1 = .lt) : ∀ L : List (κ × α), putL c k v (L ++ x :: R) = putL c k v L ++ x :: R
  | [] => by simp only [List.nil_append, putL, h]; rfl
  | y :: L => by
    simp only [List.cons_append, putL]
    cases hy : c k y.1 <;> simp only [List.cons_append]
    rw [putL_below h L]
theorem putL_above {c : κ → κ → Ordering} {k : κ} {v : α} {M : List (κ × α)} : ∀ L : List (κ × α), (∀ y ∈ L, c k y.1 = .gt) → putL c k v (L ++ M) = L ++ putL c k v M
  | [], _ => rfl
  | y :: L, h => by
    simp only [List.cons_append, putL, h y (List.mem_cons_self ..)]
    rw [putL_above L fun z hz => h z (List.mem_cons_of_mem _ hz)]
theorem findL_skip {c : κ → κ → Ordering} {k : κ} {M : List (κ × α)} : ∀ L : List (κ × α), (∀ y ∈ L, c k y.1 ≠ .eq) → findL c k (L ++ M) = findL c k M
  | [], _ => rfl
  | y :: L, h => by
    have hy := h y (List.mem_cons_self ..)
    simp only [List.cons_append, findL]
    rw [findL_skip L fun z hz => h z (List.mem_cons_of_mem _ hz)]
theorem findL_left {c : κ → κ → Ordering} {k : κ} {M : List (κ × α)} (hM : ∀ y ∈ M, c k y.1 ≠ .eq) : ∀ L : List (κ × α), findL c k (L ++ M) = findL c k L
  | [] => by
    have := findL_skip (M := []) M hM
    simpa [findL] using this
  | y :: L => by
    simp only [List.cons_append, findL]
    rw [findL_left hM L]
namespace T
/-- what a node's list tells of its parts -/
theorem rises_node {c : κ → κ → Ordering} {b : Nat} {k : κ} {v : α} {l r : T κ α} (h : Rises c (node b k v l r).toList) :
    Rises c l.toList ∧ Rises c r.toList ∧ (∀ y ∈ l.toList, c y.1 k = .lt) ∧ (∀ y ∈ r.toList, c k y.1 = .lt) ∧ (∀ x ∈ l.toList, ∀ y ∈ r.toList, c x.1 y.1 = .lt) := by
  unfold Rises at *
  rw [show (node b k v l r).toList = l.toList ++ (k, v) :: r.toList from rfl, List.pairwise_append] at h
  obtain ⟨h1, h2, h3⟩ := h
  rw [List.pairwise_cons] at h2
  exact ⟨h1, h2.2, fun y hy => h3 y hy _ (List.mem_cons_self ..), h2.1, fun x hx y hy => h3 x hx y (List.mem_cons_of_mem _ hy)⟩
theorem put_toList {c : κ → κ → Ordering} (O : Order c) (N : Nat) (key : κ) (val : α) (t : T κ α) (h : Rises c t.toList) : (t.put c N key val).1.toList = putL c key val t.toList := by
  induction t with
  | nil => rfl
  | node b k v l r ihl ihr =>
    obtain ⟨h1, h2, h3, h4, h5⟩ := rises_node h
    cases hk : c key k with
    | lt => simp only [put, hk, level_toList, toList, ihl h1]; rw [putL_below hk]
    | gt =>
      simp only [put, hk, level_toList, toList, ihr h2]
      rw [putL_above _ fun y hy => O.gtrans hk (O.flip (h3 y hy))]
      simp only [putL, hk]
    | eq =>
      simp only [put, hk, level_toList, toList]
      have := O.eq hk
      subst this
      rw [putL_above _ fun y hy => O.flip (h3 y hy)]
      simp only [putL, hk]
theorem find_toList {c : κ → κ → Ordering} (O : Order c) (key : κ) (t : T κ α) (h : Rises c t.toList) : t.find c key = findL c key t.toList := by
  induction t with
  | nil => rfl
  | node b k v l r ihl ihr =>
    obtain ⟨h1, h2, h3, h4, h5⟩ := rises_node h
    cases hk : c key k with
    | lt =>
      simp only [find, hk, toList, ihl h1]
      rw [findL_left]
      intro y hy
      rw [List.mem_cons] at hy
      rcases hy with rfl | hy
      · rw [hk]; exact fun e => by cases e
      · rw [O.trans hk (h4 y hy)]; exact fun e => by cases e
    | gt =>
      simp only [find, hk, toList, ihr h2]
      rw [findL_skip _ fun y hy => by rw [O.gtrans hk (O.flip (h3 y hy))]; exact fun e => by cases e]
      simp only [findL, hk]
    | eq =>
      simp only [find, hk, toList]
      have := O.eq hk
      subst this
      rw [findL_skip _ fun y hy => by rw [O.flip (h3 y hy)]; exact fun e => by cases e]
      simp only [findL, hk]
theorem drop_toList {c : κ → κ → Ordering} (O : Order c) (key : κ) (t : T κ α) (h : Rises c t.toList) : (t.drop c key).1.toList = dropL c key t.toList := by
  induction t with
  | nil => rfl
  | node b k v l r ihl ihr =>
    obtain ⟨h1, h2, h3, h4, h5⟩ := rises_node h
    have keepAll : ∀ L : List (κ × α), (∀ y ∈ L, c key y.1 ≠ .eq) → dropL c key L = L := by
      intro L hL
      refine List.filter_eq_self.2 fun y hy => ?_
      have := hL y hy
      cases he : c key y.1 <;> simp_all
    have split : dropL c key (node b k v l r).toList = dropL c key l.toList ++ (if c key k = .eq then [] else [(k, v)]) ++ dropL c key r.toList := by
      rw [show (node b k v l r).toList = l.toList ++ (k, v) :: r.toList from rfl]
      unfold dropL
      rw [List.filter_append, List.filter_cons]
      cases hk : c key k <;> simp
    rw [split]
    cases hk : c key k with
    | lt =>
      rw [drop_lt hk, level_toList, if_neg (by exact fun e => by cases e), keepAll r.toList (fun y hy => by rw [O.trans hk (h4 y hy)]; exact fun e => by cases e)]
      show (l.drop c key).1.toList ++ (k, v) :: r.toList = _
      rw [ihl h1]; simp
    | gt =>
      rw [drop_gt hk, level_toList, if_neg (by exact fun e => by cases e), keepAll l.toList (fun y hy => by rw [O.gtrans hk (O.flip (h3 y hy))]; exact fun e => by cases e)]
      show l.toList ++ (k, v) :: (r.drop c key).1.toList = _
      rw [ihr h2]; simp
    | eq =>
      have e := O.eq hk
      subst e
      rw [if_pos rfl, keepAll l.toList (fun y hy => by rw [O.flip (h3 y hy)]; exact fun e => by cases e), keepAll r.toList (fun y hy => by rw [h4 y hy]; exact fun e => by cases e)]
      cases r with
      | nil => simp only [drop, hk, toList, List.append_nil]
      | node b' k' v' l' r' =>
        obtain ⟨d, kc, vc, hl⟩ := least_some b' k' v' l' r'
        have ht := least_toList b' k' v' l' r' d kc vc hl
        simp only [drop, hk, hl, level_toList]
        show l.toList ++ (kc, vc) :: (least (node b' k' v' l' r')).1.toList = _
        rw [ht]; simp
theorem since_toList {c : κ → κ → Ordering} (O : Order c) (fk : κ) (t : T κ α) (h : Rises c t.toList) : t.since c fk = sinceL c fk t.toList := by
  induction t with
  | nil => rfl
  | node b k v l r ihl ihr =>
    obtain ⟨h1, h2, h3, h4, h5⟩ := rises_node h
    rw [show (node b k v l r).toList = l.toList ++ (k, v) :: r.toList from rfl]
    have up : c k fk ≠ .lt → sinceL c fk r.toList = r.toList := by
      intro hk
      refine List.filter_eq_self.2 fun y hy => ?_
      cases he : c y.1 fk <;> simp
      exact hk (O.trans (h4 y hy) he)
    cases hk : c k fk with
    | lt =>
      simp only [since, hk, ihr h2]
      have hl : sinceL c fk l.toList = [] := by
        refine List.filter_eq_nil_iff.2 fun y hy => ?_
        rw [O.trans (h3 y hy) hk]; simp
      unfold sinceL at *
      rw [List.filter_append, List.filter_cons, hl, hk]; simp
    | gt | eq =>
      have hu := up (by rw [hk]; exact fun e => by cases e)
      simp only [since, hk, ihl h1]
      unfold sinceL at *
      rw [List.filter_append, List.filter_cons, hu, hk]; simp
end T
theorem T.put_flag {c : κ → κ → Ordering} (N : Nat) (key : κ) (val : α) (t : T κ α) : (t.put c N key val).2 = (t.find c key).isNone := by
  induction t with
  | nil => rfl
  | node b k v l r ihl ihr => cases hk : c key k <;> simp only [T.put, T.find, hk, ihl, ihr, Option.isNone_some]
theorem T.drop_flag {c : κ → κ → Ordering} (key : κ) (t : T κ α) : (t.drop c key).2 = (t.find c key).isSome := by
  induction t with
  | nil => rfl
  | node b k v l r ihl ihr =>
    cases hk : c key k with
    | lt => rw [T.drop_lt hk]; simp only [T.find, hk, ihl]
    | gt => rw [T.drop_gt hk]; simp only [T.find, hk, ihr]
    | eq =>
      cases r with
      | nil => simp only [T.drop, T.find, hk, Option.isSome_some]
      | node b' k' v' l' r' =>
        obtain ⟨d, kc, vc, hl⟩ := T.least_some b' k' v' l' r'
        simp only [T.drop, T.find, hk, hl, Option.isSome_some]
theorem putL_keys {c : κ → κ → Ordering} (k : κ) (v : α) : ∀ (l : List (κ × α)) (y : κ × α), y ∈ putL c k v l → y.1 = k ∨ ∃ z ∈ l, z.1 = y.1
  | [], y, h => by simp only [putL, List.mem_singleton] at h; subst h; exact .inl rfl
  | x :: t, y, h => by
    simp only [putL] at h
    split at h
    · rw [List.mem_cons] at h
      rcases h with rfl | h
      · exact .inl rfl
      · exact .inr ⟨y, h, rfl⟩
    · rw [List.mem_cons] at h
      rcases h with rfl | h
      · exact .inr ⟨x, List.mem_cons_self .., rfl⟩
      · exact .inr ⟨y, List.mem_cons_of_mem _ h, rfl⟩
    · rw [List.mem_cons] at h
      rcases h with rfl | h
      · exact .inr ⟨y, List.mem_cons_self .., rfl⟩
      · rcases putL_keys k v t y h with h | ⟨z, hz, e⟩
        · exact .inl h
        · exact .inr ⟨z, List.mem_cons_of_mem _ hz, e⟩
theorem rises_putL {c : κ → κ → Ordering} (O : Order c) (k : κ) (v : α) : ∀ l : List (κ × α), Rises c l → Rises c (putL c k v l)
  | [], _ => List.pairwise_singleton _ _
  | x :: t, h => by
    unfold Rises at h
    rw [List.pairwise_cons] at h
    simp only [putL]
    split
    · rename_i hk
      exact List.pairwise_cons.2 ⟨fun y hy => by
        rw [List.mem_cons] at hy
        rcases hy with rfl | hy
        · exact hk
        · exact O.trans hk (h.1 y hy), List.pairwise_cons.2 h⟩
    · exact List.pairwise_cons.2 ⟨fun y hy => h.1 y hy, h.2⟩
    · rename_i hk
      refine List.pairwise_cons.2 ⟨fun y hy => ?_, rises_putL O k v t h.2⟩
      rcases putL_keys k v t y hy with e | ⟨z, hz, e⟩
      · rw [e]; exact O.flip' hk
      · rw [← e]; exact h.1 z hz
theorem rises_dropL {c : κ → κ → Ordering} (k : κ) (l : List (κ × α)) (h : Rises c l) : Rises c (dropL c k l) := List.Pairwise.filter _ h
theorem order_I : Order cmpI := by
  refine ⟨fun a => ?_, fun {a b} h => ?_, fun {a b} h => ?_, fun {a b} h => ?_, fun {a b d} h k => ?_⟩
  all_goals unfold cmpI at *
  · simp
  · split at h <;> try cases h
    split at h <;> first | assumption | cases h
  · split at h
    · rw [if_neg (by omega), if_neg (by omega)]
    · split at h <;> cases h
  · split at h
    · cases h
    · split at h
      · cases h
      · rw [if_pos (by omega)]
  · split at h
    · split at k
      · rw [if_pos (by omega)]
      · split at k <;> cases k
    · split at h <;> cases h
end Go.Vc
/- The order of keys (plain). -/
namespace Go.Vc
open Go
theorem less_irrefl : ∀ x : List UInt8, Op.bytesLess x x = false
  | [] => rfl
  | a :: x => by simp [Op.bytesLess, less_irrefl x]
theorem less_trans : ∀ x y z : List UInt8, Op.bytesLess x y = true → Op.bytesLess y z = true → Op.bytesLess x z = true
  | _, [], _, h, _ => by cases ‹List UInt8› <;> simp [Op.bytesLess] at h
  | _, _ :: _, [], _, k => by simp [Op.bytesLess] at k
  | [], _ :: _, _ :: _, _, _ => rfl
  | a :: x, b :: y, d :: z, h, k => by
    simp only [Op.bytesLess, Bool.or_eq_true, Bool.and_eq_true, decide_eq_true_eq, beq_iff_eq] at h k ⊢
    rcases h with h | ⟨rfl, h⟩
    · rcases k with k | ⟨rfl, k⟩
      · exact .inl (UInt8.lt_trans h k)
      · exact .inl h
    · rcases k with k | ⟨rfl, k⟩
      · exact .inl k
      · exact .inr ⟨rfl, less_trans x y z h k⟩
theorem less_tri : ∀ x y : List UInt8, Op.bytesLess x y = false → Op.bytesLess y x = false → x = y
  | [], [], _, _ => rfl
  | [], _ :: _, h, _ => by simp [Op.bytesLess] at h
  | _ :: _, [], _, h => by simp [Op.bytesLess] at h
  | a :: x, b :: y, h, k => by
    simp only [Op.bytesLess, Bool.or_eq_false_iff, Bool.and_eq_false_iff, decide_eq_false_iff_not] at h k
    have e : a = b := UInt8.le_antisymm (UInt8.not_lt.1 k.1) (UInt8.not_lt.1 h.1)
    subst e
    have h2 : Op.bytesLess x y = false := by rcases h.2 with h | h; simp at h; exact h
    have k2 : Op.bytesLess y x = false := by rcases k.2 with k | k; simp at k; exact k
    rw [less_tri x y h2 k2]
theorem less_asymm {x y : List UInt8} (h : Op.bytesLess x y = true) : Op.bytesLess y x = false := by
  cases hk : Op.bytesLess y x with
  | false => rfl
  | true =>
    have := less_trans _ _ _ h hk
    rw [less_irrefl] at this; cases this
theorem bytes_ext {a b : ByteArray} (h : a.toList = b.toList) : a = b := by
  rw [ByteArray.toList_eq, ByteArray.toList_eq] at h
  obtain ⟨⟨x⟩⟩ := a; obtain ⟨⟨y⟩⟩ := b
  simp only at h; rw [h]
theorem cmpS_is_lt {a b : ByteArray} : cmpS a b = .lt ↔ Op.bytesLess a.toList b.toList = true := by
  unfold cmpS; split
  · simp_all
  · split <;> simp_all
theorem cmpS_is_gt {a b : ByteArray} : cmpS a b = .gt ↔ Op.bytesLess b.toList a.toList = true := by
  unfold cmpS; split
  · rename_i h; rw [less_asymm h]; simp
  · rename_i h
    split
    · rename_i e; rw [beq_iff_eq] at e; rw [e, less_irrefl]; simp
    · rename_i e
      simp only [true_iff]
      cases hk : Op.bytesLess b.toList a.toList with
      | true => rfl
      | false => exact absurd (by rw [beq_iff_eq]; exact less_tri _ _ (Bool.eq_false_iff.2 h) hk) e
theorem order_S : Order cmpS where
  refl a := by unfold cmpS; rw [less_irrefl]; simp
  eq {a b} h := by
    unfold cmpS at h; split at h
    · cases h
    · split at h
      · rename_i e; rw [beq_iff_eq] at e; exact bytes_ext e
      · cases h
  flip h := cmpS_is_gt.2 (cmpS_is_lt.1 h)
  flip' h := cmpS_is_lt.2 (cmpS_is_gt.1 h)
  trans h k := cmpS_is_lt.2 (less_trans _ _ _ (cmpS_is_lt.1 h) (cmpS_is_lt.1 k))
/-! ### numbers as bytes -/
def valB : List UInt8 → Nat
  | [] => 0
  | d :: l => d.toNat * 256 ^ l.length + valB l
theorem valB_lt : ∀ l : List UInt8, valB l < 256 ^ l.length
  | [] => by simp [valB]
  | d :: l => by
    have := valB_lt l
    have hd := d.toNat_lt
    simp only [valB, List.length_cons, Nat.pow_succ]
    have : d.toNat * 256 ^ l.length + 256 ^ l.length ≤ 256 * 256 ^ l.length := by
      have : (d.toNat + 1) * 256 ^ l.length ≤ 256 * 256 ^ l.length := Nat.mul_le_mul_right _ (by omega)
      rw [Nat.succ_mul] at this; exact this
    rw [Nat.mul_comm (256 ^ l.length) 256]; omega
theorem less_val : ∀ (p q : List UInt8) (x y : List UInt8), p.length = q.length → Op.bytesLess (p ++ x) (q ++ y) = (decide (valB p < valB q) || (decide (valB p = valB q) && Op.bytesLess x y))
  | [], [], x, y, _ => by simp [valB]
  | a :: p, b :: q, x, y, h => by
    have hl : p.length = q.length := by simpa using h
    have hp := valB_lt p
    have hq := valB_lt q
    rw [hl] at hp
    simp only [List.cons_append, Op.bytesLess, valB, hl]
    rw [less_val p q x y hl]
    rcases Nat.lt_trichotomy a.toNat b.toNat with hab | hab | hab
    · have h1 : a < b := UInt8.lt_iff_toNat_lt.2 hab
      have h2 : (a.toNat + 1) * 256 ^ q.length ≤ b.toNat * 256 ^ q.length := Nat.mul_le_mul_right _ hab
      rw [Nat.succ_mul] at h2
      rw [decide_eq_true h1, decide_eq_true (show a.toNat * 256 ^ q.length + valB p < b.toNat * 256 ^ q.length + valB q by omega)]; rfl
    · have e : a = b := UInt8.toNat.inj hab
      subst e
      rw [decide_eq_false (show ¬ a < a from fun h => absurd (UInt8.lt_iff_toNat_lt.1 h) (Nat.lt_irrefl _))]
      simp
    · have h1 : ¬ a < b := fun h => absurd (UInt8.lt_iff_toNat_lt.1 h) (by omega)
      have h3 : (a == b) = false := by rw [beq_eq_false_iff_ne]; intro e; subst e; omega
      have h2 : (b.toNat + 1) * 256 ^ q.length ≤ a.toNat * 256 ^ q.length := Nat.mul_le_mul_right _ hab
      rw [Nat.succ_mul] at h2
      rw [decide_eq_false h1, h3, decide_eq_false (show ¬ a.toNat * 256 ^ q.length + valB p < b.toNat * 256 ^ q.length + valB q by omega), decide_eq_false (show ¬ a.toNat * 256 ^ q.length + valB p = b.toNat * 256 ^ q.length + valB q by omega)]; rfl
end Go.Vc
namespace Go.Proofs.YtdonmmjikcbihaaGreatDoor
open Go.Vc
theorem num_val (n : Int) (h : I64 n) : (valB (num n).toList : Int) = n + 9223372036854775808 := by
  obtain ⟨u, hu⟩ : ∃ u, u = n + 9223372036854775808 := ⟨_, rfl⟩
  have h0 : 0 ≤ u ∧ u < 18446744073709551616 := by rw [hu]; omega
  rw [ByteArray.toList_eq, ← hu, num, ← hu]
  have e : ∀ i, ((UInt8.ofNat (B8 u i).toNat).toNat : Int) = B8 u i := fun i => u8_back (B8_bound u i)
  show ((valB [UInt8.ofNat (B8 u 7).toNat, UInt8.ofNat (B8 u 6).toNat, UInt8.ofNat (B8 u 5).toNat, UInt8.ofNat (B8 u 4).toNat, UInt8.ofNat (B8 u 3).toNat, UInt8.ofNat (B8 u 2).toNat, UInt8.ofNat (B8 u 1).toNat, UInt8.ofNat (B8 u 0).toNat] : Nat) : Int) = u
  have e7 := e 7; have e6 := e 6; have e5 := e 5; have e4 := e 4; have e3 := e 3; have e2 := e 2; have e1 := e 1; have e0 := e 0
  simp only [valB, List.length_cons, List.length_nil]
  simp only [Nat.reduceAdd, Nat.reducePow]
  unfold B8 at *
  simp only [Nat.reduceMul, Int.reducePow] at *
  omega
theorem cmp_num (a b : Int) (ha : I64 a) (hb : I64 b) (s t : ByteArray) : cmpS (num a ++ s) (num b ++ t) = if a < b then .lt else if b < a then .gt else cmpS s t := by
  have va := num_val a ha
  have vb := num_val b hb
  have ln : ∀ n, (num n).toList.length = 8 := fun n => by rw [ByteArray.toList_eq]; rfl
  have app : ∀ x y : ByteArray, (x ++ y).toList = x.toList ++ y.toList := fun x y => by simp only [ByteArray.toList_eq, ByteArray.data_append, Array.toList_append]
  have hlt := less_val (num a).toList (num b).toList s.toList t.toList (by rw [ln, ln])
  have hgt := less_val (num b).toList (num a).toList t.toList s.toList (by rw [ln, ln])
  rw [← app, ← app] at hlt hgt
  by_cases h1 : a < b
  · rw [if_pos h1, cmpS_is_lt, hlt, decide_eq_true (by omega)]; rfl
  · by_cases h2 : b < a
    · rw [if_neg h1, if_pos h2, cmpS_is_gt, hgt, decide_eq_true (by omega)]; rfl
    · have e : a = b := by omega
      subst e
      rw [if_neg h1, if_neg h2]
      simp only [Nat.lt_irrefl, decide_false, decide_true, Bool.true_and, Bool.false_or] at hlt hgt
      cases hc : cmpS s t with
      | lt => rw [cmpS_is_lt, hlt]; exact cmpS_is_lt.1 hc
      | gt => rw [cmpS_is_gt, hgt]; exact cmpS_is_gt.1 hc
      | eq => rw [order_S.eq hc]; exact order_S.refl _
end Go.Proofs.YtdonmmjikcbihaaGreatDoor
/- Package code: a record's bytes; package rank: which record goes ahead. -/
namespace Go.Proofs.YtdonmmjikcbihaaGreatDoor
open Go.RowKit Go.Proofs Go.Vc
attribute [local irreducible] Calls CallsIn Code.wp Code.wpIn
/-- what Write leaves -/
def Wrote (b : Nat) (x : Spn) (w w' : World) : Prop := ∃ B, w.heap.size ≤ B ∧ Wr B b (sbytes x) w' ∧ Keeps (fun i => i = b) w w'
/-- a record whose numbers may be written -/
structure Good (x : Spn) : Prop where
  fits : x.Fits
  tr : 0 ≤ x.tr
  id : 0 ≤ x.id
  pa : 0 ≤ x.pa
  rv : 0 ≤ x.rv
  sv : x.sv.size ≤ 24
  op : x.op.size ≤ 24
theorem nth4_val {x : Spn} (h : Good x) (j : Nat) (hj : j < 4) : (#[.int .i64 x.tr, .int .i64 x.id, .int .i64 x.pa, .int .i64 x.rv] : Array Value)[j]? = some (.int .i64 (nth4 x j : Int)) := by
  obtain ⟨hf, h1, h2, h3, h4, _, _⟩ := h
  match j, hj with
  | 0, _ => simp [nth4, Int.toNat_of_nonneg h1]
  | 1, _ => simp [nth4, Int.toNat_of_nonneg h2]
  | 2, _ => simp [nth4, Int.toNat_of_nonneg h3]
  | 3, _ => simp [nth4, Int.toNat_of_nonneg h4]
theorem nth4_le {x : Spn} (h : Good x) (j : Nat) : nth4 x j ≤ 9223372036854775807 := by
  obtain ⟨hf, _⟩ := h
  have := hf.tr.2; have := hf.id.2; have := hf.pa.2; have := hf.rv.2
  unfold nth4; split <;> omega
theorem pre4_len {x : Spn} (h : Good x) (j : Nat) : (pre4 x j).length ≤ 10 * j := by
  induction j with
  | zero => simp [pre4]
  | succ j ih =>
    have := vbytes_len 9 (nth4 x j) (by have := nth4_le h j; omega)
    simp only [pre4, List.length_append]; omega
theorem index4 (a b c d : Value) (w : World) (j : Nat) (hj : j < 4) : (Instr.index 165 (.agg #[a, b, c, d]) (.int .i64 j)).run Tryz.prog w = .ok ((#[a, b, c, d] : Array Value).getD j undef) w := by
  have h1 : Tryz.prog.underlying 165 = some (.array 4 3) := by kernel_rfl
  match j, hj with
  | 0, _ | 1, _ | 2, _ | 3, _ => simp [Instr.index, asIntOf, run_underlying h1, part, Tryz.sizeOf3, Tryz.isAgg3, Result.andThen]
set_option maxRecDepth 20000 in
theorem write_i (b : Nat) (x : Spn) (hx : Good x) (w : World) (hb : w.heap[b]? = some (.cells #[.pointer none, .slice none 0 0] TW (0, 0))) :
    Calls Tryz.prog 115 #[.pointer (some ⟨b, 0, none⟩), spnV x] w fun e w' => e = .returned (.tuple #[]) ∧ Wrote b x w w' := by
  obtain ⟨wa, hwa⟩ : ∃ wa, wa = w.alloc (.cells (spnC x) 48) := ⟨_, rfl⟩
  have hE : Ext w wa := by rw [hwa]; exact (Keeps.refl _ w).alloc _
  have hN : wa.heap[w.heap.size]? = some (.cells (spnC x) 48 (0, 0)) := by rw [hwa]; exact World.alloc_heap_new w _
  obtain ⟨c, hc0⟩ : ∃ c, c = w.heap.size := ⟨_, rfl⟩
  rw [← hc0] at hN
  have hc := blk_cell hN
  have hbc : b < c := by rw [hc0]; exact lt_of_heap hb
  have hW : Wr wa.heap.size b [] wa := ⟨_, _, .inl rfl, (Ext.same hE (lt_of_heap hb)).trans hb, World.ownsRow_nil _ _ _ _, by simp [Value.ownBlock], Nat.le_refl _⟩
  have HX := Lib.hid hx
  have HE := Lib.hid (And.intro hE (And.intro hN (And.intro hW hbc)))
  clear hx hE hN hW hbc hb
  go_enter Tryz.func115, Tryz.ntmps115
  go_wp2_with fail
  rw [← hwa, ← hc0]
  have HC := Lib.hid hc0
  clear hwa hc0
  go_wp2_with fail
  go_loopg [15] 4 (fun k p wr => ∃ j : Nat, p = .int .i64 j ∧ j + k = 4 ∧ Wr wa.heap.size b (pre4 x j) wr ∧ Fresh wa.heap.size b wa wr)
  case atStart => exact ⟨0, rfl, rfl, HE.out.2.2.1, Keeps.refl _ _⟩
  case round =>
    obtain ⟨j, rfl, hj, hwr, hfr⟩ := hrel
    have HJ := Lib.hid (And.intro hwr hfr)
    clear hwr hfr hc
    by_cases hj4 : j < 4
    · have hj4' : (j : Int) < 4 := by omega
      have HV := Lib.hid (show (#[.int .i64 x.tr, .int .i64 x.id, .int .i64 x.pa, .int .i64 x.rv] : Array Value).getD j undef = .int .i64 (nth4 x j : Int) from by
        have := nth4_val HX.out j hj4
        rw [Array.getD_eq_getD_getElem?, this]; rfl)
      go_wp2_with fail
      rw [index4 _ _ _ _ _ j hj4, HV.out]
      go_wp2_with fail
      refine (num_b _ b _ _ (nth4_le HX.out j) _ HJ.out.1 (by have := pre4_len HX.out j; omega)).mono ?_
      rintro e9 w3 ⟨rfl, hw3, hf3⟩
      have H3 := Lib.hid (And.intro hw3 (HJ.out.2.trans hf3))
      clear hw3 hf3
      go_wp2_with fail
      go_roundg (gk - 1)
      case measure => omega
      case rel => exact ⟨j + 1, by simp, by omega, H3.out⟩
    · have hj4' : ¬ (j : Int) < 4 := by omega
      have : j = 4 := by omega
      subst this
      have hw4 : ¬ (((4 : Nat) : Int) < 4) := by omega
      have HCC := Lib.hid (fun (w' : World) (hf : Fresh wa.heap.size b wa w') => blk_cell ((hf.same c (lt_of_heap HE.out.2.1) (fun hf => hf.elim (fun e => absurd HE.out.2.2.2 (by omega)) (fun e => absurd (lt_of_heap HE.out.2.1) (by omega)))).trans HE.out.2.1))
      have HLN := Lib.hid (And.intro (pre4_len HX.out 4) (And.intro (vbytes_len 9 x.sv.size (by have := HX.out.sv; omega)) (And.intro (vbytes_len 9 x.op.size (by have := HX.out.op; omega)) (And.intro (vbytes_len 9 (zig x.st) (by have := zig_lt x.st HX.out.fits.st.1 HX.out.fits.st.2; omega)) (vbytes_len 9 (zig x.du) (by have := zig_lt x.du HX.out.fits.du.1 HX.out.fits.du.2; omega))))))
      have HSZ := Lib.hid (And.intro (size_list x.sv) (And.intro (size_list x.op) (And.intro HX.out.sv HX.out.op)))
      have hc := HCC.out _ HJ.out.2
      clear hj hj4 hj4'
      go_wp2_with fail
      refine (text_b _ b _ _ (by have := HX.out.sv; omega) _ HJ.out.1 (by have := HLN.out; have := HSZ.out; (try simp only [List.length_append]); omega)).mono ?_
      rintro e9 w5 ⟨rfl, hw5, hf5⟩
      have H5 := Lib.hid (And.intro hw5 (HJ.out.2.trans hf5))
      have hc5 := HCC.out _ H5.out.2
      clear hw5 hf5 hc
      go_wp2_with fail
      refine (text_b _ b _ _ (by have := HX.out.op; omega) _ H5.out.1 (by have := HLN.out; have := HSZ.out; (try simp only [List.length_append]); omega)).mono ?_
      rintro e9 w6 ⟨rfl, hw6, hf6⟩
      have H6 := Lib.hid (And.intro hw6 (H5.out.2.trans hf6))
      have hc6 := HCC.out _ H6.out.2
      clear hw6 hf6 hc5
      go_wp2_with fail
      refine (signed_b _ b _ _ HX.out.fits.st.1 HX.out.fits.st.2 _ H6.out.1 (by have := HLN.out; have := HSZ.out; (try simp only [List.length_append]); omega)).mono ?_
      rintro e9 w7 ⟨rfl, hw7, hf7⟩
      have H7 := Lib.hid (And.intro hw7 (H6.out.2.trans hf7))
      have hc7 := HCC.out _ H7.out.2
      clear hw7 hf7 hc6
      go_wp2_with fail
      refine (signed_b _ b _ _ HX.out.fits.du.1 HX.out.fits.du.2 _ H7.out.1 (by have := HLN.out; have := HSZ.out; (try simp only [List.length_append]); omega)).mono ?_
      rintro e9 w8 ⟨rfl, hw8, hf8⟩
      have H8 := Lib.hid (And.intro hw8 (H7.out.2.trans hf8))
      have hc8 := HCC.out _ H8.out.2
      clear hw8 hf8 hc7
      go_wp2_with fail
      refine (flag_b _ b _ _ _ H8.out.1 (by have := HLN.out; have := HSZ.out; (try simp only [List.length_append]); omega)).mono ?_
      rintro e9 w9 ⟨rfl, hw9, hf9⟩
      have H9 := Lib.hid (And.intro hw9 (H8.out.2.trans hf9))
      have hc9 := HCC.out _ H9.out.2
      clear hw9 hf9 hc8
      go_wp2_with fail
      go_end0
      refine ⟨rfl, wa.heap.size, HE.out.1.size, H9.out.1, ?_⟩
      refine ⟨Nat.le_trans HE.out.1.size H9.out.2.size, fun i hi hib => ?_, (HE.out.1.ost).trans H9.out.2.ost⟩
      exact (H9.out.2.same i (Nat.lt_of_lt_of_le hi HE.out.1.size) (fun h => h.elim hib fun h => absurd (Nat.lt_of_lt_of_le hi HE.out.1.size) (by omega))).trans (Ext.same HE.out.1 hi)
end Go.Proofs.YtdonmmjikcbihaaGreatDoor
/- Package code: Put; package rank: which record goes ahead. -/
namespace Go.Vc
/-- what Put tells -/
def putS (x : Spn) : ByteArray := if may x then ⟨(sbytes x).toArray⟩ else ⟨#[]⟩
/-- the order of two numbers -/
def cmpN (a b : Int) : Int := if a < b then -1 else if b < a then 1 else 0
/-- the order of two records -/
def rankO (a b : Spn) : Int := if cmpN a.rv b.rv = 0 then Lib.compareBytes (putS (kept a)).data.toList (putS (kept b)).data.toList else cmpN a.rv b.rv
/-- does a record go ahead of another one? -/
def newer (a b : Spn) : Bool := decide (0 < rankO a b)
end Go.Vc
namespace Go.Proofs.YtdonmmjikcbihaaGreatDoor
open Go.RowKit Go.Proofs Go.Vc
attribute [local irreducible] Calls CallsIn Code.wp Code.wpIn
theorem good_of {x : Spn} (hf : x.Fits) (h : may x = true) : Good x := by
  unfold may at h
  simp only [Bool.and_eq_true, decide_eq_true_eq] at h
  obtain ⟨⟨⟨⟨⟨⟨⟨h1, h2⟩, h3⟩, h4⟩, h5⟩, h6⟩, _⟩, _⟩ := h
  have key : ∀ s : ByteArray, named s = true → s.size ≤ 24 := by
    intro s h; unfold named at h; simp only [Bool.and_eq_true, decide_eq_true_eq] at h; exact h.2
  exact ⟨hf, by omega, by omega, h3, h4, key _ h5, key _ h6⟩
theorem sbytes_ne (x : Spn) : sbytes x ≠ [] := by unfold sbytes; simp
set_option maxRecDepth 20000 in
theorem put_i (x : Spn) (hx : x.Fits) (w : World) : Calls Tryz.prog 100 #[spnV x] w fun e w' => e = .returned (.tuple #[.string (putS x), .int .i64 (mayE x)]) ∧ Ext w w' := by
  obtain ⟨wa, hwa⟩ : ∃ wa, wa = w.alloc (.cells (spnC x) 48) := ⟨_, rfl⟩
  have hE : Ext w wa := by rw [hwa]; exact (Keeps.refl _ w).alloc _
  have hN : wa.heap[w.heap.size]? = some (.cells (spnC x) 48 (0, 0)) := by rw [hwa]; exact World.alloc_heap_new w _
  obtain ⟨c, hc0⟩ : ∃ c, c = w.heap.size := ⟨_, rfl⟩
  rw [← hc0] at hN
  have hc := blk_cell hN
  have HX := Lib.hid hx
  have HE := Lib.hid (And.intro hE hN)
  clear hx hE hN
  go_enter Tryz.func100, Tryz.ntmps100
  go_wp2_with fail
  rw [← hwa, ← hc0]
  have HC := Lib.hid hc0
  clear hwa hc0
  go_wp2_with fail
  refine (may_i x HX.out _).mono ?_
  rintro e9 w2 ⟨rfl, hE2⟩
  have hN2 := (Ext.same hE2 (lt_of_heap HE.out.2)).trans HE.out.2
  have hc2 := blk_cell hN2
  have H2 := Lib.hid (And.intro (HE.out.1.trans hE2) hN2)
  clear hE2 hN2 hc
  cases hm : may x
  · have hme : mayE x = 1 := mayE_f hm
    have hps : putS x = ⟨#[]⟩ := by unfold putS; rw [hm]; rfl
    have HM := Lib.hid (And.intro hm (And.intro hme hps))
    rw [hme]
    clear hm hme hps
    go_wp2_with fail
    go_ret2
    exact ⟨by rw [HM.out.2.2, HM.out.2.1]; rfl, H2.out.1⟩
  · have hme : mayE x = 0 := mayE_t hm
    have hps : putS x = ⟨(sbytes x).toArray⟩ := by unfold putS; rw [hm]; rfl
    have HG := Lib.hid (good_of HX.out hm)
    have HM := Lib.hid (And.intro hme hps)
    rw [hme]
    clear hm hme hps
    have hlt := lt_of_heap H2.out.2
    go_wp2_with fail
    have hnew : (w2.alloc (.cells #[.pointer none, .slice none 0 0] TW)).heap[w2.heap.size]? = some (.cells #[.pointer none, .slice none 0 0] TW (0, 0)) := World.alloc_heap_new w2 _
    refine (write_i w2.heap.size x HG.out _ hnew).mono ?_
    rintro e9 w4 ⟨rfl, B, hB, hwr, hk⟩
    have hEa : Ext w2 (w2.alloc (.cells #[.pointer none, .slice none 0 0] TW)) := (Keeps.refl _ w2).alloc _
    have hnlt : w2.heap.size < (w2.alloc (.cells #[.pointer none, .slice none 0 0] TW)).heap.size := lt_of_heap hnew
    have hE4 : Ext w2 w4 := ⟨Nat.le_trans hEa.size hk.size, fun i hi _ => (hk.same i (Nat.lt_of_lt_of_le hi hEa.size) (fun e => absurd hi (by omega))).trans (Ext.same hEa hi), (hEa.ost).trans hk.ost⟩
    have H4 := Lib.hid (And.intro hwr (And.intro hE4 (Nat.lt_of_lt_of_le hnlt hB)))
    clear hnew hB hwr hk hEa hnlt hE4 hlt hc2
    go_wp2_with fail
    refine (pk_bytes B w2.heap.size (sbytes x) _ H4.out.1 (sbytes_ne x)).mono ?_
    rintro e9 w5 ⟨rfl, hF⟩
    have hE5 : Ext w2 w5 := ⟨Nat.le_trans H4.out.2.1.size hF.size, fun i hi _ => (hF.same i (Nat.lt_of_lt_of_le hi H4.out.2.1.size) (fun h => h.elim (fun e => absurd hi (by omega)) (fun e => absurd H4.out.2.2 (by omega)))).trans (Ext.same H4.out.2.1 hi), (H4.out.2.1.ost).trans hF.ost⟩
    have H5 := Lib.hid (H2.out.1.trans hE5)
    clear hF hE5
    go_wp2_with fail
    go_ret2
    exact ⟨by rw [HM.out.2, HM.out.1]; rfl, H5.out⟩
theorem nan_i (x : Int) (w : World) : Calls Tryz.prog 114 #[.int .i64 x] w fun e w' => e = .returned (.bool false) ∧ w' = w := by
  go_enter Tryz.func114, Tryz.ntmps114
  go_wp2_with fail
  go_ret
  exact ⟨rfl, rfl⟩
theorem cmp_i (a b : Int) (w : World) : Calls Tryz.prog 99 #[.int .i64 a, .int .i64 b] w fun e w' => e = .returned (.int .i64 (cmpN a b)) ∧ w' = w := by
  rcases Int.lt_trichotomy a b with h | h | h
  · have HM := Lib.hid (show cmpN a b = -1 from by unfold cmpN; rw [if_pos h])
    go_enter Tryz.func99, Tryz.ntmps99
    go_wp2_with fail
    refine (nan_i a _).mono ?_
    rintro e9 w1 ⟨rfl, rfl⟩
    go_wp2_with fail
    refine (nan_i b _).mono ?_
    rintro e9 w2 ⟨rfl, rfl⟩
    go_wp2_with fail
    go_ret
    exact ⟨by rw [HM.out]; rfl, rfl⟩
  · subst h
    have HM := Lib.hid (show cmpN a a = 0 from by unfold cmpN; rw [if_neg (by omega), if_neg (by omega)])
    go_enter Tryz.func99, Tryz.ntmps99
    go_wp2_with fail
    refine (nan_i a _).mono ?_
    rintro e9 w1 ⟨rfl, rfl⟩
    go_wp2_with fail
    refine (nan_i a _).mono ?_
    rintro e9 w2 ⟨rfl, rfl⟩
    go_wp2_with fail
    go_ret
    exact ⟨by rw [HM.out]; rfl, rfl⟩
  · have HM := Lib.hid (show cmpN a b = 1 from by unfold cmpN; rw [if_neg (by omega), if_pos h])
    have h' : ¬ a < b := by omega
    go_enter Tryz.func99, Tryz.ntmps99
    go_wp2_with fail
    refine (nan_i a _).mono ?_
    rintro e9 w1 ⟨rfl, rfl⟩
    go_wp2_with fail
    refine (nan_i b _).mono ?_
    rintro e9 w2 ⟨rfl, rfl⟩
    go_wp2_with fail
    go_ret
    exact ⟨by rw [HM.out]; rfl, rfl⟩
theorem kept_fits {x : Spn} (h : x.Fits) : (kept x).Fits := ⟨h.tr, h.id, h.pa, h.rv, h.st, by unfold kept clamp; simp only; omega, h.sv, h.op⟩
set_option maxRecDepth 20000 in
theorem order_i (x y : Spn) (hx : x.Fits) (hy : y.Fits) (w : World) : Calls Tryz.prog 87 #[spnV x, spnV y] w fun e w' => e = .returned (.int .i64 (rankO x y)) ∧ Ext w w' := by
  obtain ⟨wa, hwa⟩ : ∃ wa, wa = w.alloc (.cells (spnC x) 48) := ⟨_, rfl⟩
  have hE : Ext w wa := by rw [hwa]; exact (Keeps.refl _ w).alloc _
  have hN : wa.heap[w.heap.size]? = some (.cells (spnC x) 48 (0, 0)) := by rw [hwa]; exact World.alloc_heap_new w _
  have hsz : wa.heap.size = w.heap.size + 1 := by rw [hwa]; show (w.heap.push _).size = _; rw [Array.size_push]
  obtain ⟨wb, hwb⟩ : ∃ wb, wb = wa.alloc (.cells (spnC y) 48) := ⟨_, rfl⟩
  have hEb : Ext wa wb := by rw [hwb]; exact (Keeps.refl _ wa).alloc _
  have hNb : wb.heap[w.heap.size + 1]? = some (.cells (spnC y) 48 (0, 0)) := by rw [hwb, ← hsz]; exact World.alloc_heap_new wa _
  obtain ⟨c, hc0⟩ : ∃ c, c = w.heap.size := ⟨_, rfl⟩
  rw [← hc0] at hN hNb
  have hNa : wb.heap[c]? = some (.cells (spnC x) 48 (0, 0)) := (Ext.same hEb (lt_of_heap hN)).trans hN
  have HCC := Lib.hid (fun (w' : World) (h : Ext wb w') => And.intro (blk_cell ((Ext.same h (lt_of_heap hNa)).trans hNa)) (blk_cell ((Ext.same h (lt_of_heap hNb)).trans hNb)))
  have HX := Lib.hid (And.intro hx hy)
  have HE := Lib.hid (hE.trans hEb)
  have hc := HCC.out wb (Keeps.refl _ _)
  rw [hwa] at hwb
  clear hx hy hE hN hEb hNb hNa hsz hwa
  go_enter Tryz.func87, Tryz.ntmps87
  go_wp2_with fail
  rw [← hwb, ← hc0]
  have HC := Lib.hid hc0
  clear hwb hc0
  go_wp2_with fail
  refine (cmp_i x.rv y.rv _).mono ?_
  rintro e9 w1 ⟨rfl, rfl⟩
  by_cases h0 : cmpN x.rv y.rv = 0
  · have HM := Lib.hid (show rankO x y = _ from by unfold rankO; rw [if_pos h0])
    rw [h0]
    clear h0
    go_wp2_with fail
    refine (kept_i x _).mono ?_
    rintro e9 w2 ⟨rfl, hE2⟩
    have H2 := Lib.hid hE2
    clear hE2
    go_wp2_with fail
    refine (put_i (kept x) (kept_fits HX.out.1) _).mono ?_
    rintro e9 w3 ⟨rfl, hE3⟩
    have H3 := Lib.hid (H2.out.trans hE3)
    have hc3 := HCC.out _ H3.out
    clear hE3 hc
    go_wp2_with fail
    refine (kept_i y _).mono ?_
    rintro e9 w4 ⟨rfl, hE4⟩
    have H4 := Lib.hid (H3.out.trans hE4)
    clear hE4
    go_wp2_with fail
    refine (put_i (kept y) (kept_fits HX.out.2) _).mono ?_
    rintro e9 w5 ⟨rfl, hE5⟩
    have H5 := Lib.hid (H4.out.trans hE5)
    clear hE5 hc3
    go_wp2_with fail
    refine (Tryz.strings_Compare _ _ _).mono ?_
    rintro e9 w6 ⟨rfl, rfl⟩
    go_wp2_with fail
    go_ret
    exact ⟨by rw [HM.out]; rfl, HE.out.trans H5.out⟩
  · have HM := Lib.hid (show rankO x y = _ from by unfold rankO; rw [if_neg h0])
    go_wp2_with fail
    go_ret
    exact ⟨by rw [HM.out]; rfl, HE.out⟩
theorem newer_i (x y : Spn) (hx : x.Fits) (hy : y.Fits) (w : World) : Calls Tryz.prog 60 #[spnV x, spnV y] w fun e w' => e = .returned (.bool (newer x y)) ∧ Ext w w' := by
  obtain ⟨wb, hwb⟩ : ∃ wb, wb = (w.alloc (.cells (spnC x) 48)).alloc (.cells (spnC y) 48) := ⟨_, rfl⟩
  have hE : Ext w wb := by rw [hwb]; exact ((Keeps.refl _ w).alloc _).alloc _
  have HX := Lib.hid (And.intro hx hy)
  have HE := Lib.hid hE
  clear hx hy hE
  go_enter Tryz.func60, Tryz.ntmps60
  go_wp2_with fail
  rw [← hwb]
  clear hwb
  refine (order_i x y HX.out.1 HX.out.2 _).mono ?_
  rintro e9 w1 ⟨rfl, hE1⟩
  have H1 := Lib.hid (HE.out.trans hE1)
  clear hE1
  go_wp2_with fail
  go_ret
  exact ⟨rfl, H1.out⟩
end Go.Proofs.YtdonmmjikcbihaaGreatDoor
/- Entries (plain): the counts of a view and the document's list of records come to the same. -/
namespace Go.Vc
variable {κ α : Type}
theorem findL_putL {c : κ → κ → Ordering} (O : Order c) (k k' : κ) (v : α) : ∀ m : List (κ × α), findL c k (putL c k' v m) = if c k k' = .eq then some v else findL c k m
  | [] => by simp only [putL, findL]; cases c k k' <;> rfl
  | x :: t => by
    simp only [putL]
    cases hk : c k' x.1 with
    | lt => simp only [findL]; cases c k k' <;> rfl
    | eq =>
      have e := O.eq hk
      subst e
      simp only [findL]; cases c k x.1 <;> rfl
    | gt =>
      simp only [findL, findL_putL O k k' v t]
      by_cases h : c k k' = .eq
      · have e := O.eq h
        subst e
        rw [hk, if_pos h]
      · rw [if_neg h]; cases c k x.1 <;> simp only [if_neg h]
theorem findL_dropL {c : κ → κ → Ordering} (O : Order c) (k k' : κ) : ∀ m : List (κ × α), findL c k (dropL c k' m) = if c k k' = .eq then none else findL c k m
  | [] => by simp [dropL, findL]
  | x :: t => by
    have ih := findL_dropL O k k' t
    unfold dropL at ih ⊢
    rw [List.filter_cons]
    by_cases hk : c k' x.1 = .eq
    · have e := O.eq hk
      subst e
      simp only [hk, bne_self_eq_false, Bool.false_eq_true, if_false, ih, findL]
      cases h : c k x.1 <;> simp
    · have hb : (c k' x.1 != .eq) = true := by simpa using hk
      rw [if_pos hb]
      simp only [findL, ih]
      by_cases h : c k k' = .eq
      · have e := O.eq h
        subst e
        cases h2 : c k x.1 <;> simp_all
      · cases h2 : c k x.1 <;> simp [h]
theorem findL_some {c : κ → κ → Ordering} {k : κ} {v : α} : ∀ {m : List (κ × α)}, findL c k m = some v → ∃ y ∈ m, c k y.1 = .eq ∧ y.2 = v
  | [], h => by cases h
  | z :: m, h => by
    simp only [findL] at h
    split at h
    · rename_i e; injection h with h; exact ⟨z, List.mem_cons_self .., e, h⟩
    · obtain ⟨y, hy, e⟩ := findL_some h
      exact ⟨y, List.mem_cons_of_mem _ hy, e⟩
theorem findL_of_mem {c : κ → κ → Ordering} (O : Order c) {y : κ × α} : ∀ {m : List (κ × α)}, y ∈ m → ∃ v, findL c y.1 m = some v
  | z :: m, h => by
    simp only [findL]
    cases hz : c y.1 z.1 with
    | eq => exact ⟨_, rfl⟩
    | lt | gt =>
      rw [List.mem_cons] at h
      rcases h with rfl | h
      · rw [O.refl] at hz; cases hz
      · exact findL_of_mem O h
/-- lists that rise and hold the same are the same -/
theorem sorted_ext {r : α → α → Prop} (irr : ∀ a, ¬ r a a) (tr : ∀ a b d, r a b → r b d → r a d) : ∀ l m : List α, l.Pairwise r → m.Pairwise r → (∀ x, x ∈ l ↔ x ∈ m) → l = m
  | [], [], _, _, _ => rfl
  | [], b :: m, _, _, h => by have := (h b).2 (List.mem_cons_self ..); cases this
  | a :: l, [], _, _, h => by have := (h a).1 (List.mem_cons_self ..); cases this
  | a :: l, b :: m, hl, hm, h => by
    rw [List.pairwise_cons] at hl hm
    have ha := (h a).1 (List.mem_cons_self ..)
    have hb := (h b).2 (List.mem_cons_self ..)
    rw [List.mem_cons] at ha hb
    have e : a = b := by
      rcases ha with e | ha
      · exact e
      · rcases hb with e | hb
        · exact e.symm
        · exact absurd (tr _ _ _ (hl.1 b hb) (hm.1 a ha)) (irr a)
    subst e
    have hrec := sorted_ext irr tr l m hl.2 hm.2 (fun x => by
      constructor
      · intro hx
        have := (h x).1 (List.mem_cons_of_mem _ hx)
        rw [List.mem_cons] at this
        rcases this with rfl | this
        · exact absurd (hl.1 _ hx) (irr _)
        · exact this
      · intro hx
        have := (h x).2 (List.mem_cons_of_mem _ hx)
        rw [List.mem_cons] at this
        rcases this with rfl | this
        · exact absurd (hm.1 _ hx) (irr _)
        · exact this)
    rw [hrec]
/-- an entry -/
structure Ent where
  sv : ByteArray
  op : ByteArray
  tr : List Int
  deriving DecidableEq
/-- the order of strings -/
def sless (a b : ByteArray) : Prop := Op.bytesLess a.toList b.toList = true
theorem sless_irr (a : ByteArray) : ¬ sless a a := by unfold sless; rw [less_irrefl]; exact fun h => by cases h
theorem sless_tr {a b d : ByteArray} (h : sless a b) (k : sless b d) : sless a d := less_trans _ _ _ h k
theorem sless_tri (a b : ByteArray) : sless a b ∨ a = b ∨ sless b a := by
  unfold sless
  cases h : Op.bytesLess a.toList b.toList with
  | true => exact .inl rfl
  | false =>
    cases k : Op.bytesLess b.toList a.toList with
    | true => exact .inr (.inr rfl)
    | false => exact .inr (.inl (bytes_ext (less_tri _ _ h k)))
/-- the order of pairs -/
def plt (s o s' o' : ByteArray) : Prop := sless s s' ∨ s = s' ∧ sless o o'
theorem plt_irr (s o : ByteArray) : ¬ plt s o s o := fun h => h.elim (sless_irr s) fun h => sless_irr o h.2
theorem plt_tr {s o s' o' s'' o'' : ByteArray} (h : plt s o s' o') (k : plt s' o' s'' o'') : plt s o s'' o'' := by
  rcases h with h | ⟨rfl, h⟩
  · rcases k with k | ⟨rfl, k⟩
    · exact .inl (sless_tr h k)
    · exact .inl h
  · rcases k with k | ⟨rfl, k⟩
    · exact .inl k
    · exact .inr ⟨rfl, sless_tr h k⟩
theorem plt_tri (s o s' o' : ByteArray) : plt s o s' o' ∨ (s = s' ∧ o = o') ∨ plt s' o' s o := by
  rcases sless_tri s s' with h | rfl | h
  · exact .inl (.inl h)
  · rcases sless_tri o o' with h | rfl | h
    · exact .inl (.inr ⟨rfl, h⟩)
    · exact .inr (.inl ⟨rfl, rfl⟩)
    · exact .inr (.inr (.inr ⟨rfl, h⟩))
  · exact .inr (.inr (.inl h))
def elt (a b : Ent) : Prop := plt a.sv a.op b.sv b.op
/-- entries in order that say just this -/
structure Canon (E : List Ent) (P : ByteArray → ByteArray → Int → Prop) : Prop where
  up : E.Pairwise elt
  ne : ∀ e ∈ E, e.tr ≠ []
  tup : ∀ e ∈ E, e.tr.Pairwise (· < ·)
  mem : ∀ s o t, (∃ e ∈ E, e.sv = s ∧ e.op = o ∧ t ∈ e.tr) ↔ P s o t
theorem elt_one {E : List Ent} (h : E.Pairwise elt) {a b : Ent} (ha : a ∈ E) (hb : b ∈ E) (hs : a.sv = b.sv) (ho : a.op = b.op) : a = b := by
  induction E with
  | nil => cases ha
  | cons x E ih =>
    rw [List.pairwise_cons] at h
    rw [List.mem_cons] at ha hb
    rcases ha with rfl | ha
    · rcases hb with rfl | hb
      · rfl
      · have := h.1 b hb
        unfold elt at this; rw [hs, ho] at this; exact absurd this (plt_irr _ _)
    · rcases hb with rfl | hb
      · have := h.1 a ha
        unfold elt at this; rw [← hs, ← ho] at this; exact absurd this (plt_irr _ _)
      · exact ih h.2 ha hb
theorem Canon.sub {E E' : List Ent} {P : ByteArray → ByteArray → Int → Prop} (h : Canon E P) (h' : Canon E' P) {e : Ent} (he : e ∈ E) : e ∈ E' := by
  obtain ⟨t, ht⟩ := List.exists_mem_of_ne_nil _ (h.ne e he)
  obtain ⟨e', he', hs, ho, _⟩ := (h'.mem e.sv e.op t).2 ((h.mem e.sv e.op t).1 ⟨e, he, rfl, rfl, ht⟩)
  have htr : e.tr = e'.tr := by
    refine sorted_ext (fun a => Int.lt_irrefl a) (fun _ _ _ => Int.lt_trans) _ _ (h.tup e he) (h'.tup e' he') fun x => ⟨fun hx => ?_, fun hx => ?_⟩
    · obtain ⟨e2, he2, hs2, ho2, hx2⟩ := (h'.mem e.sv e.op x).2 ((h.mem e.sv e.op x).1 ⟨e, he, rfl, rfl, hx⟩)
      rw [elt_one h'.up he' he2 (hs.trans hs2.symm) (ho.trans ho2.symm)]; exact hx2
    · obtain ⟨e2, he2, hs2, ho2, hx2⟩ := (h.mem e'.sv e'.op x).2 ((h'.mem e'.sv e'.op x).1 ⟨e', he', rfl, rfl, hx⟩)
      rw [elt_one h.up he he2 (hs.symm.trans hs2.symm) (ho.symm.trans ho2.symm)]; exact hx2
  have : e = e' := by cases e; cases e'; simp only at *; rw [hs, ho, htr]
  rw [this]; exact he'
theorem Canon.one {E E' : List Ent} {P : ByteArray → ByteArray → Int → Prop} (h : Canon E P) (h' : Canon E' P) : E = E' :=
  sorted_ext (r := elt) (fun a => plt_irr a.sv a.op) (fun _ _ _ h k => plt_tr h k) _ _ h.up h'.up fun _ => ⟨h.sub h', h'.sub h⟩
/-! ### The view's way: keys in order -/
/-- one key more -/
def entStep (E : List Ent) (q : ByteArray × ByteArray × Int) : List Ent :=
  match E.getLast? with
  | some e => if e.sv = q.1 ∧ e.op = q.2.1 then E.dropLast ++ [{ e with tr := e.tr ++ [q.2.2] }] else E ++ [⟨q.1, q.2.1, [q.2.2]⟩]
  | none => [⟨q.1, q.2.1, [q.2.2]⟩]
def entsOf (l : List (ByteArray × ByteArray × Int)) : List Ent := l.foldl entStep []
/-- the order of keys -/
def tlt (a b : ByteArray × ByteArray × Int) : Prop := plt a.1 a.2.1 b.1 b.2.1 ∨ (a.1 = b.1 ∧ a.2.1 = b.2.1) ∧ a.2.2 < b.2.2
theorem entsOf_snoc (l : List (ByteArray × ByteArray × Int)) (q : ByteArray × ByteArray × Int) : entsOf (l ++ [q]) = entStep (entsOf l) q := by unfold entsOf; rw [List.foldl_append]; rfl
theorem entsOf_canon (l : List (ByteArray × ByteArray × Int)) (h : l.Pairwise tlt) : Canon (entsOf l) fun s o t => (s, o, t) ∈ l := by
  have : ∀ n : Nat, ∀ l : List (ByteArray × ByteArray × Int), l.length = n → l.Pairwise tlt → Canon (entsOf l) fun s o t => (s, o, t) ∈ l := by
    intro n
    induction n with
    | zero =>
      intro l hl _
      have := List.eq_nil_of_length_eq_zero hl
      subst this
      exact ⟨List.Pairwise.nil, fun e he => by simp [entsOf] at he, fun e he => by simp [entsOf] at he, fun s o t => by simp [entsOf]⟩
    | succ n ih =>
      intro l hl hp
      obtain ⟨l', q, rfl⟩ : ∃ l' q, l = l' ++ [q] := by
        have hne : l ≠ [] := by intro e; subst e; cases hl
        exact ⟨l.dropLast, l.getLast hne, (List.dropLast_concat_getLast hne).symm⟩
      rw [List.pairwise_append] at hp
      obtain ⟨hp1, _, hp3⟩ := hp
      have C := ih l' (by simpa using hl) hp1
      obtain ⟨s, o, t⟩ := q
      have hbig : ∀ e ∈ entsOf l', ∀ x ∈ e.tr, tlt (e.sv, e.op, x) (s, o, t) := fun e he x hx => hp3 _ ((C.mem e.sv e.op x).1 ⟨e, he, rfl, rfl, hx⟩) _ (List.mem_singleton.2 rfl)
      rw [entsOf_snoc]
      unfold entStep
      cases hE : (entsOf l').getLast? with
      | none =>
        have h0 : entsOf l' = [] := by simpa using hE
        refine ⟨List.pairwise_singleton _ _, fun e he => by simp at he; subst he; simp, fun e he => by simp at he; subst he; exact List.pairwise_singleton _ _, fun s' o' t' => ?_⟩
        have hm := C.mem s' o' t'
        rw [h0] at hm
        simp only [List.not_mem_nil, false_and, exists_false, false_iff] at hm
        simp only [List.mem_singleton, List.mem_append, hm, false_or, exists_eq_left, Prod.mk.injEq]
        constructor
        · rintro ⟨rfl, rfl, rfl⟩; exact ⟨rfl, rfl, rfl⟩
        · rintro ⟨rfl, rfl, rfl⟩; exact ⟨rfl, rfl, rfl⟩
      | some e =>
        obtain ⟨E, hEE⟩ : ∃ E, entsOf l' = E ++ [e] := by
          have hne : entsOf l' ≠ [] := by intro h0; rw [h0] at hE; cases hE
          refine ⟨(entsOf l').dropLast, ?_⟩
          rw [List.getLast?_eq_some_getLast hne] at hE
          injection hE with hE
          rw [← hE]; exact (List.dropLast_concat_getLast hne).symm
        rw [hEE] at C hbig ⊢
        have hup := C.up
        rw [List.pairwise_append] at hup
        dsimp only
        by_cases hc : e.sv = s ∧ e.op = o
        · rw [if_pos hc, List.dropLast_concat]
          obtain ⟨rfl, rfl⟩ := hc
          refine ⟨?_, ?_, ?_, ?_⟩
          · rw [List.pairwise_append]
            exact ⟨hup.1, List.pairwise_singleton _ _, fun a ha b hb => by rw [List.mem_singleton] at hb; subst hb; exact hup.2.2 a ha e (List.mem_singleton.2 rfl)⟩
          · intro e' he'
            rw [List.mem_append, List.mem_singleton] at he'
            rcases he' with he' | rfl
            · exact C.ne e' (List.mem_append.2 (.inl he'))
            · simp
          · intro e' he'
            rw [List.mem_append, List.mem_singleton] at he'
            rcases he' with he' | rfl
            · exact C.tup e' (List.mem_append.2 (.inl he'))
            · dsimp only
              rw [List.pairwise_append]
              refine ⟨C.tup e (by simp), List.pairwise_singleton _ _, fun a ha b hb => ?_⟩
              rw [List.mem_singleton] at hb; subst hb
              rcases hbig e (by simp) a ha with h | h
              · exact absurd h (plt_irr _ _)
              · exact h.2
          · intro s' o' t'
            have hm := C.mem s' o' t'
            rw [List.mem_append, ← hm]
            constructor
            · rintro ⟨e', he', h1, h2, h3⟩
              rw [List.mem_append, List.mem_singleton] at he'
              rcases he' with he' | rfl
              · exact .inl ⟨e', List.mem_append.2 (.inl he'), h1, h2, h3⟩
              · dsimp only at h1 h2 h3
                rw [List.mem_append, List.mem_singleton] at h3
                rcases h3 with h3 | rfl
                · exact .inl ⟨e, by simp, h1, h2, h3⟩
                · exact .inr (by rw [← h1, ← h2]; simp)
            · rintro (⟨e', he', h1, h2, h3⟩ | h)
              · rw [List.mem_append, List.mem_singleton] at he'
                rcases he' with he' | rfl
                · exact ⟨e', List.mem_append.2 (.inl he'), h1, h2, h3⟩
                · exact ⟨_, List.mem_append.2 (.inr (List.mem_singleton.2 rfl)), h1, h2, by dsimp only; rw [List.mem_append]; exact .inl h3⟩
              · simp only [List.mem_singleton, Prod.mk.injEq] at h
                obtain ⟨rfl, rfl, rfl⟩ := h
                exact ⟨_, List.mem_append.2 (.inr (List.mem_singleton.2 rfl)), rfl, rfl, by simp⟩
        · rw [if_neg hc]
          have hlt : ∀ a ∈ E ++ [e], plt a.sv a.op s o := by
            intro a ha
            have hae : plt a.sv a.op e.sv e.op ∨ a = e := by
              rw [List.mem_append, List.mem_singleton] at ha
              rcases ha with ha | rfl
              · exact .inl (hup.2.2 a ha e (List.mem_singleton.2 rfl))
              · exact .inr rfl
            obtain ⟨x, hx⟩ := List.exists_mem_of_ne_nil _ (C.ne e (by simp))
            have hes : plt e.sv e.op s o := by
              rcases hbig e (by simp) x hx with h | h
              · exact h
              · exact absurd h.1 hc
            rcases hae with h | rfl
            · exact plt_tr h hes
            · exact hes
          refine ⟨?_, ?_, ?_, ?_⟩
          · rw [List.pairwise_append]
            exact ⟨C.up, List.pairwise_singleton _ _, fun a ha b hb => by rw [List.mem_singleton] at hb; subst hb; exact hlt a ha⟩
          · intro e' he'
            rw [List.mem_append, List.mem_singleton] at he'
            rcases he' with he' | rfl
            · exact C.ne e' he'
            · simp
          · intro e' he'
            rw [List.mem_append, List.mem_singleton] at he'
            rcases he' with he' | rfl
            · exact C.tup e' he'
            · exact List.pairwise_singleton _ _
          · intro s' o' t'
            rw [List.mem_append, ← C.mem s' o' t']
            constructor
            · rintro ⟨e', he', h1, h2, h3⟩
              rw [List.mem_append (t := [_]), List.mem_singleton] at he'
              rcases he' with he' | rfl
              · exact .inl ⟨e', he', h1, h2, h3⟩
              · dsimp only at h1 h2 h3
                rw [List.mem_singleton] at h3
                exact .inr (by rw [← h1, ← h2, h3]; simp)
            · rintro (⟨e', he', h⟩ | h)
              · exact ⟨e', List.mem_append.2 (.inl he'), h⟩
              · simp only [List.mem_singleton, Prod.mk.injEq] at h
                obtain ⟨rfl, rfl, rfl⟩ := h
                exact ⟨_, List.mem_append.2 (.inr (List.mem_singleton.2 rfl)), rfl, rfl, by simp⟩
  exact this _ l rfl h
/-! ### The document's way: insertion -/
def trIns (t : Int) : List Int → List Int
  | [] => [t]
  | x :: l => if x < t then x :: trIns t l else if x = t then x :: l else t :: x :: l
theorem trIns_mem (t : Int) : ∀ (l : List Int) (y : Int), y ∈ trIns t l ↔ y = t ∨ y ∈ l
  | [], y => by simp [trIns]
  | x :: l, y => by
    simp only [trIns]
    split
    · rw [List.mem_cons, trIns_mem t l y, List.mem_cons]; constructor
      · rintro (h | h | h)
        · exact .inr (.inl h)
        · exact .inl h
        · exact .inr (.inr h)
      · rintro (h | h | h)
        · exact .inr (.inl h)
        · exact .inl h
        · exact .inr (.inr h)
    · split
      · rename_i h; subst h; rw [List.mem_cons]; constructor
        · exact .inr
        · rintro (h | h)
          · exact .inl h
          · exact h
      · rw [List.mem_cons]
theorem trIns_up (t : Int) : ∀ l : List Int, l.Pairwise (· < ·) → (trIns t l).Pairwise (· < ·)
  | [], _ => List.pairwise_singleton _ _
  | x :: l, h => by
    rw [List.pairwise_cons] at h
    simp only [trIns]
    split
    · rename_i hx
      refine List.pairwise_cons.2 ⟨fun y hy => ?_, trIns_up t l h.2⟩
      rcases (trIns_mem t l y).1 hy with rfl | hy
      · exact hx
      · exact h.1 y hy
    · split
      · exact List.pairwise_cons.2 h
      · refine List.pairwise_cons.2 ⟨fun y hy => ?_, List.pairwise_cons.2 h⟩
        rw [List.mem_cons] at hy
        rcases hy with rfl | hy
        · omega
        · have := h.1 y hy; omega
def trStep (s o : ByteArray) (out : List Int) (x : Spn) : List Int := if x.sv = s ∧ x.op = o then trIns x.tr out else out
def trOf (L : List Spn) (s o : ByteArray) : List Int := L.foldl (trStep s o) []
theorem trOf_aux (s o : ByteArray) : ∀ (L : List Spn) (out : List Int), out.Pairwise (· < ·) → (L.foldl (trStep s o) out).Pairwise (· < ·) ∧ ∀ t, t ∈ L.foldl (trStep s o) out ↔ t ∈ out ∨ ∃ x ∈ L, x.sv = s ∧ x.op = o ∧ x.tr = t
  | [], out, h => ⟨h, fun t => by simp⟩
  | x :: L, out, h => by
    rw [List.foldl_cons]
    by_cases hc : x.sv = s ∧ x.op = o
    · have e : trStep s o out x = trIns x.tr out := by unfold trStep; rw [if_pos hc]
      rw [e]
      obtain ⟨h1, h2⟩ := trOf_aux s o L (trIns x.tr out) (trIns_up _ _ h)
      refine ⟨h1, fun t => ?_⟩
      rw [h2, trIns_mem]
      constructor
      · rintro ((rfl | h) | ⟨y, hy, h⟩)
        · exact .inr ⟨x, List.mem_cons_self .., hc.1, hc.2, rfl⟩
        · exact .inl h
        · exact .inr ⟨y, List.mem_cons_of_mem _ hy, h⟩
      · rintro (h | ⟨y, hy, h⟩)
        · exact .inl (.inr h)
        · rw [List.mem_cons] at hy
          rcases hy with rfl | hy
          · exact .inl (.inl h.2.2.symm)
          · exact .inr ⟨y, hy, h⟩
    · have e : trStep s o out x = out := by unfold trStep; rw [if_neg hc]
      rw [e]
      obtain ⟨h1, h2⟩ := trOf_aux s o L out h
      refine ⟨h1, fun t => ?_⟩
      rw [h2]
      constructor
      · rintro (h | ⟨y, hy, h⟩)
        · exact .inl h
        · exact .inr ⟨y, List.mem_cons_of_mem _ hy, h⟩
      · rintro (h | ⟨y, hy, h⟩)
        · exact .inl h
        · rw [List.mem_cons] at hy
          rcases hy with rfl | hy
          · exact absurd ⟨h.1, h.2.1⟩ hc
          · exact .inr ⟨y, hy, h⟩
theorem trOf_up (L : List Spn) (s o : ByteArray) : (trOf L s o).Pairwise (· < ·) := (trOf_aux s o L [] List.Pairwise.nil).1
theorem trOf_mem (L : List Spn) (s o : ByteArray) (t : Int) : t ∈ trOf L s o ↔ ∃ x ∈ L, x.sv = s ∧ x.op = o ∧ x.tr = t := by
  have := (trOf_aux s o L [] List.Pairwise.nil).2 t
  simpa [trOf] using this
/-- does an entry stand ahead of a record's? -/
def eless (e : Ent) (x : Spn) : Bool := Op.bytesLess e.sv.toList x.sv.toList || (decide (e.sv = x.sv) && Op.bytesLess e.op.toList x.op.toList)
theorem eless_iff (e : Ent) (x : Spn) : eless e x = true ↔ plt e.sv e.op x.sv x.op := by
  unfold eless plt sless; simp
def entIns (L : List Spn) (x : Spn) : List Ent → List Ent
  | [] => [⟨x.sv, x.op, trOf L x.sv x.op⟩]
  | e :: E => if eless e x then e :: entIns L x E else if e.sv = x.sv ∧ e.op = x.op then e :: E else ⟨x.sv, x.op, trOf L x.sv x.op⟩ :: e :: E
def refAll (L : List Spn) : List Ent := L.foldl (fun E x => entIns L x E) []
theorem entIns_mem (L : List Spn) (x : Spn) : ∀ (E : List Ent) (e : Ent), e ∈ entIns L x E → e ∈ E ∨ e = ⟨x.sv, x.op, trOf L x.sv x.op⟩
  | [], e, h => by simp only [entIns, List.mem_singleton] at h; exact .inr h
  | d :: E, e, h => by
    simp only [entIns] at h
    split at h
    · rw [List.mem_cons] at h
      rcases h with rfl | h
      · exact .inl (List.mem_cons_self ..)
      · exact (entIns_mem L x E e h).imp (List.mem_cons_of_mem _) id
    · split at h
      · exact .inl h
      · rw [List.mem_cons] at h
        exact h.elim .inr .inl
theorem entIns_sub (L : List Spn) (x : Spn) : ∀ (E : List Ent) (e : Ent), e ∈ E → e ∈ entIns L x E
  | d :: E, e, h => by
    simp only [entIns]
    split
    · rw [List.mem_cons] at h ⊢
      exact h.imp id (entIns_sub L x E e)
    · split
      · exact h
      · exact List.mem_cons_of_mem _ h
theorem entIns_has (L : List Spn) (x : Spn) : ∀ E : List Ent, ∃ e ∈ entIns L x E, e.sv = x.sv ∧ e.op = x.op
  | [] => ⟨_, List.mem_singleton.2 rfl, rfl, rfl⟩
  | d :: E => by
    simp only [entIns]
    split
    · obtain ⟨e, he, h⟩ := entIns_has L x E
      exact ⟨e, List.mem_cons_of_mem _ he, h⟩
    · split
      · rename_i h; exact ⟨d, List.mem_cons_self .., h⟩
      · exact ⟨_, List.mem_cons_self .., rfl, rfl⟩
theorem entIns_up (L : List Spn) (x : Spn) : ∀ E : List Ent, E.Pairwise elt → (entIns L x E).Pairwise elt
  | [], _ => List.pairwise_singleton _ _
  | d :: E, h => by
    rw [List.pairwise_cons] at h
    simp only [entIns]
    split
    · rename_i hd
      rw [eless_iff] at hd
      refine List.pairwise_cons.2 ⟨fun e he => ?_, entIns_up L x E h.2⟩
      rcases entIns_mem L x E e he with he | rfl
      · exact h.1 e he
      · exact hd
    · rename_i hd
      rw [eless_iff] at hd
      split
      · exact List.pairwise_cons.2 h
      · rename_i hne
        have hlt : plt x.sv x.op d.sv d.op := by
          rcases plt_tri x.sv x.op d.sv d.op with h | h | h
          · exact h
          · exact absurd ⟨h.1.symm, h.2.symm⟩ hne
          · exact absurd h hd
        refine List.pairwise_cons.2 ⟨fun e he => ?_, List.pairwise_cons.2 h⟩
        rw [List.mem_cons] at he
        rcases he with rfl | he
        · exact hlt
        · exact plt_tr hlt (h.1 e he)
theorem refAll_aux (L : List Spn) : ∀ (l done : List Spn) (E : List Ent), (∀ x ∈ done, x ∈ L) → (∀ x ∈ l, x ∈ L) → E.Pairwise elt → (∀ e ∈ E, e.tr = trOf L e.sv e.op ∧ ∃ x ∈ L, x.sv = e.sv ∧ x.op = e.op) → (∀ x ∈ done, ∃ e ∈ E, e.sv = x.sv ∧ e.op = x.op) →
    (l.foldl (fun E x => entIns L x E) E).Pairwise elt ∧ (∀ e ∈ l.foldl (fun E x => entIns L x E) E, e.tr = trOf L e.sv e.op ∧ ∃ x ∈ L, x.sv = e.sv ∧ x.op = e.op) ∧ ∀ x ∈ done ++ l, ∃ e ∈ l.foldl (fun E x => entIns L x E) E, e.sv = x.sv ∧ e.op = x.op
  | [], done, E, _, _, h1, h2, h3 => ⟨h1, h2, by simpa using h3⟩
  | x :: l, done, E, hd, hl, h1, h2, h3 => by
    have := refAll_aux L l (done ++ [x]) (entIns L x E) (fun y hy => by
        rw [List.mem_append, List.mem_singleton] at hy
        rcases hy with hy | rfl
        · exact hd y hy
        · exact hl _ (List.mem_cons_self ..)) (fun y hy => hl y (List.mem_cons_of_mem _ hy)) (entIns_up L x E h1)
      (fun e he => by
        rcases entIns_mem L x E e he with he | rfl
        · exact h2 e he
        · exact ⟨rfl, x, hl x (List.mem_cons_self ..), rfl, rfl⟩)
      (fun y hy => by
        rw [List.mem_append, List.mem_singleton] at hy
        rcases hy with hy | rfl
        · obtain ⟨e, he, h⟩ := h3 y hy
          exact ⟨e, entIns_sub L x E e he, h⟩
        · exact entIns_has L y E)
    rw [List.append_assoc] at this
    exact this
theorem refAll_canon (L : List Spn) : Canon (refAll L) fun s o t => ∃ x ∈ L, x.sv = s ∧ x.op = o ∧ x.tr = t := by
  obtain ⟨h1, h2, h3⟩ := refAll_aux L L [] [] (fun _ h => by cases h) (fun _ h => h) List.Pairwise.nil (fun _ h => by cases h) (fun _ h => by cases h)
  refine ⟨h1, fun e he => ?_, fun e he => ?_, fun s o t => ⟨?_, ?_⟩⟩
  · obtain ⟨e1, x, hx, e2, e3⟩ := h2 e he
    rw [e1]
    exact List.ne_nil_of_mem ((trOf_mem L _ _ x.tr).2 ⟨x, hx, e2, e3, rfl⟩)
  · rw [(h2 e he).1]; exact trOf_up L _ _
  · rintro ⟨e, he, rfl, rfl, ht⟩
    rw [(h2 e he).1] at ht
    exact (trOf_mem L _ _ t).1 ht
  · rintro ⟨x, hx, rfl, rfl, rfl⟩
    obtain ⟨e, he, e1, e2⟩ := h3 x (by simpa using hx)
    exact ⟨e, he, e1, e2, by rw [(h2 e he).1, e1, e2]; exact (trOf_mem L _ _ _).2 ⟨x, hx, rfl, rfl, rfl⟩⟩
end Go.Vc
namespace Go.Proofs.YtdonmmjikcbihaaGreatDoor
open Go Go.Vc
/-! ### Keys -/
def nul : ByteArray := ⟨#[0]⟩
def efirst (s o : ByteArray) : ByteArray := s ++ nul ++ o ++ nul
def tkey (q : ByteArray × ByteArray × Int) : ByteArray := efirst q.1 q.2.1 ++ (num q.2.2 ++ num 0)
def trip (x : Spn) : ByteArray × ByteArray × Int := (x.sv, x.op, x.tr)
def ekey (x : Spn) : ByteArray := tkey (trip x)
/-- keys that may be -/
def Goodk (q : ByteArray × ByteArray × Int) : Prop := named q.1 = true ∧ named q.2.1 = true ∧ I64 q.2.2
theorem named_nz {s : ByteArray} (h : named s = true) : ∀ c ∈ s.toList, c ≠ 0 := by
  intro c hc e
  subst e
  unfold named at h
  simp only [Bool.and_eq_true] at h
  have := List.all_eq_true.1 h.1.1 0 (by rw [← toList_data]; exact hc)
  revert this; decide
theorem less_nul : ∀ (s t x y : List UInt8), (∀ c ∈ s, c ≠ 0) → (∀ c ∈ t, c ≠ 0) → Op.bytesLess (s ++ 0 :: x) (t ++ 0 :: y) = (Op.bytesLess s t || (decide (s = t) && Op.bytesLess x y))
  | [], [], x, y, _, _ => by
    have : ¬ (0 : UInt8) < 0 := by decide
    simp [Op.bytesLess]
  | [], b :: t, x, y, _, ht => by
    have hb : (0 : UInt8) < b := by
      have h0 := ht b (List.mem_cons_self ..)
      rw [UInt8.lt_iff_toNat_lt]
      have : b.toNat ≠ 0 := fun e => h0 (UInt8.toNat.inj e)
      show 0 < b.toNat
      omega
    simp [Op.bytesLess, hb]
  | a :: s, [], x, y, hs, _ => by
    have h0 := hs a (List.mem_cons_self ..)
    have h1 : ¬ a < 0 := fun h => by rw [UInt8.lt_iff_toNat_lt] at h; exact absurd h (Nat.not_lt_zero _)
    simp [Op.bytesLess, h0, h1]
  | a :: s, b :: t, x, y, hs, ht => by
    have ih := less_nul s t x y (fun c hc => hs c (List.mem_cons_of_mem _ hc)) (fun c hc => ht c (List.mem_cons_of_mem _ hc))
    simp only [List.cons_append, Op.bytesLess, ih]
    by_cases hab : a = b
    · subst hab
      have : ¬ a < a := fun h => by rw [UInt8.lt_iff_toNat_lt] at h; exact absurd h (Nat.lt_irrefl _)
      simp [this]
    · have h2 : (a == b) = false := by simpa using hab
      have h3 : decide (a :: s = b :: t) = false := by simp [hab]
      rw [h2, h3]; simp
theorem app_toList (x y : ByteArray) : (x ++ y).toList = x.toList ++ y.toList := by simp only [ByteArray.toList_eq, ByteArray.data_append, Array.toList_append]
theorem tkey_toList (q : ByteArray × ByteArray × Int) : (tkey q).toList = q.1.toList ++ 0 :: (q.2.1.toList ++ 0 :: (num q.2.2 ++ num 0).toList) := by
  have hn : nul.toList = [0] := by rw [toList_data]; rfl
  simp only [tkey, efirst, app_toList, hn, List.append_assoc, List.cons_append, List.nil_append]
theorem tkey_lt {p q : ByteArray × ByteArray × Int} (hp : Goodk p) (hq : Goodk q) : cmpS (tkey p) (tkey q) = .lt ↔ tlt p q := by
  rw [cmpS_is_lt, tkey_toList, tkey_toList, less_nul _ _ _ _ (named_nz hp.1) (named_nz hq.1), less_nul _ _ _ _ (named_nz hp.2.1) (named_nz hq.2.1)]
  have h3 : Op.bytesLess (num p.2.2 ++ num 0).toList (num q.2.2 ++ num 0).toList = true ↔ p.2.2 < q.2.2 := by
    rw [← cmpS_is_lt, cmp_num _ _ hp.2.2 hq.2.2]
    by_cases h : p.2.2 < q.2.2
    · rw [if_pos h]; simp [h]
    · rw [if_neg h]
      by_cases h2 : q.2.2 < p.2.2
      · rw [if_pos h2]; simp [h]
      · rw [if_neg h2, order_S.refl]; simp [h]
  have he : ∀ a b : ByteArray, a.toList = b.toList ↔ a = b := fun a b => ⟨bytes_ext, fun h => by rw [h]⟩
  simp only [Bool.or_eq_true, Bool.and_eq_true, decide_eq_true_eq, h3, he]
  unfold tlt plt sless
  constructor
  · rintro (h | ⟨e1, h | ⟨e2, h⟩⟩)
    · exact .inl (.inl h)
    · exact .inl (.inr ⟨e1, h⟩)
    · exact .inr ⟨⟨e1, e2⟩, h⟩
  · rintro ((h | ⟨e1, h⟩) | ⟨⟨e1, e2⟩, h⟩)
    · exact .inl h
    · exact .inr ⟨e1, .inl h⟩
    · exact .inr ⟨e1, .inr ⟨e2, h⟩⟩
theorem tlt_tri (p q : ByteArray × ByteArray × Int) : tlt p q ∨ p = q ∨ tlt q p := by
  obtain ⟨s, o, t⟩ := p
  obtain ⟨s', o', t'⟩ := q
  unfold tlt
  rcases plt_tri s o s' o' with h | ⟨rfl, rfl⟩ | h
  · exact .inl (.inl h)
  · rcases Int.lt_trichotomy t t' with h | rfl | h
    · exact .inl (.inr ⟨⟨rfl, rfl⟩, h⟩)
    · exact .inr (.inl rfl)
    · exact .inr (.inr (.inr ⟨⟨rfl, rfl⟩, h⟩))
  · exact .inr (.inr (.inl h))
theorem tkey_inj {p q : ByteArray × ByteArray × Int} (hp : Goodk p) (hq : Goodk q) (h : tkey p = tkey q) : p = q := by
  rcases tlt_tri p q with k | k | k
  · rw [← tkey_lt hp hq, h, order_S.refl] at k; cases k
  · exact k
  · rw [← tkey_lt hq hp, h, order_S.refl] at k; cases k
theorem tkey_eq {p q : ByteArray × ByteArray × Int} (hp : Goodk p) (hq : Goodk q) : cmpS (tkey p) (tkey q) = .eq ↔ p = q :=
  ⟨fun h => tkey_inj hp hq (order_S.eq h), fun h => by rw [h]; exact order_S.refl _⟩
/-! ### The counts -/
def alike (x y : Spn) : Bool := decide (trip x = trip y)
/-- how many records begin a trace as one says -/
def cnt (L : List Spn) (q : ByteArray × ByteArray × Int) : Nat := L.countP fun y => decide (trip y = q)
structure EntRel (m : List (ByteArray × Int)) (L : List Spn) : Prop where
  up : Rises cmpS m
  good : ∀ x ∈ L, Goodk (trip x)
  key : ∀ y ∈ m, ∃ q, Goodk q ∧ y.1 = tkey q
  val : ∀ q, Goodk q → findL cmpS (tkey q) m = if cnt L q = 0 then none else some (cnt L q : Int)
theorem EntRel.congr {m : List (ByteArray × Int)} {L L' : List Spn} (h : EntRel m L) (hg : ∀ x ∈ L', Goodk (trip x)) (hc : ∀ q, cnt L' q = cnt L q) : EntRel m L' :=
  ⟨h.up, hg, h.key, fun q hq => by rw [hc]; exact h.val q hq⟩
theorem EntRel.nil : EntRel [] [] := ⟨List.Pairwise.nil, (fun _ h => nomatch h), (fun _ h => nomatch h), fun _ _ => rfl⟩
/-- what the view's change does -/
def chg (m : List (ByteArray × Int)) (x : Spn) (b : Int) : List (ByteArray × Int) × Bool :=
  if x.pa = 0 then
    if (findL cmpS (ekey x) m).getD 0 + b < 0 then (m, false)
    else if (findL cmpS (ekey x) m).getD 0 + b = 0 then (dropL cmpS (ekey x) m, true)
    else (putL cmpS (ekey x) ((findL cmpS (ekey x) m).getD 0 + b) m, true)
  else (m, true)
theorem EntRel.get {m : List (ByteArray × Int)} {L : List Spn} (h : EntRel m L) {x : Spn} (hx : Goodk (trip x)) : (findL cmpS (ekey x) m).getD 0 = (cnt L (trip x) : Int) := by
  unfold ekey
  rw [h.val _ hx]
  split
  · rename_i e; rw [e]; rfl
  · rfl
theorem EntRel.put {m : List (ByteArray × Int)} {L L' : List Spn} (h : EntRel m L) {q : ByteArray × ByteArray × Int} (hq : Goodk q) (hg : ∀ x ∈ L', Goodk (trip x)) {n : Int} (h0 : cnt L' q ≠ 0) (hn : n = (cnt L' q : Int)) (hc : ∀ p, p ≠ q → cnt L' p = cnt L p) :
    EntRel (putL cmpS (tkey q) n m) L' := by
  refine ⟨rises_putL order_S _ _ _ h.up, hg, fun y hy => ?_, fun p hp => ?_⟩
  · rcases putL_keys _ _ _ y hy with e | ⟨z, hz, e⟩
    · exact ⟨q, hq, e⟩
    · obtain ⟨p, hp, e'⟩ := h.key z hz
      exact ⟨p, hp, e ▸ e'⟩
  · rw [findL_putL order_S]
    by_cases e : p = q
    · subst e
      rw [if_pos (order_S.refl _), if_neg h0, hn]
    · rw [if_neg (fun k => e ((tkey_eq hp hq).1 k)), h.val p hp, hc p e]
theorem EntRel.drop {m : List (ByteArray × Int)} {L L' : List Spn} (h : EntRel m L) {q : ByteArray × ByteArray × Int} (hq : Goodk q) (hg : ∀ x ∈ L', Goodk (trip x)) (h0 : cnt L' q = 0) (hc : ∀ p, p ≠ q → cnt L' p = cnt L p) :
    EntRel (dropL cmpS (tkey q) m) L' := by
  refine ⟨rises_dropL _ _ h.up, hg, fun y hy => h.key y (List.mem_filter.1 hy).1, fun p hp => ?_⟩
  rw [findL_dropL order_S]
  by_cases e : p = q
  · subst e
    rw [if_pos (order_S.refl _), if_pos h0]
  · rw [if_neg (fun k => e ((tkey_eq hp hq).1 k)), h.val p hp, hc p e]
theorem cnt_snoc (L : List Spn) (x : Spn) (q : ByteArray × ByteArray × Int) : cnt (L ++ [x]) q = cnt L q + if trip x = q then 1 else 0 := by
  unfold cnt
  rw [List.countP_append, List.countP_singleton]; simp
/-- a record more -/
def addIn (L : List Spn) (x : Spn) : List Spn := if x.pa = 0 then L ++ [x] else L
theorem chg_in {m : List (ByteArray × Int)} {L : List Spn} (h : EntRel m L) {x : Spn} (hx : Goodk (trip x)) : (chg m x 1).2 = true ∧ EntRel (chg m x 1).1 (addIn L x) := by
  unfold chg addIn
  by_cases hp : x.pa = 0
  · rw [if_pos hp, if_pos hp, h.get hx, if_neg (by omega), if_neg (by omega)]
    refine ⟨rfl, h.put hx (fun y hy => ?_) ?_ ?_ ?_⟩
    · rw [List.mem_append, List.mem_singleton] at hy
      rcases hy with hy | rfl
      · exact h.good y hy
      · exact hx
    · rw [cnt_snoc, if_pos rfl]; omega
    · rw [cnt_snoc, if_pos rfl]; omega
    · intro p hne
      rw [cnt_snoc, if_neg (fun e => hne e.symm)]; rfl
  · rw [if_neg hp, if_neg hp]; exact ⟨rfl, h⟩
/-- a record less -/
def takeOut (L : List Spn) (x : Spn) : Option (List Spn) := if x.pa = 0 then (if L.any (fun y => alike y x) then some (L.eraseP fun y => alike y x) else none) else some L
theorem cnt_erase {L : List Spn} {x : Spn} (h : L.any (fun y => alike y x) = true) (q : ByteArray × ByteArray × Int) : cnt (L.eraseP fun y => alike y x) q + (if trip x = q then 1 else 0) = cnt L q := by
  induction L with
  | nil => cases h
  | cons y L ih =>
    unfold cnt at *
    by_cases hy : alike y x = true
    · rw [List.eraseP_cons_of_pos (p := fun y => alike y x) hy, List.countP_cons]
      have e : trip y = trip x := by unfold alike at hy; exact of_decide_eq_true hy
      rw [e]; simp
    · rw [List.eraseP_cons_of_neg (p := fun y => alike y x) hy, List.countP_cons, List.countP_cons]
      have := ih (by rw [List.any_cons] at h; simpa [hy] using h)
      omega
theorem chg_out {m : List (ByteArray × Int)} {L : List Spn} (h : EntRel m L) {x : Spn} (hx : Goodk (trip x)) :
    match takeOut L x with
    | some L' => (chg m x (-1)).2 = true ∧ EntRel (chg m x (-1)).1 L' ∧ ∀ q, cnt L' q + (if x.pa = 0 ∧ trip x = q then 1 else 0) = cnt L q
    | none => chg m x (-1) = (m, false) := by
  unfold chg takeOut
  by_cases hp : x.pa = 0
  · rw [if_pos hp, if_pos hp, h.get hx]
    by_cases ha : L.any (fun y => alike y x) = true
    · rw [if_pos ha]
      have hc := cnt_erase ha
      have h1 := hc (trip x)
      rw [if_pos rfl] at h1
      have hg : ∀ y ∈ L.eraseP (fun y => alike y x), Goodk (trip y) := fun y hy => h.good y (List.mem_of_mem_eraseP hy)
      have hne : ∀ p, p ≠ trip x → cnt (L.eraseP fun y => alike y x) p = cnt L p := fun p hp => by have := hc p; rw [if_neg (fun e => hp e.symm)] at this; exact this
      dsimp only
      rw [if_neg (by omega)]
      by_cases h0 : cnt (L.eraseP fun y => alike y x) (trip x) = 0
      · rw [if_pos (by omega)]
        exact ⟨rfl, h.drop hx hg h0 hne, fun q => by simpa [hp] using hc q⟩
      · rw [if_neg (by omega)]
        exact ⟨rfl, h.put hx hg h0 (by omega) hne, fun q => by simpa [hp] using hc q⟩
    · rw [if_neg ha]
      have h0 : cnt L (trip x) = 0 := by
        unfold cnt
        rw [List.countP_eq_zero]
        intro y hy hd
        exact ha (List.any_eq_true.2 ⟨y, hy, hd⟩)
      dsimp only
      rw [h0, if_pos (by decide)]
  · rw [if_neg hp, if_neg hp]
    exact ⟨rfl, h, fun q => by simp [hp]⟩
/-! ### Apply -/
/-- what is done again -/
def redo (m : List (ByteArray × Int)) (l : List Spn) : List (ByteArray × Int) := l.foldl (fun m y => (chg m y 1).1) m
/-- the records that go -/
def vOut (m : List (ByteArray × Int)) (done : List Spn) : List Spn → List (ByteArray × Int) × Bool
  | [] => (m, true)
  | x :: l => if (chg m x (-1)).2 then vOut (chg m x (-1)).1 (done ++ [x]) l else (redo (chg m x (-1)).1 done, false)
def vApply (m : List (ByteArray × Int)) (out inn : List Spn) : List (ByteArray × Int) × Bool :=
  if out.all may && inn.all may then (if (vOut m [] out).2 then (redo (vOut m [] out).1 inn, true) else vOut m [] out) else (m, false)
def rOut (L : List Spn) : List Spn → Option (List Spn)
  | [] => some L
  | x :: l => match takeOut L x with
    | some L' => rOut L' l
    | none => none
def rIn (L : List Spn) (l : List Spn) : List Spn := l.foldl addIn L
def rApply (L : List Spn) (out inn : List Spn) : List Spn × Bool :=
  if out.all may && inn.all may then (match rOut L out with | some L' => (rIn L' inn, true) | none => (L, false)) else (L, false)
theorem redo_rel : ∀ (l : List Spn) {m : List (ByteArray × Int)} {L : List Spn}, EntRel m L → (∀ x ∈ l, Goodk (trip x)) → EntRel (redo m l) (rIn L l)
  | [], _, _, h, _ => h
  | x :: l, _, _, h, hl => redo_rel l (chg_in h (hl x (List.mem_cons_self ..))).2 fun y hy => hl y (List.mem_cons_of_mem _ hy)
theorem cnt_rIn (q : ByteArray × ByteArray × Int) : ∀ (l L : List Spn), cnt (rIn L l) q = cnt L q + (l.countP fun x => decide (x.pa = 0 ∧ trip x = q))
  | [], L => rfl
  | x :: l, L => by
    show cnt (rIn (addIn L x) l) q = _
    rw [cnt_rIn q l, List.countP_cons]
    unfold addIn
    by_cases hp : x.pa = 0
    · rw [if_pos hp, cnt_snoc]; simp only [hp, true_and]
      by_cases h : trip x = q
      · simp [h]; omega
      · simp [h]
    · rw [if_neg hp]; simp [hp]
theorem rIn_good : ∀ (l L : List Spn), (∀ x ∈ L, Goodk (trip x)) → (∀ x ∈ l, Goodk (trip x)) → ∀ x ∈ rIn L l, Goodk (trip x)
  | [], _, h, _ => h
  | x :: l, L, h, hl => rIn_good l _ (fun y hy => by
      unfold addIn at hy
      split at hy
      · rw [List.mem_append, List.mem_singleton] at hy
        rcases hy with hy | rfl
        · exact h y hy
        · exact hl _ (List.mem_cons_self ..)
      · exact h y hy) fun y hy => hl y (List.mem_cons_of_mem _ hy)
theorem vOut_rel : ∀ (l done : List Spn) {m : List (ByteArray × Int)} {L L0 : List Spn}, EntRel m L → (∀ x ∈ L0, Goodk (trip x)) → (∀ x ∈ done, Goodk (trip x)) → (∀ x ∈ l, Goodk (trip x)) →
    (∀ q, cnt L q + (done.countP fun x => decide (x.pa = 0 ∧ trip x = q)) = cnt L0 q) →
    match rOut L l with
    | some L' => (vOut m done l).2 = true ∧ EntRel (vOut m done l).1 L'
    | none => (vOut m done l).2 = false ∧ EntRel (vOut m done l).1 L0
  | [], done, m, L, L0, h, _, _, _, _ => ⟨rfl, h⟩
  | x :: l, done, m, L, L0, h, hg0, hd, hl, hc => by
    have hx := hl x (List.mem_cons_self ..)
    have hs := chg_out h hx
    simp only [rOut, vOut]
    cases ht : takeOut L x with
    | none =>
      rw [ht] at hs
      dsimp only at hs ⊢
      rw [hs]
      simp only [Bool.false_eq_true, if_false]
      exact ⟨trivial, (redo_rel done h hd).congr hg0 fun q => by rw [cnt_rIn, ← hc q]⟩
    | some L' =>
      rw [ht] at hs
      dsimp only at hs ⊢
      obtain ⟨h1, h2, h3⟩ := hs
      rw [h1, if_pos rfl]
      refine vOut_rel l (done ++ [x]) h2 hg0 (fun y hy => ?_) (fun y hy => hl y (List.mem_cons_of_mem _ hy)) fun q => ?_
      · rw [List.mem_append, List.mem_singleton] at hy
        rcases hy with hy | rfl
        · exact hd y hy
        · exact hx
      · rw [List.countP_append, List.countP_singleton]
        have := h3 q; have := hc q
        simp only [decide_eq_true_eq]; omega
theorem good_may {x : Spn} (hf : I64 x.tr) (h : may x = true) : Goodk (trip x) := by
  unfold may at h
  simp only [Bool.and_eq_true] at h
  exact ⟨h.1.1.1.2, h.1.1.2, hf⟩
/-- **Apply: the view and the document go together.** -/
theorem apply_rel {m : List (ByteArray × Int)} {L : List Spn} (h : EntRel m L) {out inn : List Spn} (ho : ∀ x ∈ out, I64 x.tr) (hi : ∀ x ∈ inn, I64 x.tr) :
    (vApply m out inn).2 = (rApply L out inn).2 ∧ EntRel (vApply m out inn).1 (rApply L out inn).1 := by
  unfold vApply rApply
  by_cases hm : (out.all may && inn.all may) = true
  · rw [if_pos hm, if_pos hm]
    rw [Bool.and_eq_true, List.all_eq_true, List.all_eq_true] at hm
    have hgo : ∀ x ∈ out, Goodk (trip x) := fun x hx => good_may (ho x hx) (hm.1 x hx)
    have hgi : ∀ x ∈ inn, Goodk (trip x) := fun x hx => good_may (hi x hx) (hm.2 x hx)
    have hv := vOut_rel out [] h h.good (fun _ h => by cases h) hgo (fun q => by simp)
    cases hr : rOut L out with
    | none =>
      rw [hr] at hv
      dsimp only at hv ⊢
      rw [hv.1]
      exact ⟨hv.1, hv.2⟩
    | some L' =>
      rw [hr] at hv
      dsimp only at hv ⊢
      rw [hv.1, if_pos rfl]
      exact ⟨rfl, redo_rel inn hv.2 hgi⟩
  · rw [if_neg hm, if_neg hm]; exact ⟨rfl, h⟩
/-! ### All -/
/-- the keys are those of records -/
theorem EntRel.keys {m : List (ByteArray × Int)} {L : List Spn} (h : EntRel m L) : ∃ qs : List (ByteArray × ByteArray × Int), m.map (·.1) = qs.map tkey ∧ qs.Pairwise tlt ∧ (∀ q ∈ qs, Goodk q) ∧ ∀ q, q ∈ qs ↔ ∃ x ∈ L, trip x = q := by
  have : ∀ l : List (ByteArray × Int), (∀ y ∈ l, ∃ q, Goodk q ∧ y.1 = tkey q) → ∃ qs : List (ByteArray × ByteArray × Int), l.map (·.1) = qs.map tkey ∧ ∀ q ∈ qs, Goodk q := by
    intro l
    induction l with
    | nil => exact fun _ => ⟨[], rfl, fun _ h => by cases h⟩
    | cons y l ih =>
      intro hl
      obtain ⟨qs, h1, h2⟩ := ih fun z hz => hl z (List.mem_cons_of_mem _ hz)
      obtain ⟨q, hq, e⟩ := hl y (List.mem_cons_self ..)
      exact ⟨q :: qs, by simp [h1, e], fun p hp => by
        rw [List.mem_cons] at hp
        rcases hp with rfl | hp
        · exact hq
        · exact h2 p hp⟩
  obtain ⟨qs, h1, h2⟩ := this m h.key
  have hup : (m.map (·.1)).Pairwise fun a b => cmpS a b = .lt := by
    rw [List.pairwise_map]; exact h.up
  rw [h1, List.pairwise_map] at hup
  refine ⟨qs, h1, ?_, h2, fun q => ?_⟩
  · exact List.Pairwise.imp_of_mem (fun ha hb hab => (tkey_lt (h2 _ ha) (h2 _ hb)).1 hab) hup
  · have hcm : ∀ q, Goodk q → (cnt L q ≠ 0 ↔ ∃ x ∈ L, trip x = q) := fun q _ => by
      unfold cnt
      rw [Ne, List.countP_eq_zero]
      constructor
      · intro hn
        refine Classical.byContradiction fun hne => hn fun x hx hd => hne ⟨x, hx, of_decide_eq_true hd⟩
      · rintro ⟨x, hx, e⟩ hall
        exact hall x hx (decide_eq_true e)
    constructor
    · intro hq
      have hg := h2 q hq
      have hm : tkey q ∈ m.map (·.1) := by rw [h1]; exact List.mem_map_of_mem hq
      obtain ⟨y, hy, e⟩ := List.mem_map.1 hm
      obtain ⟨v, hv⟩ := findL_of_mem order_S hy
      rw [e, h.val q hg] at hv
      refine (hcm q hg).1 fun h0 => ?_
      rw [if_pos h0] at hv; cases hv
    · rintro ⟨x, hx, rfl⟩
      have hg := h.good x hx
      have h0 := (hcm _ hg).2 ⟨x, hx, rfl⟩
      have hv := h.val _ hg
      rw [if_neg h0] at hv
      obtain ⟨y, hy, e, _⟩ := findL_some hv
      have e := order_S.eq e
      have : y.1 ∈ qs.map tkey := by rw [← h1]; exact List.mem_map_of_mem hy
      obtain ⟨q, hq, e'⟩ := List.mem_map.1 this
      have := tkey_inj hg (h2 q hq) (e.trans e'.symm)
      rw [this]; exact hq
/-- **All entries: the view and the document give the same.** -/
theorem all_rel {m : List (ByteArray × Int)} {L : List Spn} (h : EntRel m L) : ∃ qs : List (ByteArray × ByteArray × Int), m.map (·.1) = qs.map tkey ∧ (∀ q ∈ qs, Goodk q) ∧ qs.Pairwise tlt ∧ entsOf qs = refAll L := by
  obtain ⟨qs, h1, h2, h3, h4⟩ := h.keys
  refine ⟨qs, h1, h3, h2, (entsOf_canon qs h2).one ?_⟩
  have C := refAll_canon L
  refine ⟨C.up, C.ne, C.tup, fun s o t => ?_⟩
  rw [C.mem s o t, h4]
  constructor
  · rintro ⟨x, hx, rfl, rfl, rfl⟩; exact ⟨x, hx, rfl⟩
  · rintro ⟨x, hx, e⟩
    simp only [trip, Prod.mk.injEq] at e
    exact ⟨x, hx, e⟩
end Go.Proofs.YtdonmmjikcbihaaGreatDoor
/- Entries as rows of the call's own. -/
namespace Go.Proofs.YtdonmmjikcbihaaGreatDoor
open Go.RowKit Go.Proofs Go.Vc
/-- a slice of entries that reads so -/
def EntsAt (w : World) (v : Value) (E : List Ent) : Prop :=
  ∃ l : List (ByteArray × ByteArray × Sl), entE.Reads w v l ∧ l.length = E.length ∧ (∀ i (h : i < l.length) (h' : i < E.length), l[i].1 = E[i].sv ∧ l[i].2.1 = E[i].op) ∧
    ∀ i (h : i < l.length) (h' : i < E.length), intE.Reads w (slV l[i].2.2) E[i].tr
theorem EntsAt.ext {w w' : World} {v : Value} {E : List Ent} (h : EntsAt w v E) (k : Ext w w') : EntsAt w' v E := by
  obtain ⟨l, h1, h2, h3, h4⟩ := h
  exact ⟨l, h1.ext entE k, h2, h3, fun i h h' => (h4 i h h').ext intE k⟩
structure EntRows (B : Nat) (v : Value) (l : List (ByteArray × ByteArray × Sl)) (E : List Ent) (W : World) : Prop where
  row : entE.Own B v l W
  len : l.length = E.length
  nm : ∀ i (h : i < l.length) (h' : i < E.length), l[i].1 = E[i].sv ∧ l[i].2.1 = E[i].op
  tr : ∀ i (h : i < l.length) (h' : i < E.length), intE.Own B (slV l[i].2.2) E[i].tr W
  ap : l.Pairwise fun a b => a.2.2.1 ≠ none ∧ a.2.2.1 ≠ b.2.2.1
theorem EntRows.nil (B : Nat) (W : World) : EntRows B (.slice none 0 0) [] [] W := ⟨Ek.Own.nil entE B W, rfl, fun _ h => absurd h (Nat.not_lt_zero _), fun _ h => absurd h (Nat.not_lt_zero _), List.Pairwise.nil⟩
theorem EntRows.bk {B C : Nat} {v : Value} {l : List (ByteArray × ByteArray × Sl)} {E : List Ent} {W W' : World} (h : EntRows B v l E W) (k : Bk C W W') : EntRows B v l E W' :=
  ⟨h.row.bk entE k, h.len, h.nm, fun i h1 h2 => (h.tr i h1 h2).bk intE k, h.ap⟩
theorem EntRows.ext {B : Nat} {v : Value} {l : List (ByteArray × ByteArray × Sl)} {E : List Ent} {W W' : World} (h : EntRows B v l E W) (k : Ext W W') : EntRows B v l E W' :=
  ⟨h.row.ext entE k, h.len, h.nm, fun i h1 h2 => (h.tr i h1 h2).ext intE k, h.ap⟩
theorem ty_ne : (entE.e == intE.e) = false := by kernel_rfl
/-- rows of different kinds lie apart -/
theorem kinds_apart {B C : Nat} {v u : Value} {l : List (ByteArray × ByteArray × Sl)} {m : List Int} {W : World} (h : entE.Own B v l W) (k : intE.Own C u m W) {g : Nat} (hg : v.ownBlock = some g) : u.ownBlock ≠ some g := by
  intro hu
  obtain ⟨c, f, h1⟩ := h.kind entE hg
  obtain ⟨c', f', h2⟩ := k.kind intE hu
  rw [h1] at h2
  injection h2 with h2
  injection h2 with _ h2
  have := ty_ne
  rw [h2] at this; simp at this
theorem EntRows.reads {B : Nat} {v : Value} {l : List (ByteArray × ByteArray × Sl)} {E : List Ent} {W : World} (h : EntRows B v l E W) (hl : E.length ≤ 1000000) (ht : ∀ e ∈ E, e.tr.length ≤ 1000000) : EntsAt W v E :=
  ⟨l, h.row.reads entE (by rw [h.len]; exact hl), h.len, h.nm, fun i h1 h2 => (h.tr i h1 h2).reads intE (ht _ (List.getElem_mem h2))⟩
theorem EntRows.some {B : Nat} {v : Value} {l : List (ByteArray × ByteArray × Sl)} {E : List Ent} {W : World} (h : EntRows B v l E W) (hne : ∀ e ∈ E, e.tr ≠ []) : ∀ a ∈ l, a.2.2.1 ≠ none := by
  intro a ha
  obtain ⟨i, hi, rfl⟩ := List.getElem_of_mem ha
  have hE : i < E.length := by rw [← h.len]; exact hi
  intro hn
  obtain ⟨a', c', e, h0, _⟩ := (h.tr i hi hE).slice intE
  injection e with e1 _ _
  exact hne _ (List.getElem_mem hE) (h0 (e1.symm.trans hn))
/-- one entry more, of no traces yet -/
theorem EntRows.push {B : Nat} {v v' : Value} {l : List (ByteArray × ByteArray × Sl)} {E : List Ent} {W W' : World} (h : EntRows B v l E W) (hne : ∀ e ∈ E, e.tr ≠ []) (s o : ByteArray)
    (hr : entE.Own B v' (l ++ [(s, o, (none, 0, 0))]) W') (k : Keeps (fun b => v.ownBlock = .some b) W W') : EntRows B v' (l ++ [(s, o, (none, 0, 0))]) (E ++ [⟨s, o, []⟩]) W' := by
  refine ⟨hr, by rw [List.length_append, List.length_append, h.len]; rfl, fun i h1 h2 => ?_, fun i h1 h2 => ?_, ?_⟩
  · rcases Nat.lt_or_ge i l.length with hi | hi
    · have hE : i < E.length := by rw [← h.len]; exact hi
      rw [List.getElem_append_left hi, List.getElem_append_left hE]; exact h.nm i hi hE
    · have e : i = l.length := by rw [List.length_append, List.length_singleton] at h1; omega
      subst e
      rw [List.getElem_append_right (Nat.le_refl _), List.getElem_append_right (by rw [h.len]; exact Nat.le_refl _)]
      simp [h.len]
  · rcases Nat.lt_or_ge i l.length with hi | hi
    · have hE : i < E.length := by rw [← h.len]; exact hi
      rw [List.getElem_append_left hi, List.getElem_append_left hE]
      exact (h.tr i hi hE).keeps intE k fun g hg hv => kinds_apart h.row (h.tr i hi hE) hv hg
    · have e : i = l.length := by rw [List.length_append, List.length_singleton] at h1; omega
      subst e
      rw [List.getElem_append_right (Nat.le_refl _), List.getElem_append_right (by rw [h.len]; exact Nat.le_refl _)]
      simp only [h.len, Nat.sub_self, List.getElem_cons_zero]
      exact Ek.Own.nil intE B W'
  · rw [List.pairwise_append]
    exact ⟨h.ap, List.pairwise_singleton _ _, fun a ha b hb => by rw [List.mem_singleton] at hb; subst hb; exact ⟨h.some hne a ha, h.some hne a ha⟩⟩
/-- the last entry's traces longer -/
theorem EntRows.last {B g n cap : Nat} {l : List (ByteArray × ByteArray × Sl)} {x : ByteArray × ByteArray × Sl} {E : List Ent} {e : Ent} {W W' : World} {u : Sl} {t : Int} (h : EntRows B (.slice (.some ⟨g, 0, none⟩) n cap) (l ++ [x]) (E ++ [e]) W)
    (hr : intE.Own B (slV u) (e.tr ++ [t]) W') (k : Keeps (fun b => (slV x.2.2).ownBlock = .some b) W W') (hu : (slV u).ownBlock = (slV x.2.2).ownBlock ∨ ∃ b, (slV u).ownBlock = .some b ∧ W.heap.size ≤ b) :
    EntRows B (.slice (.some ⟨g, 0, none⟩) n cap) (l ++ [(x.1, x.2.1, u)]) (E ++ [{ e with tr := e.tr ++ [t] }]) (W'.setCell ⟨g, l.length * 3 + 2, none⟩ (slV u)) := by
  have hlen : l.length = E.length := by have := h.len; simpa using this
  have hx := h.tr l.length (by simp) (by simp [hlen])
  have hnx := h.nm l.length (by simp) (by simp [hlen])
  rw [List.getElem_append_right (Nat.le_refl _), List.getElem_append_right (by rw [hlen]; exact Nat.le_refl _)] at hx hnx
  simp only [hlen, Nat.sub_self, List.getElem_cons_zero] at hx hnx
  have hrow' : entE.Own B (.slice (.some ⟨g, 0, none⟩) n cap) (l ++ [x]) W' := h.row.keeps entE k fun b hb hx' => kinds_apart h.row hx hb hx'
  have hset := hrow'.set entE (g := g) rfl l.length 2 (slV u) (x.1, x.2.1, u) (by simp) (by decide) (by simp [entE])
  rw [show (l ++ [x]).set l.length (x.1, x.2.1, u) = l ++ [(x.1, x.2.1, u)] by rw [List.set_append_right _ _ (Nat.le_refl _)]; simp] at hset
  have hset' : entE.Own B (.slice (.some ⟨g, 0, none⟩) n cap) (l ++ [(x.1, x.2.1, u)]) (W'.setCell ⟨g, l.length * 3 + 2, none⟩ (slV u)) := hset
  have hot : ∀ {m : List Int} {v : Value}, intE.Own B v m W' → intE.Own B v m (W'.setCell ⟨g, l.length * 3 + 2, none⟩ (slV u)) := fun hm =>
    hm.keeps intE ((Only.refl [g] W').setCell (by simp) _).keeps fun b hb hg => by
      rw [List.mem_singleton] at hg
      subst hg
      exact kinds_apart hrow' hm rfl hb
  have hap := h.ap
  rw [List.pairwise_append] at hap
  have hlt : ∀ i (hi : i < l.length) (hE : i < E.length), intE.Own B (slV l[i].2.2) E[i].tr W := fun i hi hE => by
    have := h.tr i (by rw [List.length_append]; omega) (by rw [List.length_append]; omega)
    rw [List.getElem_append_left hi, List.getElem_append_left hE] at this; exact this
  have hxo : ∀ i (hi : i < l.length), ∃ b, (slV l[i].2.2).ownBlock = .some b ∧ (slV x.2.2).ownBlock ≠ .some b := fun i hi => by
    have hE : i < E.length := by omega
    have h1 := hap.2.2 l[i] (List.getElem_mem hi) x (List.mem_singleton.2 rfl)
    have ho := hlt i hi hE
    obtain ⟨a', c', e', _, _⟩ := ho.slice intE
    injection e' with e1 _ _
    rcases ho.form intE with hf | ⟨g1, c1, hf, _⟩
    · injection hf with hf _ _; exact absurd hf h1.1
    · refine ⟨g1, by rw [hf]; rfl, fun hc => ?_⟩
      injection hf with hf _ _
      rcases hx.form intE with hg | ⟨g2, c2, hg, _⟩
      · rw [hg] at hc; cases hc
      · rw [hg] at hc
        simp only [Value.ownBlock, Option.some.injEq] at hc
        injection hg with hg _ _
        exact h1.2 (by rw [hf, hg, hc])
  refine ⟨hset', by rw [List.length_append, List.length_append, hlen]; rfl, fun i h1 h2 => ?_, fun i h1 h2 => ?_, ?_⟩
  · rcases Nat.lt_or_ge i l.length with hi | hi
    · have hE : i < E.length := by omega
      have := h.nm i (by rw [List.length_append]; omega) (by rw [List.length_append]; omega)
      rw [List.getElem_append_left hi, List.getElem_append_left hE] at this ⊢; exact this
    · have e' : i = l.length := by rw [List.length_append, List.length_singleton] at h1; omega
      subst e'
      rw [List.getElem_append_right (Nat.le_refl _), List.getElem_append_right (by rw [hlen]; exact Nat.le_refl _)]
      simp only [hlen, Nat.sub_self, List.getElem_cons_zero]
      exact hnx
  · rcases Nat.lt_or_ge i l.length with hi | hi
    · have hE : i < E.length := by omega
      rw [List.getElem_append_left hi, List.getElem_append_left hE]
      obtain ⟨b, hb1, hb2⟩ := hxo i hi
      exact hot ((hlt i hi hE).keeps intE k fun g' hg' hc => by rw [hb1] at hg'; injection hg' with hg'; subst hg'; exact hb2 hc)
    · have e' : i = l.length := by rw [List.length_append, List.length_singleton] at h1; omega
      subst e'
      rw [List.getElem_append_right (Nat.le_refl _), List.getElem_append_right (by rw [hlen]; exact Nat.le_refl _)]
      have hh := hot hr
      simp only [hlen, Nat.sub_self, List.getElem_cons_zero] at hh ⊢
      exact hh
  · rw [List.pairwise_append]
    refine ⟨hap.1, List.pairwise_singleton _ _, fun a ha b hb => ?_⟩
    rw [List.mem_singleton] at hb
    subst hb
    have h1 := hap.2.2 a ha x (List.mem_singleton.2 rfl)
    refine ⟨h1.1, fun hc => ?_⟩
    obtain ⟨i, hi, rfl⟩ := List.getElem_of_mem ha
    obtain ⟨b, hb1, hb2⟩ := hxo i hi
    have hE : i < E.length := by omega
    have hub : (slV u).ownBlock = .some b := by
      rw [← hb1]; simp only [slV]
      dsimp only at hc
      rw [← hc]
      cases hq : l[i].2.2.1 <;> rfl
    rcases hu with hu | ⟨b', hu, hbb⟩
    · exact hb2 (hu.symm.trans hub)
    · rw [hub] at hu
      injection hu with hu
      subst hu
      have := ((hlt i hi hE).lt intE hb1).2
      omega
/-! ### strings.Split of an entry's beginning -/
theorem indexByte_app (r : List UInt8) : ∀ l : List UInt8, (∀ c ∈ l, c ≠ 0) → Lib.indexByte (l ++ 0 :: r) 0 = l.length
  | [], _ => rfl
  | a :: l, h => by
    have h0 := h a (List.mem_cons_self ..)
    have ih := indexByte_app r l fun c hc => h c (List.mem_cons_of_mem _ hc)
    rw [List.cons_append, Lib.indexByte, ih, if_neg (by simpa using h0), if_neg (by rw [beq_iff_eq]; omega), List.length_cons]; rfl
theorem indexB_app (s r : ByteArray) (h : ∀ c ∈ s.toList, c ≠ 0) : Lib.indexB (s ++ nul ++ r) nul = (s.size : Nat) := by
  unfold Lib.indexB
  have e : nul.data.toList = [0] := rfl
  rw [e, Lib.index_one]
  have e2 : (s ++ nul ++ r).data.toList = s.data.toList ++ 0 :: r.data.toList := by simp [ByteArray.data_append, nul]
  rw [e2, indexByte_app _ _ (by rw [← toList_data]; exact h), Array.length_toList]; rfl
theorem split_first (s o : ByteArray) (hs : ∀ c ∈ s.toList, c ≠ 0) (ho : ∀ c ∈ o.toList, c ≠ 0) : Lib.countB (efirst s o) nul = 2 ∧ Lib.splitB nul 0 2 (efirst s o) = [s, o, ByteArray.empty] := by
  have hn : nul.size = 1 := rfl
  have e1 : efirst s o = s ++ nul ++ (o ++ nul) := by unfold efirst; rw [ByteArray.append_assoc]
  have e2 : o ++ nul = o ++ nul ++ ByteArray.empty := by rw [ByteArray.append_empty]
  have i1 := indexB_app s (o ++ nul) hs
  have i2 := indexB_app o ByteArray.empty ho
  rw [← e1] at i1
  rw [← e2] at i2
  have i3 : Lib.indexB ByteArray.empty nul = -1 := by unfold Lib.indexB; rw [show nul.data.toList = [0] from rfl, Lib.index_one]; rfl
  have x1 : (efirst s o).extract (s.size + 1) (efirst s o).size = o ++ nul := by
    rw [e1]; exact ByteArray.extract_append_eq_right (by rw [ByteArray.size_append, hn]) (by simp only [ByteArray.size_append])
  have x2 : (o ++ nul).extract (o.size + 1) (o ++ nul).size = ByteArray.empty := by
    conv => lhs; rw [e2]
    exact ByteArray.extract_append_eq_right (by rw [ByteArray.size_append, hn]) (by simp only [ByteArray.size_append])
  have y1 : (efirst s o).extract 0 s.size = s := by
    rw [e1, ByteArray.append_assoc]; exact ByteArray.extract_append_eq_left rfl
  have y2 : (o ++ nul).extract 0 o.size = o := ByteArray.extract_append_eq_left rfl
  constructor
  · rw [Lib.countB_hit _ _ s.size (by rw [hn]; exact Nat.le_refl _) i1, hn, x1, Lib.countB_hit _ _ o.size (by rw [hn]; exact Nat.le_refl _) i2, hn, x2, Lib.countB_miss _ _ i3]
  · rw [Lib.splitB_hit nul 0 1 _ s.size i1, hn, x1, Lib.splitB_hit nul 0 0 _ o.size i2, hn, x2, Nat.add_zero, Nat.add_zero, y1, y2]; rfl
end Go.Proofs.YtdonmmjikcbihaaGreatDoor
/- Slices of spans: searching by a function. -/
namespace Go.Proofs.YtdonmmjikcbihaaGreatDoor
open Go.RowKit Go.Proofs Go.Vc
attribute [local irreducible] Calls CallsIn Code.wp Code.wpIn
set_option maxRecDepth 20000 in
theorem indexfunc_bad (_ : Nat) (p : Spn → Bool) (v : Value) (l : List Spn) (w : World) (h : SpnsAt w v l)
    (hp : ∀ x ∈ l, ∀ w', Ext w w' → Calls Tryz.prog 40 (#[spnV x] ++ #[]) w' fun e w'' => e = .returned (.bool (p x)) ∧ Ext w' w'') :
    Calls Tryz.prog 63 #[v, .func (.func 40) #[] #[]] w fun e w' => e = .returned (.int .i64 (indexOf p l)) ∧ Ext w w' := by
  obtain ⟨a, cap, rfl, hn, h0, hcs⟩ := h
  have hln : ∀ j : Nat, j < l.length → a ≠ none := fun j hj ha => by rw [h0 ha] at hj; exact absurd hj (Nat.not_lt_zero _)
  have hcell : ∀ (wr : World), Ext w wr → ∀ g o s, a = some ⟨g, o, s⟩ → (l ≠ [] → s = none) ∧ ∀ i (h : i < l.length), C9 wr g (o + i * 9) l[i] := fun wr hr g o s ha => ⟨(hcs g o s ha).1, fun i hi => ((hcs g o s ha).2 i hi).keeps hr fun hf => hf⟩
  have HB := Lib.hid (And.intro hcell (And.intro hln hp))
  obtain ⟨n, hnl⟩ : ∃ n, n = l.length := ⟨_, rfl⟩
  rw [← hnl] at hn ⊢
  have HNL := Lib.hid hnl
  clear hcell hln hcs h0 hnl hp
  go_enter Tryz.func63, Tryz.ntmps63
  go_wp2_with fail
  go_loopg [8] n (fun k q wr => ∃ j : Nat, q = .int .i64 j ∧ j + k = n ∧ Ext w wr ∧ ∀ i (hi : i < l.length), i < j → p l[i] = false)
  case atStart => exact ⟨0, rfl, Nat.zero_add _, Keeps.refl _ _, fun i _ hi => absurd hi (Nat.not_lt_zero _)⟩
  case round =>
    obtain ⟨j, rfl, hj, hE2, hall⟩ := hrel
    have HA := Lib.hid hall
    clear hall
    by_cases hjn : (j : Int) < n
    · have hjl : j < l.length := by rw [← HNL.out]; omega
      obtain ⟨⟨g, o, s⟩, rfl⟩ := Option.ne_none_iff_exists'.1 (HB.out.2.1 j hjl)
      obtain ⟨hs0, hc9⟩ := HB.out.1 wr hE2 g o s rfl
      obtain rfl := hs0 (ne_nil_of_lt hjl)
      have hy := hc9 j hjl
      obtain ⟨y, hyl⟩ : ∃ y, y = l[j] := ⟨_, rfl⟩
      rw [← hyl] at hy
      unfold C9 at hy
      have HE2 := Lib.hid (And.intro hE2 hyl)
      have HP := Lib.hid (HB.out.2.2 y (by rw [hyl]; exact List.getElem_mem hjl) wr hE2)
      clear hE2 hc9 hyl
      go_wp2_with fail
      refine HP.out.mono ?_
      rintro e9 w3 ⟨rfl, hE3⟩
      have HE3 := Lib.hid (HE2.out.1.trans hE3)
      clear hE3 hy
      cases hpy : p y
      · go_wp2_with fail
        go_roundg (gk - 1)
        case measure => omega
        case rel =>
          refine ⟨j + 1, by simp, by omega, HE3.out, fun i hi hij => ?_⟩
          by_cases hije : i = j
          · subst hije; rw [← HE2.out.2]; exact hpy
          · exact HA.out i hi (by omega)
      · have HM := Lib.hid (indexOf_hit (p := p) hjl (by rw [← HE2.out.2]; exact hpy) (fun i hi => HA.out i (Nat.lt_trans hi hjl) hi))
        go_wp2_with fail
        go_ret
        exact ⟨by rw [HM.out]; rfl, HE3.out⟩
    · have HM := Lib.hid (indexOf_miss (p := p) (l := l) (fun i hi => HA.out i hi (by rw [← HNL.out] at hi; omega)))
      have HE2 := Lib.hid hE2
      clear hE2
      go_wp2_with fail
      go_ret
      exact ⟨by rw [HM.out]; rfl, HE2.out⟩
theorem containsfunc_bad (cb : Nat) (p : Spn → Bool) (v : Value) (l : List Spn) (w : World) (h : SpnsAt w v l)
    (hp : ∀ x ∈ l, ∀ w', Ext w w' → Calls Tryz.prog 40 (#[spnV x] ++ #[]) w' fun e w'' => e = .returned (.bool (p x)) ∧ Ext w' w'') :
    Calls Tryz.prog 39 #[v, .func (.func 40) #[] #[]] w fun e w' => e = .returned (.bool (l.any p)) ∧ Ext w w' := by
  have H := Lib.hid (indexfunc_bad cb p v l w h hp)
  have HM := Lib.hid (indexOf_nonneg p l)
  clear h hp
  go_enter Tryz.func39, Tryz.ntmps39
  go_wp2_with fail
  refine H.out.mono ?_
  rintro e9 w1 ⟨rfl, hE1⟩
  have HE := Lib.hid hE1
  clear hE1
  go_wp2_with fail
  go_ret
  exact ⟨by rw [← HM.out]; rfl, HE.out⟩
set_option maxRecDepth 20000 in
theorem indexfunc_live (_ : Nat) (p : Spn → Bool) (v : Value) (l : List Spn) (w : World) (h : SpnsAt w v l)
    (hp : ∀ x ∈ l, ∀ w', Ext w w' → Calls Tryz.prog 79 (#[spnV x] ++ #[]) w' fun e w'' => e = .returned (.bool (p x)) ∧ Ext w' w'') :
    Calls Tryz.prog 63 #[v, .func (.func 79) #[] #[]] w fun e w' => e = .returned (.int .i64 (indexOf p l)) ∧ Ext w w' := by
  obtain ⟨a, cap, rfl, hn, h0, hcs⟩ := h
  have hln : ∀ j : Nat, j < l.length → a ≠ none := fun j hj ha => by rw [h0 ha] at hj; exact absurd hj (Nat.not_lt_zero _)
  have hcell : ∀ (wr : World), Ext w wr → ∀ g o s, a = some ⟨g, o, s⟩ → (l ≠ [] → s = none) ∧ ∀ i (h : i < l.length), C9 wr g (o + i * 9) l[i] := fun wr hr g o s ha => ⟨(hcs g o s ha).1, fun i hi => ((hcs g o s ha).2 i hi).keeps hr fun hf => hf⟩
  have HB := Lib.hid (And.intro hcell (And.intro hln hp))
  obtain ⟨n, hnl⟩ : ∃ n, n = l.length := ⟨_, rfl⟩
  rw [← hnl] at hn ⊢
  have HNL := Lib.hid hnl
  clear hcell hln hcs h0 hnl hp
  go_enter Tryz.func63, Tryz.ntmps63
  go_wp2_with fail
  go_loopg [8] n (fun k q wr => ∃ j : Nat, q = .int .i64 j ∧ j + k = n ∧ Ext w wr ∧ ∀ i (hi : i < l.length), i < j → p l[i] = false)
  case atStart => exact ⟨0, rfl, Nat.zero_add _, Keeps.refl _ _, fun i _ hi => absurd hi (Nat.not_lt_zero _)⟩
  case round =>
    obtain ⟨j, rfl, hj, hE2, hall⟩ := hrel
    have HA := Lib.hid hall
    clear hall
    by_cases hjn : (j : Int) < n
    · have hjl : j < l.length := by rw [← HNL.out]; omega
      obtain ⟨⟨g, o, s⟩, rfl⟩ := Option.ne_none_iff_exists'.1 (HB.out.2.1 j hjl)
      obtain ⟨hs0, hc9⟩ := HB.out.1 wr hE2 g o s rfl
      obtain rfl := hs0 (ne_nil_of_lt hjl)
      have hy := hc9 j hjl
      obtain ⟨y, hyl⟩ : ∃ y, y = l[j] := ⟨_, rfl⟩
      rw [← hyl] at hy
      unfold C9 at hy
      have HE2 := Lib.hid (And.intro hE2 hyl)
      have HP := Lib.hid (HB.out.2.2 y (by rw [hyl]; exact List.getElem_mem hjl) wr hE2)
      clear hE2 hc9 hyl
      go_wp2_with fail
      refine HP.out.mono ?_
      rintro e9 w3 ⟨rfl, hE3⟩
      have HE3 := Lib.hid (HE2.out.1.trans hE3)
      clear hE3 hy
      cases hpy : p y
      · go_wp2_with fail
        go_roundg (gk - 1)
        case measure => omega
        case rel =>
          refine ⟨j + 1, by simp, by omega, HE3.out, fun i hi hij => ?_⟩
          by_cases hije : i = j
          · subst hije; rw [← HE2.out.2]; exact hpy
          · exact HA.out i hi (by omega)
      · have HM := Lib.hid (indexOf_hit (p := p) hjl (by rw [← HE2.out.2]; exact hpy) (fun i hi => HA.out i (Nat.lt_trans hi hjl) hi))
        go_wp2_with fail
        go_ret
        exact ⟨by rw [HM.out]; rfl, HE3.out⟩
    · have HM := Lib.hid (indexOf_miss (p := p) (l := l) (fun i hi => HA.out i hi (by rw [← HNL.out] at hi; omega)))
      have HE2 := Lib.hid hE2
      clear hE2
      go_wp2_with fail
      go_ret
      exact ⟨by rw [HM.out]; rfl, HE2.out⟩
theorem containsfunc_live (cb : Nat) (p : Spn → Bool) (v : Value) (l : List Spn) (w : World) (h : SpnsAt w v l)
    (hp : ∀ x ∈ l, ∀ w', Ext w w' → Calls Tryz.prog 79 (#[spnV x] ++ #[]) w' fun e w'' => e = .returned (.bool (p x)) ∧ Ext w' w'') :
    Calls Tryz.prog 39 #[v, .func (.func 79) #[] #[]] w fun e w' => e = .returned (.bool (l.any p)) ∧ Ext w w' := by
  have H := Lib.hid (indexfunc_live cb p v l w h hp)
  have HM := Lib.hid (indexOf_nonneg p l)
  clear h hp
  go_enter Tryz.func39, Tryz.ntmps39
  go_wp2_with fail
  refine H.out.mono ?_
  rintro e9 w1 ⟨rfl, hE1⟩
  have HE := Lib.hid hE1
  clear hE1
  go_wp2_with fail
  go_ret
  exact ⟨by rw [← HM.out]; rfl, HE.out⟩
end Go.Proofs.YtdonmmjikcbihaaGreatDoor
/- Package avl at [string, int]: a node's depth, its leaning, the turns. -/
namespace Go.Proofs.YtdonmmjikcbihaaGreatDoor
open Go.RowKit Go.Proofs Go.Vc
attribute [local irreducible] Calls CallsIn Code.wp Code.wpIn
/-- a node's cells -/
def Ssi : Shape ByteArray Int := ⟨109, fun k v l h d => #[.string k, .int .i64 v, l, h, .int .i64 d], 2, 3, 4, fun _ _ _ _ _ _ => rfl, fun _ _ _ _ _ _ => rfl, fun _ _ _ _ _ _ => rfl⟩
theorem Ssi_cells (k : ByteArray) (v : Int) (l h : Value) (d : Int) : Ssi.cells k v l h d = #[.string k, .int .i64 v, l, h, .int .i64 d] := rfl
theorem deep_si (t : T ByteArray Int) (w : World) (h : At Ssi w t) : Calls Tryz.prog 122 #[.pointer t.ptr] w fun e w' => e = .returned (.int .i64 (t.ht : Int)) ∧ w = w' := by
  cases t with
  | nil =>
    go_enter Tryz.func122, Tryz.ntmps122
    simp only [T.ptr_nil]
    go_wp2
    go_ret
    exact ⟨rfl, rfl⟩
  | node b k v l r =>
    have hc := blk_cell h.1
    simp only [Ssi_cells] at hc
    go_enter Tryz.func122, Tryz.ntmps122
    simp only [T.ptr_node]
    go_wp2
    go_ret
    exact ⟨rfl, rfl⟩
theorem lean_si {b : Nat} {k : ByteArray} {v : Int} {l r : T ByteArray Int} (w : World) (h : Nd Ssi w b k v l r) (hs : l.size + r.size ≤ 1099511627776) : Calls Tryz.prog 104 #[.pointer (some ⟨b, 0, none⟩)] w fun e w' =>
    e = .returned (.int .i64 ((r.ht : Int) - l.ht)) ∧ Like w w' := by
  obtain ⟨⟨d, hb⟩, hl, hr, _⟩ := h
  have hc := blk_cell hb
  simp only [Ssi_cells] at hc
  clear hb
  have h1 : (l.ht : Int) ≤ 1099511627776 := by have := l.ht_le_size; omega
  have h2 : (r.ht : Int) ≤ 1099511627776 := by have := r.ht_le_size; omega
  go_enter Tryz.func104, Tryz.ntmps104
  go_wp2_with fail
  refine wp_drawE (way [0, 1, 2, 3, 5, 6, 7, 8, 4, 9, 10, 11]) (by kernel_rfl) (by kernel_rfl) (fun w1 hh hd hf hS => ?_)
  simp only [way]
  have hl' := hl.heap hh
  have hr' := hr.heap hh
  have hz := Lib.hid (Like.mk hh hS.ost)
  clear hh
  go_wp2_with (first | (refine' hl_q rfl rfl rfl (fun _ => ?_) ?_; rotate_left; (go_simp <;> (try go_bits) <;> rfl); (try simp only [Act.put, List.setIfInBounds_toArray, List.set_cons_zero, List.set_cons_succ])) | (refine' hl_rS rfl rfl rfl hS ?_ ?_; rotate_left; (intro w9 hS9; (first | have hc9 := Ext.cells hS9 | have hc9 := Keeps.cells hS9); (go_simp <;> rfl)); (try simp only [Act.put, List.setIfInBounds_toArray, List.set_cons_zero, List.set_cons_succ])) | (refine' hl_r rfl rfl rfl ?_ ?_; rotate_left; (rintro w9 (rfl | hS9); (go_simp <;> rfl); (first | have hc9 := Ext.cells hS9 | have hc9 := Keeps.cells hS9 | (try dsimp only at hS9)); (go_simp <;> rfl)); (try simp only [Act.put, List.setIfInBounds_toArray, List.set_cons_zero, List.set_cons_succ])) | (refine' hl_s rfl rfl ?_; (try simp only [Act.put, List.setIfInBounds_toArray, List.set_cons_zero, List.set_cons_succ])) | (refine hl_e rfl rfl rfl (fun K hK => ?_)) | (with_reducible refine And.intro (fun hn => ?_) ?_; (first | exact hS | exact Keeps.alloc hS _ | exact absurd hn (by rw [show needS _ _ = false from by kernel_rfl]; exact Bool.false_ne_true))) | (refine hl_done ?_) | gi_step | (gi_at_call 122; refine callsIn_wide.2 ?_; (first | refine (deep_si r _ hr').mono ?_ | refine (deep_si l _ hl').mono ?_); rintro e9 w9 ⟨rfl, rfl⟩))
  go_ret
  exact ⟨rfl, hz.out⟩
theorem measure_si {b : Nat} {k : ByteArray} {v : Int} {l r : T ByteArray Int} (w : World) (h : Nd Ssi w b k v l r) (hs : l.size + r.size ≤ 1099511627776) : Calls Tryz.prog 103 #[.pointer (some ⟨b, 0, none⟩)] w fun e w' =>
    e = .returned (.tuple #[]) ∧ At Ssi w' (.node b k v l r) ∧ Only [b] w w' := by
  obtain ⟨⟨d, hb⟩, hl, hr, hbl, hbr, hlr⟩ := h
  have hc := blk_cell hb
  have hz := blk_free hb
  simp only [Ssi_cells] at hc
  have h1 : (l.ht : Int) ≤ 1099511627776 := by have := l.ht_le_size; omega
  have h2 : (r.ht : Int) ≤ 1099511627776 := by have := r.ht_le_size; omega
  have hb := Lib.hid hb
  go_enter Tryz.func103, Tryz.ntmps103
  go_wp2_with fail
  refine wp_drawE (way [0, 1, 2, 3, 4, 6, 7, 8, 9, 5, 10, 11, 12, 13, 14, 15]) (by kernel_rfl) (by kernel_rfl) (fun w1 hh hd hf hS => ?_)
  simp only [way]
  have hl' := hl.heap hh
  have hr' := hr.heap hh
  have hhid := Lib.hid (Like.mk hh hS.ost)
  clear hh
  go_wp2_with (first | (refine' hl_q rfl rfl rfl (fun _ => ?_) ?_; rotate_left; (go_simp <;> (try go_bits) <;> rfl); (try simp only [Act.put, List.setIfInBounds_toArray, List.set_cons_zero, List.set_cons_succ])) | (refine' hl_rS rfl rfl rfl hS ?_ ?_; rotate_left; (intro w9 hS9; (first | have hc9 := Ext.cells hS9 | have hc9 := Keeps.cells hS9); (go_simp <;> rfl)); (try simp only [Act.put, List.setIfInBounds_toArray, List.set_cons_zero, List.set_cons_succ])) | (refine' hl_r rfl rfl rfl ?_ ?_; rotate_left; (rintro w9 (rfl | hS9); (go_simp <;> rfl); (first | have hc9 := Ext.cells hS9 | have hc9 := Keeps.cells hS9 | (try dsimp only at hS9)); (go_simp <;> rfl)); (try simp only [Act.put, List.setIfInBounds_toArray, List.set_cons_zero, List.set_cons_succ])) | (refine' hl_s rfl rfl ?_; (try simp only [Act.put, List.setIfInBounds_toArray, List.set_cons_zero, List.set_cons_succ])) | (refine hl_e rfl rfl rfl (fun K hK => ?_)) | (with_reducible refine And.intro (fun hn => ?_) ?_; (first | exact hS | exact Keeps.alloc hS _ | exact absurd hn (by rw [show needS _ _ = false from by kernel_rfl]; exact Bool.false_ne_true))) | (refine hl_done ?_) | gi_step | (gi_at_call 122; refine callsIn_wide.2 ?_; (first | refine (deep_si r _ hr').mono ?_ | refine (deep_si l _ hl').mono ?_); rintro e9 w9 ⟨rfl, rfl⟩))
  all_goals
    go_end0
    have hn : Nd Ssi w b k v l r := ⟨⟨d, hb.out⟩, hl, hr, hbl, hbr, hlr⟩
    exact ⟨rfl, hn.measured hhid.out (by omega)⟩
theorem turnLow_si {b b' : Nat} {k k' : ByteArray} {v v' : Int} {l l' r' : T ByteArray Int} (w : World) (h : Nd Ssi w b k v l (.node b' k' v' l' r')) (hs : l.size + l'.size + r'.size + 2 ≤ 1099511627776) :
    Calls Tryz.prog 106 #[.pointer (some ⟨b, 0, none⟩)] w fun e w' =>
    e = .returned (.pointer (some ⟨b', 0, none⟩)) ∧ At Ssi w' (.node b' k' v' (.node b k v l l') r') ∧ Only [b, b'] w w' := by
  obtain ⟨n1, o1, nx⟩ := h.turnedLow rfl
  have hne : b' ≠ b := fun e => h.2.2.2.2.1 (by simp [T.blocks, e])
  obtain ⟨⟨d, hb⟩, _, ⟨hb', _⟩, _⟩ := h
  have hc := blk_cell hb
  have hz := blk_free hb
  have hc' := blk_cell hb'
  have hz' := blk_free hb'
  simp only [Ssi_cells] at hc hc'
  clear hb hb'
  (try simp only [T.ptr_node] at hc)
  have h1 := Lib.hid n1
  have h2 := Lib.hid o1
  have h3 := Lib.hid nx
  clear n1 o1 nx
  go_enter Tryz.func106, Tryz.ntmps106
  go_wp2_with fail
  refine (measure_si _ h1.out (by omega)).mono ?_
  rintro e9 w2 ⟨rfl, a1, o2⟩
  have n2 := h3.out w2 a1 o2
  go_wp2_with fail
  refine (measure_si _ n2 (by (try simp only [T.size]); omega)).mono ?_
  rintro e9 w3 ⟨rfl, a2, o3⟩
  go_wp2_with fail
  go_ret
  exact ⟨rfl, a2, (h2.out.trans (o2.mono (by simp))).trans (o3.mono (by simp))⟩
theorem turnHigh_si {b b' : Nat} {k k' : ByteArray} {v v' : Int} {r l' r' : T ByteArray Int} (w : World) (h : Nd Ssi w b k v (.node b' k' v' l' r') r) (hs : r.size + l'.size + r'.size + 2 ≤ 1099511627776) :
    Calls Tryz.prog 105 #[.pointer (some ⟨b, 0, none⟩)] w fun e w' =>
    e = .returned (.pointer (some ⟨b', 0, none⟩)) ∧ At Ssi w' (.node b' k' v' l' (.node b k v r' r)) ∧ Only [b, b'] w w' := by
  obtain ⟨n1, o1, nx⟩ := h.turnedHigh rfl
  have hne : b' ≠ b := fun e => h.2.2.2.1 (by simp [T.blocks, e])
  obtain ⟨⟨d, hb⟩, ⟨hb', _⟩, _⟩ := h
  have hc := blk_cell hb
  have hz := blk_free hb
  have hc' := blk_cell hb'
  have hz' := blk_free hb'
  simp only [Ssi_cells] at hc hc'
  clear hb hb'
  (try simp only [T.ptr_node] at hc)
  have h1 := Lib.hid n1
  have h2 := Lib.hid o1
  have h3 := Lib.hid nx
  clear n1 o1 nx
  go_enter Tryz.func105, Tryz.ntmps105
  go_wp2_with fail
  refine (measure_si _ h1.out (by omega)).mono ?_
  rintro e9 w2 ⟨rfl, a1, o2⟩
  have n2 := h3.out w2 a1 o2
  go_wp2_with fail
  refine (measure_si _ n2 (by (try simp only [T.size]); omega)).mono ?_
  rintro e9 w3 ⟨rfl, a2, o3⟩
  go_wp2_with fail
  go_ret
  exact ⟨rfl, a2, (h2.out.trans (o2.mono (by simp))).trans (o3.mono (by simp))⟩
/-- what stands at level's first test -/
theorem lev0_si {b : Nat} {k : ByteArray} {v : Int} {l r : T ByteArray Int} {w w1 w2 : World} (a1 : At Ssi w1 (.node b k v l r)) (o1 : Only [b] w w1) (hh : Like w1 w2) :
    At Ssi w2 (.node b k v l r) ∧ Only [b] w w2 ∧ (∀ i, w2.cell? ⟨b, i, none⟩ = (#[.string k, .int .i64 v, .pointer l.ptr, .pointer r.ptr, .int .i64 ((1 + max l.ht r.ht : Nat) : Int)] : Array Value)[i]?) ∧ (∀ i, w2.frozen? ⟨b, i, none⟩ = false) :=
  ⟨a1.heap hh.heap, o1.trans (Only.of_heap _ hh), blk_cell (a1.heap hh.heap).1, blk_free (a1.heap hh.heap).1⟩
theorem level_si {b : Nat} {k : ByteArray} {v : Int} {l r : T ByteArray Int} (w : World) (h : Nd Ssi w b k v l r) (hs : l.size + r.size + 1 ≤ 1099511627776) :
    Calls Tryz.prog 93 #[.pointer (some ⟨b, 0, none⟩)] w fun e w' =>
    e = .returned (.pointer (T.node b k v l r).level.ptr) ∧ At Ssi w' (T.node b k v l r).level ∧ Only (b :: (l.blocks ++ r.blocks)) w w' := by
  by_cases h2 : (r.ht : Int) - l.ht = 2
  · cases r with
    | nil => simp only [T.ht] at h2; omega
    | node b' k' v' l' r' =>
      by_cases hn : (r'.ht : Int) - l'.ht < 0
      · cases l' with
        | nil => simp only [T.ht] at hn; omega
        | node c kc vc lc rc =>
          have hlev : (T.node b k v l (T.node b' k' v' (T.node c kc vc lc rc) r')).level = .node c kc vc (.node b k v l lc) (.node b' k' v' rc r') := by
            rw [T.level, if_pos h2, if_pos (by simpa [T.lean] using hn)]; rfl
          rw [hlev]
          clear hlev
          simp only [T.size] at hs
          have hz2 : ((((T.node b' k' v' (T.node c kc vc lc rc) r').ht : Int) - l.ht) == 2) = true := by simpa using h2
          have hz3 : decide ((r'.ht : Int) - (T.node c kc vc lc rc).ht < 0) = true := by simpa using hn
          have H := Lib.hid h
          clear h h2 hn
          go_enter Tryz.func93, Tryz.ntmps93
          go_wp2_with fail
          refine (measure_si _ H.out (by (try simp only [T.size]); omega)).mono ?_
          rintro e9 w1 ⟨rfl, a1, o1⟩
          go_wp2_with fail
          refine (lean_si _ a1.nd (by (try simp only [T.size]); omega)).mono ?_
          rintro e9 w2 ⟨rfl, hh⟩
          obtain ⟨a2, o2, hc, hz⟩ := lev0_si a1 o1 hh
          clear hh o1 a1
          (try simp only [T.ptr_node] at hc)
          go_wp2_with fail
          refine (lean_si _ a2.2.2.1.nd (by (try simp only [T.size]); omega)).mono ?_
          rintro e9 w3 ⟨rfl, hh3⟩
          have a3 := a2.heap hh3.heap
          have o3 : Only [b] w w3 := o2.trans (Only.of_heap _ hh3)
          have hc3 := blk_cell a3.1
          have hz3' := blk_free a3.1
          simp only [Ssi_cells, T.ptr_node] at hc3
          clear hh3 o2 a2 hc hz
          go_wp2_with fail
          refine (turnHigh_si _ a3.2.2.1.nd (by omega)).mono ?_
          rintro e9 w4 ⟨rfl, a4, o4⟩
          have n5 := a3.nd.high o4.keeps (fun x hx => by simp only [List.mem_cons, List.not_mem_nil, or_false] at hx; rcases hx with rfl | rfl <;> simp [T.blocks]) a4 (fun x hx => .inl (by simp only [T.blocks, List.mem_cons, List.mem_append, List.cons_append] at hx ⊢; grind))
          have hb4 := (o4.same b (by have := a3.nd.2.2.2.2.1; simp only [T.blocks, List.mem_cons, List.mem_append, not_or] at this ⊢; grind)).trans a3.1
          have hc4 := blk_cell hb4
          have hz4 := blk_free hb4
          simp only [Ssi_cells, T.ptr_node] at hc4
          clear hb4
          have H4 := Lib.hid a4
          clear a4
          go_wp2_with fail
          refine (turnLow_si _ n5 (by (try simp only [T.size]); omega)).mono ?_
          rintro e9 w6 ⟨rfl, a6, o6⟩
          go_wp2_with fail
          go_ret
          exact ⟨rfl, a6, ((o3.mono (by simp)).trans (o4.mono (by simp [T.blocks]))).trans ((((Only.refl [b] w4).setCell (by simp) _).mono (by simp)).trans (o6.mono (by simp [T.blocks])))⟩
      · have hlev : (T.node b k v l (T.node b' k' v' l' r')).level = .node b' k' v' (.node b k v l l') r' := by
          rw [T.level, if_pos h2, if_neg (by simpa [T.lean] using hn)]; rfl
        rw [hlev]
        clear hlev
        simp only [T.size] at hs
        have hz2 : ((((T.node b' k' v' l' r').ht : Int) - l.ht) == 2) = true := by simpa using h2
        have hz3 : decide ((r'.ht : Int) - l'.ht < 0) = false := by simpa using hn
        have H := Lib.hid h
        clear h h2 hn
        go_enter Tryz.func93, Tryz.ntmps93
        go_wp2_with fail
        refine (measure_si _ H.out (by (try simp only [T.size]); omega)).mono ?_
        rintro e9 w1 ⟨rfl, a1, o1⟩
        go_wp2_with fail
        refine (lean_si _ a1.nd (by (try simp only [T.size]); omega)).mono ?_
        rintro e9 w2 ⟨rfl, hh⟩
        obtain ⟨a2, o2, hc, hz⟩ := lev0_si a1 o1 hh
        clear hh o1 a1
        (try simp only [T.ptr_node] at hc)
        go_wp2_with fail
        refine (lean_si _ a2.2.2.1.nd (by (try simp only [T.size]); omega)).mono ?_
        rintro e9 w3 ⟨rfl, hh3⟩
        have a3 := a2.heap hh3.heap
        have o3 : Only [b] w w3 := o2.trans (Only.of_heap _ hh3)
        have hc3 := blk_cell a3.1
        have hz3' := blk_free a3.1
        simp only [Ssi_cells, T.ptr_node] at hc3
        clear hh3 o2 a2 hc hz
        go_wp2_with fail
        refine (turnLow_si _ a3.nd (by omega)).mono ?_
        rintro e9 w6 ⟨rfl, a6, o6⟩
        go_wp2_with fail
        go_ret
        exact ⟨rfl, a6, (o3.mono (by simp)).trans (o6.mono (by simp [T.blocks]))⟩
  · by_cases h3 : (r.ht : Int) - l.ht = -2
    · cases l with
      | nil => simp only [T.ht] at h3; omega
      | node b' k' v' l' r' =>
        by_cases hn : 0 < (r'.ht : Int) - l'.ht
        · cases r' with
          | nil => simp only [T.ht] at hn; omega
          | node c kc vc lc rc =>
            have hlev : (T.node b k v (T.node b' k' v' l' (T.node c kc vc lc rc)) r).level = .node c kc vc (.node b' k' v' l' lc) (.node b k v rc r) := by
              rw [T.level, if_neg (by omega), if_pos h3, if_pos (by simpa [T.lean] using hn)]; rfl
            rw [hlev]
            clear hlev
            simp only [T.size] at hs
            have hz2 : (((r.ht : Int) - (T.node b' k' v' l' (T.node c kc vc lc rc)).ht) == -2) = true := by simpa using h3
            have hz1 : (((r.ht : Int) - (T.node b' k' v' l' (T.node c kc vc lc rc)).ht) == 2) = false := by rw [beq_eq_false_iff_ne]; omega
            have hz3 : decide (l'.ht < (T.node c kc vc lc rc).ht) = true := by simp; omega
            have H := Lib.hid h
            clear h h3 hn
            go_enter Tryz.func93, Tryz.ntmps93
            go_wp2_with fail
            refine (measure_si _ H.out (by (try simp only [T.size]); omega)).mono ?_
            rintro e9 w1 ⟨rfl, a1, o1⟩
            go_wp2_with fail
            refine (lean_si _ a1.nd (by (try simp only [T.size]); omega)).mono ?_
            rintro e9 w2 ⟨rfl, hh⟩
            obtain ⟨a2, o2, hc, hz⟩ := lev0_si a1 o1 hh
            clear hh o1 a1
            (try simp only [T.ptr_node] at hc)
            go_wp2_with fail
            refine (lean_si _ a2.2.1.nd (by (try simp only [T.size]); omega)).mono ?_
            rintro e9 w3 ⟨rfl, hh3⟩
            have a3 := a2.heap hh3.heap
            have o3 : Only [b] w w3 := o2.trans (Only.of_heap _ hh3)
            have hc3 := blk_cell a3.1
            have hz3' := blk_free a3.1
            simp only [Ssi_cells, T.ptr_node] at hc3
            clear hh3 o2 a2 hc hz
            go_wp2_with fail
            refine (turnLow_si _ a3.2.1.nd (by omega)).mono ?_
            rintro e9 w4 ⟨rfl, a4, o4⟩
            have n5 := a3.nd.low o4.keeps (fun x hx => by simp only [List.mem_cons, List.not_mem_nil, or_false] at hx; rcases hx with rfl | rfl <;> simp [T.blocks]) a4 (fun x hx => .inl (by simp only [T.blocks, List.mem_cons, List.mem_append, List.cons_append] at hx ⊢; grind))
            have hb4 := (o4.same b (by have := a3.nd.2.2.2.1; simp only [T.blocks, List.mem_cons, List.mem_append, not_or] at this ⊢; grind)).trans a3.1
            have hc4 := blk_cell hb4
            have hz4 := blk_free hb4
            simp only [Ssi_cells, T.ptr_node] at hc4
            clear hb4
            have H4 := Lib.hid a4
            clear a4
            go_wp2_with fail
            refine (turnHigh_si _ n5 (by (try simp only [T.size]); omega)).mono ?_
            rintro e9 w6 ⟨rfl, a6, o6⟩
            go_wp2_with fail
            go_ret
            exact ⟨rfl, a6, ((o3.mono (by simp)).trans (o4.mono (by simp [T.blocks]))).trans ((((Only.refl [b] w4).setCell (by simp) _).mono (by simp)).trans (o6.mono (by simp [T.blocks])))⟩
        · have hlev : (T.node b k v (T.node b' k' v' l' r') r).level = .node b' k' v' l' (.node b k v r' r) := by
            rw [T.level, if_neg (by omega), if_pos h3, if_neg (by simpa [T.lean] using hn)]; rfl
          rw [hlev]
          clear hlev
          simp only [T.size] at hs
          have hz2 : (((r.ht : Int) - (T.node b' k' v' l' r').ht) == -2) = true := by simpa using h3
          have hz1 : (((r.ht : Int) - (T.node b' k' v' l' r').ht) == 2) = false := by rw [beq_eq_false_iff_ne]; omega
          have hz3 : decide (l'.ht < r'.ht) = false := by simp; omega
          have H := Lib.hid h
          clear h h3 hn
          go_enter Tryz.func93, Tryz.ntmps93
          go_wp2_with fail
          refine (measure_si _ H.out (by (try simp only [T.size]); omega)).mono ?_
          rintro e9 w1 ⟨rfl, a1, o1⟩
          go_wp2_with fail
          refine (lean_si _ a1.nd (by (try simp only [T.size]); omega)).mono ?_
          rintro e9 w2 ⟨rfl, hh⟩
          obtain ⟨a2, o2, hc, hz⟩ := lev0_si a1 o1 hh
          clear hh o1 a1
          (try simp only [T.ptr_node] at hc)
          go_wp2_with fail
          refine (lean_si _ a2.2.1.nd (by (try simp only [T.size]); omega)).mono ?_
          rintro e9 w3 ⟨rfl, hh3⟩
          have a3 := a2.heap hh3.heap
          have o3 : Only [b] w w3 := o2.trans (Only.of_heap _ hh3)
          have hc3 := blk_cell a3.1
          have hz3' := blk_free a3.1
          simp only [Ssi_cells, T.ptr_node] at hc3
          clear hh3 o2 a2 hc hz
          go_wp2_with fail
          refine (turnHigh_si _ a3.nd (by omega)).mono ?_
          rintro e9 w6 ⟨rfl, a6, o6⟩
          go_wp2_with fail
          go_ret
          exact ⟨rfl, a6, (o3.mono (by simp)).trans (o6.mono (by simp [T.blocks]))⟩
    · have hlev : (T.node b k v l r).level = .node b k v l r := by rw [T.level, if_neg h2, if_neg h3]
      rw [hlev]
      clear hlev
      have hz2 : (((r.ht : Int) - l.ht) == 2) = false := by rw [beq_eq_false_iff_ne]; omega
      have hz3 : (((r.ht : Int) - l.ht) == -2) = false := by rw [beq_eq_false_iff_ne]; omega
      have H := Lib.hid h
      clear h h2 h3
      go_enter Tryz.func93, Tryz.ntmps93
      go_wp2_with fail
      refine (measure_si _ H.out (by (try simp only [T.size]); omega)).mono ?_
      rintro e9 w1 ⟨rfl, a1, o1⟩
      go_wp2_with fail
      refine (lean_si _ a1.nd (by (try simp only [T.size]); omega)).mono ?_
      rintro e9 w2 ⟨rfl, hh⟩
      obtain ⟨a2, o2, hc, hz⟩ := lev0_si a1 o1 hh
      clear hh o1 a1
      (try simp only [T.ptr_nil, T.ptr_node] at hc)
      go_wp2_with fail
      go_ret
      exact ⟨rfl, a2, o2.mono (by simp)⟩
end Go.Proofs.YtdonmmjikcbihaaGreatDoor
