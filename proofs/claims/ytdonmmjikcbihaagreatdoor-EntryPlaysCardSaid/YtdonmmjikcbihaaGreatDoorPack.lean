/- Package pack: the writer's parts. -/
import Derived.Test.YtdonmmjikcbihaaGreatDoorVari
namespace Go.Proofs.YtdonmmjikcbihaaGreatDoor
open Go.RowKit Go.Proofs Go.Vc
attribute [local irreducible] Calls CallsIn Code.wp Code.wpIn
theorem Fresh.of_ext {B b : Nat} {w w' : World} (h : Ext w w') : Fresh B b w w' := ⟨h.size, fun _ hb _ => Ext.same h hb, h.ost⟩
theorem num_b (B b : Nat) (l : List UInt8) (n : Nat) (hn : n ≤ 9223372036854775807) (w : World) (h : Wr B b l w) (hlen : l.length ≤ 100000) :
    Calls Tryz.prog 126 #[.pointer (some ⟨b, 0, none⟩), .int .i64 n] w fun e w' => e = .returned (.tuple #[]) ∧ Wr B b (l ++ vbytes n) w' ∧ Fresh B b w w' := by
  have H := Lib.hid (And.intro h hlen)
  have HV := Lib.hid (vbytes_len 9 n (by omega))
  clear h hlen
  go_enter Tryz.func126, Tryz.ntmps126
  go_wp2_with fail
  refine (vPut n hn _).mono ?_
  rintro e9 w1 ⟨rfl, hE⟩
  have HE := Lib.hid hE
  clear hE
  go_wp2_with fail
  refine (put_b B b l (vbytes n) _ (H.out.1.ext HE.out) (by have := HV.out; have := H.out.2; omega)).mono ?_
  rintro e9 w2 ⟨rfl, hW, hF⟩
  have HW := Lib.hid (And.intro hW ((Fresh.of_ext HE.out).trans hF))
  clear hW hF
  go_wp2_with fail
  go_end0
  exact ⟨rfl, HW.out⟩
theorem signed_b (B b : Nat) (l : List UInt8) (n : Int) (h1 : -9223372036854775808 ≤ n) (h2 : n ≤ 9223372036854775807) (w : World) (h : Wr B b l w) (hlen : l.length ≤ 100000) :
    Calls Tryz.prog 128 #[.pointer (some ⟨b, 0, none⟩), .int .i64 n] w fun e w' => e = .returned (.tuple #[]) ∧ Wr B b (l ++ vbytes (zig n)) w' ∧ Fresh B b w w' := by
  have H := Lib.hid (And.intro h hlen)
  have HV := Lib.hid (vbytes_len 9 (zig n) (by have := zig_lt n h1 h2; omega))
  have HN := Lib.hid (And.intro h1 h2)
  clear h hlen h1 h2
  go_enter Tryz.func128, Tryz.ntmps128
  go_wp2_with fail
  refine (vPutSigned n HN.out.1 HN.out.2 _).mono ?_
  rintro e9 w1 ⟨rfl, hE⟩
  have HE := Lib.hid hE
  clear hE
  go_wp2_with fail
  refine (put_b B b l (vbytes (zig n)) _ (H.out.1.ext HE.out) (by have := HV.out; have := H.out.2; omega)).mono ?_
  rintro e9 w2 ⟨rfl, hW, hF⟩
  have HW := Lib.hid (And.intro hW ((Fresh.of_ext HE.out).trans hF))
  clear hW hF
  go_wp2_with fail
  go_end0
  exact ⟨rfl, HW.out⟩
theorem flag_b (B b : Nat) (l : List UInt8) (f : Bool) (w : World) (h : Wr B b l w) (hlen : l.length ≤ 100000) :
    Calls Tryz.prog 129 #[.pointer (some ⟨b, 0, none⟩), .bool f] w fun e w' => e = .returned (.tuple #[]) ∧ Wr B b (l ++ [if f then 1 else 0]) w' ∧ Fresh B b w w' := by
  have H := Lib.hid (And.intro h hlen)
  clear h hlen
  cases f
  · go_enter Tryz.func129, Tryz.ntmps129
    go_wp2_with fail
    refine (put_b B b l [0] _ H.out.1 (by have := H.out.2; simp; omega)).mono ?_
    rintro e9 w2 ⟨rfl, hW⟩
    have HW := Lib.hid hW
    clear hW
    go_wp2_with fail
    go_end0
    exact ⟨rfl, HW.out⟩
  · go_enter Tryz.func129, Tryz.ntmps129
    go_wp2_with fail
    refine (put_b B b l [1] _ H.out.1 (by have := H.out.2; simp; omega)).mono ?_
    rintro e9 w2 ⟨rfl, hW⟩
    have HW := Lib.hid hW
    clear hW
    go_wp2_with fail
    go_end0
    exact ⟨rfl, HW.out⟩
theorem text_b (B b : Nat) (l : List UInt8) (s : ByteArray) (hs : s.size ≤ 1000) (w : World) (h : Wr B b l w) (hlen : l.length ≤ 100000) :
    Calls Tryz.prog 127 #[.pointer (some ⟨b, 0, none⟩), .string s] w fun e w' => e = .returned (.tuple #[]) ∧ Wr B b (l ++ (vbytes s.size ++ s.data.toList)) w' ∧ Fresh B b w w' := by
  have H := Lib.hid (And.intro h hlen)
  have hv : (vbytes s.size).length ≤ 10 := vbytes_len 9 s.size (by omega)
  have hvs : (⟨(vbytes s.size).toArray⟩ : ByteArray).size ≤ 10 := by rw [size_mk]; exact hv
  clear h hlen
  go_enter Tryz.func127, Tryz.ntmps127
  go_wp2_with fail
  refine (vPut s.size (by omega) _).mono ?_
  rintro e9 w1 ⟨rfl, hE⟩
  have HE := Lib.hid hE
  clear hE
  go_wp2_with fail
  have hcat : (⟨(vbytes s.size).toArray⟩ : ByteArray) ++ s = ⟨(vbytes s.size ++ s.data.toList).toArray⟩ := by
    apply ByteArray.ext; simp [ByteArray.data_append]
  rw [hcat]
  have HV := Lib.hid hv
  refine (put_b B b l (vbytes s.size ++ s.data.toList) _ (H.out.1.ext HE.out) (by have := HV.out; have := H.out.2; rw [List.length_append, size_list]; omega)).mono ?_
  rintro e9 w2 ⟨rfl, hW, hF⟩
  have HW := Lib.hid (And.intro hW ((Fresh.of_ext HE.out).trans hF))
  clear hW hF hcat hv hvs
  go_wp2_with fail
  go_end0
  exact ⟨rfl, HW.out⟩
end Go.Proofs.YtdonmmjikcbihaaGreatDoor
