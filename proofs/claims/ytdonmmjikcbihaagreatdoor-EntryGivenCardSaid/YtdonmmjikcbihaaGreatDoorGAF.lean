/- Parts of the proof, one behind the other: Wrap, RefB, RefK, RefL, RefM, Del, Avess, Betw, SetQ, EntQ, EntS, EBase. No condition beyond each theorem's own. -/
import Derived.Test.YtdonmmjikcbihaaGreatDoorRows
import Derived.HandedShaped
import Derived.Handed
import Derived.Shelf.Vars
import Derived.Lay
import Derived.Stop.Joined
import Derived.Deep.LoopGhost
import Derived.Deep.Upon
import Derived.Test.YtdonmmjikcbihaaGreatDoorGAE
/- The frame of a row: what comes in may be anything that reads; the world's shape is kept. -/
namespace Go.Proofs.YtdonmmjikcbihaaGreatDoor
open Go.RowKit Go.Proofs Go.Vc Go.ChangeShapes Go.WideShapes
theorem returnsInHanded_of_change_and_shaped {H : Type} {enc : TypeId × Value → H} {a : Assume} {C : Checked} {os : Os} {f : FuncId} {fn : Func} {s : ChangeSpec} {conds : List PathCond} {apart fresh handsOn again : Bool} {X : World → Array Value → Prop}
    (own : ownKnob C.prog.godebug = none) (started : os.Started) (noInit : C.prog.inits.idxOf? f = none) (hfn : C.prog.funcs[f]? = some fn)
    (witness : ∃ (w : World) (tape : Tape) (i : Input), w.os = os ∧ (w.forCall tape i).Shaped C.prog ∧ i.vars = [] ∧ Input.okWide C.prog (w.forCall tape i) .any w.heap.size f i ∧
      ((s.pre enc C.prog fn conds apart (w.forCall tape i).memory i.args ∧ X (w.forCall tape i).memory i.args) ∧ sizedMet enc C.prog fn (OpenSpec.ofChange s) apart (w.forCall tape i).memory i.args) ∧ a.holds C.prog (lone (Frame.enter C.prog f i.args .normal) [] (w.forCall tape i)))
    (contract : ∀ (W : World) (base : Nat) (args : Array Value) (ds gs : List (DataW H)) (before : List MemPlace),
      (∀ (j : Nat) t v, fn.params[j]? = some t → args[j]? = some v → Value.okWide C.prog W .any base t v) →
      DataW.Whole enc C.prog fn.params.toList s.vars apart W args.toList ds gs before → W.ShapedOpen C.prog →
      Calls C.prog f args W fun e W' => ∃ v, e = .returned v ∧ s.post enc C.prog fn apart fresh handsOn again W args v W') :
    ReturnsInHanded a C os f .any (fun w args => (s.pre enc C.prog fn conds apart w args ∧ X w args) ∧ sizedMet enc C.prog fn (OpenSpec.ofChange s) apart w args) (s.post enc C.prog fn apart fresh handsOn again) := by
  refine returnsInHanded_of_calls own started noInit witness ?_
  intro w tape i _ hsh _ hok hpre hholds
  obtain ⟨_, _, _, fn', hfn', _, _, _, _, hval⟩ := hok
  have e : fn' = fn := Option.some.inj (hfn'.symm.trans hfn)
  subst e
  obtain ⟨⟨⟨ds, gs, before, hw, hc⟩, hx⟩, hz⟩ := hpre
  have hw' := DataW.Whole.of_heap (w' := w.forCall tape i) (by rfl) hw
  refine (contract (w.forCall tape i) w.heap.size i.args ds gs before hval hw' hsh).mono fun e W' ⟨v, he, hp⟩ => ?_
  subst he
  exact ChangeSpec.post_blind hp
theorem ownKnob_none : ownKnob Tryz.prog.godebug = none := by kernel_rfl
theorem laidOut : laidOutB Tryz.prog = true := by kernel_rfl
end Go.Proofs.YtdonmmjikcbihaaGreatDoor
/- The document's answers for a record's bytes. -/
namespace Go.Proofs.YtdonmmjikcbihaaGreatDoor
open Go.RowKit Go.Proofs Go.Vc
attribute [local irreducible] Calls CallsIn Code.wp Code.wpIn
theorem rclamp_i (n lo hi : Int) (hh : lo ≤ hi) (w : World) : Calls Tryz.prog 80 #[.int .i64 n, .int .i64 lo, .int .i64 hi] w fun e w' => e = .returned (.int .i64 (clamp n lo hi)) ∧ w' = w := by
  have h0 : ¬ hi < lo := by omega
  by_cases h1 : n < lo
  · have HC := Lib.hid (show clamp n lo hi = lo from by unfold clamp; omega)
    go_enter Tryz.func80, Tryz.ntmps80
    go_wp2_with fail
    go_ret
    exact ⟨by rw [HC.out]; rfl, rfl⟩
  · by_cases h2 : hi < n
    · have HC := Lib.hid (show clamp n lo hi = hi from by unfold clamp; omega)
      go_enter Tryz.func80, Tryz.ntmps80
      go_wp2_with fail
      go_ret
      exact ⟨by rw [HC.out]; rfl, rfl⟩
    · have HC := Lib.hid (show clamp n lo hi = n from by unfold clamp; omega)
      go_enter Tryz.func80, Tryz.ntmps80
      go_wp2_with fail
      go_ret
      exact ⟨by rw [HC.out]; rfl, rfl⟩
set_option maxRecDepth 20000 in
theorem rkept_i (x : Spn) (w : World) : Calls Tryz.prog 53 #[spnV x] w fun e w' => e = .returned (spnV (kept x)) ∧ Ext w w' := by
  obtain ⟨wa, hwa⟩ : ∃ wa, wa = (w.alloc (.cells (spnC x) 48)).alloc (.cells #[.int .i64 0, .int .i64 0, .int .i64 0, .int .i64 0, .string ⟨#[]⟩, .string ⟨#[]⟩, .int .i64 0, .int .i64 0, .bool false] 48) := ⟨_, rfl⟩
  have hE1 : Ext w (w.alloc (.cells (spnC x) 48)) := (Keeps.refl _ w).alloc _
  have hE : Ext w wa := by rw [hwa]; exact hE1.alloc _
  have hN0 : (w.alloc (.cells (spnC x) 48)).heap[w.heap.size]? = some (.cells (spnC x) 48 (0, 0)) := World.alloc_heap_new w _
  have hN : wa.heap[w.heap.size]? = some (.cells (spnC x) 48 (0, 0)) := by
    rw [hwa]; exact (Ext.same ((Keeps.refl Non _).alloc _) (lt_of_heap hN0)).trans hN0
  have hR : wa.heap[w.heap.size + 1]? = some (.cells #[.int .i64 0, .int .i64 0, .int .i64 0, .int .i64 0, .string ⟨#[]⟩, .string ⟨#[]⟩, .int .i64 0, .int .i64 0, .bool false] 48 (0, 0)) := by
    have := World.alloc_heap_new (w.alloc (.cells (spnC x) 48)) (.cells #[.int .i64 0, .int .i64 0, .int .i64 0, .int .i64 0, .string ⟨#[]⟩, .string ⟨#[]⟩, .int .i64 0, .int .i64 0, .bool false] 48)
    rw [World.size_alloc] at this; rw [hwa]; exact this
  obtain ⟨c, hc⟩ : ∃ c, c = w.heap.size := ⟨_, rfl⟩
  rw [← hc] at hN hR
  have H := Lib.hid (And.intro hE (And.intro hN hR))
  have hcw := blk_cell hN
  clear hE hE1 hN0 hN hR
  go_enter Tryz.func53, Tryz.ntmps53
  go_wp2_with fail
  rw [← hwa, ← hc]
  have HCC := Lib.hid hc
  clear hwa hc
  refine wp_drawE (way [0, 1, 2, 3, 4, 5, 6, 7, 8, 9, 10, 11, 12, 13, 14, 15, 17, 18, 16, 19, 20]) (by kernel_rfl) (by kernel_rfl) (fun w1 hh hd hf hS => ?_)
  have hc1 := blk_cell ((Ext.same hS (lt_of_heap H.out.2.1)).trans H.out.2.1)
  clear hh hd hf
  simp only [way]
  go_wp2_with (first | (refine' hl_q rfl rfl rfl (fun _ => ?_) ?_; rotate_left; (go_simp <;> (try go_bits) <;> rfl); (try simp only [Act.put, List.setIfInBounds_toArray, List.set_cons_zero, List.set_cons_succ])) | (refine' hl_rS rfl rfl rfl hS ?_ ?_; rotate_left; (intro w9 hS9; (first | have hc9 := Ext.cells hS9 | have hc9 := Keeps.cells hS9); (go_simp <;> rfl)); (try simp only [Act.put, List.setIfInBounds_toArray, List.set_cons_zero, List.set_cons_succ])) | (refine' hl_r rfl rfl rfl ?_ ?_; rotate_left; (rintro w9 (rfl | hS9); (go_simp <;> rfl); (first | have hc9 := Ext.cells hS9 | have hc9 := Keeps.cells hS9 | (try dsimp only at hS9)); (go_simp <;> rfl)); (try simp only [Act.put, List.setIfInBounds_toArray, List.set_cons_zero, List.set_cons_succ])) | (refine' hl_s rfl rfl ?_; (try simp only [Act.put, List.setIfInBounds_toArray, List.set_cons_zero, List.set_cons_succ])) | (refine hl_e rfl rfl rfl (fun K hK => ?_)) | (with_reducible refine And.intro (fun hn => ?_) ?_; (first | exact hS | exact Keeps.alloc hS _ | exact absurd hn (by rw [show needS _ _ = false from by kernel_rfl]; exact Bool.false_ne_true))) | (refine hl_done ?_) | gi_step)
  refine callsIn_wide.2 ((rclamp_i x.du 0 4611686018427387904 (by decide) _).mono ?_)
  rintro e9 w2 ⟨rfl, rfl⟩
  have hN3 := (Ext.same hS (lt_of_heap H.out.2.2)).trans H.out.2.2
  have hr3 := blk_cell hN3
  have hz3 := blk_free hN3
  have hl3 := lt_of_heap hN3
  have H3 := Lib.hid (And.intro (H.out.1.trans hS) hN3)
  clear hN3
  go_wp2_with (first | (refine' hl_q rfl rfl rfl (fun _ => ?_) ?_; rotate_left; (go_simp <;> (try go_bits) <;> rfl); (try simp only [Act.put, List.setIfInBounds_toArray, List.set_cons_zero, List.set_cons_succ])) | (refine' hl_rS rfl rfl rfl hS ?_ ?_; rotate_left; (intro w9 hS9; (first | have hc9 := Ext.cells hS9 | have hc9 := Keeps.cells hS9); (go_simp <;> rfl)); (try simp only [Act.put, List.setIfInBounds_toArray, List.set_cons_zero, List.set_cons_succ])) | (refine' hl_r rfl rfl rfl ?_ ?_; rotate_left; (rintro w9 (rfl | hS9); (go_simp <;> rfl); (first | have hc9 := Ext.cells hS9 | have hc9 := Keeps.cells hS9 | (try dsimp only at hS9)); (go_simp <;> rfl)); (try simp only [Act.put, List.setIfInBounds_toArray, List.set_cons_zero, List.set_cons_succ])) | (refine' hl_s rfl rfl ?_; (try simp only [Act.put, List.setIfInBounds_toArray, List.set_cons_zero, List.set_cons_succ])) | (refine hl_e rfl rfl rfl (fun K hK => ?_)) | (with_reducible refine And.intro (fun hn => ?_) ?_; (first | exact hS | exact Keeps.alloc hS _ | exact absurd hn (by rw [show needS _ _ = false from by kernel_rfl]; exact Bool.false_ne_true))) | (refine hl_done ?_) | gi_step)
  obtain ⟨w4, hw4⟩ : ∃ w4, w4 = _ := ⟨_, rfl⟩
  have h9 := set9 H3.out.2 (.int .i64 x.tr) (.int .i64 x.id) (.int .i64 x.pa) (.int .i64 x.rv) (.string x.sv) (.string x.op) (.int .i64 x.st) (.int .i64 (clamp x.du 0 4611686018427387904)) (.bool x.gone) hw4
  rw [← hw4]
  have hc4 := blk_cell h9.1
  have hl4 := lt_of_heap h9.1
  have hwc := HCC.out
  refine bodyPost_ret (v := spnV (kept x)) (by simp [results, Tryz.results53, go_sem, hc4, kept]) rfl ?_
  exact ⟨rfl, Nat.le_trans H3.out.1.size (Nat.le_of_eq h9.2.size.symm), fun i hi _ => (h9.2.same i (fun hm => by rw [List.mem_singleton] at hm; omega)).trans (Ext.same H3.out.1 hi), (H3.out.1.ost).trans h9.2.ost⟩
/-! ### Numbers -/
theorem conv1 {d : Int} {b : Nat} {wr : World} (hc : ∀ i, wr.cell? ⟨b, i, none⟩ = (#[.int .u8 d] : Array Value)[i]?) :
    (convert 131 9 (.slice (some ⟨b, 0, none⟩) 1 1)).run Tryz.prog wr = .ok (.string ⟨#[UInt8.ofNat d.toNat]⟩) wr := by
  rw [run_convert_bytes_string wr _ _ 5 _ 1 1 (by kernel_rfl) (by kernel_rfl) (by kernel_rfl), run_bytesToString wr _ 1 1 [d]]
  · rfl
  · have := run_loadCells_list (P := Tryz.prog) (w := wr) ⟨b, 0, none⟩ [.int .u8 d] (by
      intro j v hv
      have : Addr.add ⟨b, 0, none⟩ j = ⟨b, j, none⟩ := by simp [Addr.add]; intro e; subst e; rfl
      rw [this, hc j, ← hv]; simp)
    exact this
/-- bytes as a string -/
abbrev bs (l : List UInt8) : ByteArray := ⟨l.toArray⟩
theorem bs_app (l m : List UInt8) : bs l ++ bs m = bs (l ++ m) := by apply ByteArray.ext; simp [ByteArray.data_append]
theorem bs_size (l : List UInt8) : (bs l).size = l.length := size_mk l
theorem bs_self (s : ByteArray) : bs s.data.toList = s := by apply ByteArray.ext; simp
set_option maxRecDepth 20000 in
theorem rdigits_i (u0 : Nat) (hu : u0 < 18446744073709551616) (w : World) : Calls Tryz.prog 138 #[.int .u64 u0] w fun e w' => e = .returned (.string (bs (vbytes u0))) ∧ Ext w w' := by
  have HL := Lib.hid (vbytes_len 9 u0 (by omega))
  go_enter Tryz.func138, Tryz.ntmps138
  go_wp2_with fail
  go_loopg [0, 3] u0 (fun k p0 p3 wr => ∃ (u : Nat) (xs : List UInt8), p0 = .int .u64 u ∧ p3 = .string (bs xs) ∧ u ≤ k ∧ u < 18446744073709551616 ∧ xs ++ vbytes u = vbytes u0 ∧ Ext w wr)
  case atStart => exact ⟨u0, [], rfl, rfl, Nat.le_refl _, hu, rfl, Keeps.refl _ _⟩
  case round =>
    obtain ⟨u, xs, rfl, rfl, hk, hub, hx, hE⟩ := hrel
    have hxl : xs.length ≤ 10 := by have := HL.out; rw [← hx, List.length_append] at this; omega
    have hsz := bs_size xs
    have HX := Lib.hid (And.intro hx (And.intro hE (And.intro hxl hub)))
    obtain ⟨S, hS⟩ : ∃ S, S = bs xs := ⟨_, rfl⟩
    have HS := Lib.hid hS
    rw [← hS] at hsz ⊢
    have hss : (S.size : Int) ≤ 10 := by omega
    clear hx hE hS hsz
    by_cases h128 : u < 128
    · have h1 : (u : Int) / 128 = 0 := by omega
      have h2 : (u : Int) % 128 = u := by omega
      have h3 : (u : Int) % 256 = u := by omega
      have hcc : ∀ i, (wr.alloc (.cells #[.int .u8 (u : Int)] TB)).cell? ⟨wr.heap.size, i, none⟩ = (#[.int .u8 (u : Int)] : Array Value)[i]? := blk_cell (World.alloc_heap_new wr _)
      have HC := Lib.hid (conv1 hcc)
      clear hcc
      go_wp2_with fail
      rw [HC.out]
      have hz1 : (⟨#[UInt8.ofNat ((u : Int)).toNat]⟩ : ByteArray).size = 1 := rfl
      obtain ⟨U, hU⟩ : ∃ U : ByteArray, U = ⟨#[UInt8.ofNat ((u : Int)).toNat]⟩ := ⟨_, rfl⟩
      rw [← hU] at hz1 ⊢
      have HU := Lib.hid hU
      clear hU
      go_wp2_with fail
      go_ret
      refine ⟨?_, HX.out.2.1.trans ((Keeps.refl _ wr).alloc _)⟩
      have e : S ++ U = bs (vbytes u0) := by
        rw [HS.out, HU.out, ← HX.out.1, vbytes_lo h128]
        exact bs_app xs [UInt8.ofNat u]
      rw [← e]; rfl
    · have h1 : ¬ (u : Int) / 128 = 0 := by omega
      have hcc : ∀ d, ∀ i, (wr.alloc (.cells #[.int .u8 d] TB)).cell? ⟨wr.heap.size, i, none⟩ = (#[.int .u8 d] : Array Value)[i]? := fun d => blk_cell (World.alloc_heap_new wr _)
      have HC := Lib.hid (fun d => conv1 (hcc d))
      clear hcc
      go_wp2_with fail
      rw [HC.out]
      have hz1 : (⟨#[UInt8.ofNat ((u : Int) % 128 + 128).toNat]⟩ : ByteArray).size = 1 := rfl
      obtain ⟨U, hU⟩ : ∃ U : ByteArray, U = ⟨#[UInt8.ofNat ((u : Int) % 128 + 128).toNat]⟩ := ⟨_, rfl⟩
      rw [← hU] at hz1 ⊢
      have HU := Lib.hid hU
      clear hU
      go_wp2_with fail
      go_roundg (u / 128)
      case measure => omega
      case rel =>
        refine ⟨u / 128, xs ++ [UInt8.ofNat (u % 128 + 128)], by congr 1, ?_, Nat.le_refl _, by omega, ?_, HX.out.2.1.trans ((Keeps.refl _ wr).alloc _)⟩
        · have e : S ++ U = bs (xs ++ [UInt8.ofNat (u % 128 + 128)]) := by
            rw [HS.out, HU.out, show ((u : Int) % 128 + 128).toNat = u % 128 + 128 from by omega]
            exact bs_app xs _
          rw [← e]
        · rw [List.append_assoc]; rw [← HX.out.1, vbytes_hi h128]; rfl
theorem rput_i (n : Nat) (hn : n ≤ 9223372036854775807) (w : World) : Calls Tryz.prog 133 #[.int .i64 n] w fun e w' => e = .returned (.string (bs (vbytes n))) ∧ Ext w w' := by
  have HD := Lib.hid (fun w => rdigits_i n (by omega) w)
  have hn' : (n : Int) ≤ 9223372036854775807 := by omega
  go_enter Tryz.func133, Tryz.ntmps133
  go_wp2_with fail
  refine (HD.out _).mono ?_
  rintro e9 w1 ⟨rfl, hE⟩
  have HE := Lib.hid hE
  clear hE
  go_wp2_with fail
  go_ret
  exact ⟨rfl, HE.out⟩
theorem rtwice_i (n : Int) (h1 : -9223372036854775808 ≤ n) (h2 : n ≤ 9223372036854775807) (w : World) : Calls Tryz.prog 139 #[.int .i64 n] w fun e w' => e = .returned (.int .u64 (zig n : Int)) ∧ w' = w := by
  have HZ := Lib.hid (zig_lt n h1 h2)
  by_cases h0 : 0 ≤ n
  · have HV := Lib.hid (show (zig n : Int) = 2 * n from by unfold zig; rw [if_neg (by omega)]; omega)
    go_enter Tryz.func139, Tryz.ntmps139
    go_wp2_with fail
    go_ret
    exact ⟨by rw [HV.out]; rfl, rfl⟩
  · have HV := Lib.hid (show (zig n : Int) = 2 * -(n + 1) + 1 from by unfold zig; rw [if_pos (by omega)]; omega)
    go_enter Tryz.func139, Tryz.ntmps139
    go_wp2_with fail
    go_ret
    exact ⟨by rw [HV.out]; rfl, rfl⟩
theorem rputs_i (n : Int) (h1 : -9223372036854775808 ≤ n) (h2 : n ≤ 9223372036854775807) (w : World) : Calls Tryz.prog 134 #[.int .i64 n] w fun e w' => e = .returned (.string (bs (vbytes (zig n)))) ∧ Ext w w' := by
  have HT := Lib.hid (fun w => rtwice_i n h1 h2 w)
  have HD := Lib.hid (fun w => rdigits_i (zig n) (zig_lt n h1 h2) w)
  go_enter Tryz.func134, Tryz.ntmps134
  go_wp2_with fail
  refine (HT.out _).mono ?_
  rintro e9 w1 ⟨rfl, rfl⟩
  go_wp2_with fail
  refine (HD.out _).mono ?_
  rintro e9 w2 ⟨rfl, hE⟩
  have HE := Lib.hid hE
  clear hE
  go_wp2_with fail
  go_ret
  exact ⟨rfl, HE.out⟩
/-! ### Parts -/
structure Prt where
  k : Int
  n : Int
  s : ByteArray
abbrev prtV (p : Prt) : Value := .agg #[.int .i64 p.k, .int .i64 p.n, .string p.s]
def partB (p : Prt) : List UInt8 :=
  if p.k = 1 then vbytes p.n.toNat else if p.k = 2 then vbytes (zig p.n) else if p.k = 3 then vbytes p.s.size ++ p.s.data.toList else [if p.n = 1 then 1 else 0]
def Prt.Ok (p : Prt) : Prop := I64 p.n ∧ p.s.size ≤ 1000 ∧ ((p.k = 1 ∧ 0 ≤ p.n) ∨ p.k = 2 ∨ p.k = 3 ∨ p.k = 4)
theorem partB_len {p : Prt} (h : p.Ok) : (partB p).length ≤ 1100 := by
  obtain ⟨h1, h2, h3⟩ := h
  unfold partB
  split
  · have := vbytes_len 9 p.n.toNat (by omega); omega
  · split
    · have := vbytes_len 9 (zig p.n) (by have := zig_lt p.n h1.1 h1.2; omega); omega
    · split
      · have := vbytes_len 9 p.s.size (by omega); rw [List.length_append, size_list]; omega
      · simp
theorem prtF : (Tryz.prog.info? 146).map (fun i => (i.zero, i.size, i.bytes)) = some (some (.agg #[.int .i64 0, .int .i64 0, .string ⟨#[]⟩]), 3, 32) := by kernel_rfl
noncomputable def prtE : Ek Tryz.prog Prt where
  t := 148
  e := 146
  i := infoOf 146 (by kernel_rfl)
  z := .agg #[.int .i64 0, .int .i64 0, .string ⟨#[]⟩]
  size := 3
  bytes := 32
  enc p := [.int .i64 p.k, .int .i64 p.n, .string p.s]
  ht := by kernel_rfl
  hi := infoOf_eq _ _
  hz := (facts_of prtF (infoOf_eq _ _)).1
  hs := (facts_of prtF (infoOf_eq _ _)).2.1
  hb := (facts_of prtF (infoOf_eq _ _)).2.2
  zs := rfl
  pos := by decide
  bb := by decide
  len _ := rfl
  one x u hu := by
    simp only [List.mem_cons, List.not_mem_nil, or_false] at hu
    rcases hu with rfl | rfl | rfl <;> rfl
set_option maxRecDepth 20000 in
theorem rpart_i (p : Prt) (hp : p.Ok) (w : World) : Calls Tryz.prog 125 #[prtV p] w fun e w' => e = .returned (.string (bs (partB p))) ∧ Ext w w' := by
  obtain ⟨wa, hwa⟩ : ∃ wa, wa = w.alloc (.cells #[.int .i64 p.k, .int .i64 p.n, .string p.s] 146) := ⟨_, rfl⟩
  have hE : Ext w wa := by rw [hwa]; exact (Keeps.refl _ w).alloc _
  have hN : wa.heap[w.heap.size]? = some (.cells #[.int .i64 p.k, .int .i64 p.n, .string p.s] 146 (0, 0)) := by rw [hwa]; exact World.alloc_heap_new w _
  obtain ⟨b, hb⟩ : ∃ b, b = w.heap.size := ⟨_, rfl⟩
  rw [← hb] at hN
  have hc := blk_cell hN
  have HE := Lib.hid (And.intro hE hN)
  have HOk := Lib.hid hp
  clear hE hN hp
  obtain ⟨k, n, s⟩ := p
  dsimp only at hc HE HOk hwa ⊢
  obtain ⟨⟨hn1, hn2⟩, hs, hk⟩ := HOk.out
  dsimp only at hn1 hn2 hs hk
  rcases hk with ⟨rfl, h0⟩ | rfl | rfl | rfl
  · obtain ⟨m, rfl⟩ : ∃ m : Nat, n = m := ⟨n.toNat, by omega⟩
    have HD := Lib.hid (fun w => rput_i m (by omega) w)
    go_enter Tryz.func125, Tryz.ntmps125
    go_wp2_with fail
    rw [← hwa, ← hb]
    refine (HD.out _).mono ?_
    rintro e9 w1 ⟨rfl, hE1⟩
    have HE1 := Lib.hid hE1
    clear hE1
    go_wp2_with fail
    go_ret
    exact ⟨rfl, HE.out.1.trans HE1.out⟩
  · have HD := Lib.hid (fun w => rputs_i n hn1 hn2 w)
    go_enter Tryz.func125, Tryz.ntmps125
    go_wp2_with fail
    rw [← hwa, ← hb]
    refine (HD.out _).mono ?_
    rintro e9 w1 ⟨rfl, hE1⟩
    have HE1 := Lib.hid hE1
    clear hE1
    go_wp2_with fail
    go_ret
    exact ⟨rfl, HE.out.1.trans HE1.out⟩
  · have HD := Lib.hid (fun w => rput_i s.size (by omega) w)
    have hsI : (s.size : Int) ≤ 1000 := by omega
    go_enter Tryz.func125, Tryz.ntmps125
    go_wp2_with fail
    rw [← hwa, ← hb]
    clear hwa hb
    refine wp_drawE (way [0, 1, 2, 4, 5, 3, 6, 7]) (by kernel_rfl) (by kernel_rfl) (fun w1 hh hd hf hS => ?_)
    have hc1 := blk_cell ((Ext.same hS (lt_of_heap HE.out.2)).trans HE.out.2)
    clear hh hd hf
    simp only [way]
    go_wp2_with (first | (refine' hl_q rfl rfl rfl (fun _ => ?_) ?_; rotate_left; (go_simp <;> (try go_bits) <;> rfl); (try simp only [Act.put, List.setIfInBounds_toArray, List.set_cons_zero, List.set_cons_succ])) | (refine' hl_rS rfl rfl rfl hS ?_ ?_; rotate_left; (intro w9 hS9; (first | have hc9 := Ext.cells hS9 | have hc9 := Keeps.cells hS9); (go_simp <;> rfl)); (try simp only [Act.put, List.setIfInBounds_toArray, List.set_cons_zero, List.set_cons_succ])) | (refine' hl_r rfl rfl rfl ?_ ?_; rotate_left; (rintro w9 (rfl | hS9); (go_simp <;> rfl); (first | have hc9 := Ext.cells hS9 | have hc9 := Keeps.cells hS9 | (try dsimp only at hS9)); (go_simp <;> rfl)); (try simp only [Act.put, List.setIfInBounds_toArray, List.set_cons_zero, List.set_cons_succ])) | (refine' hl_s rfl rfl ?_; (try simp only [Act.put, List.setIfInBounds_toArray, List.set_cons_zero, List.set_cons_succ])) | (refine hl_e rfl rfl rfl (fun K hK => ?_)) | (with_reducible refine And.intro (fun hn => ?_) ?_; (first | exact hS | exact Keeps.alloc hS _ | exact absurd hn (by rw [show needS _ _ = false from by kernel_rfl]; exact Bool.false_ne_true))) | (refine hl_done ?_) | gi_step)
    refine callsIn_wide.2 ((HD.out _).mono ?_)
    rintro e9 w2 ⟨rfl, hE2⟩
    have hS2 := hS.trans hE2
    clear hS hE2
    have hS := hS2
    clear hS2
    have HE2 := Lib.hid (HE.out.1.trans hS)
    have hz := bs_size (vbytes s.size)
    have hz2 := vbytes_len 9 s.size (by omega)
    obtain ⟨U, hU⟩ : ∃ U : ByteArray, U = bs (vbytes s.size) := ⟨_, rfl⟩
    rw [← hU] at hz ⊢
    have HU := Lib.hid hU
    have hzU : (U.size : Int) ≤ 10 := by omega
    clear hU hz hz2
    go_wp2_with (first | (refine' hl_q rfl rfl rfl (fun _ => ?_) ?_; rotate_left; (go_simp <;> (try go_bits) <;> rfl); (try simp only [Act.put, List.setIfInBounds_toArray, List.set_cons_zero, List.set_cons_succ])) | (refine' hl_rS rfl rfl rfl hS ?_ ?_; rotate_left; (intro w9 hS9; (first | have hc9 := Ext.cells hS9 | have hc9 := Keeps.cells hS9); (go_simp <;> rfl)); (try simp only [Act.put, List.setIfInBounds_toArray, List.set_cons_zero, List.set_cons_succ])) | (refine' hl_r rfl rfl rfl ?_ ?_; rotate_left; (rintro w9 (rfl | hS9); (go_simp <;> rfl); (first | have hc9 := Ext.cells hS9 | have hc9 := Keeps.cells hS9 | (try dsimp only at hS9)); (go_simp <;> rfl)); (try simp only [Act.put, List.setIfInBounds_toArray, List.set_cons_zero, List.set_cons_succ])) | (refine' hl_s rfl rfl ?_; (try simp only [Act.put, List.setIfInBounds_toArray, List.set_cons_zero, List.set_cons_succ])) | (refine hl_e rfl rfl rfl (fun K hK => ?_)) | (with_reducible refine And.intro (fun hn => ?_) ?_; (first | exact hS | exact Keeps.alloc hS _ | exact absurd hn (by rw [show needS _ _ = false from by kernel_rfl]; exact Bool.false_ne_true))) | (refine hl_done ?_))
    refine' hl_q rfl rfl rfl (fun _ => ?_) ?_
    rotate_left
    · go_simp
      rw [if_neg (by omega)]
    simp only [Act.put, List.setIfInBounds_toArray, List.set_cons_zero, List.set_cons_succ]
    go_wp2_with (first | (refine' hl_q rfl rfl rfl (fun _ => ?_) ?_; rotate_left; (go_simp <;> (try go_bits) <;> rfl); (try simp only [Act.put, List.setIfInBounds_toArray, List.set_cons_zero, List.set_cons_succ])) | (refine' hl_rS rfl rfl rfl hS ?_ ?_; rotate_left; (intro w9 hS9; (first | have hc9 := Ext.cells hS9 | have hc9 := Keeps.cells hS9); (go_simp <;> rfl)); (try simp only [Act.put, List.setIfInBounds_toArray, List.set_cons_zero, List.set_cons_succ])) | (refine' hl_r rfl rfl rfl ?_ ?_; rotate_left; (rintro w9 (rfl | hS9); (go_simp <;> rfl); (first | have hc9 := Ext.cells hS9 | have hc9 := Keeps.cells hS9 | (try dsimp only at hS9)); (go_simp <;> rfl)); (try simp only [Act.put, List.setIfInBounds_toArray, List.set_cons_zero, List.set_cons_succ])) | (refine' hl_s rfl rfl ?_; (try simp only [Act.put, List.setIfInBounds_toArray, List.set_cons_zero, List.set_cons_succ])) | (refine hl_e rfl rfl rfl (fun K hK => ?_)) | (with_reducible refine And.intro (fun hn => ?_) ?_; (first | exact hS | exact Keeps.alloc hS _ | exact absurd hn (by rw [show needS _ _ = false from by kernel_rfl]; exact Bool.false_ne_true))) | (refine hl_done ?_) | gi_step)
    go_ret
    refine ⟨?_, HE2.out⟩
    have e : U ++ s = bs (partB ⟨3, n, s⟩) := by
      show _ = bs (vbytes s.size ++ s.data.toList)
      rw [← bs_app, bs_self, HU.out]
    rw [← e]; rfl
  · by_cases h1 : n = 1
    · subst h1
      go_enter Tryz.func125, Tryz.ntmps125
      go_wp2_with fail
      go_ret
      exact ⟨rfl, by rw [← hwa]; exact HE.out.1⟩
    · have HN := Lib.hid (show partB ⟨4, n, s⟩ = [0] from by unfold partB; simp [h1])
      go_enter Tryz.func125, Tryz.ntmps125
      go_wp2_with fail
      go_ret
      exact ⟨by rw [HN.out]; rfl, by rw [← hwa]; exact HE.out.1⟩
def partsB (l : List Prt) : List UInt8 := l.flatMap partB
theorem partsB_len : ∀ l : List Prt, (∀ p ∈ l, p.Ok) → (partsB l).length ≤ 1100 * l.length
  | [], _ => Nat.le_refl _
  | p :: l, h => by
    have h1 := partB_len (h p (List.mem_cons_self ..))
    have h2 := partsB_len l fun q hq => h q (List.mem_cons_of_mem _ hq)
    show (partB p ++ partsB l).length ≤ _
    rw [List.length_append, List.length_cons]; omega
theorem partsB_snoc (l : List Prt) (p : Prt) : partsB (l ++ [p]) = partsB l ++ partB p := by unfold partsB; simp
set_option maxRecDepth 20000 in
theorem rparts_i (v : Value) (l : List Prt) (w : World) (h : prtE.Reads w v l) (hl : l.length ≤ 100) (hp : ∀ p ∈ l, p.Ok) : Calls Tryz.prog 112 #[v] w fun e w' => e = .returned (.string (bs (partsB l))) ∧ Ext w w' := by
  have h' := h
  obtain ⟨a, cap, rfl, hn, h0, hju⟩ := h'
  obtain ⟨n, hnl⟩ : ∃ n, n = l.length := ⟨_, rfl⟩
  rw [← hnl] at h hn ⊢
  have HS := Lib.hid (And.intro (show ∀ wr, Ext w wr → prtE.Reads wr (.slice a n cap) l from fun wr k => h.ext prtE k) (And.intro hp hl))
  have HNL := Lib.hid hnl
  clear h h0 hju hnl hp hl
  go_enter Tryz.func112, Tryz.ntmps112
  go_wp2_with fail
  go_loopg [3, 4] n (fun k p3 p4 wr => ∃ j : Nat, p4 = .int .i64 j ∧ p3 = .string (bs (partsB (l.take j))) ∧ j + k = n ∧ Ext w wr)
  case atStart => exact ⟨0, rfl, rfl, Nat.zero_add _, Keeps.refl _ _⟩
  case round =>
    obtain ⟨j, rfl, rfl, hj, hE⟩ := hrel
    by_cases hc1 : (j : Int) < n
    · have hjl : j < l.length := by rw [← HNL.out]; omega
      obtain ⟨g, o, rfl, hc⟩ := (HS.out.1 wr hE).at hjl
      obtain ⟨y, hyl⟩ : ∃ y, y = l[j] := ⟨_, rfl⟩
      have hk0 := hc j hjl 0 (by decide)
      have hk1 := hc j hjl 1 (by decide)
      have hk2 := hc j hjl 2 (by decide)
      rw [← hyl] at hk0 hk1 hk2
      have hk0' : wr.cell? ⟨g, o + j * 3, none⟩ = some (.int .i64 y.k) := hk0
      have hk1' : wr.cell? ⟨g, o + j * 3 + 1, none⟩ = some (.int .i64 y.n) := hk1
      have hk2' : wr.cell? ⟨g, o + j * 3 + 2, none⟩ = some (.string y.s) := hk2
      have hym : y ∈ l := by rw [hyl]; exact List.getElem_mem hjl
      have HT := Lib.hid (And.intro (show l.take (j + 1) = l.take j ++ [y] from by rw [hyl]; exact (List.take_append_getElem hjl).symm) (And.intro (HS.out.2.1 y hym) hE))
      have hz := bs_size (partsB (l.take j))
      have hz2 := partsB_len (l.take j) fun q hq => HS.out.2.1 q (List.mem_of_mem_take hq)
      rw [List.length_take] at hz2
      have hz3 := HS.out.2.2
      obtain ⟨S, hSS⟩ : ∃ S, S = bs (partsB (l.take j)) := ⟨_, rfl⟩
      rw [← hSS] at hz ⊢
      have hzS : (S.size : Int) ≤ 110000 := by omega
      have HSS := Lib.hid hSS
      clear hc hyl hE hk0 hk1 hk2 hym hz hz2 hz3 hSS
      go_wp2_with fail
      refine (rpart_i y HT.out.2.1 _).mono ?_
      rintro e9 w2 ⟨rfl, hE2⟩
      have HE2 := Lib.hid (HT.out.2.2.trans hE2)
      clear hE2 hk0' hk1' hk2'
      have hz := bs_size (partB y)
      have hz2 := partB_len HT.out.2.1
      obtain ⟨U, hU⟩ : ∃ U, U = bs (partB y) := ⟨_, rfl⟩
      rw [← hU] at hz ⊢
      have hzU : (U.size : Int) ≤ 1100 := by omega
      have HU := Lib.hid hU
      clear hz hz2 hU
      go_wp2_with fail
      go_roundg (gk - 1)
      case measure => omega
      case rel => exact ⟨j + 1, by simp, by rw [HT.out.1, partsB_snoc, ← bs_app, ← HU.out, ← HSS.out], by omega, HE2.out⟩
    · have hjl : j = l.length := by rw [← HNL.out]; omega
      have HE := Lib.hid (And.intro hE (show l.take j = l from by rw [hjl]; exact List.take_length))
      clear hE hjl
      go_wp2_with fail
      go_ret
      exact ⟨by rw [HE.out.2]; rfl, HE.out.1⟩
theorem rone_i (b : Bool) (w : World) : Calls Tryz.prog 113 #[.bool b] w fun e w' => e = .returned (.int .i64 (if b then 1 else 0)) ∧ w' = w := by
  cases b
  · go_enter Tryz.func113, Tryz.ntmps113
    go_wp2_with fail
    go_ret
    exact ⟨rfl, rfl⟩
  · go_enter Tryz.func113, Tryz.ntmps113
    go_wp2_with fail
    go_ret
    exact ⟨rfl, rfl⟩
def prtsOf (x : Spn) : List Prt := [⟨1, x.tr, ⟨#[]⟩⟩, ⟨1, x.id, ⟨#[]⟩⟩, ⟨1, x.pa, ⟨#[]⟩⟩, ⟨1, x.rv, ⟨#[]⟩⟩, ⟨3, 0, x.sv⟩, ⟨3, 0, x.op⟩, ⟨2, x.st, ⟨#[]⟩⟩, ⟨2, x.du, ⟨#[]⟩⟩, ⟨4, if x.gone then 1 else 0, ⟨#[]⟩⟩]
theorem prtsOf_ok {x : Spn} (h : Good x) : ∀ p ∈ prtsOf x, p.Ok := by
  have h1 := h.fits
  have h2 := h.sv
  have h3 := h.op
  have z : (0 : Nat) ≤ 1000 := by decide
  have i0 : I64 0 := ⟨by decide, by decide⟩
  have i1 : I64 (if x.gone then 1 else 0) := by cases x.gone <;> exact ⟨by decide, by decide⟩
  intro p hp
  unfold prtsOf at hp
  simp only [List.mem_cons, List.not_mem_nil, or_false] at hp
  rcases hp with rfl | rfl | rfl | rfl | rfl | rfl | rfl | rfl | rfl
  · exact ⟨h1.tr, z, .inl ⟨rfl, h.tr⟩⟩
  · exact ⟨h1.id, z, .inl ⟨rfl, h.id⟩⟩
  · exact ⟨h1.pa, z, .inl ⟨rfl, h.pa⟩⟩
  · exact ⟨h1.rv, z, .inl ⟨rfl, h.rv⟩⟩
  · exact ⟨i0, by dsimp only; omega, .inr (.inr (.inl rfl))⟩
  · exact ⟨i0, by dsimp only; omega, .inr (.inr (.inl rfl))⟩
  · exact ⟨h1.st, z, .inr (.inl rfl)⟩
  · exact ⟨h1.du, z, .inr (.inl rfl)⟩
  · exact ⟨i1, z, .inr (.inr (.inr rfl))⟩
theorem prtsOf_bytes (x : Spn) : partsB (prtsOf x) = sbytes x := by
  have hg : (if (if x.gone then (1 : Int) else 0) = 1 then (1 : UInt8) else 0) = if x.gone then 1 else 0 := by cases x.gone <;> rfl
  simp [partsB, prtsOf, partB, sbytes, pre4, nth4]
set_option maxHeartbeats 1000000 in
set_option maxRecDepth 20000 in
theorem rbytes_i (x : Spn) (hx : Good x) (w : World) : Calls Tryz.prog 98 #[spnV x] w fun e w' => e = .returned (.string (bs (sbytes x))) ∧ Ext w w' := by
  obtain ⟨wa, hwa⟩ : ∃ wa, wa = w.alloc (.cells (spnC x) 48) := ⟨_, rfl⟩
  have hE : Ext w wa := by rw [hwa]; exact (Keeps.refl _ w).alloc _
  have hN : wa.heap[w.heap.size]? = some (.cells (spnC x) 48 (0, 0)) := by rw [hwa]; exact World.alloc_heap_new w _
  obtain ⟨b, hb⟩ : ∃ b, b = w.heap.size := ⟨_, rfl⟩
  rw [← hb] at hN
  have hc := blk_cell hN
  have HE := Lib.hid (And.intro hE hN)
  have HG := Lib.hid hx
  clear hE hN hx
  go_enter Tryz.func98, Tryz.ntmps98
  go_wp2_with fail
  rw [← hwa, ← hb]
  clear hwa hb
  refine wp_drawE (way [0, 1, 2, 3, 4, 5, 6, 7, 8, 9, 10, 11, 12, 13, 14, 15, 16, 17, 18, 19, 20, 21, 22, 23, 24, 25, 26, 27, 28, 29, 30]) (by kernel_rfl) (by kernel_rfl) (fun w1 hh hd hf hS => ?_)
  have hc1 := blk_cell ((Ext.same hS (lt_of_heap HE.out.2)).trans HE.out.2)
  clear hh hd hf
  simp only [way]
  go_wp2_with (first | (refine' hl_q rfl rfl rfl (fun _ => ?_) ?_; rotate_left; (go_simp <;> (try go_bits) <;> rfl); (try simp only [Act.put, List.setIfInBounds_toArray, List.set_cons_zero, List.set_cons_succ])) | (refine' hl_rS rfl rfl rfl hS ?_ ?_; rotate_left; (intro w9 hS9; (first | have hc9 := Ext.cells hS9 | have hc9 := Keeps.cells hS9); (go_simp <;> rfl)); (try simp only [Act.put, List.setIfInBounds_toArray, List.set_cons_zero, List.set_cons_succ])) | (refine' hl_r rfl rfl rfl ?_ ?_; rotate_left; (rintro w9 (rfl | hS9); (go_simp <;> rfl); (first | have hc9 := Ext.cells hS9 | have hc9 := Keeps.cells hS9 | (try dsimp only at hS9)); (go_simp <;> rfl)); (try simp only [Act.put, List.setIfInBounds_toArray, List.set_cons_zero, List.set_cons_succ])) | (refine' hl_s rfl rfl ?_; (try simp only [Act.put, List.setIfInBounds_toArray, List.set_cons_zero, List.set_cons_succ])) | (refine hl_e rfl rfl rfl (fun K hK => ?_)) | (with_reducible refine And.intro (fun hn => ?_) ?_; (first | exact hS | exact Keeps.alloc hS _ | exact absurd hn (by rw [show needS _ _ = false from by kernel_rfl]; exact Bool.false_ne_true))) | (refine hl_done ?_) | gi_step)
  refine callsIn_wide.2 ((rone_i x.gone _).mono ?_)
  rintro e9 w2 ⟨rfl, rfl⟩
  obtain ⟨gi, hgi⟩ : ∃ gi : Int, gi = if x.gone then 1 else 0 := ⟨_, rfl⟩
  rw [← hgi]
  have HGI := Lib.hid hgi
  clear hgi
  go_wp2_with (first | (refine' hl_q rfl rfl rfl (fun _ => ?_) ?_; rotate_left; (go_simp <;> (try go_bits) <;> rfl); (try simp only [Act.put, List.setIfInBounds_toArray, List.set_cons_zero, List.set_cons_succ])) | (refine' hl_rS rfl rfl rfl hS ?_ ?_; rotate_left; (intro w9 hS9; (first | have hc9 := Ext.cells hS9 | have hc9 := Keeps.cells hS9); (go_simp <;> rfl)); (try simp only [Act.put, List.setIfInBounds_toArray, List.set_cons_zero, List.set_cons_succ])) | (refine' hl_r rfl rfl rfl ?_ ?_; rotate_left; (rintro w9 (rfl | hS9); (go_simp <;> rfl); (first | have hc9 := Ext.cells hS9 | have hc9 := Keeps.cells hS9 | (try dsimp only at hS9)); (go_simp <;> rfl)); (try simp only [Act.put, List.setIfInBounds_toArray, List.set_cons_zero, List.set_cons_succ])) | (refine' hl_s rfl rfl ?_; (try simp only [Act.put, List.setIfInBounds_toArray, List.set_cons_zero, List.set_cons_succ])) | (refine hl_e rfl rfl rfl (fun K hK => ?_)) | (with_reducible refine And.intro (fun hn => ?_) ?_; (first | exact hS | exact Keeps.alloc hS _ | exact absurd hn (by rw [show needS _ _ = false from by kernel_rfl]; exact Bool.false_ne_true))) | (refine hl_done ?_) | gi_step)
  have HR := Lib.hid (prtE.reads_row w2 (prtsOf x) #[.int .i64 1, .int .i64 x.tr, .string ⟨#[]⟩, .int .i64 1, .int .i64 x.id, .string ⟨#[]⟩, .int .i64 1, .int .i64 x.pa, .string ⟨#[]⟩, .int .i64 1, .int .i64 x.rv, .string ⟨#[]⟩, .int .i64 3, .int .i64 0, .string x.sv, .int .i64 3, .int .i64 0, .string x.op, .int .i64 2, .int .i64 x.st, .string ⟨#[]⟩, .int .i64 2, .int .i64 x.du, .string ⟨#[]⟩, .int .i64 4, .int .i64 gi, .string ⟨#[]⟩] 146 9 9 rfl (show (9 : Nat) ≤ 1000000 by decide) (by rw [HGI.out]; rfl))
  refine callsIn_wide.2 ((rparts_i _ (prtsOf x) _ HR.out (show (9 : Nat) ≤ 100 by decide) (prtsOf_ok HG.out)).mono ?_)
  rintro e9 w3 ⟨rfl, hE3⟩
  have hS3 := hS.trans (((Keeps.refl Non _).alloc _).trans hE3)
  have HE3 := Lib.hid (HE.out.1.trans hS3)
  clear hS hE3
  have hS := hS3
  clear hS3
  go_wp2_with (first | (refine' hl_q rfl rfl rfl (fun _ => ?_) ?_; rotate_left; (go_simp <;> (try go_bits) <;> rfl); (try simp only [Act.put, List.setIfInBounds_toArray, List.set_cons_zero, List.set_cons_succ])) | (refine' hl_rS rfl rfl rfl hS ?_ ?_; rotate_left; (intro w9 hS9; (first | have hc9 := Ext.cells hS9 | have hc9 := Keeps.cells hS9); (go_simp <;> rfl)); (try simp only [Act.put, List.setIfInBounds_toArray, List.set_cons_zero, List.set_cons_succ])) | (refine' hl_r rfl rfl rfl ?_ ?_; rotate_left; (rintro w9 (rfl | hS9); (go_simp <;> rfl); (first | have hc9 := Ext.cells hS9 | have hc9 := Keeps.cells hS9 | (try dsimp only at hS9)); (go_simp <;> rfl)); (try simp only [Act.put, List.setIfInBounds_toArray, List.set_cons_zero, List.set_cons_succ])) | (refine' hl_s rfl rfl ?_; (try simp only [Act.put, List.setIfInBounds_toArray, List.set_cons_zero, List.set_cons_succ])) | (refine hl_e rfl rfl rfl (fun K hK => ?_)) | (with_reducible refine And.intro (fun hn => ?_) ?_; (first | exact hS | exact Keeps.alloc hS _ | exact absurd hn (by rw [show needS _ _ = false from by kernel_rfl]; exact Bool.false_ne_true))) | (refine hl_done ?_) | gi_step)
  go_ret
  exact ⟨by rw [prtsOf_bytes]; rfl, HE3.out⟩
theorem rcput_i (x : Spn) (hx : x.Fits) (hs : x.sv.size ≤ 1000000) (ho : x.op.size ≤ 1000000) (w : World) : Calls Tryz.prog 82 #[spnV x] w fun e w' => e = .returned (.tuple #[.string (putS x), .int .i64 (mayE x)]) ∧ Ext w w' := by
  obtain ⟨wa, hwa⟩ : ∃ wa, wa = w.alloc (.cells (spnC x) 48) := ⟨_, rfl⟩
  have hE : Ext w wa := by rw [hwa]; exact (Keeps.refl _ w).alloc _
  have hN : wa.heap[w.heap.size]? = some (.cells (spnC x) 48 (0, 0)) := by rw [hwa]; exact World.alloc_heap_new w _
  obtain ⟨b, hb⟩ : ∃ b, b = w.heap.size := ⟨_, rfl⟩
  rw [← hb] at hN
  have hc := blk_cell hN
  have HE := Lib.hid (And.intro hE hN)
  have HF := Lib.hid hx
  clear hE hN hx
  go_enter Tryz.func82, Tryz.ntmps82
  go_wp2_with fail
  rw [← hwa, ← hb]
  clear hwa hb
  refine (rmay_i x HF.out hs ho _).mono ?_
  rintro e9 w1 ⟨rfl, hE1⟩
  have hc1 := blk_cell ((Ext.same hE1 (lt_of_heap HE.out.2)).trans HE.out.2)
  have HE1 := Lib.hid (HE.out.1.trans hE1)
  clear hE1 hc
  cases hm : may x
  · have HP := Lib.hid (And.intro (show putS x = ⟨#[]⟩ from by unfold putS; rw [hm]; rfl) (mayE_f hm))
    rw [mayE_f hm]
    clear hm
    go_wp2_with fail
    go_ret2
    exact ⟨by rw [HP.out.1, HP.out.2]; rfl, HE1.out⟩
  · have HP := Lib.hid (And.intro (show putS x = bs (sbytes x) from by unfold putS; rw [hm]; rfl) (mayE_t hm))
    have HG := Lib.hid (good_of HF.out hm)
    rw [mayE_t hm]
    clear hm
    go_wp2_with fail
    refine (rbytes_i x HG.out _).mono ?_
    rintro e9 w2 ⟨rfl, hE2⟩
    have HE2 := Lib.hid (HE1.out.trans hE2)
    clear hE2
    go_wp2_with fail
    go_ret2
    exact ⟨by rw [HP.out.1, HP.out.2]; rfl, HE2.out⟩
end Go.Proofs.YtdonmmjikcbihaaGreatDoor
/- The document's answers for sets of records: which is newer, where a key stands, sets, the living. -/

namespace Go.Proofs.YtdonmmjikcbihaaGreatDoor
open Go.RowKit Go.Proofs Go.Vc
attribute [local irreducible] Calls CallsIn Code.wp Code.wpIn
/-! ### behind -/
theorem cb_drop : ∀ (j : Nat) (A B : List UInt8), j ≤ A.length → j ≤ B.length → (∀ i, i < j → A.getD i 0 = B.getD i 0) → Lib.compareBytes A B = Lib.compareBytes (A.drop j) (B.drop j)
  | 0, _, _, _, _, _ => rfl
  | j + 1, a :: A, b :: B, h1, h2, h => by
    have h0 := h 0 (Nat.succ_pos _)
    simp only [List.getD_cons_zero] at h0
    subst h0
    have hlt : ¬ a < a := by simp
    show Lib.compareBytes (a :: A) (a :: B) = _
    have e : Lib.compareBytes (a :: A) (a :: B) = Lib.compareBytes A B := by rw [Lib.compareBytes, if_neg hlt, if_neg hlt]
    rw [e, List.drop_succ_cons, List.drop_succ_cons]
    exact cb_drop j A B (Nat.le_of_succ_le_succ h1) (Nat.le_of_succ_le_succ h2) fun i hi => by have := h (i + 1) (Nat.succ_lt_succ hi); simpa using this
theorem drop_get {A : List UInt8} {j : Nat} (h : j < A.length) : A.drop j = A.getD j 0 :: A.drop (j + 1) := by
  rw [List.drop_eq_getElem_cons h, getD_of h]
set_option maxRecDepth 20000 in
theorem rbehind_i (a b : ByteArray) (_ : a.size ≤ 1000000) (hb : b.size ≤ 1000000) (w : World) : Calls Tryz.prog 83 #[.string a, .string b] w fun e w' => e = .returned (.bool (decide (0 < Lib.compareBytes a.data.toList b.data.toList))) ∧ Ext w w' := by
  have HL := Lib.hid (And.intro (size_list a) (size_list b))
  go_enter Tryz.func83, Tryz.ntmps83
  go_wp2_with fail
  go_loopg [5] a.size (fun k p wr => ∃ j : Nat, p = .int .i64 j ∧ j + k = a.size ∧ j ≤ b.size ∧ (∀ i, i < j → a.data.toList.getD i 0 = b.data.toList.getD i 0) ∧ Ext w wr)
  case atStart => exact ⟨0, rfl, Nat.zero_add _, Nat.zero_le _, fun i hi => absurd hi (Nat.not_lt_zero _), Keeps.refl _ _⟩
  case round =>
    obtain ⟨j, rfl, hj, hjb, hall, hE⟩ := hrel
    have HC := Lib.hid (And.intro (cb_drop j a.data.toList b.data.toList (by rw [HL.out.1]; omega) (by rw [HL.out.2]; omega) hall) (And.intro hE hall))
    clear hall hE
    by_cases hja : j < a.size
    · have hja' : (j : Int) < a.size := by omega
      have hda := drop_get (A := a.data.toList) (j := j) (by rw [HL.out.1]; exact hja)
      by_cases hjb2 : j < b.size
      · have hjb' : ((b.size : Int) ≤ j) = False := by simp; omega
        have hdb := drop_get (A := b.data.toList) (j := j) (by rw [HL.out.2]; exact hjb2)
        have hga := bget a j hja
        have hgb := bget b j hjb2
        rw [← hga] at hda
        rw [← hgb] at hdb
        have HD := Lib.hid (And.intro (And.intro hda hdb) (And.intro hga hgb))
        clear hda hdb hga hgb
        have hlt : ∀ u v : UInt8, u < v ↔ u.toNat < v.toNat := fun u v => UInt8.lt_iff_toNat_lt
        by_cases h1 : b[j].toNat < a[j].toNat
        · have HR := Lib.hid (show decide (0 < Lib.compareBytes a.data.toList b.data.toList) = true from by
            rw [HC.out.1, HD.out.1.1, HD.out.1.2]; unfold Lib.compareBytes
            rw [if_neg (by rw [hlt]; omega), if_pos (by rw [hlt]; exact h1)]; rfl)
          clear hlt
          go_wp2_with fail
          refine wp_drawE (way [0, 1, 2, 3, 4, 5, 6, 7, 8, 9, 10, 11, 12]) (by kernel_rfl) (by kernel_rfl) (fun w1 hh hd hf hS => ?_)
          clear hh hd hf
          simp only [way]
          go_wp2_with (first | (refine' hl_q rfl rfl rfl (fun _ => ?_) ?_; rotate_left; (go_simp <;> (try go_bits) <;> rfl); (try simp only [Act.put, List.setIfInBounds_toArray, List.set_cons_zero, List.set_cons_succ])) | (refine' hl_rS rfl rfl rfl hS ?_ ?_; rotate_left; (intro w9 hS9; (first | have hc9 := Ext.cells hS9 | have hc9 := Keeps.cells hS9); (go_simp <;> rfl)); (try simp only [Act.put, List.setIfInBounds_toArray, List.set_cons_zero, List.set_cons_succ])) | (refine' hl_r rfl rfl rfl ?_ ?_; rotate_left; (rintro w9 (rfl | hS9); (go_simp <;> rfl); (first | have hc9 := Ext.cells hS9 | have hc9 := Keeps.cells hS9 | (try dsimp only at hS9)); (go_simp <;> rfl)); (try simp only [Act.put, List.setIfInBounds_toArray, List.set_cons_zero, List.set_cons_succ])) | (refine' hl_s rfl rfl ?_; (try simp only [Act.put, List.setIfInBounds_toArray, List.set_cons_zero, List.set_cons_succ])) | (refine hl_e rfl rfl rfl (fun K hK => ?_)) | (with_reducible refine And.intro (fun hn => ?_) ?_; (first | exact hS | exact Keeps.alloc hS _ | exact absurd hn (by rw [show needS _ _ = false from by kernel_rfl]; exact Bool.false_ne_true))) | (refine hl_done ?_) | gi_step)
          go_ret
          exact ⟨by rw [HR.out]; rfl, HC.out.2.1.trans hS⟩
        · have HR := Lib.hid (show decide (0 < Lib.compareBytes a.data.toList b.data.toList) = if a[j].toNat < b[j].toNat then false else decide (0 < Lib.compareBytes (a.data.toList.drop (j + 1)) (b.data.toList.drop (j + 1))) from by
            rw [HC.out.1, HD.out.1.1, HD.out.1.2, Lib.compareBytes]
            by_cases h2 : a[j].toNat < b[j].toNat
            · rw [if_pos (by rw [hlt]; exact h2), if_pos h2]; rfl
            · rw [if_neg (by rw [hlt]; exact h2), if_neg (by rw [hlt]; exact h1), if_neg h2])
          clear hlt
          by_cases h2 : a[j].toNat < b[j].toNat
          · rw [if_pos h2] at HR
            go_wp2_with fail
            refine wp_drawE (way [0, 1, 2, 3, 4, 5, 6, 7, 8, 9, 10, 11, 12]) (by kernel_rfl) (by kernel_rfl) (fun w1 hh hd hf hS => ?_)
            have HE1 := Lib.hid (HC.out.2.1.trans hS)
            clear hh hd hf
            simp only [way]
            go_wp2_with (first | (refine' hl_q rfl rfl rfl (fun _ => ?_) ?_; rotate_left; (go_simp <;> (try go_bits) <;> rfl); (try simp only [Act.put, List.setIfInBounds_toArray, List.set_cons_zero, List.set_cons_succ])) | (refine' hl_rS rfl rfl rfl hS ?_ ?_; rotate_left; (intro w9 hS9; (first | have hc9 := Ext.cells hS9 | have hc9 := Keeps.cells hS9); (go_simp <;> rfl)); (try simp only [Act.put, List.setIfInBounds_toArray, List.set_cons_zero, List.set_cons_succ])) | (refine' hl_r rfl rfl rfl ?_ ?_; rotate_left; (rintro w9 (rfl | hS9); (go_simp <;> rfl); (first | have hc9 := Ext.cells hS9 | have hc9 := Keeps.cells hS9 | (try dsimp only at hS9)); (go_simp <;> rfl)); (try simp only [Act.put, List.setIfInBounds_toArray, List.set_cons_zero, List.set_cons_succ])) | (refine' hl_s rfl rfl ?_; (try simp only [Act.put, List.setIfInBounds_toArray, List.set_cons_zero, List.set_cons_succ])) | (refine hl_e rfl rfl rfl (fun K hK => ?_)) | (with_reducible refine And.intro (fun hn => ?_) ?_; (first | exact hS | exact Keeps.alloc hS _ | exact absurd hn (by rw [show needS _ _ = false from by kernel_rfl]; exact Bool.false_ne_true))) | (refine hl_done ?_) | gi_step)
            clear hS
            refine wp_drawE (way [0, 1, 2, 3, 4, 5, 6]) (by kernel_rfl) (by kernel_rfl) (fun w2 hh hd hf hS => ?_)
            clear hh hd hf
            simp only [way]
            go_wp2_with (first | (refine' hl_q rfl rfl rfl (fun _ => ?_) ?_; rotate_left; (go_simp <;> (try go_bits) <;> rfl); (try simp only [Act.put, List.setIfInBounds_toArray, List.set_cons_zero, List.set_cons_succ])) | (refine' hl_rS rfl rfl rfl hS ?_ ?_; rotate_left; (intro w9 hS9; (first | have hc9 := Ext.cells hS9 | have hc9 := Keeps.cells hS9); (go_simp <;> rfl)); (try simp only [Act.put, List.setIfInBounds_toArray, List.set_cons_zero, List.set_cons_succ])) | (refine' hl_r rfl rfl rfl ?_ ?_; rotate_left; (rintro w9 (rfl | hS9); (go_simp <;> rfl); (first | have hc9 := Ext.cells hS9 | have hc9 := Keeps.cells hS9 | (try dsimp only at hS9)); (go_simp <;> rfl)); (try simp only [Act.put, List.setIfInBounds_toArray, List.set_cons_zero, List.set_cons_succ])) | (refine' hl_s rfl rfl ?_; (try simp only [Act.put, List.setIfInBounds_toArray, List.set_cons_zero, List.set_cons_succ])) | (refine hl_e rfl rfl rfl (fun K hK => ?_)) | (with_reducible refine And.intro (fun hn => ?_) ?_; (first | exact hS | exact Keeps.alloc hS _ | exact absurd hn (by rw [show needS _ _ = false from by kernel_rfl]; exact Bool.false_ne_true))) | (refine hl_done ?_) | gi_step)
            go_ret
            exact ⟨by rw [HR.out]; rfl, HE1.out.trans hS⟩
          · have HQ := Lib.hid (show a[j].toNat = b[j].toNat from by omega)
            go_wp2_with fail
            refine wp_drawE (way [0, 1, 2, 3, 4, 5, 6, 7, 8, 9, 10, 11, 12]) (by kernel_rfl) (by kernel_rfl) (fun w1 hh hd hf hS => ?_)
            have HE1 := Lib.hid (HC.out.2.1.trans hS)
            clear hh hd hf
            simp only [way]
            go_wp2_with (first | (refine' hl_q rfl rfl rfl (fun _ => ?_) ?_; rotate_left; (go_simp <;> (try go_bits) <;> rfl); (try simp only [Act.put, List.setIfInBounds_toArray, List.set_cons_zero, List.set_cons_succ])) | (refine' hl_rS rfl rfl rfl hS ?_ ?_; rotate_left; (intro w9 hS9; (first | have hc9 := Ext.cells hS9 | have hc9 := Keeps.cells hS9); (go_simp <;> rfl)); (try simp only [Act.put, List.setIfInBounds_toArray, List.set_cons_zero, List.set_cons_succ])) | (refine' hl_r rfl rfl rfl ?_ ?_; rotate_left; (rintro w9 (rfl | hS9); (go_simp <;> rfl); (first | have hc9 := Ext.cells hS9 | have hc9 := Keeps.cells hS9 | (try dsimp only at hS9)); (go_simp <;> rfl)); (try simp only [Act.put, List.setIfInBounds_toArray, List.set_cons_zero, List.set_cons_succ])) | (refine' hl_s rfl rfl ?_; (try simp only [Act.put, List.setIfInBounds_toArray, List.set_cons_zero, List.set_cons_succ])) | (refine hl_e rfl rfl rfl (fun K hK => ?_)) | (with_reducible refine And.intro (fun hn => ?_) ?_; (first | exact hS | exact Keeps.alloc hS _ | exact absurd hn (by rw [show needS _ _ = false from by kernel_rfl]; exact Bool.false_ne_true))) | (refine hl_done ?_) | gi_step)
            clear hS
            refine wp_drawE (way [0, 1, 2, 3, 4, 5, 6]) (by kernel_rfl) (by kernel_rfl) (fun w2 hh hd hf hS => ?_)
            have HE2 := Lib.hid (HE1.out.trans hS)
            clear hh hd hf
            simp only [way]
            go_wp2_with (first | (refine' hl_q rfl rfl rfl (fun _ => ?_) ?_; rotate_left; (go_simp <;> (try go_bits) <;> rfl); (try simp only [Act.put, List.setIfInBounds_toArray, List.set_cons_zero, List.set_cons_succ])) | (refine' hl_rS rfl rfl rfl hS ?_ ?_; rotate_left; (intro w9 hS9; (first | have hc9 := Ext.cells hS9 | have hc9 := Keeps.cells hS9); (go_simp <;> rfl)); (try simp only [Act.put, List.setIfInBounds_toArray, List.set_cons_zero, List.set_cons_succ])) | (refine' hl_r rfl rfl rfl ?_ ?_; rotate_left; (rintro w9 (rfl | hS9); (go_simp <;> rfl); (first | have hc9 := Ext.cells hS9 | have hc9 := Keeps.cells hS9 | (try dsimp only at hS9)); (go_simp <;> rfl)); (try simp only [Act.put, List.setIfInBounds_toArray, List.set_cons_zero, List.set_cons_succ])) | (refine' hl_s rfl rfl ?_; (try simp only [Act.put, List.setIfInBounds_toArray, List.set_cons_zero, List.set_cons_succ])) | (refine hl_e rfl rfl rfl (fun K hK => ?_)) | (with_reducible refine And.intro (fun hn => ?_) ?_; (first | exact hS | exact Keeps.alloc hS _ | exact absurd hn (by rw [show needS _ _ = false from by kernel_rfl]; exact Bool.false_ne_true))) | (refine hl_done ?_) | gi_step)
            go_roundg (gk - 1)
            case measure => omega
            case rel =>
              refine ⟨j + 1, by simp, by omega, by omega, fun i hi => ?_, HE2.out⟩
              rcases Nat.lt_or_ge i j with h | h
              · exact HC.out.2.2 i h
              · have e : i = j := by omega
                subst e
                rw [← HD.out.2.1, ← HD.out.2.2]
                exact UInt8.toNat_inj.1 HQ.out
      · have hjb' : ((b.size : Int) ≤ j) = True := by simp; omega
        have HR := Lib.hid (show decide (0 < Lib.compareBytes a.data.toList b.data.toList) = true from by
          rw [HC.out.1, hda, List.drop_of_length_le (l := b.data.toList) (by rw [HL.out.2]; omega)]; rfl)
        clear hda
        go_wp2_with fail
        refine wp_drawE (way [0, 1, 2, 3, 4, 5, 6, 7, 8, 9, 10, 11, 12]) (by kernel_rfl) (by kernel_rfl) (fun w1 hh hd hf hS => ?_)
        clear hh hd hf
        simp only [way]
        go_wp2_with (first | (refine' hl_q rfl rfl rfl (fun _ => ?_) ?_; rotate_left; (go_simp <;> (try go_bits) <;> rfl); (try simp only [Act.put, List.setIfInBounds_toArray, List.set_cons_zero, List.set_cons_succ])) | (refine' hl_rS rfl rfl rfl hS ?_ ?_; rotate_left; (intro w9 hS9; (first | have hc9 := Ext.cells hS9 | have hc9 := Keeps.cells hS9); (go_simp <;> rfl)); (try simp only [Act.put, List.setIfInBounds_toArray, List.set_cons_zero, List.set_cons_succ])) | (refine' hl_r rfl rfl rfl ?_ ?_; rotate_left; (rintro w9 (rfl | hS9); (go_simp <;> rfl); (first | have hc9 := Ext.cells hS9 | have hc9 := Keeps.cells hS9 | (try dsimp only at hS9)); (go_simp <;> rfl)); (try simp only [Act.put, List.setIfInBounds_toArray, List.set_cons_zero, List.set_cons_succ])) | (refine' hl_s rfl rfl ?_; (try simp only [Act.put, List.setIfInBounds_toArray, List.set_cons_zero, List.set_cons_succ])) | (refine hl_e rfl rfl rfl (fun K hK => ?_)) | (with_reducible refine And.intro (fun hn => ?_) ?_; (first | exact hS | exact Keeps.alloc hS _ | exact absurd hn (by rw [show needS _ _ = false from by kernel_rfl]; exact Bool.false_ne_true))) | (refine hl_done ?_) | gi_step)
        go_ret
        exact ⟨by rw [HR.out]; rfl, HC.out.2.1.trans hS⟩
    · have hja' : ¬ (j : Int) < a.size := by omega
      have HR := Lib.hid (show decide (0 < Lib.compareBytes a.data.toList b.data.toList) = false from by
        rw [HC.out.1, List.drop_of_length_le (l := a.data.toList) (by rw [HL.out.1]; omega)]
        cases b.data.toList.drop j <;> rfl)
      go_wp2_with fail
      go_ret
      exact ⟨by rw [HR.out]; rfl, HC.out.2.1⟩
/-! ### Newer -/
theorem kept_sizes (x : Spn) : (kept x).sv = x.sv ∧ (kept x).op = x.op := ⟨rfl, rfl⟩
set_option maxRecDepth 20000 in
theorem rnewer_i (x y : Spn) (hx : x.Fits) (hy : y.Fits) (sx : Shrt x) (sy : Shrt y) (w : World) : Calls Tryz.prog 55 #[spnV x, spnV y] w fun e w' => e = .returned (.bool (newer x y)) ∧ Ext w w' := by
  obtain ⟨wa, hwa⟩ : ∃ wa, wa = (w.alloc (.cells (spnC x) 48)).alloc (.cells (spnC y) 48) := ⟨_, rfl⟩
  have hE1 : Ext w (w.alloc (.cells (spnC x) 48)) := (Keeps.refl _ w).alloc _
  have hE : Ext w wa := by rw [hwa]; exact hE1.alloc _
  have hN0 : (w.alloc (.cells (spnC x) 48)).heap[w.heap.size]? = some (.cells (spnC x) 48 (0, 0)) := World.alloc_heap_new w _
  have hN : wa.heap[w.heap.size]? = some (.cells (spnC x) 48 (0, 0)) := by
    rw [hwa]; exact (Ext.same ((Keeps.refl Non _).alloc _) (lt_of_heap hN0)).trans hN0
  have hR : wa.heap[w.heap.size + 1]? = some (.cells (spnC y) 48 (0, 0)) := by
    have := World.alloc_heap_new (w.alloc (.cells (spnC x) 48)) (.cells (spnC y) 48)
    rw [World.size_alloc] at this; rw [hwa]; exact this
  obtain ⟨c, hc⟩ : ∃ c, c = w.heap.size := ⟨_, rfl⟩
  rw [← hc] at hN hR
  have H := Lib.hid (And.intro hE (And.intro hN hR))
  have HF := Lib.hid (And.intro hx (And.intro hy (And.intro sx sy)))
  have hcx := blk_cell hN
  have hcy := blk_cell hR
  clear hE hE1 hN0 hN hR hx hy sx sy
  by_cases hrv : x.rv = y.rv
  · have hb : (x.rv != y.rv) = false := by rw [hrv]; simp
    have HN := Lib.hid (show newer x y = decide (0 < Lib.compareBytes (putS (kept x)).data.toList (putS (kept y)).data.toList) from by
      unfold newer rankO cmpN; rw [hrv]; simp)
    clear hrv
    go_enter Tryz.func55, Tryz.ntmps55
    go_wp2_with fail
    rw [← hwa, ← hc]
    clear hwa hc
    refine (rkept_i x _).mono ?_
    rintro e9 w1 ⟨rfl, hE1⟩
    have HE1 := Lib.hid (And.intro (H.out.1.trans hE1) hE1)
    clear hE1 hcx hcy
    go_wp2_with fail
    refine (rcput_i (kept x) (kept_fits HF.out.1) HF.out.2.2.1.1 HF.out.2.2.1.2 _).mono ?_
    rintro e9 w2 ⟨rfl, hE2⟩
    have HE2 := Lib.hid (And.intro (HE1.out.1.trans hE2) (HE1.out.2.trans hE2))
    have hcy2 := blk_cell ((Ext.same HE2.out.2 (lt_of_heap H.out.2.2)).trans H.out.2.2)
    clear hE2
    go_wp2_with fail
    refine (rkept_i y _).mono ?_
    rintro e9 w3 ⟨rfl, hE3⟩
    have HE3 := Lib.hid (HE2.out.1.trans hE3)
    clear hE3 hcy2
    go_wp2_with fail
    refine (rcput_i (kept y) (kept_fits HF.out.2.1) HF.out.2.2.2.1 HF.out.2.2.2.2 _).mono ?_
    rintro e9 w4 ⟨rfl, hE4⟩
    have HE4 := Lib.hid (HE3.out.trans hE4)
    clear hE4
    go_wp2_with fail
    have hz : ∀ z : Spn, z.Fits → (putS (kept z)).size ≤ 1000000 := fun z hz => by
      unfold putS
      split
      · rename_i hm
        rw [size_mk]
        have hG := good_of (kept_fits hz) hm
        rw [← prtsOf_bytes]
        have := partsB_len _ (prtsOf_ok hG)
        have e : (prtsOf (kept z)).length = 9 := rfl
        omega
      · exact Nat.zero_le _
    refine (rbehind_i _ _ (hz x HF.out.1) (hz y HF.out.2.1) _).mono ?_
    rintro e9 w5 ⟨rfl, hE5⟩
    have HE5 := Lib.hid (HE4.out.trans hE5)
    clear hE5 hz
    go_wp2_with fail
    go_ret
    exact ⟨by rw [HN.out]; rfl, HE5.out⟩
  · have hb : (x.rv != y.rv) = true := by simpa using hrv
    have HN := Lib.hid (show newer x y = decide (y.rv < x.rv) from by
      have e : cmpN x.rv y.rv = if y.rv < x.rv then 1 else -1 := by
        unfold cmpN
        by_cases h1 : x.rv < y.rv
        · rw [if_pos h1, if_neg (show ¬ y.rv < x.rv by omega)]
        · rw [if_neg h1]; have h2 : y.rv < x.rv := by omega
          rw [if_pos h2, if_pos h2]
      unfold newer rankO
      rw [e]
      by_cases h1 : y.rv < x.rv
      · rw [if_pos h1, if_neg (by decide)]; simp [h1]
      · rw [if_neg h1, if_neg (by decide)]; simp [h1])
    clear hrv
    go_enter Tryz.func55, Tryz.ntmps55
    go_wp2_with fail
    go_ret
    exact ⟨by rw [HN.out]; rfl, by rw [← hwa]; exact H.out.1⟩
end Go.Proofs.YtdonmmjikcbihaaGreatDoor
/- The document's answers for sets of records: keys, sets, the living. -/
namespace Go.Proofs.YtdonmmjikcbihaaGreatDoor
open Go.RowKit Go.Proofs Go.Vc
attribute [local irreducible] Calls CallsIn Code.wp Code.wpIn
/-- two boxes -/
theorem two_boxes (x y : Spn) (w : World) : ∃ wa c, wa = (w.alloc (.cells (spnC x) 48)).alloc (.cells (spnC y) 48) ∧ c = w.heap.size ∧ Ext w wa ∧ wa.heap[c]? = some (.cells (spnC x) 48 (0, 0)) ∧ wa.heap[c + 1]? = some (.cells (spnC y) 48 (0, 0)) := by
  refine ⟨_, _, rfl, rfl, ((Keeps.refl _ w).alloc _).alloc _, ?_, ?_⟩
  · have hN0 : (w.alloc (.cells (spnC x) 48)).heap[w.heap.size]? = some (.cells (spnC x) 48 (0, 0)) := World.alloc_heap_new w _
    exact (Ext.same ((Keeps.refl Non _).alloc _) (lt_of_heap hN0)).trans hN0
  · have := World.alloc_heap_new (w.alloc (.cells (spnC x) 48)) (.cells (spnC y) 48)
    rw [World.size_alloc] at this; exact this
theorem rbefore_i (x y : Spn) (w : World) : Calls Tryz.prog 84 #[spnV x, spnV y] w fun e w' => e = .returned (.bool (before x y)) ∧ Ext w w' := by
  obtain ⟨wa, c, hwa, hc, hE, hN, hR⟩ := two_boxes x y w
  have HE := Lib.hid hE
  have HB := Lib.hid (show before x y = (decide (x.tr < y.tr) || (decide (x.tr = y.tr) && decide (x.id < y.id))) from rfl)
  clear hE hN hR
  by_cases h1 : x.tr < y.tr
  · have HC := Lib.hid (show before x y = true from by rw [HB.out, decide_eq_true h1]; rfl)
    go_enter Tryz.func84, Tryz.ntmps84
    go_wp2_with fail
    go_ret
    exact ⟨by rw [HC.out]; rfl, by rw [← hwa]; exact HE.out⟩
  · by_cases h2 : x.tr = y.tr
    · have hb2 : (x.tr == y.tr) = true := by rw [h2]; simp
      have HC := Lib.hid (show before x y = decide (x.id < y.id) from by rw [HB.out, decide_eq_false h1, decide_eq_true h2]; rfl)
      clear h1 h2
      have h1 : (x.tr < y.tr) = False := by
        have := of_decide_eq_true (show decide (x.tr = y.tr) = true from by simpa using hb2)
        simp; omega
      go_enter Tryz.func84, Tryz.ntmps84
      go_wp2_with fail
      go_ret
      exact ⟨by rw [HC.out]; rfl, by rw [← hwa]; exact HE.out⟩
    · have hb2 : (x.tr == y.tr) = false := by rw [beq_eq_false_iff_ne]; exact h2
      have HC := Lib.hid (show before x y = false from by rw [HB.out, decide_eq_false h1, decide_eq_false h2]; rfl)
      clear h2
      go_enter Tryz.func84, Tryz.ntmps84
      go_wp2_with fail
      go_ret
      exact ⟨by rw [HC.out]; rfl, by rw [← hwa]; exact HE.out⟩
theorem rone14_i (x y : Spn) (w : World) : Calls Tryz.prog 81 #[spnV x, spnV y] w fun e w' => e = .returned (.bool (oneK x y)) ∧ Ext w w' := by
  obtain ⟨wa, c, hwa, hc, hE, hN, hR⟩ := two_boxes x y w
  have HE := Lib.hid hE
  clear hE hN hR
  by_cases h2 : x.tr = y.tr
  · have hb2 : (x.tr == y.tr) = true := by rw [h2]; simp
    by_cases h3 : x.id = y.id
    · have hb3 : (x.id == y.id) = true := by rw [h3]; simp
      have HC := Lib.hid (show oneK x y = true from by unfold oneK; rw [decide_eq_true h2, decide_eq_true h3]; rfl)
      clear h2 h3
      go_enter Tryz.func81, Tryz.ntmps81
      go_wp2_with fail
      go_ret
      exact ⟨by rw [HC.out]; rfl, by rw [← hwa]; exact HE.out⟩
    · have hb3 : (x.id == y.id) = false := by rw [beq_eq_false_iff_ne]; exact h3
      have HC := Lib.hid (show oneK x y = false from by unfold oneK; rw [decide_eq_true h2, decide_eq_false h3]; rfl)
      clear h2 h3
      go_enter Tryz.func81, Tryz.ntmps81
      go_wp2_with fail
      go_ret
      exact ⟨by rw [HC.out]; rfl, by rw [← hwa]; exact HE.out⟩
  · have hb2 : (x.tr == y.tr) = false := by rw [beq_eq_false_iff_ne]; exact h2
    have HC := Lib.hid (show oneK x y = false from by unfold oneK; rw [decide_eq_false h2]; rfl)
    clear h2
    go_enter Tryz.func81, Tryz.ntmps81
    go_wp2_with fail
    go_ret
    exact ⟨by rw [HC.out]; rfl, by rw [← hwa]; exact HE.out⟩
set_option maxRecDepth 20000 in
theorem rfind_i (v : Value) (l : List Spn) (x : Spn) (w : World) (h : SpnsAt w v l) : Calls Tryz.prog 54 #[v, spnV x] w fun e w' => e = .returned (.int .i64 (indexOf (fun y => oneK y x) l)) ∧ Ext w w' := by
  have h' := h
  obtain ⟨a, cap, rfl, hn, h0, hju⟩ := h'
  obtain ⟨n, hnl⟩ : ∃ n, n = l.length := ⟨_, rfl⟩
  rw [← hnl] at h hn ⊢
  obtain ⟨wa, hwa⟩ : ∃ wa, wa = w.alloc (.cells (spnC x) 48) := ⟨_, rfl⟩
  have hE : Ext w wa := by rw [hwa]; exact (Keeps.refl _ w).alloc _
  have hN : wa.heap[w.heap.size]? = some (.cells (spnC x) 48 (0, 0)) := by rw [hwa]; exact World.alloc_heap_new w _
  obtain ⟨b, hb⟩ : ∃ b, b = w.heap.size := ⟨_, rfl⟩
  rw [← hb] at hN
  have HS := Lib.hid (And.intro (show ∀ wr, Ext wa wr → SpnsAt wr (.slice a n cap) l from fun wr k => (h.ext hE).ext k) (And.intro hE hN))
  have HNL := Lib.hid hnl
  clear h h0 hju hnl hE hN
  go_enter Tryz.func54, Tryz.ntmps54
  go_wp2_with fail
  rw [← hwa, ← hb]
  clear hwa hb
  go_loopg [5] n (fun k p wr => ∃ j : Nat, p = .int .i64 j ∧ j + k = n ∧ Ext wa wr ∧ ∀ i (hi : i < l.length), i < j → oneK l[i] x = false)
  case atStart => exact ⟨0, rfl, Nat.zero_add _, Keeps.refl _ _, fun i _ hi => absurd hi (Nat.not_lt_zero _)⟩
  case round =>
    obtain ⟨j, rfl, hj, hE, hall⟩ := hrel
    have HA := Lib.hid (And.intro hall hE)
    clear hall
    by_cases hc1 : (j : Int) < n
    · have hjl : j < l.length := by rw [← HNL.out]; omega
      obtain ⟨g, o, rfl, hc9⟩ := (HS.out.1 wr hE).at hjl
      have hy := hc9 j hjl
      obtain ⟨y, hyl⟩ : ∃ y, y = l[j] := ⟨_, rfl⟩
      rw [← hyl] at hy
      have hxb := (Ext.same hE (lt_of_heap HS.out.2.2)).trans HS.out.2.2
      have hcx := blk_cell hxb
      have HY := Lib.hid (And.intro hy (And.intro hxb hyl))
      unfold C9 at hy
      have HJ := Lib.hid hjl
      clear hc9 hyl hxb
      go_wp2_with fail
      refine wp_drawE (way [0, 1, 2, 3, 4, 5]) (by kernel_rfl) (by kernel_rfl) (fun w1 hh hd hf hS => ?_)
      have hy1 := HY.out.1.keeps hS (fun hf => hf)
      have hcx1 := blk_cell ((Ext.same hS (lt_of_heap HY.out.2.1)).trans HY.out.2.1)
      unfold C9 at hy1
      clear hh hd hf
      simp only [way]
      go_wp2_with (first | (refine' hl_q rfl rfl rfl (fun _ => ?_) ?_; rotate_left; (go_simp <;> (try go_bits) <;> rfl); (try simp only [Act.put, List.setIfInBounds_toArray, List.set_cons_zero, List.set_cons_succ])) | (refine' hl_rS rfl rfl rfl hS ?_ ?_; rotate_left; (intro w9 hS9; (first | have hc9 := Ext.cells hS9 | have hc9 := Keeps.cells hS9); (go_simp <;> rfl)); (try simp only [Act.put, List.setIfInBounds_toArray, List.set_cons_zero, List.set_cons_succ])) | (refine' hl_r rfl rfl rfl ?_ ?_; rotate_left; (rintro w9 (rfl | hS9); (go_simp <;> rfl); (first | have hc9 := Ext.cells hS9 | have hc9 := Keeps.cells hS9 | (try dsimp only at hS9)); (go_simp <;> rfl)); (try simp only [Act.put, List.setIfInBounds_toArray, List.set_cons_zero, List.set_cons_succ])) | (refine' hl_s rfl rfl ?_; (try simp only [Act.put, List.setIfInBounds_toArray, List.set_cons_zero, List.set_cons_succ])) | (refine hl_e rfl rfl rfl (fun K hK => ?_)) | (with_reducible refine And.intro (fun hn => ?_) ?_; (first | exact hS | exact Keeps.alloc hS _ | exact absurd hn (by rw [show needS _ _ = false from by kernel_rfl]; exact Bool.false_ne_true))) | (refine hl_done ?_) | gi_step)
      refine callsIn_wide.2 ((rone14_i y x _).mono ?_)
      rintro e9 w2 ⟨rfl, hE2⟩
      have hS2 := hS.trans hE2
      clear hS hE2 hy1 hcx1 hy hcx
      have hS := hS2
      clear hS2
      have HE2 := Lib.hid (And.intro (HA.out.2.trans hS) (HS.out.2.1.trans (HA.out.2.trans hS)))
      cases ho : oneK y x
      · have HO := Lib.hid ho
        clear ho
        go_wp2_with (first | (refine' hl_q rfl rfl rfl (fun _ => ?_) ?_; rotate_left; (go_simp <;> (try go_bits) <;> rfl); (try simp only [Act.put, List.setIfInBounds_toArray, List.set_cons_zero, List.set_cons_succ])) | (refine' hl_rS rfl rfl rfl hS ?_ ?_; rotate_left; (intro w9 hS9; (first | have hc9 := Ext.cells hS9 | have hc9 := Keeps.cells hS9); (go_simp <;> rfl)); (try simp only [Act.put, List.setIfInBounds_toArray, List.set_cons_zero, List.set_cons_succ])) | (refine' hl_r rfl rfl rfl ?_ ?_; rotate_left; (rintro w9 (rfl | hS9); (go_simp <;> rfl); (first | have hc9 := Ext.cells hS9 | have hc9 := Keeps.cells hS9 | (try dsimp only at hS9)); (go_simp <;> rfl)); (try simp only [Act.put, List.setIfInBounds_toArray, List.set_cons_zero, List.set_cons_succ])) | (refine' hl_s rfl rfl ?_; (try simp only [Act.put, List.setIfInBounds_toArray, List.set_cons_zero, List.set_cons_succ])) | (refine hl_e rfl rfl rfl (fun K hK => ?_)) | (with_reducible refine And.intro (fun hn => ?_) ?_; (first | exact hS | exact Keeps.alloc hS _ | exact absurd hn (by rw [show needS _ _ = false from by kernel_rfl]; exact Bool.false_ne_true))) | (refine hl_done ?_) | gi_step)
        go_roundg (gk - 1)
        case measure => omega
        case rel =>
          refine ⟨j + 1, by simp, by omega, HE2.out.1, fun i hi hij => ?_⟩
          by_cases e : i = j
          · subst e; rw [← HY.out.2.2]; exact HO.out
          · exact HA.out.1 i hi (by omega)
      · have HO := Lib.hid (show indexOf (fun y => oneK y x) l = j from indexOf_hit HJ.out (by rw [← HY.out.2.2]; exact ho) (fun i hi => HA.out.1 i (Nat.lt_trans hi HJ.out) hi))
        clear ho
        go_wp2_with (first | (refine' hl_q rfl rfl rfl (fun _ => ?_) ?_; rotate_left; (go_simp <;> (try go_bits) <;> rfl); (try simp only [Act.put, List.setIfInBounds_toArray, List.set_cons_zero, List.set_cons_succ])) | (refine' hl_rS rfl rfl rfl hS ?_ ?_; rotate_left; (intro w9 hS9; (first | have hc9 := Ext.cells hS9 | have hc9 := Keeps.cells hS9); (go_simp <;> rfl)); (try simp only [Act.put, List.setIfInBounds_toArray, List.set_cons_zero, List.set_cons_succ])) | (refine' hl_r rfl rfl rfl ?_ ?_; rotate_left; (rintro w9 (rfl | hS9); (go_simp <;> rfl); (first | have hc9 := Ext.cells hS9 | have hc9 := Keeps.cells hS9 | (try dsimp only at hS9)); (go_simp <;> rfl)); (try simp only [Act.put, List.setIfInBounds_toArray, List.set_cons_zero, List.set_cons_succ])) | (refine' hl_s rfl rfl ?_; (try simp only [Act.put, List.setIfInBounds_toArray, List.set_cons_zero, List.set_cons_succ])) | (refine hl_e rfl rfl rfl (fun K hK => ?_)) | (with_reducible refine And.intro (fun hn => ?_) ?_; (first | exact hS | exact Keeps.alloc hS _ | exact absurd hn (by rw [show needS _ _ = false from by kernel_rfl]; exact Bool.false_ne_true))) | (refine hl_done ?_) | gi_step)
        go_ret
        exact ⟨by rw [HO.out]; rfl, HE2.out.2⟩
    · have HO := Lib.hid (show indexOf (fun y => oneK y x) l = -1 from indexOf_miss fun i hi => HA.out.1 i hi (by have := HNL.out; omega))
      have HE := Lib.hid (HS.out.2.1.trans hE)
      clear hE
      go_wp2_with fail
      go_ret
      exact ⟨by rw [HO.out]; rfl, HE.out⟩
end Go.Proofs.YtdonmmjikcbihaaGreatDoor
/- The document's answers for sets of records: Insert, Set, Live, Spans. -/
namespace Go.Proofs.YtdonmmjikcbihaaGreatDoor
open Go.RowKit Go.Proofs Go.Vc
attribute [local irreducible] Calls CallsIn Code.wp Code.wpIn
theorem takeWhile_at {α : Type} (p : α → Bool) : ∀ (l : List α) (j : Nat), j ≤ l.length → (∀ i (h : i < l.length), i < j → p l[i] = true) → (∀ h : j < l.length, p l[j] = false) → l.takeWhile p = l.take j
  | [], j, h, _, _ => by simp
  | a :: l, 0, _, _, h2 => by
    have := h2 (Nat.succ_pos _)
    simp only [List.getElem_cons_zero] at this
    rw [List.takeWhile_cons, this]; rfl
  | a :: l, j + 1, h, h1, h2 => by
    have h0 := h1 0 (Nat.succ_pos _) (Nat.succ_pos _)
    simp only [List.getElem_cons_zero] at h0
    rw [List.takeWhile_cons, h0, if_pos rfl, List.take_succ_cons, takeWhile_at p l j (Nat.le_of_succ_le_succ h) (fun i hi hij => by have := h1 (i + 1) (Nat.succ_lt_succ hi) (Nat.succ_lt_succ hij); simpa using this) (fun hj => by have := h2 (Nat.succ_lt_succ hj); simpa using this)]
theorem filter_snoc {α : Type} (p : α → Bool) (l : List α) (x : α) : (l ++ [x]).filter p = l.filter p ++ if p x then [x] else [] := by
  rw [List.filter_append]; congr 1; simp only [List.filter_cons, List.filter_nil]
/-- what an own row is behind one append more -/
def InsPost (m : List Spn) (w : World) (e : Ending) (w' : World) : Prop := ∃ v, e = .returned v ∧ spnE.Own w.heap.size v m w' ∧ Ext w w'
set_option maxHeartbeats 2000000 in
set_option maxRecDepth 20000 in
theorem rinsert_i (v : Value) (l : List Spn) (x : Spn) (w : World) (h : SpnsAt w v l) (hl : l.length ≤ 10000) : Calls Tryz.prog 56 #[v, spnV x] w (InsPost (refInsert l x) w) := by
  have h' := h
  obtain ⟨a, cap, rfl, hn, h0, hju⟩ := h'
  obtain ⟨n, hnl⟩ : ∃ n, n = l.length := ⟨_, rfl⟩
  rw [← hnl] at h hn ⊢
  obtain ⟨wa, hwa⟩ : ∃ wa, wa = w.alloc (.cells (spnC x) 48) := ⟨_, rfl⟩
  have hE : Ext w wa := by rw [hwa]; exact (Keeps.refl _ w).alloc _
  have hN : wa.heap[w.heap.size]? = some (.cells (spnC x) 48 (0, 0)) := by rw [hwa]; exact World.alloc_heap_new w _
  obtain ⟨b, hb⟩ : ∃ b, b = w.heap.size := ⟨_, rfl⟩
  rw [← hb] at hN
  have HS := Lib.hid (And.intro (show ∀ wr, Ext wa wr → SpnsAt wr (.slice a n cap) l from fun wr k => (h.ext hE).ext k) (And.intro hE (And.intro hN hl)))
  have HNL := Lib.hid hnl
  clear h h0 hju hnl hE hN hl
  go_enter Tryz.func56, Tryz.ntmps56
  go_wp2_with fail
  rw [← hwa, ← hb]
  clear hwa hb
  go_loopg [5, 6] n (fun k p5 p6 wr => ∃ j : Nat, p6 = .int .i64 j ∧ j + k = n ∧ Ext wa wr ∧ spnE.Own wa.heap.size p5 (l.take j) wr ∧ ∀ i (hi : i < l.length), i < j → before l[i] x = true)
  case atStart => exact ⟨0, rfl, Nat.zero_add _, Keeps.refl _ _, Ek.Own.nil spnE _ _, fun i _ hi => absurd hi (Nat.not_lt_zero _)⟩
  case round =>
    obtain ⟨j, rfl, hj, hE, hown, hall⟩ := hrel
    have HA := Lib.hid (And.intro hall (And.intro hE hown))
    have hxb := (Ext.same hE (lt_of_heap HS.out.2.2.1)).trans HS.out.2.2.1
    have hcx := blk_cell hxb
    have HX := Lib.hid hxb
    obtain ⟨nx, hnx⟩ : ∃ nx, nx = decide (∃ h : j < l.length, before l[j] x = true) := ⟨_, rfl⟩
    clear hall hxb hown
    cases nx with
    | true =>
      have hnx' := of_decide_eq_true hnx.symm
      clear hnx
      obtain ⟨hjl, hbf⟩ := hnx'
      have hc1 : (j : Int) < n := by have := HNL.out; omega
      obtain ⟨g, o, rfl, hc9⟩ := (HS.out.1 wr hE).at hjl
      have hy := hc9 j hjl
      obtain ⟨y, hyl⟩ : ∃ y, y = l[j] := ⟨_, rfl⟩
      rw [← hyl] at hy hbf
      have HY := Lib.hid (And.intro hy (And.intro hbf (And.intro hyl (show l.take (j + 1) = l.take j ++ [y] from by rw [hyl]; exact (List.take_append_getElem hjl).symm))))
      unfold C9 at hy
      clear hc9 hyl hbf hE
      go_wp2_with fail
      refine wp_drawE (way [0, 1, 2, 3, 4, 5, 6, 7, 8, 9, 10, 11]) (by kernel_rfl) (by kernel_rfl) (fun w1 hh hd hf hS => ?_)
      have hy1 := HY.out.1.keeps hS (fun hf => hf)
      have hcx1 := blk_cell ((Ext.same hS (lt_of_heap HX.out)).trans HX.out)
      unfold C9 at hy1
      clear hh hd hf
      simp only [way]
      go_wp2_with (first | (refine' hl_q rfl rfl rfl (fun _ => ?_) ?_; rotate_left; (go_simp <;> (try go_bits) <;> rfl); (try simp only [Act.put, List.setIfInBounds_toArray, List.set_cons_zero, List.set_cons_succ])) | (refine' hl_rS rfl rfl rfl hS ?_ ?_; rotate_left; (intro w9 hS9; (first | have hc9 := Ext.cells hS9 | have hc9 := Keeps.cells hS9); (go_simp <;> rfl)); (try simp only [Act.put, List.setIfInBounds_toArray, List.set_cons_zero, List.set_cons_succ])) | (refine' hl_r rfl rfl rfl ?_ ?_; rotate_left; (rintro w9 (rfl | hS9); (go_simp <;> rfl); (first | have hc9 := Ext.cells hS9 | have hc9 := Keeps.cells hS9 | (try dsimp only at hS9)); (go_simp <;> rfl)); (try simp only [Act.put, List.setIfInBounds_toArray, List.set_cons_zero, List.set_cons_succ])) | (refine' hl_s rfl rfl ?_; (try simp only [Act.put, List.setIfInBounds_toArray, List.set_cons_zero, List.set_cons_succ])) | (refine hl_e rfl rfl rfl (fun K hK => ?_)) | (with_reducible refine And.intro (fun hn => ?_) ?_; (first | exact hS | exact Keeps.alloc hS _ | exact absurd hn (by rw [show needS _ _ = false from by kernel_rfl]; exact Bool.false_ne_true))) | (refine hl_done ?_) | gi_step)
      refine callsIn_wide.2 ((rbefore_i y x _).mono ?_)
      rintro e9 w2 ⟨rfl, hE2⟩
      rw [HY.out.2.1]
      have hS2 := hS.trans hE2
      clear hS hE2 hy1 hcx1
      have hS := hS2
      clear hS2
      have HE2 := Lib.hid (HA.out.2.1.trans hS)
      have HOW := Lib.hid (HA.out.2.2.ext spnE hS)
      have hy2 := HY.out.1.keeps hS (fun hf => hf)
      unfold C9 at hy2
      go_wp2_with (first | (at_builtin; (refine Ek.app' spnE rfl _ _ rfl wa.heap.size u5 (l.take j) [y] rfl (HOW.out.ext spnE ((Keeps.refl _ _).alloc _)) (Ek.reads_new spnE _ y _ _ rfl) ?c1 ?c2 ?_)) | (refine' hl_q rfl rfl rfl (fun _ => ?_) ?_; rotate_left; (go_simp <;> (try go_bits) <;> rfl); (try simp only [Act.put, List.setIfInBounds_toArray, List.set_cons_zero, List.set_cons_succ])) | (refine' hl_rS rfl rfl rfl hS ?_ ?_; rotate_left; (intro w9 hS9; (first | have hc9 := Ext.cells hS9 | have hc9 := Keeps.cells hS9); (go_simp <;> rfl)); (try simp only [Act.put, List.setIfInBounds_toArray, List.set_cons_zero, List.set_cons_succ])) | (refine' hl_r rfl rfl rfl ?_ ?_; rotate_left; (rintro w9 (rfl | hS9); (go_simp <;> rfl); (first | have hc9 := Ext.cells hS9 | have hc9 := Keeps.cells hS9 | (try dsimp only at hS9)); (go_simp <;> rfl)); (try simp only [Act.put, List.setIfInBounds_toArray, List.set_cons_zero, List.set_cons_succ])) | (refine' hl_s rfl rfl ?_; (try simp only [Act.put, List.setIfInBounds_toArray, List.set_cons_zero, List.set_cons_succ])) | (refine hl_e rfl rfl rfl (fun K hK => ?_)) | (with_reducible refine And.intro (fun hn => ?_) ?_; (first | exact hS | exact Keeps.alloc hS _ | exact absurd hn (by rw [show needS _ _ = false from by kernel_rfl]; exact Bool.false_ne_true))) | (refine hl_done ?_) | gi_step)
      case c1 => have := HS.out.2.2.2; rw [List.length_take, List.length_singleton]; omega
      case c2 => exact Nat.le_trans HE2.out.size ((Keeps.refl Non _).alloc _).size
      intro v8 w8 hown8 hgr8 _ _
      have H8 := Lib.hid (And.intro hown8 ((HOW.out.ext spnE ((Keeps.refl Non _).alloc _)).grow spnE (HE2.out.trans ((Keeps.refl Non _).alloc _)) (Nat.le_refl _) hgr8))
      clear hown8 hgr8
      go_wp2_with fail
      go_roundg (gk - 1)
      case measure => omega
      case rel =>
        refine ⟨j + 1, by simp, by omega, H8.out.2, by rw [HY.out.2.2.2]; exact H8.out.1, fun i hi hij => ?_⟩
        by_cases e : i = j
        · subst e; rw [← HY.out.2.2.1]; exact HY.out.2.1
        · exact HA.out.1 i hi (by omega)
    | false =>
      have hnx' := of_decide_eq_false hnx.symm
      have HT := Lib.hid (takeWhile_at (fun y => before y x) l j (by have := HNL.out; omega) HA.out.1 (fun hjl => by
        cases hb : before l[j] x with
        | false => rfl
        | true => exact absurd ⟨hjl, hb⟩ hnx'))
      by_cases hc1 : (j : Int) < n
      case' pos =>
        have hjl : j < l.length := by have := HNL.out; omega
        obtain ⟨g, o, rfl, hc9⟩ := (HS.out.1 wr hE).at hjl
        have hy := hc9 j hjl
        obtain ⟨y, hyl⟩ : ∃ y, y = l[j] := ⟨_, rfl⟩
        rw [← hyl] at hy
        have HY := Lib.hid (And.intro hy (show before y x = false from by
          cases hb : before y x with
          | false => rfl
          | true => exact absurd ⟨hjl, by rw [← hyl]; exact hb⟩ hnx'))
        unfold C9 at hy
        clear hc9 hyl hE hnx hnx' hjl
        go_wp2_with fail
        refine wp_drawE (way [0, 1, 2, 3, 4, 5, 6, 7, 8, 9, 10, 11]) (by kernel_rfl) (by kernel_rfl) (fun w1 hh hd hf hS => ?_)
        have hy1 := HY.out.1.keeps hS (fun hf => hf)
        have hcx1 := blk_cell ((Ext.same hS (lt_of_heap HX.out)).trans HX.out)
        unfold C9 at hy1
        clear hh hd hf
        simp only [way]
        go_wp2_with (first | (refine' hl_q rfl rfl rfl (fun _ => ?_) ?_; rotate_left; (go_simp <;> (try go_bits) <;> rfl); (try simp only [Act.put, List.setIfInBounds_toArray, List.set_cons_zero, List.set_cons_succ])) | (refine' hl_rS rfl rfl rfl hS ?_ ?_; rotate_left; (intro w9 hS9; (first | have hc9 := Ext.cells hS9 | have hc9 := Keeps.cells hS9); (go_simp <;> rfl)); (try simp only [Act.put, List.setIfInBounds_toArray, List.set_cons_zero, List.set_cons_succ])) | (refine' hl_r rfl rfl rfl ?_ ?_; rotate_left; (rintro w9 (rfl | hS9); (go_simp <;> rfl); (first | have hc9 := Ext.cells hS9 | have hc9 := Keeps.cells hS9 | (try dsimp only at hS9)); (go_simp <;> rfl)); (try simp only [Act.put, List.setIfInBounds_toArray, List.set_cons_zero, List.set_cons_succ])) | (refine' hl_s rfl rfl ?_; (try simp only [Act.put, List.setIfInBounds_toArray, List.set_cons_zero, List.set_cons_succ])) | (refine hl_e rfl rfl rfl (fun K hK => ?_)) | (with_reducible refine And.intro (fun hn => ?_) ?_; (first | exact hS | exact Keeps.alloc hS _ | exact absurd hn (by rw [show needS _ _ = false from by kernel_rfl]; exact Bool.false_ne_true))) | (refine hl_done ?_) | gi_step)
        refine callsIn_wide.2 ((rbefore_i y x _).mono ?_)
        rintro e9 w2 ⟨rfl, hE2⟩
        rw [HY.out.2]
        have hS2 := hS.trans hE2
        clear hS hE2 hy1 hcx1
        have hS := hS2
        clear hS2
        have HE2 := Lib.hid (HA.out.2.1.trans hS)
        have HOW := Lib.hid (HA.out.2.2.ext spnE hS)
        have hcx2 := blk_cell ((Ext.same hS (lt_of_heap HX.out)).trans HX.out)
        clear hy
        generalize (some (⟨g, o, none⟩ : Addr)) = av at HS ⊢
      case' neg =>
        have hc2 : ((j : Int) < n) = False := by simp; omega
        clear hE hnx hnx'
        go_wp2_with fail
        refine wp_drawE (way [0, 1, 2, 3, 4, 5, 6, 7, 8, 9, 10, 11]) (by kernel_rfl) (by kernel_rfl) (fun w2 hh hd hf hS => ?_)
        clear hh hd hf
        simp only [way]
        have HE2 := Lib.hid (HA.out.2.1.trans hS)
        have HOW := Lib.hid (HA.out.2.2.ext spnE hS)
        have hcx2 := blk_cell ((Ext.same hS (lt_of_heap HX.out)).trans HX.out)
      all_goals
        go_wp2_with (first | (at_builtin; (refine Ek.app' spnE rfl _ _ rfl wa.heap.size u5 (l.take j) [x] rfl (HOW.out.ext spnE ((Keeps.refl _ _).alloc _)) (Ek.reads_new spnE _ x _ _ rfl) ?c1 ?c2 ?_)) | (refine' hl_q rfl rfl rfl (fun _ => ?_) ?_; rotate_left; (go_simp <;> (try go_bits) <;> rfl); (try simp only [Act.put, List.setIfInBounds_toArray, List.set_cons_zero, List.set_cons_succ])) | (refine' hl_rS rfl rfl rfl hS ?_ ?_; rotate_left; (intro w9 hS9; (first | have hc9 := Ext.cells hS9 | have hc9 := Keeps.cells hS9); (go_simp <;> rfl)); (try simp only [Act.put, List.setIfInBounds_toArray, List.set_cons_zero, List.set_cons_succ])) | (refine' hl_r rfl rfl rfl ?_ ?_; rotate_left; (rintro w9 (rfl | hS9); (go_simp <;> rfl); (first | have hc9 := Ext.cells hS9 | have hc9 := Keeps.cells hS9 | (try dsimp only at hS9)); (go_simp <;> rfl)); (try simp only [Act.put, List.setIfInBounds_toArray, List.set_cons_zero, List.set_cons_succ])) | (refine' hl_s rfl rfl ?_; (try simp only [Act.put, List.setIfInBounds_toArray, List.set_cons_zero, List.set_cons_succ])) | (refine hl_e rfl rfl rfl (fun K hK => ?_)) | (with_reducible refine And.intro (fun hn => ?_) ?_; (first | exact hS | exact Keeps.alloc hS _ | exact absurd hn (by rw [show needS _ _ = false from by kernel_rfl]; exact Bool.false_ne_true))) | (refine hl_done ?_) | gi_step)
        case c1 => have := HS.out.2.2.2; rw [List.length_take, List.length_singleton]; omega
        case c2 => exact Nat.le_trans HE2.out.size ((Keeps.refl Non _).alloc _).size
        intro v8 w8 hown8 hgr8 _ _
        have hE8 := (HOW.out.ext spnE ((Keeps.refl Non _).alloc _)).grow spnE (HE2.out.trans ((Keeps.refl Non _).alloc _)) (Nat.le_refl _) hgr8
        have hx8 := (Ext.same hE8 (lt_of_heap HS.out.2.2.1)).trans HS.out.2.2.1
        have H8 := Lib.hid (And.intro hown8 (And.intro hE8 hx8))
        clear hown8 hgr8 hE8 hcx2 hcx hS hx8
        go_wp2_with fail
        obtain ⟨w0, hw0⟩ : ∃ w0, w0 = w8 := ⟨_, rfl⟩
        rw [← hw0] at H8 ⊢
        clear hw0
        obtain ⟨T, hT⟩ : ∃ T, T = l.takeWhile fun y => before y x := ⟨_, rfl⟩
        rw [← hT] at HT
        rw [← HT.out] at H8
        have hTl : T.length ≤ l.length := by rw [hT]; exact (List.takeWhile_prefix _).length_le
        have HT2 := Lib.hid (And.intro hT hTl)
        clear hT hTl
        go_loopg [5, 7] n (fun k p5 p7 wq => ∃ i : Nat, p7 = .int .i64 i ∧ i + k = n ∧ Ext wa wq ∧ spnE.Own wa.heap.size p5 (T ++ [x] ++ (l.take i).filter fun y => before x y) wq)
        case atStart => exact ⟨0, rfl, Nat.zero_add _, H8.out.2.1, by rw [List.take_zero, List.filter_nil, List.append_nil]; exact H8.out.1⟩
        case round =>
          obtain ⟨i, rfl, hi, hEq, hown⟩ := hrel
          have hxb := (Ext.same hEq (lt_of_heap HS.out.2.2.1)).trans HS.out.2.2.1
          have hcx := blk_cell hxb
          have HQ := Lib.hid (And.intro hEq (And.intro hown hxb))
          clear hown hxb
          by_cases hin : (i : Int) < n
          · have hil : i < l.length := by have := HNL.out; omega
            obtain ⟨g2, o2, rfl, hc9⟩ := (HS.out.1 wr hEq).at hil
            have hy := hc9 i hil
            obtain ⟨z, hzl⟩ : ∃ z, z = l[i] := ⟨_, rfl⟩
            rw [← hzl] at hy
            have HY := Lib.hid (And.intro hy (And.intro (show l.take (i + 1) = l.take i ++ [z] from by rw [hzl]; exact (List.take_append_getElem hil).symm) hil))
            unfold C9 at hy
            clear hc9 hzl hEq
            go_wp2_with fail
            refine wp_drawE (way [0, 1, 2, 3, 4, 5]) (by kernel_rfl) (by kernel_rfl) (fun w1 hh hd hf hS => ?_)
            have hy1 := HY.out.1.keeps hS (fun hf => hf)
            have hcx1 := blk_cell ((Ext.same hS (lt_of_heap HQ.out.2.2)).trans HQ.out.2.2)
            unfold C9 at hy1
            clear hh hd hf
            simp only [way]
            go_wp2_with (first | (refine' hl_q rfl rfl rfl (fun _ => ?_) ?_; rotate_left; (go_simp <;> (try go_bits) <;> rfl); (try simp only [Act.put, List.setIfInBounds_toArray, List.set_cons_zero, List.set_cons_succ])) | (refine' hl_rS rfl rfl rfl hS ?_ ?_; rotate_left; (intro w9 hS9; (first | have hc9 := Ext.cells hS9 | have hc9 := Keeps.cells hS9); (go_simp <;> rfl)); (try simp only [Act.put, List.setIfInBounds_toArray, List.set_cons_zero, List.set_cons_succ])) | (refine' hl_r rfl rfl rfl ?_ ?_; rotate_left; (rintro w9 (rfl | hS9); (go_simp <;> rfl); (first | have hc9 := Ext.cells hS9 | have hc9 := Keeps.cells hS9 | (try dsimp only at hS9)); (go_simp <;> rfl)); (try simp only [Act.put, List.setIfInBounds_toArray, List.set_cons_zero, List.set_cons_succ])) | (refine' hl_s rfl rfl ?_; (try simp only [Act.put, List.setIfInBounds_toArray, List.set_cons_zero, List.set_cons_succ])) | (refine hl_e rfl rfl rfl (fun K hK => ?_)) | (with_reducible refine And.intro (fun hn => ?_) ?_; (first | exact hS | exact Keeps.alloc hS _ | exact absurd hn (by rw [show needS _ _ = false from by kernel_rfl]; exact Bool.false_ne_true))) | (refine hl_done ?_) | gi_step)
            refine callsIn_wide.2 ((rbefore_i x z _).mono ?_)
            rintro e9 w2 ⟨rfl, hE2⟩
            have hS2 := hS.trans hE2
            clear hS hE2 hy1 hcx1
            have hS := hS2
            clear hS2
            have HE2 := Lib.hid (HQ.out.1.trans hS)
            have HOW := Lib.hid (HQ.out.2.1.ext spnE hS)
            have hy2 := HY.out.1.keeps hS (fun hf => hf)
            unfold C9 at hy2
            cases hbf : before x z
            · have HB := Lib.hid (show (l.take (i + 1)).filter (fun y => before x y) = (l.take i).filter fun y => before x y from by rw [HY.out.2.1, filter_snoc, hbf]; simp)
              clear hbf
              go_wp2_with (first | (refine' hl_q rfl rfl rfl (fun _ => ?_) ?_; rotate_left; (go_simp <;> (try go_bits) <;> rfl); (try simp only [Act.put, List.setIfInBounds_toArray, List.set_cons_zero, List.set_cons_succ])) | (refine' hl_rS rfl rfl rfl hS ?_ ?_; rotate_left; (intro w9 hS9; (first | have hc9 := Ext.cells hS9 | have hc9 := Keeps.cells hS9); (go_simp <;> rfl)); (try simp only [Act.put, List.setIfInBounds_toArray, List.set_cons_zero, List.set_cons_succ])) | (refine' hl_r rfl rfl rfl ?_ ?_; rotate_left; (rintro w9 (rfl | hS9); (go_simp <;> rfl); (first | have hc9 := Ext.cells hS9 | have hc9 := Keeps.cells hS9 | (try dsimp only at hS9)); (go_simp <;> rfl)); (try simp only [Act.put, List.setIfInBounds_toArray, List.set_cons_zero, List.set_cons_succ])) | (refine' hl_s rfl rfl ?_; (try simp only [Act.put, List.setIfInBounds_toArray, List.set_cons_zero, List.set_cons_succ])) | (refine hl_e rfl rfl rfl (fun K hK => ?_)) | (with_reducible refine And.intro (fun hn => ?_) ?_; (first | exact hS | exact Keeps.alloc hS _ | exact absurd hn (by rw [show needS _ _ = false from by kernel_rfl]; exact Bool.false_ne_true))) | (refine hl_done ?_) | gi_step)
              go_roundg (gk - 1)
              case measure => omega
              case rel => exact ⟨i + 1, by simp, by omega, HE2.out, by rw [HB.out]; exact HOW.out⟩
            · have HB := Lib.hid (show (l.take (i + 1)).filter (fun y => before x y) = ((l.take i).filter fun y => before x y) ++ [z] from by rw [HY.out.2.1, filter_snoc, hbf]; simp)
              clear hbf
              go_wp2_with (first | (at_builtin; (refine Ek.app' spnE rfl _ _ rfl wa.heap.size u5 (T ++ [x] ++ (l.take i).filter fun y => before x y) [z] rfl (HOW.out.ext spnE ((Keeps.refl _ _).alloc _)) (Ek.reads_new spnE _ z _ _ rfl) ?c1 ?c2 ?_)) | (refine' hl_q rfl rfl rfl (fun _ => ?_) ?_; rotate_left; (go_simp <;> (try go_bits) <;> rfl); (try simp only [Act.put, List.setIfInBounds_toArray, List.set_cons_zero, List.set_cons_succ])) | (refine' hl_rS rfl rfl rfl hS ?_ ?_; rotate_left; (intro w9 hS9; (first | have hc9 := Ext.cells hS9 | have hc9 := Keeps.cells hS9); (go_simp <;> rfl)); (try simp only [Act.put, List.setIfInBounds_toArray, List.set_cons_zero, List.set_cons_succ])) | (refine' hl_r rfl rfl rfl ?_ ?_; rotate_left; (rintro w9 (rfl | hS9); (go_simp <;> rfl); (first | have hc9 := Ext.cells hS9 | have hc9 := Keeps.cells hS9 | (try dsimp only at hS9)); (go_simp <;> rfl)); (try simp only [Act.put, List.setIfInBounds_toArray, List.set_cons_zero, List.set_cons_succ])) | (refine' hl_s rfl rfl ?_; (try simp only [Act.put, List.setIfInBounds_toArray, List.set_cons_zero, List.set_cons_succ])) | (refine hl_e rfl rfl rfl (fun K hK => ?_)) | (with_reducible refine And.intro (fun hn => ?_) ?_; (first | exact hS | exact Keeps.alloc hS _ | exact absurd hn (by rw [show needS _ _ = false from by kernel_rfl]; exact Bool.false_ne_true))) | (refine hl_done ?_) | gi_step)
              case c1 =>
                have h1 := HS.out.2.2.2
                have h2 : ((l.take i).filter fun y => before x y).length ≤ (l.take i).length := List.length_filter_le _ _
                have h3 := HT2.out.2
                rw [List.length_take] at h2
                simp only [List.length_append, List.length_singleton]; omega
              case c2 => exact Nat.le_trans HE2.out.size ((Keeps.refl Non _).alloc _).size
              intro v9 w9 hown9 hgr9 _ _
              have H9 := Lib.hid (And.intro hown9 ((HOW.out.ext spnE ((Keeps.refl Non _).alloc _)).grow spnE (HE2.out.trans ((Keeps.refl Non _).alloc _)) (Nat.le_refl _) hgr9))
              clear hown9 hgr9
              go_wp2_with fail
              go_roundg (gk - 1)
              case measure => omega
              case rel => exact ⟨i + 1, by simp, by omega, H9.out.2, by rw [HB.out, show T ++ [x] ++ (((l.take i).filter fun y => before x y) ++ [z]) = T ++ x :: (((l.take i).filter fun y => before x y) ++ [z]) from by simp]; exact H9.out.1⟩
          · have HD := Lib.hid (show T ++ [x] ++ (l.take i).filter (fun y => before x y) = refInsert l x from by
              have : i = l.length := by have := HNL.out; omega
              rw [this, List.take_length, HT2.out.1]; unfold refInsert; simp)
            clear hEq
            go_wp2_with fail
            go_ret
            exact ⟨_, rfl, by rw [← HD.out]; exact HQ.out.2.1.mono spnE HS.out.2.1.size, HS.out.2.1.trans HQ.out.1⟩
theorem index_find (p : Spn → Bool) (l : List Spn) : (indexOf p l = -1 ∧ l.find? p = none) ∨ ∃ i, ∃ h : i < l.length, indexOf p l = i ∧ l.find? p = some l[i] := by
  unfold indexOf
  cases h : l.findIdx? p with
  | none =>
    rw [List.findIdx?_eq_none_iff] at h
    exact .inl ⟨rfl, List.find?_eq_none.2 fun x hx => by rw [h x hx]; simp⟩
  | some i =>
    rw [List.findIdx?_eq_some_iff_getElem] at h
    obtain ⟨h1, h2, h3⟩ := h
    exact .inr ⟨i, h1, rfl, List.find?_eq_some_iff_getElem.2 ⟨h2, i, h1, rfl, fun j hj => by simpa using h3 j hj⟩⟩
theorem refSet_snoc (l : List Spn) (x : Spn) : refSet (l ++ [x]) = refStep (refSet l) x := by unfold refSet; rw [List.foldl_append]; rfl
theorem refInsert_mem {l : List Spn} {x y : Spn} (h : y ∈ refInsert l x) : y ∈ l ∨ y = x := by
  unfold refInsert at h
  rw [List.mem_append, List.mem_cons] at h
  rcases h with h | h | h
  · exact .inl ((List.takeWhile_prefix _).subset h)
  · exact .inr h
  · exact .inl (List.mem_filter.1 h).1
theorem refStep_all {q : Spn → Prop} {l : List Spn} {x : Spn} (h : ∀ y ∈ l, q y) (hx : q (kept x)) : ∀ y ∈ refStep l x, q y := by
  have hi : ∀ y ∈ refInsert l (kept x), q y := fun y hy => (refInsert_mem hy).elim (h y) (fun e => e ▸ hx)
  unfold refStep
  split
  · split
    · exact hi
    · split
      · exact hi
      · exact h
  · exact h
theorem refSet_all {q : Spn → Prop} (l : List Spn) (h : ∀ x ∈ l, q (kept x)) : ∀ y ∈ refSet l, q y := by
  have : ∀ (l m : List Spn), (∀ y ∈ m, q y) → (∀ x ∈ l, q (kept x)) → ∀ y ∈ l.foldl refStep m, q y := by
    intro l
    induction l with
    | nil => exact fun m hm _ => hm
    | cons x l ih => exact fun m hm hl => ih _ (refStep_all hm (hl x (List.mem_cons_self ..))) fun y hy => hl y (List.mem_cons_of_mem _ hy)
  exact this l [] (fun _ h => nomatch h) h
theorem refSet_len (l : List Spn) (h : ∀ x ∈ l, x.Fits) : (refSet l).length ≤ l.length := by
  rw [(newest_own l h).2]; exact setL_len l
set_option maxHeartbeats 2000000 in
set_option maxRecDepth 20000 in
theorem rset_i (v : Value) (l : List Spn) (w : World) (h : SpnsAt w v l) (hl : l.length ≤ 1000) (hf : ∀ x ∈ l, x.Fits ∧ Shrt x) : Calls Tryz.prog 34 #[v] w (InsPost (refSet l) w) := by
  have h' := h
  obtain ⟨a, cap, rfl, hn, h0, hju⟩ := h'
  obtain ⟨n, hnl⟩ : ∃ n, n = l.length := ⟨_, rfl⟩
  rw [← hnl] at h hn ⊢
  have HS := Lib.hid (And.intro (show ∀ wr, Ext w wr → SpnsAt wr (.slice a n cap) l from fun wr k => h.ext k) (And.intro hf hl))
  have HNL := Lib.hid hnl
  clear h h0 hju hnl hf hl
  go_enter Tryz.func34, Tryz.ntmps34
  go_wp2_with fail
  go_loopg [3, 4] n (fun k p3 p4 wr => ∃ j : Nat, p4 = .int .i64 j ∧ j + k = n ∧ Ext w wr ∧ spnE.Own w.heap.size p3 (refSet (l.take j)) wr)
  case atStart => exact ⟨0, rfl, Nat.zero_add _, Keeps.refl _ _, Ek.Own.nil spnE _ _⟩
  case round =>
    obtain ⟨j, rfl, hj, hE, hown⟩ := hrel
    have HA := Lib.hid (And.intro hE hown)
    clear hown
    by_cases hc1 : (j : Int) < n
    · have hjl : j < l.length := by have := HNL.out; omega
      obtain ⟨g, o, rfl, hc9⟩ := (HS.out.1 wr hE).at hjl
      have hy := hc9 j hjl
      obtain ⟨y, hyl⟩ : ∃ y, y = l[j] := ⟨_, rfl⟩
      rw [← hyl] at hy
      have hym : y ∈ l := by rw [hyl]; exact List.getElem_mem hjl
      have HY := Lib.hid (And.intro hy (And.intro (HS.out.2.1 y hym) (show l.take (j + 1) = l.take j ++ [y] from by rw [hyl]; exact (List.take_append_getElem hjl).symm)))
      unfold C9 at hy
      clear hc9 hyl hE hym
      go_wp2_with fail
      refine (rmay_i y HY.out.2.1.1 HY.out.2.1.2.1 HY.out.2.1.2.2 _).mono ?_
      rintro e9 w1 ⟨rfl, hE1⟩
      have HE1 := Lib.hid (And.intro (HA.out.1.trans hE1) hE1)
      have hy1 := HY.out.1.keeps hE1 (fun hf => hf)
      unfold C9 at hy1
      clear hE1 hy
      cases hm : may y
      · have HM := Lib.hid (show refSet (l.take (j + 1)) = refSet (l.take j) from by rw [HY.out.2.2, refSet_snoc]; unfold refStep; rw [hm]; rfl)
        rw [mayE_f hm]
        clear hm
        go_wp2_with fail
        go_roundg (gk - 1)
        case measure => omega
        case rel => exact ⟨j + 1, by simp, by omega, HE1.out.1, by rw [HM.out]; exact HA.out.2.ext spnE HE1.out.2⟩
      · have HM := Lib.hid hm
        rw [mayE_t hm]
        clear hm
        go_wp2_with fail
        refine (rkept_i y _).mono ?_
        rintro e9 w2 ⟨rfl, hE2⟩
        have HE2 := Lib.hid (And.intro (HE1.out.1.trans hE2) (HE1.out.2.trans hE2))
        clear hE2 hy1
        obtain ⟨x, hx⟩ : ∃ x, x = kept y := ⟨_, rfl⟩
        have HX := Lib.hid (And.intro hx (And.intro (show x.Fits from by rw [hx]; exact kept_fits HY.out.2.1.1) (show Shrt x from by rw [hx]; exact HY.out.2.1.2)))
        rw [← hx]
        clear hx
        go_wp2_with fail
        obtain ⟨w3, hw3⟩ : ∃ w3, w3 = w2.alloc (.cells (spnC x) 48) := ⟨_, rfl⟩
        have hE3 : Ext w2 w3 := by rw [hw3]; exact (Keeps.refl _ _).alloc _
        have hN3 : w3.heap[w2.heap.size]? = some (.cells (spnC x) 48 (0, 0)) := by rw [hw3]; exact World.alloc_heap_new w2 _
        rw [← hw3]
        obtain ⟨b, hb⟩ : ∃ b, b = w2.heap.size := ⟨_, rfl⟩
        rw [← hb] at hN3 ⊢
        have HE3 := Lib.hid (And.intro (HE2.out.1.trans hE3) (And.intro (HA.out.2.ext spnE (HE2.out.2.trans hE3)) hN3))
        have hc3 := blk_cell hN3
        clear hw3 hb hE3 hN3
        go_wp2_with fail
        obtain ⟨L, hL⟩ : ∃ L, L = refSet (l.take j) := ⟨_, rfl⟩
        rw [← hL] at HE3
        have hLl : L.length ≤ 1000 := by
          have h1 := refSet_len (l.take j) fun z hz => (HS.out.2.1 z (List.mem_of_mem_take hz)).1
          have h2 := HS.out.2.2
          rw [hL, List.length_take] at *; omega
        have hLa : ∀ z ∈ L, z.Fits ∧ Shrt z := by
          rw [hL]
          exact refSet_all _ fun z hz => ⟨kept_fits (HS.out.2.1 z (List.mem_of_mem_take hz)).1, (HS.out.2.1 z (List.mem_of_mem_take hz)).2⟩
        have HL := Lib.hid (And.intro hL (And.intro hLl hLa))
        clear hL hLl hLa
        refine (rfind_i _ L x _ (spns_of_own HE3.out.2.1 (by have := HL.out.2.1; omega))).mono ?_
        rintro e9 w4 ⟨rfl, hE4⟩
        have HE4 := Lib.hid (And.intro (HE3.out.1.trans hE4) (And.intro (HE3.out.2.1.ext spnE hE4) ((Ext.same hE4 (lt_of_heap HE3.out.2.2)).trans HE3.out.2.2)))
        have hc4 := blk_cell HE4.out.2.2
        have HST := Lib.hid (show refSet (l.take (j + 1)) = match L.find? (fun z => oneK z x) with | none => refInsert L x | some o => if newer x o then refInsert L x else L from by
          rw [HY.out.2.2, refSet_snoc, ← HL.out.1]; unfold refStep; rw [HM.out, if_pos rfl, HX.out.1]; rfl)
        clear hE4 hc3
        rcases index_find (fun z => oneK z x) L with ⟨hi, hfn⟩ | ⟨i, hil, hi, hfs⟩
        · rw [hi]
          have HST2 := Lib.hid (show refSet (l.take (j + 1)) = refInsert L x from by rw [HST.out, hfn])
          clear hi hfn
          go_wp2_with fail
          refine wp_drawE (way [0, 1, 2, 3, 4, 5, 6, 7, 8, 9]) (by kernel_rfl) (by kernel_rfl) (fun w5 hh hd hf hS => ?_)
          have hc5 := blk_cell ((Ext.same hS (lt_of_heap HE4.out.2.2)).trans HE4.out.2.2)
          have HE5 := Lib.hid (And.intro (HE4.out.1.trans hS) (HE4.out.2.1.ext spnE hS))
          clear hh hd hf
          simp only [way]
          go_wp2_with (first | (refine' hl_q rfl rfl rfl (fun _ => ?_) ?_; rotate_left; (go_simp <;> (try go_bits) <;> rfl); (try simp only [Act.put, List.setIfInBounds_toArray, List.set_cons_zero, List.set_cons_succ])) | (refine' hl_rS rfl rfl rfl hS ?_ ?_; rotate_left; (intro w9 hS9; (first | have hc9 := Ext.cells hS9 | have hc9 := Keeps.cells hS9); (go_simp <;> rfl)); (try simp only [Act.put, List.setIfInBounds_toArray, List.set_cons_zero, List.set_cons_succ])) | (refine' hl_r rfl rfl rfl ?_ ?_; rotate_left; (rintro w9 (rfl | hS9); (go_simp <;> rfl); (first | have hc9 := Ext.cells hS9 | have hc9 := Keeps.cells hS9 | (try dsimp only at hS9)); (go_simp <;> rfl)); (try simp only [Act.put, List.setIfInBounds_toArray, List.set_cons_zero, List.set_cons_succ])) | (refine' hl_s rfl rfl ?_; (try simp only [Act.put, List.setIfInBounds_toArray, List.set_cons_zero, List.set_cons_succ])) | (refine hl_e rfl rfl rfl (fun K hK => ?_)) | (with_reducible refine And.intro (fun hn => ?_) ?_; (first | exact hS | exact Keeps.alloc hS _ | exact absurd hn (by rw [show needS _ _ = false from by kernel_rfl]; exact Bool.false_ne_true))) | (refine hl_done ?_) | gi_step)
          refine (rinsert_i _ L x _ (spns_of_own HE5.out.2 (by have := HL.out.2.1; omega)) (by have := HL.out.2.1; omega)).mono ?_
          rintro e9 w6 ⟨v6, rfl, hown6, hE6⟩
          have H6 := Lib.hid (And.intro (HE5.out.1.trans hE6) (hown6.mono spnE HE5.out.1.size))
          clear hown6 hE6
          go_wp2_with fail
          go_roundg (gk - 1)
          case measure => omega
          case rel => exact ⟨j + 1, by simp, by omega, H6.out.1, by rw [HST2.out]; exact H6.out.2⟩
        · rw [hi]
          have HST2 := Lib.hid (show refSet (l.take (j + 1)) = if newer x L[i] then refInsert L x else L from by rw [HST.out, hfs])
          obtain ⟨z, hz⟩ : ∃ z, z = L[i] := ⟨_, rfl⟩
          have hzm : z ∈ L := by rw [hz]; exact List.getElem_mem hil
          rw [← hz] at HST2
          obtain ⟨av, cv, hva, hav, hcv⟩ := HE4.out.2.1.slice spnE
          subst hva
          obtain ⟨g3, o3, rfl, hc93⟩ := (spns_of_own HE4.out.2.1 (by have := HL.out.2.1; omega)).at hil
          have hz4 := hc93 i hil
          rw [← hz] at hz4
          obtain ⟨m, hm⟩ : ∃ m, m = L.length := ⟨_, rfl⟩
          have him : (i : Int) < m := by omega
          have HZ := Lib.hid (And.intro hz4 (And.intro (HL.out.2.2 z hzm) hm))
          unfold C9 at hz4
          rw [← hm]
          clear hi hfs hz hzm hav hcv hc93 hm
          go_wp2_with fail
          refine wp_drawE (way [0, 1, 2, 3, 4, 5, 6, 7, 8, 9]) (by kernel_rfl) (by kernel_rfl) (fun w5 hh hd hf hS => ?_)
          have hc5 := blk_cell ((Ext.same hS (lt_of_heap HE4.out.2.2)).trans HE4.out.2.2)
          have hz5 := HZ.out.1.keeps hS (fun hf => hf)
          unfold C9 at hz5
          clear hh hd hf
          simp only [way]
          go_wp2_with (first | (refine' hl_q rfl rfl rfl (fun _ => ?_) ?_; rotate_left; (go_simp <;> (try go_bits) <;> rfl); (try simp only [Act.put, List.setIfInBounds_toArray, List.set_cons_zero, List.set_cons_succ])) | (refine' hl_rS rfl rfl rfl hS ?_ ?_; rotate_left; (intro w9 hS9; (first | have hc9 := Ext.cells hS9 | have hc9 := Keeps.cells hS9); (go_simp <;> rfl)); (try simp only [Act.put, List.setIfInBounds_toArray, List.set_cons_zero, List.set_cons_succ])) | (refine' hl_r rfl rfl rfl ?_ ?_; rotate_left; (rintro w9 (rfl | hS9); (go_simp <;> rfl); (first | have hc9 := Ext.cells hS9 | have hc9 := Keeps.cells hS9 | (try dsimp only at hS9)); (go_simp <;> rfl)); (try simp only [Act.put, List.setIfInBounds_toArray, List.set_cons_zero, List.set_cons_succ])) | (refine' hl_s rfl rfl ?_; (try simp only [Act.put, List.setIfInBounds_toArray, List.set_cons_zero, List.set_cons_succ])) | (refine hl_e rfl rfl rfl (fun K hK => ?_)) | (with_reducible refine And.intro (fun hn => ?_) ?_; (first | exact hS | exact Keeps.alloc hS _ | exact absurd hn (by rw [show needS _ _ = false from by kernel_rfl]; exact Bool.false_ne_true))) | (refine hl_done ?_) | gi_step)
          refine callsIn_wide.2 ((rnewer_i x z HX.out.2.1 HZ.out.2.1.1 HX.out.2.2 HZ.out.2.1.2 _).mono ?_)
          rintro e9 w6 ⟨rfl, hE6⟩
          have hS6 := hS.trans hE6
          clear hS hE6 hc5 hz5
          have hS := hS6
          clear hS6
          have hc6 := blk_cell ((Ext.same hS (lt_of_heap HE4.out.2.2)).trans HE4.out.2.2)
          have HE6 := Lib.hid (And.intro (HE4.out.1.trans hS) (by rw [← HZ.out.2.2] at HE4; exact HE4.out.2.1.ext spnE hS))
          cases hnw : newer x z
          · have HN := Lib.hid hnw
            clear hnw
            go_wp2_with (first | (refine' hl_q rfl rfl rfl (fun _ => ?_) ?_; rotate_left; (go_simp <;> (try go_bits) <;> rfl); (try simp only [Act.put, List.setIfInBounds_toArray, List.set_cons_zero, List.set_cons_succ])) | (refine' hl_rS rfl rfl rfl hS ?_ ?_; rotate_left; (intro w9 hS9; (first | have hc9 := Ext.cells hS9 | have hc9 := Keeps.cells hS9); (go_simp <;> rfl)); (try simp only [Act.put, List.setIfInBounds_toArray, List.set_cons_zero, List.set_cons_succ])) | (refine' hl_r rfl rfl rfl ?_ ?_; rotate_left; (rintro w9 (rfl | hS9); (go_simp <;> rfl); (first | have hc9 := Ext.cells hS9 | have hc9 := Keeps.cells hS9 | (try dsimp only at hS9)); (go_simp <;> rfl)); (try simp only [Act.put, List.setIfInBounds_toArray, List.set_cons_zero, List.set_cons_succ])) | (refine' hl_s rfl rfl ?_; (try simp only [Act.put, List.setIfInBounds_toArray, List.set_cons_zero, List.set_cons_succ])) | (refine hl_e rfl rfl rfl (fun K hK => ?_)) | (with_reducible refine And.intro (fun hn => ?_) ?_; (first | exact hS | exact Keeps.alloc hS _ | exact absurd hn (by rw [show needS _ _ = false from by kernel_rfl]; exact Bool.false_ne_true))) | (refine hl_done ?_) | gi_step)
            go_roundg (gk - 1)
            case measure => omega
            case rel => exact ⟨j + 1, by simp, by omega, HE6.out.1, by rw [HST2.out, HN.out]; exact HE6.out.2⟩
          · have HN := Lib.hid hnw
            clear hnw
            go_wp2_with (first | (refine' hl_q rfl rfl rfl (fun _ => ?_) ?_; rotate_left; (go_simp <;> (try go_bits) <;> rfl); (try simp only [Act.put, List.setIfInBounds_toArray, List.set_cons_zero, List.set_cons_succ])) | (refine' hl_rS rfl rfl rfl hS ?_ ?_; rotate_left; (intro w9 hS9; (first | have hc9 := Ext.cells hS9 | have hc9 := Keeps.cells hS9); (go_simp <;> rfl)); (try simp only [Act.put, List.setIfInBounds_toArray, List.set_cons_zero, List.set_cons_succ])) | (refine' hl_r rfl rfl rfl ?_ ?_; rotate_left; (rintro w9 (rfl | hS9); (go_simp <;> rfl); (first | have hc9 := Ext.cells hS9 | have hc9 := Keeps.cells hS9 | (try dsimp only at hS9)); (go_simp <;> rfl)); (try simp only [Act.put, List.setIfInBounds_toArray, List.set_cons_zero, List.set_cons_succ])) | (refine' hl_s rfl rfl ?_; (try simp only [Act.put, List.setIfInBounds_toArray, List.set_cons_zero, List.set_cons_succ])) | (refine hl_e rfl rfl rfl (fun K hK => ?_)) | (with_reducible refine And.intro (fun hn => ?_) ?_; (first | exact hS | exact Keeps.alloc hS _ | exact absurd hn (by rw [show needS _ _ = false from by kernel_rfl]; exact Bool.false_ne_true))) | (refine hl_done ?_) | gi_step)
            refine (rinsert_i _ L x _ (spns_of_own HE6.out.2 (by have := HL.out.2.1; omega)) (by have := HL.out.2.1; omega)).mono ?_
            rintro e9 w7 ⟨v7, rfl, hown7, hE7⟩
            have H7 := Lib.hid (And.intro (HE6.out.1.trans hE7) (hown7.mono spnE HE6.out.1.size))
            clear hown7 hE7
            go_wp2_with fail
            go_roundg (gk - 1)
            case measure => omega
            case rel => exact ⟨j + 1, by simp, by omega, H7.out.1, by rw [HST2.out, HN.out]; exact H7.out.2⟩
    · have HD := Lib.hid (show l.take j = l from by
        have : j = l.length := by have := HNL.out; omega
        rw [this, List.take_length])
      clear hE
      go_wp2_with fail
      go_ret
      exact ⟨_, rfl, by rw [← HD.out]; exact HA.out.2, HA.out.1⟩
set_option maxRecDepth 20000 in
theorem rlive_i (v : Value) (l : List Spn) (w : World) (h : SpnsAt w v l) (hl : l.length ≤ 1000) : Calls Tryz.prog 33 #[v] w (InsPost (l.filter fun x => !x.gone) w) := by
  have h' := h
  obtain ⟨a, cap, rfl, hn, h0, hju⟩ := h'
  obtain ⟨n, hnl⟩ : ∃ n, n = l.length := ⟨_, rfl⟩
  rw [← hnl] at h hn ⊢
  have HS := Lib.hid (And.intro (show ∀ wr, Ext w wr → SpnsAt wr (.slice a n cap) l from fun wr k => h.ext k) hl)
  have HNL := Lib.hid hnl
  clear h h0 hju hnl hl
  go_enter Tryz.func33, Tryz.ntmps33
  go_wp2_with fail
  go_loopg [3, 4] n (fun k p3 p4 wr => ∃ j : Nat, p4 = .int .i64 j ∧ j + k = n ∧ Ext w wr ∧ spnE.Own w.heap.size p3 ((l.take j).filter fun x => !x.gone) wr)
  case atStart => exact ⟨0, rfl, Nat.zero_add _, Keeps.refl _ _, Ek.Own.nil spnE _ _⟩
  case round =>
    obtain ⟨j, rfl, hj, hE, hown⟩ := hrel
    have HA := Lib.hid (And.intro hE hown)
    clear hown
    by_cases hc1 : (j : Int) < n
    · have hjl : j < l.length := by have := HNL.out; omega
      obtain ⟨g, o, rfl, hc9⟩ := (HS.out.1 wr hE).at hjl
      have hy := hc9 j hjl
      obtain ⟨y, hyl⟩ : ∃ y, y = l[j] := ⟨_, rfl⟩
      rw [← hyl] at hy
      have HY := Lib.hid (And.intro hy (show (l.take (j + 1)).filter (fun x => !x.gone) = ((l.take j).filter fun x => !x.gone) ++ if !y.gone then [y] else [] from by rw [← List.take_append_getElem hjl, filter_snoc, ← hyl]))
      unfold C9 at hy
      clear hc9 hyl hE
      cases hg : y.gone
      · have HG := Lib.hid (show (l.take (j + 1)).filter (fun x => !x.gone) = ((l.take j).filter fun x => !x.gone) ++ [y] from by rw [HY.out.2, hg]; rfl)
        rw [hg] at hy
        have HGG := Lib.hid hg
        clear hg
        go_wp2_with (first | (at_builtin; (refine Ek.app' spnE rfl _ _ rfl w.heap.size u3 ((l.take j).filter fun x => !x.gone) [y] rfl (HA.out.2.ext spnE ((Keeps.refl _ _).alloc _)) (Ek.reads_new spnE _ y _ _ (by show _ = [_, _, _, _, _, _, _, _, Value.bool y.gone]; rw [HGG.out])) ?c1 ?c2 ?_)) | fail)
        case c1 =>
          have h1 := HS.out.2
          have h2 : ((l.take j).filter fun x => !x.gone).length ≤ (l.take j).length := List.length_filter_le _ _
          rw [List.length_take] at h2
          simp only [List.length_singleton]; omega
        case c2 => exact Nat.le_trans HA.out.1.size ((Keeps.refl Non _).alloc _).size
        intro v8 w8 hown8 hgr8 _ _
        have H8 := Lib.hid (And.intro hown8 ((HA.out.2.ext spnE ((Keeps.refl Non _).alloc _)).grow spnE (HA.out.1.trans ((Keeps.refl Non _).alloc _)) (Nat.le_refl _) hgr8))
        clear hown8 hgr8
        go_wp2_with fail
        go_roundg (gk - 1)
        case measure => omega
        case rel => exact ⟨j + 1, by simp, by omega, H8.out.2, by rw [HG.out]; exact H8.out.1⟩
      · have HG := Lib.hid (show (l.take (j + 1)).filter (fun x => !x.gone) = (l.take j).filter fun x => !x.gone from by rw [HY.out.2, hg]; simp)
        rw [hg] at hy
        clear hg
        go_wp2_with fail
        go_roundg (gk - 1)
        case measure => omega
        case rel => exact ⟨j + 1, by simp, by omega, HA.out.1, by rw [HG.out]; exact HA.out.2⟩
    · have HD := Lib.hid (show l.take j = l from by
        have : j = l.length := by have := HNL.out; omega
        rw [this, List.take_length])
      clear hE
      go_wp2_with fail
      go_ret
      exact ⟨_, rfl, by rw [← HD.out]; exact HA.out.2, HA.out.1⟩
/-- the spans of records -/
def spansL (l : List Spn) : List Spn := (setL l).filter fun x => !x.gone
theorem rspans_i (v : Value) (l : List Spn) (w : World) (h : SpnsAt w v l) (hl : l.length ≤ 1000) (hf : ∀ x ∈ l, x.Fits ∧ Shrt x) : Calls Tryz.prog 16 #[v] w (InsPost (spansL l) w) := by
  have HC := Lib.hid (rset_i v l w h hl hf)
  have HL := Lib.hid (And.intro (show refSet l = setL l from (newest_own l fun x hx => (hf x hx).1).2) hl)
  clear h hl hf
  go_enter Tryz.func16, Tryz.ntmps16
  go_wp2_with fail
  refine HC.out.mono ?_
  rintro e9 w1 ⟨v1, rfl, hown, hE⟩
  rw [HL.out.1] at hown
  have hlen := setL_len l
  have HE := Lib.hid (And.intro hE hown)
  clear hE hown
  go_wp2_with fail
  refine (rlive_i v1 (setL l) _ (spns_of_own HE.out.2 (by have := HL.out.2; omega)) (by have := HL.out.2; omega)).mono ?_
  rintro e9 w2 ⟨v2, rfl, hown2, hE2⟩
  have HE2 := Lib.hid (And.intro (HE.out.1.trans hE2) (hown2.mono spnE HE.out.1.size))
  clear hE2 hown2
  go_wp2_with fail
  go_ret
  exact ⟨v2, rfl, HE2.out.2, HE2.out.1⟩
end Go.Proofs.YtdonmmjikcbihaaGreatDoor
/- Package store: the records that are alive, where some are gone: DeleteFunc. -/
namespace Go.Proofs.YtdonmmjikcbihaaGreatDoor
open Go.RowKit Go.Proofs Go.Vc
attribute [local irreducible] Calls CallsIn Code.wp Code.wpIn
/-- an element of an own row set -/
theorem own_put9 {B : Nat} {v : Value} {l : List Spn} {w w' : World} {g : Nat} (h : spnE.Own B v l w) (hg : v.ownBlock = some g) (i : Nat) (hi : i < l.length) (x : Spn)
    (hw : w' = ((((((((w.setCell ⟨g, i * 9, none⟩ (.int .i64 x.tr)).setCell ⟨g, i * 9 + 1, none⟩ (.int .i64 x.id)).setCell ⟨g, i * 9 + 2, none⟩ (.int .i64 x.pa)).setCell ⟨g, i * 9 + 3, none⟩ (.int .i64 x.rv)).setCell ⟨g, i * 9 + 4, none⟩ (.string x.sv)).setCell ⟨g, i * 9 + 5, none⟩ (.string x.op)).setCell ⟨g, i * 9 + 6, none⟩ (.int .i64 x.st)).setCell ⟨g, i * 9 + 7, none⟩ (.int .i64 x.du)).setCell ⟨g, i * 9 + 8, none⟩ (.bool x.gone)) :
    spnE.Own B v (l.set i x) w' ∧ Only [g] w w' := by
  have o : Only [g] w w' := by
    rw [hw]
    exact ((((((((((Only.refl [g] w).setCell (by simp) _).setCell (by simp) _).setCell (by simp) _).setCell (by simp) _).setCell (by simp) _).setCell (by simp) _).setCell (by simp) _).setCell (by simp) _).setCell (by simp) _)
  refine ⟨?_, o⟩
  subst hw
  have step : ∀ (w : World) (y z : Spn) (j : Nat) (u : Value), spnE.Own B v (l.set i y) w → j < 9 → spnE.enc z = (spnE.enc y).set j u → spnE.Own B v (l.set i z) (w.setCell ⟨g, i * 9 + j, none⟩ u) := fun w y z j u hy hj he => by
    have h1 := hy.set spnE hg i j u z (by rw [List.length_set]; exact hi) hj (by rw [List.getElem_set_self]; exact he)
    rw [List.set_set] at h1
    exact h1
  have h0 : spnE.Own B v (l.set i l[i]) w := by rw [List.set_getElem_self]; exact h
  have s0 := step w l[i] { l[i] with tr := x.tr } 0 _ h0 (by decide) rfl
  have s1 := step _ _ { l[i] with tr := x.tr, id := x.id } 1 _ s0 (by decide) rfl
  have s2 := step _ _ { l[i] with tr := x.tr, id := x.id, pa := x.pa } 2 _ s1 (by decide) rfl
  have s3 := step _ _ { l[i] with tr := x.tr, id := x.id, pa := x.pa, rv := x.rv } 3 _ s2 (by decide) rfl
  have s4 := step _ _ { l[i] with tr := x.tr, id := x.id, pa := x.pa, rv := x.rv, sv := x.sv } 4 _ s3 (by decide) rfl
  have s5 := step _ _ { l[i] with tr := x.tr, id := x.id, pa := x.pa, rv := x.rv, sv := x.sv, op := x.op } 5 _ s4 (by decide) rfl
  have s6 := step _ _ { l[i] with tr := x.tr, id := x.id, pa := x.pa, rv := x.rv, sv := x.sv, op := x.op, st := x.st } 6 _ s5 (by decide) rfl
  have s7 := step _ _ { l[i] with tr := x.tr, id := x.id, pa := x.pa, rv := x.rv, sv := x.sv, op := x.op, st := x.st, du := x.du } 7 _ s6 (by decide) rfl
  have s8 := step _ _ x 8 _ s7 (by decide) rfl
  exact s8
theorem heap_setCells (g : Nat) (ty : TypeId) (f : Nat × Nat) : ∀ (vs : List Value) (o : Nat) (w : World) (c : Array Value), w.heap[g]? = some (.cells c ty f) → ∃ c', (w.setCells g o vs).heap[g]? = some (.cells c' ty f) ∧ c'.size = c.size ∧ ∀ i, i < o → c'[i]? = c[i]?
  | [], _, _, c, h => ⟨c, h, rfl, fun _ _ => rfl⟩
  | v :: vs, o, w, c, h => by
    obtain ⟨c', h1, h2, h3⟩ := heap_setCells g ty f vs (o + 1) (w.setCell ⟨g, o, none⟩ v) _ (heap_set h o v)
    refine ⟨c', h1, by rw [h2, Array.size_setIfInBounds], fun i hi => by rw [h3 i (by omega), Array.getElem?_setIfInBounds_ne (by omega)]⟩
/-- an own row cut -/
theorem own_cut {P : Program} {α : Type} (E : Ek P α) {B g n cap : Nat} {l : List α} {w w' : World} (h : E.Own B (.slice (some ⟨g, 0, none⟩) n cap) l w) (i : Nat) (hi : i ≤ l.length)
    (hw : ∀ c, w.heap[g]? = some (.cells c E.e (0, 0)) → ∃ c', w'.heap[g]? = some (.cells c' E.e (0, 0)) ∧ c'.size = c.size ∧ ∀ k, k < i * E.size → c'[k]? = c[k]?) : E.Own B (.slice (some ⟨g, 0, none⟩) i cap) (l.take i) w' := by
  have hl : (l.take i).length = i := by rw [List.length_take]; omega
  rcases h.2 with ⟨hh, _⟩ | ⟨g', cap', cur, hh, hb, hg, r1, r2, r3, r4⟩
  · cases hh
  · injection hh with e1 e2 e3
    injection e1 with e1
    injection e1 with e1
    subst e1; subst e3
    obtain ⟨c', h1, h2, h3⟩ := hw cur hg
    refine ⟨?_, .inr ⟨g, cap, c', by rw [hl], hb, h1, by rw [hl]; omega, r2, by rw [h2]; exact r3, ?_⟩⟩
    · rw [E.cells_len]
    · rw [hl, E.cells_take, ← r4, List.take_take]
      have hmul : i * E.size ≤ l.length * E.size := Nat.mul_le_mul_right _ hi
      rw [Nat.min_eq_left hmul]
      apply List.ext_getElem?
      intro k
      by_cases hk : k < i * E.size
      · rw [List.getElem?_take_of_lt hk, List.getElem?_take_of_lt hk, Array.getElem?_toList, Array.getElem?_toList, h3 k hk]
      · rw [List.getElem?_eq_none (by rw [List.length_take]; omega), List.getElem?_eq_none (by rw [List.length_take]; omega)]
/-- what lies behind is cleared; the row is cut -/
theorem own_clear {P : Program} {α : Type} (E : Ek P α) {B g n cap : Nat} {l : List α} {w : World} (h : E.Own B (.slice (some ⟨g, 0, none⟩) n cap) l w) (hz : ∀ w, (zeroValue E.e).run P w = .ok E.z w) (hz1 : ∀ u ∈ E.z.cells.toList, u.oneCell' = true) (i : Nat) (hi : i ≤ l.length) (hn : n = l.length) (ty : TypeId) :
    ∃ w', (Builtin.clear_ #[E.t] ty #[.slice (some ⟨g, i * E.size, none⟩) (n - i) (cap - i)]).run P w = .ok (.tuple #[]) w' ∧ E.Own B (.slice (some ⟨g, 0, none⟩) i cap) (l.take i) w' ∧ Keeps (fun b => b = g) w w' := by
  rcases h.2 with ⟨hh, _⟩ | ⟨g', cap', cur, hh, hb, hg, r1, r2, r3, r4⟩
  · cases hh
  · injection hh with e1 e2 e3
    injection e1 with e1
    injection e1 with e1
    subst e1; subst e3
    rcases Nat.eq_zero_or_pos (n - i) with h0 | h0
    · refine ⟨w, ?_, own_cut E h i hi fun c hc => ⟨c, hc, rfl, fun _ _ => rfl⟩, Keeps.refl _ _⟩
      rw [h0]
      simp [Builtin.clear_, run_underlying E.ht]
    · obtain ⟨vs, hvs⟩ : ∃ vs, vs = (Builtin.zeroCells E.z.cells (n - i)).toList := ⟨_, rfl⟩
      have hlen : vs.length = (n - i) * E.size := by rw [hvs]; simp [Builtin.zeroCells, E.zs]
      have hone : ∀ u ∈ vs, u.oneCell' = true := fun u hu => by
        rw [hvs] at hu
        simp only [Builtin.zeroCells, Array.toList_map, List.mem_map] at hu
        obtain ⟨k, _, rfl⟩ := hu
        have hk : k % E.z.cells.size < E.z.cells.size := Nat.mod_lt _ (by rw [E.zs]; exact E.pos)
        rw [getElem!_pos E.z.cells _ hk]
        exact hz1 _ (Array.getElem_mem_toList hk)
      have hcur : ∀ j, j < vs.length → i * E.size + j < cur.size := fun j hj => by
        rw [hlen] at hj
        have h1 : i * E.size + (n - i) * E.size = n * E.size := by rw [← Nat.add_mul]; congr 1; omega
        have h2 : n * E.size ≤ cap * E.size := Nat.mul_le_mul_right _ (by omega)
        rw [r3]; omega
      have hst := run_storeCells_cells (P := P) g (i * E.size) vs 0 w (fun j hj => by
          rw [Nat.add_zero, blk_cell hg, Array.getElem?_eq_getElem (hcur j hj)]; rfl) (fun j hj => blk_free hg _) hone
      rw [Nat.add_zero] at hst
      obtain ⟨m, hm⟩ : ∃ m, n - i = m + 1 := ⟨n - i - 1, by omega⟩
      refine ⟨w.setCells g (i * E.size) vs, ?_, own_cut E h i hi fun c hc => heap_setCells g E.e (0, 0) vs (i * E.size) w c hc, ?_⟩
      · rw [hm] at hvs ⊢
        simp [Builtin.clear_, run_underlying E.ht, hz, ← hvs, hst]
      · have hk := World.keptBut_setCells g (may := fun p => p.block = g) vs (i * E.size) w (fun _ _ => rfl)
        refine ⟨?_, fun b hb hne => World.heap_setCells_other w g _ vs hb hne, World.os_setCells _ _ _ _, World.output_setCells _ _ _ _⟩
        have : ∀ (vs : List Value) (o : Nat) (w : World), (w.setCells g o vs).heap.size = w.heap.size := by
          intro vs
          induction vs with
          | nil => exact fun _ _ => rfl
          | cons u vs ih => exact fun o w => (ih (o + 1) _).trans ((Only.refl [g] w).setCell (by simp) u).size
        rw [this]; exact Nat.le_refl _
theorem spn_zero : ∀ w, (zeroValue spnE.e).run Tryz.prog w = .ok spnE.z w := fun w => by kernel_rfl
theorem spn_one : ∀ u ∈ spnE.z.cells.toList, u.oneCell' = true := by
  intro u hu
  have hu' : u ∈ [Value.int .i64 0, .int .i64 0, .int .i64 0, .int .i64 0, .string ⟨#[]⟩, .string ⟨#[]⟩, .int .i64 0, .int .i64 0, .bool false] := hu
  simp only [List.mem_cons, List.not_mem_nil, or_false] at hu'
  rcases hu' with rfl | rfl | rfl | rfl | rfl | rfl | rfl | rfl | rfl <;> rfl
theorem index_gone (l : List Spn) : (∀ x ∈ l, x.gone = false) ∨ ∃ i0, ∃ h : i0 < l.length, l[i0].gone = true ∧ ∀ i (hi : i < i0), (l[i]'(Nat.lt_trans hi h)).gone = false := by
  cases h : l.findIdx? (fun x => x.gone) with
  | none =>
    rw [List.findIdx?_eq_none_iff] at h
    exact .inl h
  | some i =>
    rw [List.findIdx?_eq_some_iff_getElem] at h
    obtain ⟨h1, h2, h3⟩ := h
    exact .inr ⟨i, h1, h2, fun j hj => by simpa using h3 j hj⟩
def DelPost (B : Nat) (v : Value) (m : List Spn) (w : World) (e : Ending) (w' : World) : Prop := ∃ v', e = .returned v' ∧ spnE.Own B v' m w' ∧ Keeps (fun b => v.ownBlock = some b) w w'
theorem own_c9 {B g n cap : Nat} {R : List Spn} {w : World} (h : spnE.Own B (.slice (some ⟨g, 0, none⟩) n cap) R w) (hl : R.length ≤ 1000000) (j : Nat) (hj : j < R.length) (hn : n = R.length) : C9 w g (j * 9) R[j] := by
  subst hn
  obtain ⟨g', o', e, hc⟩ := (spns_of_own h hl).at hj
  injection e with e
  injection e with e1 e2 _
  subst e1; subst e2
  have := hc j hj
  rwa [Nat.zero_add] at this
theorem own_blk {B g n cap : Nat} {R : List Spn} {w : World} (h : spnE.Own B (.slice (some ⟨g, 0, none⟩) n cap) R w) : ∃ c, w.heap[g]? = some (.cells c spnE.e (0, 0)) := by
  rcases h.2 with ⟨hh, _⟩ | ⟨g', cap', cur, hh, hb, hg, _⟩
  · cases hh
  · injection hh with e1 _ _
    injection e1 with e1
    injection e1 with e1
    subst e1; exact ⟨cur, hg⟩
set_option maxHeartbeats 2000000 in
set_option maxRecDepth 20000 in
theorem delete_i (B : Nat) (v : Value) (l : List Spn) (w : World) (h : spnE.Own B v l w) (hl : l.length ≤ 1000000) : Calls Tryz.prog 77 #[v, .func (.func 79) #[] #[]] w (DelPost B v (l.filter fun x => !x.gone) w) := by
  by_cases hg : ∀ x ∈ l, x.gone = false
  · refine (delete0_i v l w (spns_of_own h hl) hg).mono ?_
    rintro e w' ⟨rfl, hE⟩
    have hf : l.filter (fun x => !x.gone) = l := List.filter_eq_self.2 fun x hx => by rw [hg x hx]; rfl
    exact ⟨v, rfl, by rw [hf]; exact h.ext spnE hE, hE.keeps⟩
  · obtain ⟨i0, hi0, hgi, hbef⟩ : ∃ i0, ∃ h : i0 < l.length, l[i0].gone = true ∧ ∀ i (hi : i < i0), (l[i]'(Nat.lt_trans hi h)).gone = false := by
      rcases index_gone l with h1 | h1
      · exact absurd h1 hg
      · exact h1
    have HI := Lib.hid (indexfunc_live 0 (fun x => x.gone) v l w (spns_of_own h hl) (fun x _ w' _ => live1_i x w'))
    have HX := Lib.hid (show indexOf (fun x => x.gone) l = i0 from indexOf_hit hi0 hgi hbef)
    obtain ⟨g, cap, rfl⟩ : ∃ g cap, v = .slice (some ⟨g, 0, none⟩) l.length cap := by
      rcases h.form spnE with hf | ⟨g, cap, hf, _⟩
      · obtain ⟨a', c', e', h0, _⟩ := h.slice spnE
        rw [hf] at e'; injection e' with e1 _ _
        rw [h0 e1.symm] at hi0; exact absurd hi0 (Nat.not_lt_zero _)
      · exact ⟨g, cap, hf⟩
    obtain ⟨n, hnl⟩ : ∃ n, n = l.length := ⟨_, rfl⟩
    rw [← hnl] at HI h ⊢
    have hcap : n ≤ cap := by
      obtain ⟨a', c', e', _, hc⟩ := h.slice spnE
      injection e' with _ _ e3
      rw [e3, hnl]; exact hc
    have hfl : (l.take (i0 + 1)).filter (fun x => !x.gone) = l.take i0 := by
      have e : l.take (i0 + 1) = l.take i0 ++ [l[i0]] := (List.take_append_getElem hi0).symm
      rw [e, List.filter_append]
      have e1 : [l[i0]].filter (fun x => !x.gone) = [] := by simp [hgi]
      have e2 : (l.take i0).filter (fun x => !x.gone) = l.take i0 := List.filter_eq_self.2 fun x hx => by
        obtain ⟨k, hk, rfl⟩ := List.getElem_of_mem hx
        rw [List.length_take] at hk
        rw [List.getElem_take, hbef k (by omega)]; rfl
      rw [e1, e2, List.append_nil]
    have HN := Lib.hid (And.intro hnl (And.intro hl hfl))
    have hni : i0 < n := by omega
    have hnb : (n : Int) ≤ 1000000 := by omega
    have HO := Lib.hid h
    clear hnl hl hi0 hgi hbef hg h hfl
    go_enter Tryz.func77, Tryz.ntmps77
    go_wp2_with fail
    refine HI.out.mono ?_
    rintro e9 w1 ⟨rfl, hE1⟩
    rw [HX.out]
    have hb0 : ((i0 : Int) == -1) = false := by rw [beq_eq_false_iff_ne]; omega
    have HE1 := Lib.hid hE1
    clear hE1
    go_wp2_with fail
    go_loopg [5, 6] (n - (i0 + 1)) (fun k p5 p6 wr => ∃ (i j : Nat) (R : List Spn), p5 = .int .i64 i ∧ p6 = .int .i64 j ∧ j + k = n ∧ i < j ∧ R.length = n ∧ spnE.Own B (.slice (some ⟨g, 0, none⟩) n cap) R wr ∧ Keeps (fun b => b = g) w wr ∧ R.take i = (l.take j).filter (fun x => !x.gone) ∧ R.drop j = l.drop j)
    case atStart => exact ⟨i0, i0 + 1, l, rfl, by simp, (show i0 + 1 + (n - (i0 + 1)) = n by omega), Nat.lt_succ_self _, HN.out.1.symm, HO.out.ext spnE HE1.out, HE1.out.keeps, HN.out.2.2.symm, rfl⟩
    case round =>
      obtain ⟨i, j, R, rfl, rfl, hj, hij, hRl, hown, hk, htk, hdr⟩ := hrel
      have HR := Lib.hid (And.intro hown (And.intro hk (And.intro htk (And.intro hdr hRl))))
      clear hown hk htk hdr hRl
      by_cases hjn : (j : Int) < n
      · have hjl : j < l.length := by have := HN.out.1; omega
        have hjR : j < R.length := by have := HR.out.2.2.2.2; omega
        have hRj : R[j] = l[j] := by
          have h1 := congrArg (fun m => m[0]?) HR.out.2.2.2.1
          simp only [List.getElem?_drop, Nat.add_zero] at h1
          rw [List.getElem?_eq_getElem hjR, List.getElem?_eq_getElem hjl] at h1
          injection h1
        obtain ⟨y, hyl⟩ : ∃ y, y = l[j] := ⟨_, rfl⟩
        have hy := own_c9 HR.out.1 (by have := HR.out.2.2.2.2; omega) j hjR HR.out.2.2.2.2.symm
        rw [hRj, ← hyl] at hy
        have hfs : (l.take (j + 1)).filter (fun x => !x.gone) = ((l.take j).filter fun x => !x.gone) ++ if !y.gone then [y] else [] := by
          have e : l.take (j + 1) = l.take j ++ [y] := by rw [hyl]; exact (List.take_append_getElem hjl).symm
          rw [e, List.filter_append]; congr 1; simp only [List.filter_cons, List.filter_nil]
        have HY := Lib.hid (And.intro hy hfs)
        unfold C9 at hy
        clear hyl hRj hfs
        go_wp2_with fail
        obtain ⟨w2, hw2⟩ : ∃ w2, w2 = wr.alloc (.cells (spnC y) 48) := ⟨_, rfl⟩
        have hE2 : Ext wr w2 := by rw [hw2]; exact (Keeps.refl _ _).alloc _
        have hN2 : w2.heap[wr.heap.size]? = some (.cells (spnC y) 48 (0, 0)) := by rw [hw2]; exact World.alloc_heap_new wr _
        rw [← hw2]
        obtain ⟨p, hp⟩ : ∃ p, p = wr.heap.size := ⟨_, rfl⟩
        rw [← hp] at hN2 ⊢
        have HP := Lib.hid (And.intro hE2 (And.intro hN2 hp))
        have hcp := blk_cell hN2
        clear hw2 hE2 hN2 hp hy
        go_wp2_with fail
        refine (live1_i y _).mono ?_
        rintro e9 w3 ⟨rfl, hE3⟩
        have HE3 := Lib.hid (And.intro (HP.out.1.trans hE3) ((Ext.same hE3 (lt_of_heap HP.out.2.1)).trans HP.out.2.1))
        have hcp3 := blk_cell HE3.out.2
        clear hE3 hcp
        cases hg : y.gone
        · have HG := Lib.hid (show (l.take (j + 1)).filter (fun x => !x.gone) = ((l.take j).filter fun x => !x.gone) ++ [y] from by rw [HY.out.2, hg]; rfl)
          have hiR : i < R.length := by omega
          have hown3 := HR.out.1.ext spnE HE3.out.1
          have hz := own_c9 hown3 (by have := HR.out.2.2.2.2; omega) i hiR HR.out.2.2.2.2.symm
          obtain ⟨z, hzz⟩ : ∃ z, z = R[i] := ⟨_, rfl⟩
          rw [← hzz] at hz
          obtain ⟨cg, hcg⟩ := own_blk hown3
          have hfz := blk_free hcg
          have hlg := lt_of_heap hcg
          unfold C9 at hz
          have HOW := Lib.hid (And.intro hown3 (And.intro hiR hg))
          have hin : (i : Int) < n := by omega
          clear hown3 hcg hiR hg hzz
          go_wp2_with fail
          obtain ⟨w4, hw4⟩ : ∃ w4, w4 = _ := ⟨_, rfl⟩
          have h9 := own_put9 HOW.out.1 (g := g) rfl i HOW.out.2.1 y hw4
          rw [← hw4]
          have hmut : Keeps (fun b => b = g) w w4 := (HR.out.2.1.trans (HE3.out.1.mono fun _ _ hf => hf.elim)).trans (h9.2.keeps.mono fun b _ hb => by rw [List.mem_singleton] at hb; exact hb)
          have H9 := Lib.hid (And.intro h9.1 hmut)
          clear hw4 h9 hmut hz hfz hlg
          go_wp2_with fail
          go_roundg (gk - 1)
          case measure => omega
          case rel =>
            refine ⟨i + 1, j + 1, R.set i y, by simp, by simp, by omega, by omega, by rw [List.length_set]; exact HR.out.2.2.2.2, H9.out.1, H9.out.2, ?_, ?_⟩
            · have hiR := HOW.out.2.1
              rw [HG.out, ← HR.out.2.2.1, List.take_add_one, List.take_set_of_le (Nat.le_refl _), List.getElem?_set_self hiR]; rfl
            · rw [List.drop_set_of_lt (by omega), ← List.drop_drop, ← List.drop_drop, HR.out.2.2.2.1]
        · have HG := Lib.hid (show (l.take (j + 1)).filter (fun x => !x.gone) = (l.take j).filter fun x => !x.gone from by rw [HY.out.2, hg]; simp)
          clear hg
          go_wp2_with fail
          go_roundg (gk - 1)
          case measure => omega
          case rel =>
            refine ⟨i, j + 1, R, rfl, by simp, by omega, by omega, HR.out.2.2.2.2, HR.out.1.ext spnE HE3.out.1, HR.out.2.1.trans (HE3.out.1.mono fun _ _ hf => hf.elim), by rw [HG.out]; exact HR.out.2.2.1, ?_⟩
            rw [← List.drop_drop, ← List.drop_drop, HR.out.2.2.2.1]
      · have hjl : j = l.length := by have := HN.out.1; omega
        have HT := Lib.hid (show R.take i = l.filter fun x => !x.gone from by rw [HR.out.2.2.1, hjl, List.take_length])
        have hiR : i ≤ R.length := by have := HR.out.2.2.2.2; omega
        have hin : (i : Int) ≤ n := by have := HR.out.2.2.2.2; omega
        have hcl := fun ty => own_clear spnE HR.out.1 spn_zero spn_one i hiR HR.out.2.2.2.2.symm ty
        have HCL := Lib.hid hcl
        have hic : (i : Int) ≤ cap := by omega
        have hnc : (n : Int) ≤ cap := by omega
        clear hcl hjl hiR
        go_wp2_with fail
        obtain ⟨wc, hc, hownc, hkc⟩ := HCL.out 0
        have hrun : (Builtin.clear_ #[31] 0 #[.slice (some ⟨g, i * 9, none⟩) (n - i) (cap - i)]).run Tryz.prog wr = .ok (.tuple #[]) wc := hc
        rw [hrun]
        have HF := Lib.hid (show DelPost B (.slice (some ⟨g, 0, none⟩) n cap) (l.filter fun x => !x.gone) w (.returned (.slice (some ⟨g, 0, none⟩) i cap)) wc from ⟨_, rfl, by rw [← HT.out]; exact hownc, (HR.out.2.1.trans hkc).mono fun b _ hb => by rw [hb]; rfl⟩)
        clear hc hownc hkc hrun
        go_wp2_with fail
        go_ret
        exact HF.out
theorem living_i (v : Value) (l : List Spn) (w : World) (h : SpnsAt w v l) (hl : l.length ≤ 1000000) : Calls Tryz.prog 51 #[v] w (ClonePost (l.filter fun x => !x.gone) w) := by
  have H := Lib.hid (clone_i v l w h hl)
  have HG := Lib.hid hl
  clear h hl
  go_enter Tryz.func51, Tryz.ntmps51
  go_wp2_with fail
  refine H.out.mono ?_
  rintro e9 w1 ⟨v1, rfl, hown, hE⟩
  have HE := Lib.hid (And.intro hown hE)
  clear hown hE
  go_wp2_with fail
  refine (delete_i w.heap.size v1 l _ HE.out.1 HG.out).mono ?_
  rintro e9 w2 ⟨v2, rfl, hown2, hk2⟩
  have H2 := Lib.hid (show ClonePost (l.filter fun x => !x.gone) w (.returned v2) w2 from ⟨v2, rfl, hown2, HE.out.1.grow spnE HE.out.2 (Nat.le_refl _) hk2⟩)
  clear hown2 hk2
  go_wp2_with fail
  go_ret
  exact H2.out
end Go.Proofs.YtdonmmjikcbihaaGreatDoor
/- Package avl at [string, gossamer/api.Span]: a map as a list in order. -/
namespace Go.Vc
end Go.Vc
namespace Go.Proofs.YtdonmmjikcbihaaGreatDoor
open Go.RowKit Go.Proofs Go.Vc
attribute [local irreducible] Calls CallsIn Code.wp Code.wpIn
/-- a map that holds a list; S: the blocks in which it lies -/
def LMapss (ty : TypeId) (b o : Nat) (m : List (ByteArray × Spn)) (S : Nat → Prop) (w : World) : Prop :=
  ∃ c t, MapAt Sss w b o c ty t ∧ t.toList = m ∧ Rises cmpS m ∧ ∀ i, S i ↔ (i = b ∨ i ∈ t.blocks)
theorem LMapss.keeps {F : Nat → Prop} {ty : TypeId} {b o : Nat} {m : List (ByteArray × Spn)} {S : Nat → Prop} {w w' : World} (h : LMapss ty b o m S w) (k : Keeps F w w') (hF : ∀ i, S i → ¬ F i) : LMapss ty b o m S w' := by
  obtain ⟨c, t, hm, h1, h2, h3⟩ := h
  exact ⟨c, t, hm.keeps k (hF b ((h3 b).2 (.inl rfl))) (fun x hx => hF x ((h3 x).2 (.inr hx))), h1, h2, h3⟩
theorem LMapss.ext {ty : TypeId} {b o : Nat} {m : List (ByteArray × Spn)} {S : Nat → Prop} {w w' : World} (h : LMapss ty b o m S w) (k : Ext w w') : LMapss ty b o m S w' := h.keeps k fun _ _ hf => hf
theorem LMapss.lt {ty : TypeId} {b o : Nat} {m : List (ByteArray × Spn)} {S : Nat → Prop} {w : World} (h : LMapss ty b o m S w) {i : Nat} (hi : S i) : i < w.heap.size := by
  obtain ⟨c, t, hm, h1, h2, h3⟩ := h
  rcases (h3 i).1 hi with rfl | hx
  · exact lt_of_heap hm.blk
  · exact hm.tree.lt i hx
theorem LMapss.own {ty : TypeId} {b o : Nat} {m : List (ByteArray × Spn)} {S : Nat → Prop} {w : World} (h : LMapss ty b o m S w) : S b := by
  obtain ⟨c, t, hm, h1, h2, h3⟩ := h
  exact (h3 b).2 (.inl rfl)
theorem LMapss.rises {ty : TypeId} {b o : Nat} {m : List (ByteArray × Spn)} {S : Nat → Prop} {w : World} (h : LMapss ty b o m S w) : Rises cmpS m := by
  obtain ⟨c, t, hm, h1, h2, h3⟩ := h
  exact h2
/-- what a key holds, as the machine has it -/
def getvss (o : Option Spn) : Value := match o with | some v => .agg #[.int .i64 v.tr, .int .i64 v.id, .int .i64 v.pa, .int .i64 v.rv, .string v.sv, .string v.op, .int .i64 v.st, .int .i64 v.du, .bool v.gone] | none => .agg #[.int .i64 0, .int .i64 0, .int .i64 0, .int .i64 0, .string ⟨#[]⟩, .string ⟨#[]⟩, .int .i64 0, .int .i64 0, .bool false]
theorem lget_ss (key : ByteArray) {ty : TypeId} {b o : Nat} {m : List (ByteArray × Spn)} {S : Nat → Prop} {w : World} (h : LMapss ty b o m S w) : Calls Tryz.prog 58 #[.pointer (some ⟨b, o, none⟩), .string key] w fun e w' => e = .returned (.tuple #[getvss (findL cmpS key m), .bool (findL cmpS key m).isSome]) ∧ Ext w w' := by
  obtain ⟨c, t, hm, h1, h2, h3⟩ := h
  have := get_ss key t w b o hm.cellR hm.tree
  rw [T.find_toList order_S key t (by rw [h1]; exact h2), h1] at this
  exact this
def LPutss (key : ByteArray) (val : Spn) (ty : TypeId) (b o : Nat) (m : List (ByteArray × Spn)) (S : Nat → Prop) (w : World) (e : Ending) (w' : World) : Prop :=
  e = .returned (.bool (findL cmpS key m).isNone) ∧ (∃ S', LMapss ty b o (putL cmpS key val m) S' w' ∧ ∀ i, S' i → S i ∨ w.heap.size ≤ i) ∧ Keeps S w w'
theorem lput_ss (key : ByteArray) (val : Spn) {ty : TypeId} {b o : Nat} {m : List (ByteArray × Spn)} {S : Nat → Prop} {w : World} (h : LMapss ty b o m S w) (hs : m.length ≤ 1000000) : Calls Tryz.prog 61 #[.pointer (some ⟨b, o, none⟩), .string key, .agg #[.int .i64 val.tr, .int .i64 val.id, .int .i64 val.pa, .int .i64 val.rv, .string val.sv, .string val.op, .int .i64 val.st, .int .i64 val.du, .bool val.gone]] w (LPutss key val ty b o m S w) := by
  obtain ⟨c, t, hm, h1, h2, h3⟩ := h
  have hsz := T.size_toList t
  rw [h1] at hsz
  refine (mput_ss key val hm (by omega)).mono ?_
  rintro e w' ⟨N, hN, rfl, hm', hk⟩
  refine ⟨by rw [T.put_flag, T.find_toList order_S key t (by rw [h1]; exact h2), h1], ⟨fun i => i = b ∨ i ∈ (t.put cmpS N key val).1.blocks, ⟨_, _, hm', ?_, rises_putL order_S _ _ _ h2, fun i => Iff.rfl⟩, ?_⟩, hk.mono fun i _ hi => (h3 i).2 hi⟩
  · rw [T.put_toList order_S _ _ _ _ (by rw [h1]; exact h2), h1]
  · rintro i (rfl | hi)
    · exact .inl ((h3 i).2 (.inl rfl))
    · rcases T.put_blocks _ _ _ _ _ i hi with hi | rfl
      · exact .inl ((h3 i).2 (.inr hi))
      · exact .inr hN
def LDropss (key : ByteArray) (ty : TypeId) (b o : Nat) (m : List (ByteArray × Spn)) (S : Nat → Prop) (w : World) (e : Ending) (w' : World) : Prop :=
  e = .returned (.bool (findL cmpS key m).isSome) ∧ (∃ S', LMapss ty b o (dropL cmpS key m) S' w' ∧ ∀ i, S' i → S i) ∧ Keeps S w w'
end Go.Proofs.YtdonmmjikcbihaaGreatDoor
/- Package store: Alive; package delta: without, Between. -/
namespace Go.Proofs.YtdonmmjikcbihaaGreatDoor
open Go.RowKit Go.Proofs Go.Vc
attribute [local irreducible] Calls CallsIn Code.wp Code.wpIn
attribute [local go_sem high] neq_spn
attribute [local go_sem] Oper.semAt_some
theorem alive_i (v u : Value) (l m : List Spn) (w : World) (h : SpnsAt w v l) (k : SpnsAt w u m) (hl : l.length ≤ 1000000) (hm : m.length ≤ 1000000) : Calls Tryz.prog 31 #[.agg #[v, u]] w (AlivePost (l.filter fun x => !x.gone) (m.filter fun x => !x.gone) w) := by
  obtain ⟨wa, hwa⟩ : ∃ wa, wa = (w.alloc (.cells #[v, u] 36)).alloc (.cells #[.slice none 0 0, .slice none 0 0] 36) := ⟨_, rfl⟩
  have hE1 : Ext w (w.alloc (.cells #[v, u] 36)) := (Keeps.refl _ w).alloc _
  have hE : Ext w wa := by rw [hwa]; exact hE1.alloc _
  have hN0 : (w.alloc (.cells #[v, u] 36)).heap[w.heap.size]? = some (.cells #[v, u] 36 (0, 0)) := World.alloc_heap_new w _
  have hN : wa.heap[w.heap.size]? = some (.cells #[v, u] 36 (0, 0)) := by
    rw [hwa]; exact (Ext.same ((Keeps.refl Non _).alloc _) (lt_of_heap hN0)).trans hN0
  have hR : wa.heap[w.heap.size + 1]? = some (.cells #[.slice none 0 0, .slice none 0 0] 36 (0, 0)) := by
    have := World.alloc_heap_new (w.alloc (.cells #[v, u] 36)) (.cells #[.slice none 0 0, .slice none 0 0] 36)
    rw [World.size_alloc] at this; rw [hwa]; exact this
  obtain ⟨c, hc⟩ : ∃ c, c = w.heap.size := ⟨_, rfl⟩
  rw [← hc] at hN hR
  have H := Lib.hid (And.intro (h.ext hE) (And.intro (k.ext hE) (And.intro hE (And.intro hN hR))))
  have HL := Lib.hid (And.intro hl hm)
  have hcw := blk_cell hN
  obtain ⟨l2, hl2⟩ : ∃ l2, l2 = l.filter fun x => !x.gone := ⟨_, rfl⟩
  obtain ⟨m2, hm2⟩ : ∃ m2, m2 = m.filter fun x => !x.gone := ⟨_, rfl⟩
  have HLM := Lib.hid (And.intro hl2 hm2)
  rw [← hl2, ← hm2]
  clear h k hE hE1 hN0 hN hR hl hm hl2 hm2
  go_enter Tryz.func31, Tryz.ntmps31
  go_wp2_with fail
  rw [← hwa, ← hc]
  have HCC := Lib.hid hc
  clear hwa hc
  refine wp_drawE (way [0, 1, 3, 4, 2, 5, 6, 7]) (by kernel_rfl) (by kernel_rfl) (fun w1 hh hd hf hS => ?_)
  have hc1 := blk_cell ((Ext.same hS (lt_of_heap H.out.2.2.2.1)).trans H.out.2.2.2.1)
  clear hh hd hf
  simp only [way]
  go_wp2_with (first | (refine' hl_q rfl rfl rfl (fun _ => ?_) ?_; rotate_left; (go_simp <;> (try go_bits) <;> rfl); (try simp only [Act.put, List.setIfInBounds_toArray, List.set_cons_zero, List.set_cons_succ])) | (refine' hl_rS rfl rfl rfl hS ?_ ?_; rotate_left; (intro w9 hS9; (first | have hc9 := Ext.cells hS9 | have hc9 := Keeps.cells hS9); (go_simp <;> rfl)); (try simp only [Act.put, List.setIfInBounds_toArray, List.set_cons_zero, List.set_cons_succ])) | (refine' hl_r rfl rfl rfl ?_ ?_; rotate_left; (rintro w9 (rfl | hS9); (go_simp <;> rfl); (first | have hc9 := Ext.cells hS9 | have hc9 := Keeps.cells hS9 | (try dsimp only at hS9)); (go_simp <;> rfl)); (try simp only [Act.put, List.setIfInBounds_toArray, List.set_cons_zero, List.set_cons_succ])) | (refine' hl_s rfl rfl ?_; (try simp only [Act.put, List.setIfInBounds_toArray, List.set_cons_zero, List.set_cons_succ])) | (refine hl_e rfl rfl rfl (fun K hK => ?_)) | (with_reducible refine And.intro (fun hn => ?_) ?_; (first | exact hS | exact Keeps.alloc hS _ | exact absurd hn (by rw [show needS _ _ = false from by kernel_rfl]; exact Bool.false_ne_true))) | (refine hl_done ?_) | gi_step)
  refine callsIn_wide.2 ((living_i v l _ (H.out.1.ext hS) HL.out.1).mono ?_)
  rw [← HLM.out.1]
  rintro e9 w2 ⟨v2, rfl, hown2, hE2⟩
  have hS2 := hS.trans hE2
  have hsz1 := hS.size
  clear hS
  have hS := hS2
  clear hS2
  have hc2 := blk_cell ((Ext.same hS (lt_of_heap H.out.2.2.2.1)).trans H.out.2.2.2.1)
  have H2 := Lib.hid (And.intro hown2 hsz1)
  clear hown2 hE2 hsz1 hc1
  go_wp2_with (first | (refine' hl_q rfl rfl rfl (fun _ => ?_) ?_; rotate_left; (go_simp <;> (try go_bits) <;> rfl); (try simp only [Act.put, List.setIfInBounds_toArray, List.set_cons_zero, List.set_cons_succ])) | (refine' hl_rS rfl rfl rfl hS ?_ ?_; rotate_left; (intro w9 hS9; (first | have hc9 := Ext.cells hS9 | have hc9 := Keeps.cells hS9); (go_simp <;> rfl)); (try simp only [Act.put, List.setIfInBounds_toArray, List.set_cons_zero, List.set_cons_succ])) | (refine' hl_r rfl rfl rfl ?_ ?_; rotate_left; (rintro w9 (rfl | hS9); (go_simp <;> rfl); (first | have hc9 := Ext.cells hS9 | have hc9 := Keeps.cells hS9 | (try dsimp only at hS9)); (go_simp <;> rfl)); (try simp only [Act.put, List.setIfInBounds_toArray, List.set_cons_zero, List.set_cons_succ])) | (refine' hl_s rfl rfl ?_; (try simp only [Act.put, List.setIfInBounds_toArray, List.set_cons_zero, List.set_cons_succ])) | (refine hl_e rfl rfl rfl (fun K hK => ?_)) | (with_reducible refine And.intro (fun hn => ?_) ?_; (first | exact hS | exact Keeps.alloc hS _ | exact absurd hn (by rw [show needS _ _ = false from by kernel_rfl]; exact Bool.false_ne_true))) | (refine hl_done ?_) | gi_step)
  refine callsIn_wide.2 ((living_i u m _ (H.out.2.1.ext hS) HL.out.2).mono ?_)
  rw [← HLM.out.2]
  rintro e9 w3 ⟨u3, rfl, hown3, hE3⟩
  have hS3 := hS.trans hE3
  have hsz2 := hS.size
  clear hS
  have hS := hS3
  clear hS3
  have hN3 := (Ext.same hS (lt_of_heap H.out.2.2.2.2)).trans H.out.2.2.2.2
  have hr3 := blk_cell hN3
  have hz3 := blk_free hN3
  have hl3 := lt_of_heap hN3
  obtain ⟨a2, c2, rfl, _, _⟩ := H2.out.1.slice spnE
  obtain ⟨a3, c3, rfl, _, _⟩ := hown3.slice spnE
  have H3 := Lib.hid (And.intro (H2.out.1.ext spnE hE3) (And.intro hown3 (And.intro hsz2 (And.intro (H.out.2.2.1.trans hS) hN3))))
  clear hown3 hE3 hsz2 hc2 hN3
  go_wp2_with (first | (refine' hl_q rfl rfl rfl (fun _ => ?_) ?_; rotate_left; (go_simp <;> (try go_bits) <;> rfl); (try simp only [Act.put, List.setIfInBounds_toArray, List.set_cons_zero, List.set_cons_succ])) | (refine' hl_rS rfl rfl rfl hS ?_ ?_; rotate_left; (intro w9 hS9; (first | have hc9 := Ext.cells hS9 | have hc9 := Keeps.cells hS9); (go_simp <;> rfl)); (try simp only [Act.put, List.setIfInBounds_toArray, List.set_cons_zero, List.set_cons_succ])) | (refine' hl_r rfl rfl rfl ?_ ?_; rotate_left; (rintro w9 (rfl | hS9); (go_simp <;> rfl); (first | have hc9 := Ext.cells hS9 | have hc9 := Keeps.cells hS9 | (try dsimp only at hS9)); (go_simp <;> rfl)); (try simp only [Act.put, List.setIfInBounds_toArray, List.set_cons_zero, List.set_cons_succ])) | (refine' hl_s rfl rfl ?_; (try simp only [Act.put, List.setIfInBounds_toArray, List.set_cons_zero, List.set_cons_succ])) | (refine hl_e rfl rfl rfl (fun K hK => ?_)) | (with_reducible refine And.intro (fun hn => ?_) ?_; (first | exact hS | exact Keeps.alloc hS _ | exact absurd hn (by rw [show needS _ _ = false from by kernel_rfl]; exact Bool.false_ne_true))) | (refine hl_done ?_) | gi_step)
  obtain ⟨w4, hw4⟩ : ∃ w4, w4 = (w3.setCell ⟨c + 1, 0, none⟩ (.slice a2 l2.length c2)).setCell ⟨c + 1, 1, none⟩ (.slice a3 m2.length c3) := ⟨_, rfl⟩
  rw [← hw4]
  have hN4 : w4.heap[c + 1]? = some (.cells #[.slice a2 l2.length c2, .slice a3 m2.length c3] 36 (0, 0)) := by
    rw [hw4]; exact heap_set (heap_set H3.out.2.2.2.2 0 _) 1 _
  have o4 : Only [c + 1] w3 w4 := by rw [hw4]; exact ((Only.refl [c + 1] w3).setCell (by simp) _).setCell (by simp) _
  have hc4 := blk_cell hN4
  have hl4 := lt_of_heap hN4
  have hwc : w.heap.size = c := HCC.out.symm
  have hsz : c + 2 ≤ wa.heap.size := by have := lt_of_heap H.out.2.2.2.2; omega
  have hs12 := H2.out.2
  have hs3 := H3.out.2.2.1
  refine bodyPost_ret (v := .agg #[.slice a2 l2.length c2, .slice a3 m2.length c3]) (by simp [results, Tryz.results31, go_sem, hc4]) rfl ?_
  refine ⟨_, _, rfl, ?_, ?_, ?_⟩
  · exact (H3.out.1.keeps spnE o4.keeps (fun g hg hm => by rw [List.mem_singleton] at hm; have := (H3.out.1.lt spnE hg).1; omega)).mono spnE (by omega)
  · exact (H3.out.2.1.keeps spnE o4.keeps (fun g hg hm => by rw [List.mem_singleton] at hm; have := (H3.out.2.1.lt spnE hg).1; omega)).mono spnE (by omega)
  · exact ⟨Nat.le_trans H3.out.2.2.2.1.size (Nat.le_of_eq o4.size.symm), fun i hi _ => (o4.same i (fun hm => by rw [List.mem_singleton] at hm; omega)).trans (Ext.same H3.out.2.2.2.1 hi), (H3.out.2.2.2.1.ost).trans o4.ost⟩
theorem allocs3 (w : World) (a b c : Obj) {w1 : World} (h : w1 = ((w.alloc a).alloc b).alloc c) : Ext w w1 ∧ w1.heap[w.heap.size]? = some a ∧ w1.heap[w.heap.size + 1]? = some b ∧ w1.heap[w.heap.size + 2]? = some c ∧ w1.heap.size = w.heap.size + 3 := by
  subst h
  have h1 : (w.alloc a).heap.size = w.heap.size + 1 := World.size_alloc w a
  have h2 : ((w.alloc a).alloc b).heap.size = w.heap.size + 2 := by rw [World.size_alloc, h1]
  have e1 : Ext w (w.alloc a) := (Keeps.refl _ _).alloc _
  have e2 : Ext (w.alloc a) ((w.alloc a).alloc b) := (Keeps.refl _ _).alloc _
  have e3 : Ext ((w.alloc a).alloc b) (((w.alloc a).alloc b).alloc c) := (Keeps.refl _ _).alloc _
  refine ⟨(e1.trans e2).trans e3, ?_, ?_, ?_, by rw [World.size_alloc, h2]⟩
  · exact (Ext.same (e2.trans e3) (by omega)).trans (World.alloc_heap_new w a)
  · have := World.alloc_heap_new (w.alloc a) b
    rw [h1] at this
    exact (Ext.same e3 (by omega)).trans this
  · have := World.alloc_heap_new ((w.alloc a).alloc b) c
    rw [h2] at this; exact this
theorem reads_new2 {P : Program} {α : Type} (E : Ek P α) (W : World) (o : Obj) (x : α) (cs : Array Value) (ty : TypeId) (h : cs.toList = E.enc x) : E.Reads ((W.alloc o).alloc (.cells cs ty)) (.slice (some ⟨W.heap.size + 1, 0, none⟩) 1 1) [x] := by
  have := E.reads_new (W.alloc o) x cs ty h
  rwa [World.size_alloc] at this
/-- records of one map that are not in another one -/
def keepM (m2 : List (ByteArray × Spn)) (y : ByteArray × Spn) : Bool := match findL cmpS y.1 m2 with | some o => !same y.2 o | none => true
def withoutM (m1 m2 : List (ByteArray × Spn)) : List Spn := (m1.filter (keepM m2)).map (·.2)
theorem withoutM_snoc (m1 m2 : List (ByteArray × Spn)) (y : ByteArray × Spn) : withoutM (m1 ++ [y]) m2 = withoutM m1 m2 ++ if keepM m2 y then [y.2] else [] := by
  unfold withoutM
  rw [List.filter_append, List.map_append]; congr 1
  simp only [List.filter_cons, List.filter_nil]
  cases keepM m2 y <;> rfl
theorem withoutM_len (m1 m2 : List (ByteArray × Spn)) : (withoutM m1 m2).length ≤ m1.length := by
  unfold withoutM; rw [List.length_map]; exact List.length_filter_le _ _
set_option maxHeartbeats 4000000 in
set_option maxRecDepth 20000 in
theorem without_i (a b B : Nat) (m1 m2 : List (ByteArray × Spn)) (w : World) (h1 : SMap B a m1 w) (h2 : SMap B b m2 w) (r2 : Rises cmpS m2) (hm : m1.length ≤ 100000) :
    Calls Tryz.prog 36 #[.pointer (some ⟨a, 0, none⟩), .pointer (some ⟨b, 0, none⟩)] w (ClonePost (withoutM m1 m2) w) := by
  refine calls_of_marks Tryz.func36 rfl ?_
  simp only [Tryz.ntmps36, List.size_toArray, List.length_cons, List.length_nil, Nat.reduceAdd, Nat.reduceSub, Array.replicate_succ,
     Array.replicate_zero, List.push_toArray, List.append_toArray, List.nil_append, List.cons_append]
  gi_wp2_with fail
  refine callsIn_wide.2 ((all_ss _ _).mono ?_)
  rintro e9 w1 ⟨rfl, hw1⟩
  gi_wp2_with fail
  obtain ⟨c1, t1, hM1, htl1, _, _⟩ := h1
  have hL2 : ∃ S, LMapss 99 b 0 m2 S w := by
    obtain ⟨c2, t2, hM2, htl2, _, _⟩ := h2
    exact ⟨_, c2, t2, hM2, htl2, r2, fun i => Iff.rfl⟩
  obtain ⟨S2, hL2⟩ := hL2
  obtain ⟨n, hn⟩ : ∃ n, n = w.heap.size := ⟨_, rfl⟩
  obtain ⟨hE1, b0, b1, b2, hs1⟩ := allocs3 w _ _ _ hw1
  rw [← hw1, ← hn]
  rw [← hn] at b0 b1 b2 hs1
  clear hw1
  have hlen : t1.toList.length = m1.length := by rw [htl1]
  refine range_loop (gf := 89) (lb := #[.pointer (some ⟨n + 2, 0, none⟩)]) (xs := t1.toList.map encss) (by simp [Act.eval]) (enters_of Tryz.func89 (by kernel_rfl) rfl) (by intro x hx; simp [encss] at hx; obtain ⟨_, _, _, rfl⟩ := hx; rfl) (seqall_ss t1 (n + 2) a 0)
    (fun k W => ∃ v, W.heap[n + 1]? = some (.cells #[v] 31 (0, 0)) ∧ spnE.Own (n + 3) v (withoutM (m1.take k) m2) W ∧ W.heap[n]? = some (.cells #[.pointer (some ⟨b, 0, none⟩)] 75 (0, 0)) ∧ W.heap[n + 2]? = some (.cells #[.pointer (some ⟨a, 0, none⟩)] 75 (0, 0)) ∧ Ext w W)
    (fun _ _ _ => False) ?_ (fun _ _ _ _ h => h.elim) ?_ ?_ ?_ ?_ (fun _ _ _ _ _ _ h => h.elim)
  · rintro k W W' ⟨v, i1, i2, i3, i4, i5⟩ hbk
    exact ⟨v, hbk.same _ _ i1 (.inr rfl), i2.bk spnE hbk, hbk.same _ _ i3 (.inr rfl), hbk.same _ _ i4 (.inr rfl), ext_bk i5 hbk (by omega)⟩
  · rintro k W ⟨v, i1, i2, i3, i4, i5⟩
    exact ⟨by rw [blk_cell i4]; rfl, (hM1.ext i5).cellR, (hM1.ext i5).tree⟩
  · exact ⟨_, b1, Ek.Own.nil spnE _ _, b0, b2, hE1⟩
  · rintro lp k hk W ⟨v, i1, i2, i3, i4, i5⟩ hWs
    unfold roundStart
    have hkl : k < t1.toList.length := by simpa using hk
    have hkm : k < m1.length := by rw [← hlen]; exact hkl
    obtain ⟨⟨qk, q⟩, hq⟩ : ∃ q, q = m1[k] := ⟨_, rfl⟩
    have hxk : (t1.toList.map encss)[k] = encss (qk, q) := by rw [hq]; simp only [List.getElem_map, htl1]
    rw [hxk]
    simp only [encss, List.zip_toArray, List.zip_cons_cons, List.zip_nil_right, List.foldl_toArray, List.foldl_cons, List.foldl_nil, List.setIfInBounds_toArray, List.set_cons_zero, List.set_cons_succ]
    have hnx : withoutM (m1.take (k + 1)) m2 = withoutM (m1.take k) m2 ++ if keepM m2 (qk, q) then [q] else [] := by
      rw [← List.take_append_getElem hkm, ← hq, withoutM_snoc]
    have HV := Lib.hid (And.intro i1 (And.intro i2 (And.intro i3 (And.intro i4 i5))))
    have HL2 := Lib.hid hL2
    clear i1 i2 i3 i4 i5 hxk hL2
    gi_wp2_with fail
    have hE8 : Ext W (W.alloc (.cells (spnC q) 48)) := (Keeps.refl _ W).alloc _
    have hN8 : (W.alloc (.cells (spnC q) 48)).heap[W.heap.size]? = some (.cells (spnC q) 48 (0, 0)) := World.alloc_heap_new W _
    refine ⟨KeepsFrom.of_ext hE8, fun W2 hbk hsz2 => ?_⟩
    have hNN : ∀ {i : Nat} {o : Obj}, W.heap[i]? = some o → o.isCells = true → W2.heap[i]? = some o := fun hi hc => hbk.same _ _ ((Ext.same hE8 (lt_of_heap hi)).trans hi) (.inr hc)
    have HI := Lib.hid (And.intro (hNN HV.out.1 rfl) (And.intro (((HV.out.2.1.ext spnE hE8)).bk spnE hbk) (And.intro (hNN HV.out.2.2.1 rfl) (And.intro (hNN HV.out.2.2.2.1 rfl) (And.intro (ext_bk (HV.out.2.2.2.2.trans hE8) hbk (by omega)) (hbk.same _ _ hN8 (.inr rfl)))))))
    obtain ⟨p, hp⟩ : ∃ p, p = W.heap.size := ⟨_, rfl⟩
    rw [← hp] at HI ⊢
    have HK := Lib.hid (And.intro hnx (And.intro hkm (And.intro hs1 (And.intro hWs (And.intro hp hm)))))
    have HN := Lib.hid hn
    have hcb := blk_cell HI.out.2.2.1
    clear hE8 hN8 hbk hsz2 hNN hnx hkm hs1 hWs hkl hk hlen b0 b1 b2 hE1 hM1 htl1 hp hn hm hq h2
    gi_wp2_with fail
    refine (callsIn_wide.2 ((lget_ss qk (HL2.out.ext HI.out.2.2.2.2.1)).mono ?_)).inRound lp
    rintro e9 W3 ⟨rfl, hE3⟩
    have hp3 := (Ext.same hE3 (lt_of_heap HI.out.2.2.2.2.2)).trans HI.out.2.2.2.2.2
    have hv3 := (Ext.same hE3 (lt_of_heap HI.out.1)).trans HI.out.1
    have HE3 := Lib.hid (And.intro hE3 (And.intro hp3 hv3))
    have hcp := blk_cell hp3
    have hcv := blk_cell hv3
    have hlp := lt_of_heap hp3
    have hlv := lt_of_heap hv3
    have hzv := blk_free hv3
    clear hE3 hcb hp3 hv3
    have hstay : ∀ W4, Ext W3 W4 → keepM m2 (qk, q) = false → KeepsFrom w1.heap.size W2 W4 ∧ ∃ v, W4.heap[n + 1]? = some (.cells #[v] 31 (0, 0)) ∧ spnE.Own (n + 3) v (withoutM (m1.take (k + 1)) m2) W4 ∧ W4.heap[n]? = some (.cells #[.pointer (some ⟨b, 0, none⟩)] 75 (0, 0)) ∧ W4.heap[n + 2]? = some (.cells #[.pointer (some ⟨a, 0, none⟩)] 75 (0, 0)) ∧ Ext w W4 := fun W4 hE4 hkp => by
      have hE := HE3.out.1.trans hE4
      have hsame : ∀ {i : Nat} {o : Obj}, W2.heap[i]? = some o → W4.heap[i]? = some o := fun hi => (Ext.same hE (lt_of_heap hi)).trans hi
      refine ⟨KeepsFrom.of_ext hE, v, hsame HI.out.1, ?_, hsame HI.out.2.2.1, hsame HI.out.2.2.2.1, HI.out.2.2.2.2.1.trans hE⟩
      rw [HK.out.1, hkp]
      simp only [Bool.false_eq_true, if_false, List.append_nil]
      exact HI.out.2.1.ext spnE hE
    have HST := Lib.hid hstay
    clear hstay
    cases hfl : findL cmpS qk m2
    case' none =>
      have HW := Lib.hid (show withoutM (m1.take (k + 1)) m2 = withoutM (m1.take k) m2 ++ [q] from by rw [HK.out.1]; unfold keepM; rw [hfl]; rfl)
      clear hfl
      simp only [getvss, Option.isSome_none]
      gi_wp2_with (gi_at_builtin; refine spnE.app rfl _ _ rfl (n + 3) v (withoutM (m1.take k) m2) [q] rfl (((HI.out.2.1.ext spnE HE3.out.1).ext spnE ((Keeps.refl Non _).alloc _)).ext spnE ((Keeps.refl Non _).alloc _)) (reads_new2 spnE W3 _ q _ _ rfl) ?c1 ?c2 ?_)
    case' some o =>
      simp only [getvss, Option.isSome_some]
      cases hsm : same q o
      case' true =>
        have HW := Lib.hid (show keepM m2 (qk, q) = false from by unfold keepM; rw [hfl]; simp only [hsm]; rfl)
        have HS := Lib.hid hsm
        have hneq : (!same q o) = false := by rw [hsm]; rfl
        clear hfl hsm
        gi_wp2_with fail
        exact HST.out _ ((Keeps.refl Non _).alloc _) HW.out
      have HW := Lib.hid (show withoutM (m1.take (k + 1)) m2 = withoutM (m1.take k) m2 ++ [q] from by rw [HK.out.1]; unfold keepM; rw [hfl]; simp only [hsm]; rfl)
      have hneq : (!same q o) = true := by rw [hsm]; rfl
      clear hfl hsm
      gi_wp2_with (gi_at_builtin; refine spnE.app rfl _ _ rfl (n + 3) v (withoutM (m1.take k) m2) [q] rfl (((HI.out.2.1.ext spnE HE3.out.1).ext spnE ((Keeps.refl Non _).alloc _)).ext spnE ((Keeps.refl Non _).alloc _)) (reads_new2 spnE W3 _ q _ _ rfl) ?d1 ?d2 ?_)
    case c1 => have h1 := withoutM_len (m1.take k) m2; have h2 := HK.out.2.2.2.2.2; rw [List.length_take] at h1; rw [List.length_singleton]; omega
    case c2 => have h1 := HK.out.2.2.1; have h2 := HI.out.2.2.2.2.1.size; have h3 := HN.out; have h4 := HK.out.2.2.2.1; have h5 := HK.out.2.2.2.2.1; have h6 := lt_of_heap HE3.out.2.1; exact Nat.le_trans (show n + 3 ≤ W3.heap.size by omega) (Nat.le_trans ((Keeps.refl Non W3).alloc _).size ((Keeps.refl Non _).alloc _).size)
    case d1 => have h1 := withoutM_len (m1.take k) m2; have h2 := HK.out.2.2.2.2.2; rw [List.length_take] at h1; rw [List.length_singleton]; omega
    case d2 => have h1 := HK.out.2.2.1; have h2 := HI.out.2.2.2.2.1.size; have h3 := HN.out; have h4 := HK.out.2.2.2.1; have h5 := HK.out.2.2.2.2.1; have h6 := lt_of_heap HE3.out.2.1; exact Nat.le_trans (show n + 3 ≤ W3.heap.size by omega) (Nat.le_trans ((Keeps.refl Non W3).alloc _).size ((Keeps.refl Non _).alloc _).size)
    all_goals
      obtain ⟨M9, hM9⟩ : ∃ M9, M9 = withoutM (m1.take k) m2 ++ [q] := ⟨_, rfl⟩
      rw [← hM9] at HW ⊢
      clear hM9
      intro v9 w9 hown hgr _ _
      have hE5 : ∀ o1 o2, Ext W2 ((W3.alloc o1).alloc o2) := fun o1 o2 => (HE3.out.1.trans ((Keeps.refl Non _).alloc _)).trans ((Keeps.refl Non _).alloc _)
      have hM5 := (Mut.of_ext (n := n) (hE5 _ _)).own spnE (HI.out.2.1.ext spnE (hE5 _ _)) (by omega) hgr
      have hk : ∀ {i : Nat} {o : Obj}, W2.heap[i]? = some o → i < n + 3 → w9.heap[i]? = some o := fun hi hl => (hgr.same _ (Nat.lt_of_lt_of_le (lt_of_heap hi) (hE5 _ _).size) (fun hb => by have := (HI.out.2.1.lt spnE hb).1; omega)).trans ((Ext.same (hE5 _ _) (lt_of_heap hi)).trans hi)
      have hv9 := hk HI.out.1 (by omega)
      have H9 := Lib.hid (And.intro hown (And.intro hM5 (And.intro hv9 (And.intro (hk HI.out.2.2.1 (by omega)) (hk HI.out.2.2.2.1 (by omega))))))
      have hcv9 := blk_cell hv9
      have hzv9 := blk_free hv9
      have hlv9 := lt_of_heap hv9
      obtain ⟨a9, c9, rfl, _, _⟩ := hown.slice spnE
      clear hown hgr hE5 hM5 hk hv9
      gi_wp2_with fail
      have hM := H9.out.2.1.cell H9.out.2.2.1 (by omega) 0 (.slice a9 M9.length c9) rfl
      have ho1 := (Only.refl [n + 1] w9).setCell (p := ⟨n + 1, 0, none⟩) (by simp) (.slice a9 M9.length c9)
      refine ⟨hM.toFrom, _, heap_set H9.out.2.2.1 0 _, ?_, (ho1.same n (by simp)).trans H9.out.2.2.2.1, (ho1.same (n + 2) (by simp)).trans H9.out.2.2.2.2, hM.toExt HI.out.2.2.2.2.1 (by rw [HN.out]; exact Nat.le_refl _)⟩
      rw [HW.out]
      exact H9.out.1.keeps spnE ho1.keeps (fun g hg hm => by rw [List.mem_singleton] at hm; have := (H9.out.1.lt spnE hg).1; omega)
  · rintro D W hD ⟨v, i1, i2, i3, i4, i5⟩ hDh
    have hcv := blk_cell i1
    have hDw : w.heap.size ≤ D := by omega
    have HP := Lib.hid (show ClonePost (withoutM m1 m2) w (.returned v) (W.putObj D (.deferred none)) from by
      have hbk : Bk w.heap.size W (W.putObj D (.deferred none)) := Bk.putObj hDh rfl hDw
      have e : m1.take (t1.toList.map encss).length = m1 := by rw [List.length_map, htl1, List.take_length]
      rw [e] at i2
      exact ⟨v, rfl, (i2.bk spnE hbk).mono spnE (by omega), ext_bk i5 hbk (Nat.le_refl _)⟩)
    have HD := Lib.hid hDh
    clear i1 i2 i3 i4 i5 hM1 hL2 b0 b1 b2 hE1 htl1 hDh h2 hlen hn
    simp only [Exit.inBlock, Exit.then]
    gi_wp2_with fail
    refine leave_ret (v := v) HD.out ?_ HP.out
    simp [results, Tryz.results36, go_sem]
theorem SMap.mono {B C b : Nat} {m : List (ByteArray × Spn)} {w : World} (h : SMap B b m w) (hC : C ≤ B) : SMap C b m w := by
  obtain ⟨c, t, h1, h2, h3, h4⟩ := h
  exact ⟨c, t, h1, h2, Nat.le_trans hC h3, fun x hx => Nat.le_trans hC (h4 x hx)⟩
set_option maxRecDepth 20000 in
theorem between_i (v u : Value) (l m : List Spn) (w : World) (h : SpnsAt w v l) (k : SpnsAt w u m) (hl : l.length ≤ 100000) (hm : m.length ≤ 100000) (fl : ∀ x ∈ l, x.Fits) (fm : ∀ x ∈ m, x.Fits) :
    Calls Tryz.prog 17 #[v, u] w (AlivePost (withoutM (newestL l) (newestL m)) (withoutM (newestL m) (newestL l)) w) := by
  obtain ⟨wa, hwa⟩ : ∃ wa, wa = w.alloc (.cells #[.slice none 0 0, .slice none 0 0] 36) := ⟨_, rfl⟩
  have hE : Ext w wa := by rw [hwa]; exact (Keeps.refl _ w).alloc _
  have hN : wa.heap[w.heap.size]? = some (.cells #[.slice none 0 0, .slice none 0 0] 36 (0, 0)) := by rw [hwa]; exact World.alloc_heap_new w _
  have hsz : wa.heap.size = w.heap.size + 1 := by rw [hwa]; exact World.size_alloc w _
  obtain ⟨c, hc⟩ : ∃ c, c = w.heap.size := ⟨_, rfl⟩
  rw [← hc] at hN
  have H := Lib.hid (And.intro (h.ext hE) (And.intro (k.ext hE) (And.intro hE (And.intro hN hsz))))
  have HL := Lib.hid (And.intro hl (And.intro hm (And.intro fl fm)))
  clear h k hE hN hl hm fl fm hsz
  go_enter Tryz.func17, Tryz.ntmps17
  go_wp2_with fail
  rw [← hwa, ← hc]
  have HC := Lib.hid hc
  clear hwa hc
  refine (newest_i v l _ H.out.1 (by have := HL.out.1; omega) HL.out.2.2.1).mono ?_
  rintro e9 w1 ⟨b1, rfl, hs1, hE1⟩
  have H1 := Lib.hid (And.intro hs1 hE1)
  clear hs1 hE1
  go_wp2_with fail
  refine (newest_i u m _ (H.out.2.1.ext H1.out.2) (by have := HL.out.2.1; omega) HL.out.2.2.2).mono ?_
  rintro e9 w2 ⟨b2, rfl, hs2, hE2⟩
  have H2 := Lib.hid (And.intro (H1.out.1.ext hE2) (And.intro (hs2.mono H1.out.2.size) (H1.out.2.trans hE2)))
  clear hs2 hE2
  go_wp2_with fail
  refine (without_i b1 b2 wa.heap.size _ _ _ H2.out.1 H2.out.2.1 (newestL_rises m) (Nat.le_trans (newestL_len l) HL.out.1)).mono ?_
  rintro e9 w3 ⟨v3, rfl, hown3, hE3⟩
  have H3 := Lib.hid (And.intro hown3 (And.intro (H2.out.2.2.trans hE3) (And.intro (H2.out.1.ext hE3) (H2.out.2.1.ext hE3))))
  clear hown3 hE3
  go_wp2_with fail
  refine (without_i b2 b1 wa.heap.size _ _ _ H3.out.2.2.2 H3.out.2.2.1 (newestL_rises l) (Nat.le_trans (newestL_len m) HL.out.2.1)).mono ?_
  rintro e9 w4 ⟨v4, rfl, hown4, hE4⟩
  have hE5 := H3.out.2.1.trans hE4
  have hN5 := (Ext.same hE5 (lt_of_heap H.out.2.2.2.1)).trans H.out.2.2.2.1
  have hc5 := blk_cell hN5
  have hz5 := blk_free hN5
  have hl5 := lt_of_heap hN5
  obtain ⟨M3, hM3⟩ : ∃ M3, M3 = withoutM (newestL l) (newestL m) := ⟨_, rfl⟩
  obtain ⟨M4, hM4⟩ : ∃ M4, M4 = withoutM (newestL m) (newestL l) := ⟨_, rfl⟩
  have hsz2 := H2.out.2.2.size
  have hsz3 := H3.out.2.1.size
  have H4 := Lib.hid (And.intro (H3.out.1.ext spnE hE4) (And.intro hown4 (And.intro (H.out.2.2.1.trans hE5) (And.intro hN5 (And.intro hsz2 hsz3)))))
  rw [← hM3, ← hM4] at H4 ⊢
  obtain ⟨a3, c3, rfl, _, _⟩ := H4.out.1.slice spnE
  obtain ⟨a4, c4, rfl, _, _⟩ := H4.out.2.1.slice spnE
  have HMM := Lib.hid (And.intro hM3 hM4)
  clear hown4 hE4 hE5 hN5 hM3 hM4 H3 hsz2 hsz3
  go_wp2_with fail
  obtain ⟨w6, hw6⟩ : ∃ w6, w6 = (w4.setCell ⟨c, 0, none⟩ (.slice a3 M3.length c3)).setCell ⟨c, 1, none⟩ (.slice a4 M4.length c4) := ⟨_, rfl⟩
  rw [← hw6]
  have hN6 : w6.heap[c]? = some (.cells #[.slice a3 M3.length c3, .slice a4 M4.length c4] 36 (0, 0)) := by
    rw [hw6]; exact heap_set (heap_set H4.out.2.2.2.1 0 _) 1 _
  have o6 : Only [c] w4 w6 := by rw [hw6]; exact ((Only.refl [c] w4).setCell (by simp) _).setCell (by simp) _
  have hc6 := blk_cell hN6
  have hl6 := lt_of_heap hN6
  have hwc := HC.out
  have hsw := H.out.2.2.2.2
  have hs2 := H4.out.2.2.2.2.1
  have hs3 := H4.out.2.2.2.2.2
  refine bodyPost_ret (v := .agg #[.slice a3 M3.length c3, .slice a4 M4.length c4]) (by simp [results, Tryz.results17, go_sem, hc6]) rfl ?_
  refine ⟨_, _, rfl, ?_, ?_, ?_⟩
  · rw [← HMM.out.1]
    exact Ek.Own.mono spnE (H4.out.1.keeps spnE o6.keeps (fun g hg hm => by rw [List.mem_singleton] at hm; have := (H4.out.1.lt spnE hg).1; omega)) (Nat.le_trans (show w.heap.size ≤ wa.heap.size by omega) hs2)
  · rw [← HMM.out.2]
    exact Ek.Own.mono spnE (H4.out.2.1.keeps spnE o6.keeps (fun g hg hm => by rw [List.mem_singleton] at hm; have := (H4.out.2.1.lt spnE hg).1; omega)) (Nat.le_trans (show w.heap.size ≤ wa.heap.size by omega) hs3)
  · exact ⟨Nat.le_trans H4.out.2.2.1.size (Nat.le_of_eq o6.size.symm), fun i hi _ => (o6.same i (fun hm => by rw [List.mem_singleton] at hm; omega)).trans (Ext.same H4.out.2.2.1 hi), (H4.out.2.2.1.ost).trans o6.ost⟩
end Go.Proofs.YtdonmmjikcbihaaGreatDoor
/- Sets of records (plain): a set is the set of itself; what is between two sets. -/
namespace Go.Proofs.YtdonmmjikcbihaaGreatDoor
open Go.Vc
/-- a set: in order, each record may be, is kept, fits -/
structure IsSet (l : List Spn) : Prop where
  up : l.Pairwise fun a b => before a b = true
  may : ∀ x ∈ l, may x = true
  kept : ∀ x ∈ l, kept x = x
  fits : ∀ x ∈ l, x.Fits
theorem kept_kept (x : Spn) : kept (kept x) = kept x := by
  have : clamp (clamp x.du 0 4611686018427387904) 0 4611686018427387904 = clamp x.du 0 4611686018427387904 := by unfold clamp; omega
  unfold kept; simp only [this]
theorem kept_may' (x : Spn) : may (kept x) = may x := rfl
theorem setL_isSet (l : List Spn) (h : ∀ x ∈ l, x.Fits) : IsSet (setL l) := by
  have ha : ∀ y ∈ setL l, may y = true ∧ kept y = y ∧ y.Fits := by
    intro y hy
    obtain ⟨z, hz, rfl⟩ := List.mem_map.1 hy
    have hk := newestL_all (p := fun y => may y = true ∧ kept y = y) l (fun x _ hm => ⟨hm, kept_kept x⟩) z hz
    exact ⟨hk.1, hk.2, (newest_own l h).1.fit z hz⟩
  exact ⟨(newest_own l h).1.sorted, fun y hy => (ha y hy).1, fun y hy => (ha y hy).2.1, fun y hy => (ha y hy).2.2⟩
theorem IsSet.sub {l m : List Spn} (h : IsSet l) (hs : m.Sublist l) : IsSet m :=
  ⟨h.up.sublist hs, fun x hx => h.may x (hs.subset hx), fun x hx => h.kept x (hs.subset hx), fun x hx => h.fits x (hs.subset hx)⟩
theorem spansL_isSet (l : List Spn) (h : ∀ x ∈ l, x.Fits) : IsSet (spansL l) := (setL_isSet l h).sub List.filter_sublist
theorem spansL_alive (l : List Spn) : ∀ x ∈ spansL l, x.gone = false := fun x hx => by
  have := (List.mem_filter.1 hx).2; simpa using this
theorem spansL_len (l : List Spn) : (spansL l).length ≤ l.length := Nat.le_trans (List.length_filter_le _ _) (setL_len l)
theorem IsSet.nodup {l : List Spn} (h : IsSet l) : l.Nodup := h.up.imp fun hab e => by subst e; have := before_flip hab; rw [hab] at this; cases this
theorem refInsert_end {l : List Spn} {x : Spn} (h : ∀ y ∈ l, before y x = true) : refInsert l x = l ++ [x] := by
  unfold refInsert
  rw [takeWhile_at (fun y => before y x) l l.length (Nat.le_refl _) (fun i hi _ => h _ (List.getElem_mem hi)) (fun hi => absurd hi (Nat.lt_irrefl _)), List.take_length]
  have : l.filter (fun y => before x y) = [] := List.filter_eq_nil_iff.2 fun y hy => by rw [before_flip (h y hy)]; simp
  rw [this]
theorem refSet_self_aux : ∀ (l acc : List Spn), IsSet (acc ++ l) → l.foldl refStep acc = acc ++ l
  | [], acc, _ => by simp
  | x :: l, acc, h => by
    have hx := h.may x (by simp)
    have hk := h.kept x (by simp)
    have hb : ∀ y ∈ acc, before y x = true := fun y hy => (List.pairwise_append.1 h.up).2.2 y hy x (List.mem_cons_self ..)
    have hs : refStep acc x = acc ++ [x] := by
      unfold refStep
      rw [hx, if_pos rfl, hk]
      have hf : acc.find? (fun y => oneK y x) = none := List.find?_eq_none.2 fun y hy => by rw [oneK_iff, hb y hy]; simp
      rw [hf]
      exact refInsert_end hb
    rw [List.foldl_cons, hs, refSet_self_aux l (acc ++ [x]) (by rw [List.append_assoc]; exact h), List.append_assoc]; rfl
theorem IsSet.ref {l : List Spn} (h : IsSet l) : refSet l = l := refSet_self_aux l [] h
theorem IsSet.newest {l : List Spn} (h : IsSet l) : newestL l = l.map fun x => (skey x, x) := by
  have ho := newest_own l h.fits
  have h1 : (newestL l).map (·.2) = l := by rw [← ho.2]; exact h.ref
  have h2 : newestL l = ((newestL l).map (·.2)).map fun x => (skey x, x) := by
    rw [List.map_map]
    have : ∀ m : List (ByteArray × Spn), (∀ y ∈ m, y.1 = skey y.2) → m = m.map ((fun x => (skey x, x)) ∘ fun y => y.2) := by
      intro m
      induction m with
      | nil => intro _; rfl
      | cons y m ih =>
        intro hm
        rw [List.map_cons, ← ih fun z hz => hm z (List.mem_cons_of_mem _ hz)]
        congr 1
        have := hm y (List.mem_cons_self ..)
        exact Prod.ext this rfl
    exact this _ ho.1.key
  rw [h1] at h2; exact h2
/-- records of one list that are not in another one -/
def withoutL (l m : List Spn) : List Spn := l.filter fun x => !has m x
theorem has_mem (l : List Spn) (x : Spn) : has l x = true ↔ x ∈ l := by
  unfold has same; simp only [List.any_eq_true, decide_eq_true_eq, exists_eq_right']
theorem keepM_set {m : List Spn} (h : IsSet m) (x : Spn) : keepM (newestL m) (skey x, x) = !has m x := by
  unfold keepM
  have hr := newestL_rises m
  have hn := h.newest
  cases hf : findL cmpS (skey x) (newestL m) with
  | none =>
    dsimp only
    cases hh : has m x with
    | false => rfl
    | true =>
      have hx := (has_mem m x).1 hh
      have hm : (skey x, x) ∈ newestL m := by rw [hn]; exact List.mem_map.2 ⟨x, hx, rfl⟩
      obtain ⟨v, hv⟩ := findL_of_mem order_S hm
      rw [hf] at hv; cases hv
  | some o =>
    dsimp only
    have hm : (skey x, o) ∈ newestL m := by
      obtain ⟨y, hy, e, rfl⟩ := findL_some hf
      have := order_S.eq e
      rw [this]; exact hy
    have hom : o ∈ m := by
      rw [hn] at hm
      obtain ⟨z, hz, e⟩ := List.mem_map.1 hm
      injection e with _ e2
      rw [← e2]; exact hz
    cases hh : has m x with
    | false =>
      have : same x o = false := by
        unfold same; rw [decide_eq_false_iff_not]; intro e; subst e
        rw [(has_mem m x).2 hom] at hh; cases hh
      rw [this]
    | true =>
      have hx := (has_mem m x).1 hh
      have hox : o = x := by
        have h1 : (skey x, x) ∈ newestL m := by rw [hn]; exact List.mem_map.2 ⟨x, hx, rfl⟩
        have hp : (newestL m).Pairwise fun a b => cmpS a.1 b.1 = .lt := hr
        have : ∀ l : List (ByteArray × Spn), l.Pairwise (fun a b => cmpS a.1 b.1 = .lt) → (skey x, x) ∈ l → (skey x, o) ∈ l → o = x := by
          intro l
          induction l with
          | nil => intro _ h _; cases h
          | cons y l ih =>
            intro hp h1 h2
            rw [List.pairwise_cons] at hp
            rw [List.mem_cons] at h1 h2
            rcases h1 with h1 | h1
            · rcases h2 with h2 | h2
              · rw [← h1] at h2; injection h2
              · have := hp.1 _ h2; rw [← h1, order_S.refl] at this; cases this
            · rcases h2 with h2 | h2
              · have := hp.1 _ h1; rw [← h2, order_S.refl] at this; cases this
              · exact ih hp.2 h1 h2
        exact this _ hp h1 hm
      subst hox
      unfold same; simp
/-- what is between two sets -/
theorem between_sets {l m : List Spn} (hl : IsSet l) (hm : IsSet m) : withoutM (newestL l) (newestL m) = withoutL l m := by
  unfold withoutM withoutL
  rw [hl.newest, List.filter_map, List.map_map]
  have e : (fun y : ByteArray × Spn => y.2) ∘ (fun x : Spn => (skey x, x)) = id := rfl
  rw [e, List.map_id]
  congr 1
  funext x
  exact keepM_set hm x
end Go.Proofs.YtdonmmjikcbihaaGreatDoor
/- Entries (plain): what is between two sets takes the entries of one to those of the other. -/
namespace Go.Proofs.YtdonmmjikcbihaaGreatDoor
open Go.Vc
/-- how many records begin a trace so -/
def rc (l : List Spn) (q : ByteArray × ByteArray × Int) : Nat := l.countP fun x => decide (x.pa = 0 ∧ trip x = q)
theorem rOut_ok : ∀ (out L : List Spn), (∀ q, rc out q ≤ cnt L q) → ∃ L', rOut L out = some L' ∧ ∀ q, cnt L' q + rc out q = cnt L q
  | [], L, _ => ⟨L, rfl, fun q => rfl⟩
  | x :: out, L, h => by
    have hx : ∀ q, rc (x :: out) q = rc out q + if x.pa = 0 ∧ trip x = q then 1 else 0 := fun q => by
      unfold rc; rw [List.countP_cons]; simp only [decide_eq_true_eq]
    simp only [rOut, takeOut]
    by_cases hp : x.pa = 0
    · have hany : L.any (fun y => alike y x) = true := by
        have h1 := h (trip x)
        rw [hx, if_pos ⟨hp, rfl⟩] at h1
        have h2 : 0 < cnt L (trip x) := by omega
        unfold cnt at h2
        rw [List.countP_pos_iff] at h2
        obtain ⟨y, hy, e⟩ := h2
        exact List.any_eq_true.2 ⟨y, hy, e⟩
      rw [if_pos hp, if_pos hany]
      dsimp only
      have he := fun q => cnt_erase hany q
      obtain ⟨L', h1, h2⟩ := rOut_ok out (L.eraseP fun y => alike y x) (fun q => by
        have h1 := h q
        rw [hx] at h1
        have h2 := he q
        by_cases hq : trip x = q
        · rw [if_pos ⟨hp, hq⟩] at h1; rw [if_pos hq] at h2; omega
        · rw [if_neg (fun c => hq c.2)] at h1; rw [if_neg hq] at h2; omega)
      refine ⟨L', h1, fun q => ?_⟩
      have h3 := h2 q
      have h4 := he q
      rw [hx]
      by_cases hq : trip x = q
      · rw [if_pos ⟨hp, hq⟩]; rw [if_pos hq] at h4; omega
      · rw [if_neg (fun c => hq c.2)]; rw [if_neg hq] at h4; omega
    · rw [if_neg hp]
      dsimp only
      obtain ⟨L', h1, h2⟩ := rOut_ok out L (fun q => by have h1 := h q; rw [hx, if_neg (fun c => hp c.1)] at h1; exact h1)
      exact ⟨L', h1, fun q => by rw [hx, if_neg (fun c => hp c.1)]; exact h2 q⟩
theorem rc_split (l m : List Spn) (q : ByteArray × ByteArray × Int) : rc l q = rc (withoutL l m) q + rc (l.filter fun x => has m x) q := by
  unfold rc withoutL
  induction l with
  | nil => rfl
  | cons x l ih =>
    rw [List.countP_cons, ih]
    simp only [List.filter_cons]
    cases has m x <;> simp only [Bool.not_false, Bool.not_true, if_true, if_false, Bool.false_eq_true, List.countP_cons] <;> omega
theorem rc_both {l m : List Spn} (hl : l.Nodup) (hm : m.Nodup) (q : ByteArray × ByteArray × Int) : rc (l.filter fun x => has m x) q = rc (m.filter fun x => has l x) q := by
  unfold rc
  refine List.Perm.countP_eq _ ?_
  refine (List.perm_ext_iff_of_nodup (hl.filter _) (hm.filter _)).2 fun x => ?_
  simp only [List.mem_filter, has_mem]
  exact And.comm
/-- what is between two sets takes the entries of the one to those of the other -/
theorem between_ents {was next L : List Spn} (hw : was.Nodup) (hn : next.Nodup) (mw : ∀ x ∈ was, may x = true) (mn : ∀ x ∈ next, may x = true) (h : ∀ q, cnt L q = rc was q) :
    (rApply L (withoutL was next) (withoutL next was)).2 = true ∧ ∀ q, cnt (rApply L (withoutL was next) (withoutL next was)).1 q = rc next q := by
  have ho : (withoutL was next).all may = true := List.all_eq_true.2 fun x hx => mw x ((List.mem_filter.1 hx).1)
  have hi : (withoutL next was).all may = true := List.all_eq_true.2 fun x hx => mn x ((List.mem_filter.1 hx).1)
  obtain ⟨L', h1, h2⟩ := rOut_ok (withoutL was next) L fun q => by rw [h q, rc_split was next q]; omega
  unfold rApply
  rw [ho, hi, h1]
  refine ⟨rfl, fun q => ?_⟩
  show cnt (rIn L' (withoutL next was)) q = _
  rw [cnt_rIn]
  show _ + rc (withoutL next was) q = _
  have h3 := h2 q
  rw [h q, rc_split was next q, rc_both hw hn q] at h3
  rw [rc_split next was q]; omega
theorem cnt_mem (L : List Spn) (q : ByteArray × ByteArray × Int) : 0 < cnt L q ↔ ∃ x ∈ L, trip x = q := by
  unfold cnt; rw [List.countP_pos_iff]; simp only [decide_eq_true_eq]
/-- the entries hang on the counts alone -/
theorem refAll_cnt {L L' : List Spn} (h : ∀ q, cnt L q = cnt L' q) : refAll L = refAll L' := by
  have c := refAll_canon L
  have c' := refAll_canon L'
  refine Canon.one c ⟨c'.up, c'.ne, c'.tup, fun s o t => (c'.mem s o t).trans ?_⟩
  have h1 := cnt_mem L (s, o, t)
  have h2 := cnt_mem L' (s, o, t)
  rw [h (s, o, t)] at h1
  have h3 := h1.symm.trans h2
  simp only [trip, Prod.mk.injEq] at h3
  exact h3.symm
theorem cnt_rIn_nil (l : List Spn) (q : ByteArray × ByteArray × Int) : cnt (rIn [] l) q = rc l q := by
  rw [cnt_rIn]; show 0 + _ = _; rw [Nat.zero_add]; rfl
theorem mem_rIn : ∀ (l L : List Spn) (x : Spn), x ∈ rIn L l ↔ x ∈ L ∨ x ∈ l ∧ x.pa = 0
  | [], L, x => by simp [rIn]
  | y :: l, L, x => by
    show x ∈ rIn (addIn L y) l ↔ _
    rw [mem_rIn l]
    unfold addIn
    by_cases hp : y.pa = 0
    · rw [if_pos hp, List.mem_append, List.mem_singleton, List.mem_cons]
      constructor
      · rintro ((h | rfl) | h)
        · exact .inl h
        · exact .inr ⟨.inl rfl, hp⟩
        · exact .inr ⟨.inr h.1, h.2⟩
      · rintro (h | ⟨rfl | h, h2⟩)
        · exact .inl (.inl h)
        · exact .inl (.inr rfl)
        · exact .inr ⟨h, h2⟩
    · rw [if_neg hp, List.mem_cons]
      constructor
      · rintro (h | h)
        · exact .inl h
        · exact .inr ⟨.inr h.1, h.2⟩
      · rintro (h | ⟨rfl | h, h2⟩)
        · exact .inl h
        · exact absurd h2 hp
        · exact .inr ⟨h, h2⟩
/-- entries of a set: in order, and just those that begin a trace -/
theorem ents_just (S : List Spn) : Canon (refAll (rIn [] S)) fun s o t => ∃ x ∈ S, x.pa = 0 ∧ x.sv = s ∧ x.op = o ∧ x.tr = t := by
  have c := refAll_canon (rIn [] S)
  refine ⟨c.up, c.ne, c.tup, fun s o t => (c.mem s o t).trans ?_⟩
  constructor
  · rintro ⟨x, hx, h⟩
    rw [mem_rIn] at hx
    rcases hx with hx | hx
    · cases hx
    · exact ⟨x, hx.1, hx.2, h⟩
  · rintro ⟨x, hx, hp, h⟩
    exact ⟨x, (mem_rIn S [] x).2 (.inr ⟨hx, hp⟩), h⟩
end Go.Proofs.YtdonmmjikcbihaaGreatDoor
/- Entries of records; the document's. -/
namespace Go.Proofs.YtdonmmjikcbihaaGreatDoor
open Go.RowKit Go.Proofs Go.Vc
attribute [local irreducible] Calls CallsIn Code.wp Code.wpIn
def OfSPost (l : List Spn) (w : World) (e : Ending) (w' : World) : Prop := ∃ v, e = .returned v ∧ EntsAt w' v (refAll (rIn [] (spansL l))) ∧ Ext w w'
theorem eof_i (v : Value) (l : List Spn) (w : World) (mx : Int) (h : SpnsAt w v l) (hl : l.length ≤ 100) (hf : ∀ x ∈ l, x.Fits) (hm : w.cell? ⟨0, 0, none⟩ = some (.int .i64 mx)) :
    Calls Tryz.prog 15 #[v] w (OfSPost l w) := by
  have hsl := spansL_len l
  have hss := spansL_isSet l hf
  have hsf := hss.fits
  have hsg := setL_len l
  have hsm := hss.may
  clear hss
  obtain ⟨wa, hwa⟩ : ∃ wa, wa = w.alloc (.cells #[.pointer none, .int .i64 0] 28) := ⟨_, rfl⟩
  have hE : Ext w wa := by rw [hwa]; exact (Keeps.refl _ w).alloc _
  have hM : LMapsi 28 w.heap.size 0 [] (fun i => i = w.heap.size) wa := by rw [hwa]; exact view_new w _
  obtain ⟨b, hb⟩ : ∃ b, b = w.heap.size := ⟨_, rfl⟩
  rw [← hb] at hM
  have H := Lib.hid (And.intro hE (And.intro (h.ext hE) (And.intro hM (And.intro (show ∀ wr, Ext w wr → wr.cell? ⟨0, 0, none⟩ = some (.int .i64 mx) from fun wr k => (Ext.cells k 0 0 (by rw [hm]; rfl)).trans hm) hf))))
  have HS := Lib.hid (And.intro hsl (And.intro hsf (And.intro hsg (And.intro hsm hl))))
  clear hE h hM hm hf hsl hsf hsg hsm hl
  go_enter Tryz.func15, Tryz.ntmps15
  go_wp2_with fail
  rw [← hwa, ← hb]
  have HBB := Lib.hid hb
  clear hwa hb
  refine (dset_i v l _ H.out.2.1 (by have := HS.out.2.2.2.2; omega) H.out.2.2.2.2).mono ?_
  rintro e9 w1 ⟨v1, rfl, hown1, hE1⟩
  obtain ⟨a1, c1, rfl, _, _⟩ := hown1.slice spnE
  have H1 := Lib.hid (And.intro hown1 hE1)
  clear hown1 hE1
  go_wp2_with fail
  refine (alive_i (.slice none 0 0) (.slice a1 (setL l).length c1) [] (setL l) _ ⟨none, 0, rfl, ⟨by decide, by decide⟩, fun _ => rfl, fun _ _ _ h => nomatch h⟩ (spns_of_own H1.out.1 (by have := HS.out; omega)) (by decide) (by have := HS.out; omega)).mono ?_
  rintro e9 w2 ⟨v2, u2, rfl, hv2', hu2', hE2⟩
  have hv2 : spnE.Own w1.heap.size v2 [] w2 := hv2'
  have hu2 : spnE.Own w1.heap.size u2 (spansL l) w2 := hu2'
  clear hv2' hu2'
  have hbn : ∀ {v : Value} {l : List Spn}, spnE.Own w1.heap.size v l w2 → ∀ g, slBlock v = some g → ¬ g = b := fun {v l} ho g hg e => by
    obtain ⟨a, c, rfl, _, _⟩ := ho.slice spnE
    have hg' : (Value.slice a l.length c).ownBlock = some g := by cases a <;> first | (cases hg; done) | exact hg
    have h1 := (ho.lt spnE hg').1
    have h2 := H.out.2.2.1.lt (i := b) rfl
    have h3 := H1.out.2.size
    omega
  have H2 := Lib.hid (And.intro hv2 (And.intro hu2 (And.intro hE2 (And.intro (hbn hv2) (hbn hu2)))))
  clear hv2 hu2 hE2 hbn
  go_wp2_with fail
  refine (vapply_i 28 b [] _ v2 u2 [] (spansL l) _ 0 bnd_nil (by decide) (H.out.2.2.1.ext (H1.out.2.trans H2.out.2.2.1)) (spns_of_own H2.out.1 (by decide)) (spns_of_own H2.out.2.1 (by have := HS.out; omega)) (fun _ => H2.out.2.2.2.1) (fun _ => H2.out.2.2.2.2) (fun _ h => nomatch h) HS.out.2.1 (by decide) (by have := HS.out; omega)).mono ?_
  rintro e9 w3 ⟨rfl, ⟨S', hM3, hS3⟩, hK3⟩
  have hE3 : Ext w w3 := ⟨Nat.le_trans (H.out.1.trans (H1.out.2.trans H2.out.2.2.1)).size hK3.size, fun i hi _ => (hK3.same i (Nat.lt_of_lt_of_le hi (H.out.1.trans (H1.out.2.trans H2.out.2.2.1)).size) (fun e => by have := HBB.out; omega)).trans (Ext.same (H.out.1.trans (H1.out.2.trans H2.out.2.2.1)) hi), ((H.out.1.trans (H1.out.2.trans H2.out.2.2.1)).ost).trans hK3.ost⟩
  have hall : (spansL l).all may = true := List.all_eq_true.2 HS.out.2.2.2.1
  have hva : vApply [] [] (spansL l) = (redo [] (spansL l), true) := by unfold vApply; rw [hall]; rfl
  have hra : rApply [] [] (spansL l) = (rIn [] (spansL l), true) := by unfold rApply; rw [hall]; rfl
  have hrel := (apply_rel EntRel.nil (out := []) (inn := spansL l) (fun _ h => nomatch h) (fun x hx => (HS.out.2.1 x hx).tr)).2
  rw [hva, hra] at hrel
  rw [hva] at hM3
  have hbd := (bnd_redo bnd_nil (spansL l)).1
  have H3 := Lib.hid (And.intro hM3 (And.intro hE3 (And.intro hrel hbd)))
  rw [hva]
  clear hM3 hS3 hK3 hE3 hall hva hra hrel hbd
  go_wp2_with fail
  refine (evall_rel 28 b _ _ _ _ mx H3.out.1 H3.out.2.2.1 (by have h1 := H3.out.2.2.2; have h2 := HS.out; omega) (H.out.2.2.2.1 _ H3.out.2.1)).mono ?_
  rintro e9 w4 ⟨v4, rfl, hv4, hE4⟩
  have H4 := Lib.hid (show OfSPost l w (.returned v4) w4 from ⟨v4, rfl, hv4, H3.out.2.1.trans hE4⟩)
  clear hv4 hE4
  go_wp2_with fail
  go_ret
  exact H4.out
set_option maxRecDepth 20000 in
theorem rof_i (v : Value) (l : List Spn) (w : World) (h : SpnsAt w v l) (hl : l.length ≤ 100) (hf : ∀ x ∈ l, x.Fits ∧ Shrt x) : Calls Tryz.prog 18 #[v] w (OfSPost l w) := by
  obtain ⟨wa, hwa⟩ : ∃ wa, wa = w.alloc (.cells #[.slice none 0 0] 33) := ⟨_, rfl⟩
  have hE : Ext w wa := by rw [hwa]; exact (Keeps.refl _ w).alloc _
  have hN : wa.heap[w.heap.size]? = some (.cells #[.slice none 0 0] 33 (0, 0)) := by rw [hwa]; exact World.alloc_heap_new w _
  obtain ⟨b, hb⟩ : ∃ b, b = w.heap.size := ⟨_, rfl⟩
  rw [← hb] at hN
  have hsl := spansL_len l
  have hss := spansL_isSet l fun x hx => (hf x hx).1
  have hsh : ∀ x ∈ spansL l, Shrt x := fun x hx => by
    have h1 : ∀ y ∈ refSet l, Shrt y := refSet_all l fun y hy => (hf y hy).2
    rw [(newest_own l fun y hy => (hf y hy).1).2] at h1
    exact h1 x (List.mem_filter.1 hx).1
  have H := Lib.hid (And.intro hE (And.intro (h.ext hE) hN))
  have HS := Lib.hid (And.intro hl (And.intro hf (And.intro hsl (And.intro hss hsh))))
  clear hE h hN hl hf hsl hss hsh
  go_enter Tryz.func18, Tryz.ntmps18
  go_wp2_with fail
  rw [← hwa, ← hb]
  have HBB := Lib.hid hb
  clear hwa hb
  refine (rspans_i v l _ H.out.2.1 (by have := HS.out.1; omega) HS.out.2.1).mono ?_
  rintro e9 w1 ⟨v1, rfl, hown1, hE1⟩
  obtain ⟨a1, c1, rfl, _, _⟩ := hown1.slice spnE
  have H1 := Lib.hid (And.intro hown1 (And.intro hE1 ((Ext.same hE1 (lt_of_heap H.out.2.2)).trans H.out.2.2)))
  clear hown1 hE1
  go_wp2_with fail
  have hra : rApply [] [] (spansL l) = (rIn [] (spansL l), true) := by unfold rApply; rw [List.all_eq_true.2 HS.out.2.2.2.1.may]; rfl
  have HRA := Lib.hid hra
  clear hra
  refine (rapply_i 33 b (.slice none 0 0) (.slice none 0 0) (.slice a1 (spansL l).length c1) [] [] (spansL l) _ H1.out.2.2 ⟨none, 0, rfl, ⟨by decide, by decide⟩, fun _ => rfl, fun _ _ _ h => nomatch h⟩ ⟨none, 0, rfl, ⟨by decide, by decide⟩, fun _ => rfl, fun _ _ _ h => nomatch h⟩ (spns_of_own H1.out.1 (by have := HS.out; omega)) (fun h => nomatch h) (fun _ h => nomatch h) (fun x hx => ⟨HS.out.2.2.2.1.fits x hx, HS.out.2.2.2.2 x hx⟩) (by decide) (by decide) (by have := HS.out; omega)).mono ?_
  rintro e9 w2 ⟨rfl, ⟨vL, hx2, hr2, _⟩, hk2⟩
  rw [HRA.out] at hr2 ⊢
  have hE2 : Ext w w2 := ⟨Nat.le_trans (H.out.1.trans H1.out.2.1).size hk2.size, fun i hi _ => (hk2.same i (Nat.lt_of_lt_of_le hi (H.out.1.trans H1.out.2.1).size) (fun e => by have := HBB.out; omega)).trans (Ext.same (H.out.1.trans H1.out.2.1) hi), ((H.out.1.trans H1.out.2.1).ost).trans hk2.ost⟩
  have H2 := Lib.hid (And.intro hx2 (And.intro hr2 hE2))
  clear hx2 hr2 hk2 hE2
  go_wp2_with fail
  refine (rall_i 33 b vL (rIn [] (spansL l)) _ H2.out.1 H2.out.2.1 (by have h1 := rIn_len [] (spansL l); have h2 := HS.out; simp only [List.length_nil] at h1; omega)).mono ?_
  rintro e9 w3 ⟨v3, rfl, hv3, hE3⟩
  have H3 := Lib.hid (show OfSPost l w (.returned v3) w3 from ⟨v3, rfl, hv3, H2.out.2.2.trans hE3⟩)
  clear hv3 hE3
  go_wp2_with fail
  go_ret
  exact H3.out
end Go.Proofs.YtdonmmjikcbihaaGreatDoor
/- Small laws that the walks of the laws share. -/
namespace Go.Proofs.YtdonmmjikcbihaaGreatDoor
open Go.RowKit Go.Proofs Go.Vc
theorem few_short' {l : List Spn} {n : Nat} (h : fewL l n = true) : l.length ≤ n ∧ ∀ x ∈ l, Shrt x := by
  unfold fewL at h
  rw [Bool.and_eq_true, decide_eq_true_eq, List.all_eq_true] at h
  refine ⟨h.2, fun x hx => ?_⟩
  have := h.1 x (by rw [List.take_of_length_le h.2]; exact hx)
  unfold short at this
  rw [Bool.and_eq_true, decide_eq_true_eq, decide_eq_true_eq] at this
  exact ⟨by omega, by omega⟩
theorem VIs.mono' {ty : TypeId} {b N M : Nat} {L : List Spn} {S : Nat → Prop} {w : World} (h : VIs ty b N L S w) (k : N ≤ M) : VIs ty b M L S w := by
  obtain ⟨m, h1, h2, h3⟩ := h
  exact ⟨m, h1, h2, h3.mono k⟩
theorem own_slBlock {B : Nat} {v : Value} {l : List Spn} {w : World} (h : spnE.Own B v l w) {g : Nat} (hg : slBlock v = some g) : B ≤ g ∧ g < w.heap.size := by
  obtain ⟨a, c, rfl, _, _⟩ := h.slice spnE
  have hg' : (Value.slice a l.length c).ownBlock = some g := by cases a <;> first | (cases hg; done) | exact hg
  exact h.lt spnE hg'
theorem IsSet.nil : IsSet [] := ⟨List.Pairwise.nil, (fun _ h => nomatch h), (fun _ h => nomatch h), (fun _ h => nomatch h)⟩
end Go.Proofs.YtdonmmjikcbihaaGreatDoor
