/- A builder of text in a writer of package pack: writing, and what it holds. -/
import Derived.Test.YtdonmmjikcbihaaGreatDoorRows
import Derived.Test.YtdonmmjikcbihaaGreatDoorData
import Derived.Test.YtdonmmjikcbihaaGreatDoorShelf
import Derived.Lib.Hide
import Derived.Lib.OwnKind
namespace Go.Proofs.YtdonmmjikcbihaaGreatDoor
open Go.RowKit Go.Proofs Go.Vc
attribute [local irreducible] Calls CallsIn Code.wp Code.wpIn
abbrev TW : TypeId := 153
/-- what lay below B is as it was, but for block b -/
abbrev Fresh (B b : Nat) (w w' : World) : Prop := Keeps (fun x => x = b ∨ B ≤ x) w w'
abbrev TB : TypeId := 5
/-- the writer at b holds these bytes, in a row of its own that lies at or beyond B -/
def Wr (B b : Nat) (l : List UInt8) (w : World) : Prop :=
  ∃ p v, (p = .pointer none ∨ p = .pointer (some ⟨b, 0, none⟩)) ∧ w.heap[b]? = some (.cells #[p, v] TW (0, 0)) ∧ w.ownsRow B TB 1 v l.length (Lib.byteCells l) ∧ v.ownBlock ≠ some b ∧ B ≤ w.heap.size
theorem row_keeps {F : Nat → Prop} {w w' : World} {B : Nat} {e : TypeId} {size n : Nat} {v : Value} {xs : List Value} (h : w.ownsRow B e size v n xs) (k : Keeps F w w') (hF : ∀ g, v.ownBlock = some g → ¬ F g) : w'.ownsRow B e size v n xs := by
  refine ⟨h.1, ?_⟩
  rcases h.2 with h0 | ⟨g, cap, cur, rfl, hb, hg, r⟩
  · exact .inl h0
  · exact .inr ⟨g, cap, cur, rfl, hb, (k.same g (lt_of_heap hg) (hF g rfl)).trans hg, r⟩
theorem row_ext {w w' : World} {B : Nat} {e : TypeId} {size n : Nat} {v : Value} {xs : List Value} (h : w.ownsRow B e size v n xs) (k : Ext w w') : w'.ownsRow B e size v n xs := row_keeps h k fun _ _ hf => hf
/-- what an append leaves is kept but for its own row -/
theorem grown_keeps {w w' : World} {row : Option Nat} (h : w.grownBy w' row) : Keeps (fun x => some x = row) w w' := ⟨h.size, fun b hb hf => h.block b hb hf, h.os, h.output⟩
theorem Wr.ext {B b : Nat} {l : List UInt8} {w w' : World} (h : Wr B b l w) (k : Ext w w') : Wr B b l w' := by
  obtain ⟨p, v, hp, hb, ho, hn, hB⟩ := h
  exact ⟨p, v, hp, (Ext.same k (lt_of_heap hb)).trans hb, row_ext ho k, hn, Nat.le_trans hB k.size⟩
set_option maxRecDepth 20000 in
theorem bld_check (B b : Nat) (l : List UInt8) (w : World) (h : Wr B b l w) :
    Calls Tryz.prog 142 #[.pointer (some ⟨b, 0, none⟩)] w fun e w' => e = .returned (.tuple #[]) ∧ (∃ v, w'.heap[b]? = some (.cells #[.pointer (some ⟨b, 0, none⟩), v] TW (0, 0)) ∧ w'.ownsRow B TB 1 v l.length (Lib.byteCells l) ∧ v.ownBlock ≠ some b ∧ B ≤ w'.heap.size) ∧ Fresh B b w w' := by
  obtain ⟨i0, hi, hz⟩ : ∃ i, Tryz.prog.info? 151 = some i ∧ i.size ≠ 0 := ⟨_, rfl, by decide⟩
  obtain ⟨p, v, rfl | rfl, hb, ho, hn, hB⟩ := h
  · have h0 : w.cell? ⟨b, 0, none⟩ = some (.pointer none) := by rw [blk_cell hb]; rfl
    have hsh : w.shape? b = some (TW, 2) := blk_shape hb
    have hfz := blk_free hb 0
    have HP := Lib.hid (show (∃ v, (w.setCell ⟨b, 0, none⟩ (.pointer (some ⟨b, 0, none⟩))).heap[b]? = some (.cells #[.pointer (some ⟨b, 0, none⟩), v] TW (0, 0)) ∧ (w.setCell ⟨b, 0, none⟩ (.pointer (some ⟨b, 0, none⟩))).ownsRow B TB 1 v l.length (Lib.byteCells l) ∧ v.ownBlock ≠ some b ∧ B ≤ (w.setCell ⟨b, 0, none⟩ (.pointer (some ⟨b, 0, none⟩))).heap.size) ∧ Fresh B b w (w.setCell ⟨b, 0, none⟩ (.pointer (some ⟨b, 0, none⟩))) from by
      have ho1 : Only [b] w (w.setCell ⟨b, 0, none⟩ (.pointer (some ⟨b, 0, none⟩))) := (Only.refl [b] w).setCell (by simp) _
      exact ⟨⟨v, heap_set hb 0 _, row_keeps ho ho1.keeps (fun g hg hm => hn (by rw [List.mem_singleton] at hm; rw [← hm]; exact hg)), hn, by rw [ho1.size]; exact hB⟩, ho1.keeps.mono fun i _ hi => .inl (List.mem_singleton.1 hi)⟩)
    clear hb ho hn hB
    go_enter Tryz.func142, Tryz.ntmps142
    go_wp2_with fail
    rw [Lib.run_to_unsafe w ⟨b, 0, none⟩ (by kernel_rfl) (by kernel_rfl) hi hz hsh (Nat.zero_lt_succ 1)]
    simp only [Result.andThen]
    rw [Oper.upon_value]
    go_wp2_with fail
    rw [run_callFunc_extern Tryz.func143 (by kernel_rfl) (by kernel_rfl) (by kernel_rfl) (e := Extern.AbiNoEscape.same) (by kernel_rfl)]
    rw [Lib.run_noEscape]
    simp only [Result.andThen]
    rw [Oper.upon_value]
    go_wp2_with fail
    rw [Lib.run_from_unsafe w ⟨b, 0, none⟩ (by kernel_rfl) (by kernel_rfl) hi hsh (by kernel_rfl)]
    simp only [Result.andThen]
    rw [Oper.upon_value]
    go_wp2_with fail
    go_end0
    exact ⟨rfl, HP.out⟩
  · have h0 : w.cell? ⟨b, 0, none⟩ = some (.pointer (some ⟨b, 0, none⟩)) := by rw [blk_cell hb]; rfl
    have HP := Lib.hid (And.intro hb (And.intro ho (And.intro hn hB)))
    clear hb ho hn hB
    go_enter Tryz.func142, Tryz.ntmps142
    go_wp2_with fail
    rw [Lib.run_neq_ptr_same w _ (by kernel_rfl) hi]
    simp only [Result.andThen]
    rw [Oper.upon_value]
    go_wp2_with fail
    go_end0
    exact ⟨rfl, ⟨v, HP.out⟩, Keeps.refl _ _⟩
theorem size_mk (l : List UInt8) : (⟨l.toArray⟩ : ByteArray).size = l.length := by show l.toArray.size = _; simp
theorem size_list (s : ByteArray) : s.data.toList.length = s.size := by show _ = s.data.size; simp
set_option maxRecDepth 20000 in
theorem bld_write (B b : Nat) (l m : List UInt8) (w : World) (h : Wr B b l w) (hlen : l.length + m.length ≤ 1000000) :
    Calls Tryz.prog 140 #[.pointer (some ⟨b, 0, none⟩), .string ⟨m.toArray⟩] w fun e w' => e = .returned (.tuple #[.int .i64 m.length, .nilIface]) ∧ Wr B b (l ++ m) w' ∧ Fresh B b w w' := by
  obtain ⟨i0, hi, hz0, hz1, hz2⟩ := info_parts (show (Tryz.prog.info? TB).map (fun i => (i.zero, i.size, i.bytes)) = some (some (.int .u8 0), 1, 1) from by kernel_rfl)
  have HI := Lib.hid (And.intro hi (And.intro hz0 (And.intro hz1 hz2)))
  have hsm : (⟨m.toArray⟩ : ByteArray).size = m.length := size_mk m
  have hstr : Lib.strCells ⟨m.toArray⟩ = Lib.byteCells m := rfl
  have HX := Lib.hid (And.intro hlen hstr)
  have H := Lib.hid h
  clear h hi hz0 hz1 hz2 hlen hstr
  go_enter Tryz.func140, Tryz.ntmps140
  go_wp2_with fail
  refine (bld_check B b l _ H.out).mono ?_
  rintro e w1 ⟨rfl, ⟨v, hbk, hown, hne, hB⟩, hb1⟩
  have c0 : w1.cell? ⟨b, 0, none⟩ = some (.pointer (some ⟨b, 0, none⟩)) := by rw [Lib.cell_of_heap hbk]; rfl
  have c1 : w1.cell? ⟨b, 1, none⟩ = some v := by rw [Lib.cell_of_heap hbk]; rfl
  have HS := Lib.hid hsm
  have HB := Lib.hid (And.intro hB (And.intro hbk (And.intro hown (And.intro hne hb1))))
  clear hB hbk hown hne hb1
  go_wp2_with (at_builtin; refine Lib.wpList_append_own_string _ rfl _ _ 131 9 rfl B TB i0 (by kernel_rfl) (by kernel_rfl) HI.out.1 HI.out.2.1 HI.out.2.2.1 HI.out.2.2.2 _ _ _ rfl HB.out.2.2.1 ⟨m.toArray⟩ rfl ?c3 ?c4 ?c5 ?_)
  case c3 => unfold maxLen; have := HX.out.1; omega
  case c4 => have := HX.out.1; omega
  case c5 => exact HB.out.1
  obtain ⟨hB, hbk, hown, hne, hb1⟩ := HB.out
  intro v' w2 hown' hgrow _
  have hlt : b < w1.heap.size := lt_of_heap hbk
  have hb2 : w2.heap[b]? = some (.cells #[.pointer (some ⟨b, 0, none⟩), v] TW (0, 0)) := by
    rw [hgrow.block b hlt (fun e => hne e.symm)]
    exact hbk
  have d0 : w2.cell? ⟨b, 0, none⟩ = some (.pointer (some ⟨b, 0, none⟩)) := by rw [Lib.cell_of_heap hb2]; rfl
  have d1 : w2.cell? ⟨b, 1, none⟩ = some v := by rw [Lib.cell_of_heap hb2]; rfl
  have f1 : w2.frozen? ⟨b, 1, none⟩ = false := Lib.frozen_of_heap hb2 1
  have HP := Lib.hid (show Wr B b (l ++ m) (w2.setCell ⟨b, 1, none⟩ v') ∧ Fresh B b w (w2.setCell ⟨b, 1, none⟩ v') from by
    have ho1 : Only [b] w2 (w2.setCell ⟨b, 1, none⟩ v') := (Only.refl [b] w2).setCell (by simp) _
    have hr : w2.ownsRow B TB 1 v' (l ++ m).length (Lib.byteCells (l ++ m)) := by
      rw [HX.out.2] at hown'
      rw [Lib.byteCells_append, List.length_append, ← hsm]; exact hown'
    have hnb : v'.ownBlock ≠ some b := fun hv => by
      obtain ⟨c, fz, hc⟩ := Lib.ownsRow_kind hr b hv
      rw [hb2] at hc
      injection hc with hc; injection hc with _ hc
      exact absurd hc (by decide)
    exact ⟨⟨_, v', .inr rfl, heap_set hb2 1 _, row_keeps hr ho1.keeps (fun g hg hm => hnb (by rw [List.mem_singleton] at hm; rw [← hm]; exact hg)), hnb, by rw [ho1.size]; exact Nat.le_trans hB hgrow.size⟩,
      hb1.trans (((grown_keeps hgrow).mono fun i _ hi => .inr (hown.lt i hi.symm).1).trans (ho1.keeps.mono fun i _ hi => .inl (List.mem_singleton.1 hi)))⟩)
  obtain ⟨ao, n', cap, rfl⟩ : ∃ ao n' cap, v' = .slice ao n' cap := by
    rcases hown'.2 with ⟨hv, _⟩ | ⟨g, cap, cur, hv, _⟩
    · exact ⟨_, _, _, hv⟩
    · exact ⟨_, _, _, hv⟩
  clear hB hbk hown hne hb1 hown' hgrow hlt hb2 c0 c1 hsm
  go_wp2_with fail
  go_ret2
  exact ⟨rfl, HP.out⟩
theorem put_b (B b : Nat) (l m : List UInt8) (w : World) (h : Wr B b l w) (hlen : l.length + m.length ≤ 1000000) :
    Calls Tryz.prog 135 #[.pointer (some ⟨b, 0, none⟩), .string ⟨m.toArray⟩] w fun e w' => e = .returned (.tuple #[]) ∧ Wr B b (l ++ m) w' ∧ Fresh B b w w' := by
  have H := Lib.hid (And.intro h hlen)
  clear h hlen
  go_enter Tryz.func135, Tryz.ntmps135
  go_wp2_with fail
  refine (bld_write B b l m _ H.out.1 H.out.2).mono ?_
  rintro e w1 ⟨rfl, h1⟩
  have H1 := Lib.hid h1
  clear h1
  go_wp2_with fail
  go_end0
  exact ⟨rfl, H1.out⟩
theorem freeze_keeps {B b : Nat} {w w1 : World} (hh : w1.heap = w.heap) (ho : Ost w w1) {p : Addr} (hp : B ≤ p.block) (n : Nat) : Fresh B b w (w1.freeze p n) := by
  have h := Lib.below_freeze (Below.refl B w1) (p := p) hp n
  exact ⟨by rw [← hh]; exact h.size, fun k _ hk => by rw [← hh]; exact h.block k (Nat.lt_of_not_le fun hl => hk (.inr hl)), ho.trans ⟨h.os, h.output⟩⟩
set_option maxRecDepth 20000 in
theorem bld_string (B b : Nat) (l : List UInt8) (w : World) (h : Wr B b l w) (h0 : l ≠ []) :
    Calls Tryz.prog 130 #[.pointer (some ⟨b, 0, none⟩)] w fun e w' => e = .returned (.string ⟨l.toArray⟩) ∧ Fresh B b w w' := by
  obtain ⟨p, v, hp, hbk, hown, hne, hB⟩ := h
  have hl0 : l.length ≠ 0 := by simpa using h0
  obtain ⟨g, cap, cur, rfl, hbg, hg, hnc, hcm, hcs, htake⟩ : ∃ g cap cur, v = .slice (some ⟨g, 0, none⟩) l.length cap ∧ B ≤ g ∧ w.heap[g]? = some (.cells cur TB (0, 0)) ∧ l.length ≤ cap ∧ cap ≤ maxLen ∧ cur.size = cap * 1 ∧ cur.toList.take (l.length * 1) = Lib.byteCells l := by
    rcases hown.2 with ⟨_, hz⟩ | ⟨g, cap, cur, hv, r⟩
    · exact absurd hz hl0
    · exact ⟨g, cap, cur, hv, r⟩
  have c1 : w.cell? ⟨b, 1, none⟩ = some (.slice (some ⟨g, 0, none⟩) l.length cap) := by
    rw [Lib.cell_of_heap hbk]; rfl
  have hSD : ∀ w, (Builtin.unsafeSliceData_ #[131] 169 #[.slice (some ⟨g, 0, none⟩) l.length cap]).run Tryz.prog w = .ok (.pointer (some ⟨g, 0, none⟩)) w := fun w =>
    Lib.run_unsafeSliceData_row _ _ _ _ _ _ (by omega)
  have hUS : ∀ w1 : World, w1.heap = w.heap → (Builtin.unsafeString_ #[169, 3] 9 #[.pointer (some ⟨g, 0, none⟩), .int .i64 l.length]).run Tryz.prog w1 = .ok (.string ⟨l.toArray⟩) (w1.freeze ⟨g, 0, none⟩ l.length) := by
    intro w1 hh
    refine Lib.run_unsafeString_row w1 169 3 9 TB (by kernel_rfl) (by kernel_rfl) g cur.size (by simp [World.shape?, hh, hg]) l h0 (by omega) (by unfold maxLen at hcm; omega) ?_
    intro j x hx
    have := hown.cells (g := g) rfl j (.int .u8 x.toNat) (by simp [Lib.byteCells, hx])
    simpa [World.cell?, hh] using this
  have HG := Lib.hid (And.intro hbg hUS)
  clear hUS hB hbk hown hne hl0 hbg hg hnc hcm hcs htake hp
  go_enter Tryz.func130, Tryz.ntmps130
  go_wp2_with fail
  refine wp_drawE (way [0, 1, 2, 3, 5, 6, 7, 8, 9, 4, 10, 11]) (by kernel_rfl) (by kernel_rfl) (fun w1 hh hd hf hS => ?_)
  simp only [way]
  go_wp2_with (first | (refine' hl_q rfl rfl rfl (fun _ => ?_) ?_; rotate_left; (go_simp <;> (try go_bits) <;> rfl); (try simp only [Act.put, List.setIfInBounds_toArray, List.set_cons_zero, List.set_cons_succ])) | (refine' hl_rS rfl rfl rfl hS ?_ ?_; rotate_left; (intro w9 hS9; (first | have hc9 := Ext.cells hS9 | have hc9 := Keeps.cells hS9); (go_simp <;> rfl)); (try simp only [Act.put, List.setIfInBounds_toArray, List.set_cons_zero, List.set_cons_succ])) | (refine' hl_r rfl rfl rfl ?_ ?_; rotate_left; (rintro w9 (rfl | hS9); (go_simp <;> rfl); (first | have hc9 := Ext.cells hS9 | have hc9 := Keeps.cells hS9 | (try dsimp only at hS9)); (go_simp <;> rfl)); (try simp only [Act.put, List.setIfInBounds_toArray, List.set_cons_zero, List.set_cons_succ])) | (refine' hl_s rfl rfl ?_; (try simp only [Act.put, List.setIfInBounds_toArray, List.set_cons_zero, List.set_cons_succ])) | (refine hl_e rfl rfl rfl (fun K hK => ?_)) | (with_reducible refine And.intro (fun hn => ?_) ?_; (first | exact hS | exact Keeps.alloc hS _ | exact absurd hn (by rw [show needS _ _ = false from by kernel_rfl]; exact Bool.false_ne_true))) | (refine hl_done ?_) | gi_step)
  rw [HG.out.2 w1 hh]
  have HK := Lib.hid (show Fresh B b w (w1.freeze ⟨g, 0, none⟩ l.length) from freeze_keeps hh hS.ost (p := ⟨g, 0, none⟩) HG.out.1 _)
  clear hS hh hd hf
  simp only [Result.andThen]
  go_wp2_with (first | (refine' hl_q rfl rfl rfl (fun _ => ?_) ?_; rotate_left; (go_simp <;> (try go_bits) <;> rfl); (try simp only [Act.put, List.setIfInBounds_toArray, List.set_cons_zero, List.set_cons_succ])) | (refine' hl_rS rfl rfl rfl hS ?_ ?_; rotate_left; (intro w9 hS9; (first | have hc9 := Ext.cells hS9 | have hc9 := Keeps.cells hS9); (go_simp <;> rfl)); (try simp only [Act.put, List.setIfInBounds_toArray, List.set_cons_zero, List.set_cons_succ])) | (refine' hl_r rfl rfl rfl ?_ ?_; rotate_left; (rintro w9 (rfl | hS9); (go_simp <;> rfl); (first | have hc9 := Ext.cells hS9 | have hc9 := Keeps.cells hS9 | (try dsimp only at hS9)); (go_simp <;> rfl)); (try simp only [Act.put, List.setIfInBounds_toArray, List.set_cons_zero, List.set_cons_succ])) | (refine' hl_s rfl rfl ?_; (try simp only [Act.put, List.setIfInBounds_toArray, List.set_cons_zero, List.set_cons_succ])) | (refine hl_e rfl rfl rfl (fun K hK => ?_)) | (with_reducible refine And.intro (fun hn => ?_) ?_; (first | exact hS | exact Keeps.alloc hS _ | exact absurd hn (by rw [show needS _ _ = false from by kernel_rfl]; exact Bool.false_ne_true))) | (refine hl_done ?_) | gi_step)
  go_ret
  exact ⟨rfl, HK.out⟩
theorem pk_bytes (B b : Nat) (l : List UInt8) (w : World) (h : Wr B b l w) (h0 : l ≠ []) :
    Calls Tryz.prog 116 #[.pointer (some ⟨b, 0, none⟩)] w fun e w' => e = .returned (.string ⟨l.toArray⟩) ∧ Fresh B b w w' := by
  have H := Lib.hid (And.intro h h0)
  clear h h0
  go_enter Tryz.func116, Tryz.ntmps116
  go_wp2_with fail
  refine (bld_string B b l _ H.out.1 H.out.2).mono ?_
  rintro e9 w1 ⟨rfl, h1⟩
  have H1 := Lib.hid h1
  clear h1
  go_wp2_with fail
  go_ret
  exact ⟨rfl, H1.out⟩
end Go.Proofs.YtdonmmjikcbihaaGreatDoor
