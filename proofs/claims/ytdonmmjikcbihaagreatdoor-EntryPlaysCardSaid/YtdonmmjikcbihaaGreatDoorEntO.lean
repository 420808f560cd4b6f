/- Package entry: the entries of records. -/
import Derived.Test.YtdonmmjikcbihaaGreatDoorEnt3
import Derived.Test.YtdonmmjikcbihaaGreatDoorDelta3
import Derived.Test.YtdonmmjikcbihaaGreatDoorLive
import Derived.Test.YtdonmmjikcbihaaGreatDoorSetP
namespace Go.Proofs.YtdonmmjikcbihaaGreatDoor
open Go.RowKit Go.Proofs Go.Vc
attribute [local irreducible] Calls CallsIn Code.wp Code.wpIn
theorem evall_rel (ty : TypeId) (b : Nat) (m : List (ByteArray × Int)) (S : Nat → Prop) (w : World) (L : List Spn) (mx : Int) (h : LMapsi ty b 0 m S w) (hr : EntRel m L) (hl : m.length ≤ 100000)
    (hm : w.cell? ⟨0, 0, none⟩ = some (.int .i64 mx)) : Calls Tryz.prog 12 #[.pointer (some ⟨b, 0, none⟩)] w (AllPost (refAll L) w) := by
  obtain ⟨qs, h1, h2, h3, h4⟩ := all_rel hr
  have hlen : qs.length = m.length := by have := congrArg List.length h1; simpa using this.symm
  have := evall_i ty b m S w qs mx h h1 h2 h3 (by omega) hm
  rw [h4] at this
  exact this
theorem kept_gone (x : Spn) : (kept x).gone = x.gone := rfl
theorem kept_may (x : Spn) : may (kept x) = may x := rfl
theorem setL_all {p : Spn → Prop} (l : List Spn) (h : ∀ x ∈ l, may x = true → p (kept x)) : ∀ x ∈ setL l, p x := by
  intro x hx
  obtain ⟨y, hy, rfl⟩ := List.mem_map.1 hx
  exact newestL_all l h y hy
/-- an empty view -/
theorem view_new (w : World) (tid : TypeId) : LMapsi tid w.heap.size 0 [] (fun i => i = w.heap.size) (w.alloc (.cells #[.pointer none, .int .i64 0] tid)) := by
  have hN := World.alloc_heap_new w (.cells #[.pointer none, .int .i64 0] tid)
  exact ⟨_, .nil, ⟨hN, rfl, rfl, trivial, by simp [T.blocks]⟩, rfl, List.Pairwise.nil, fun i => by simp [T.blocks]⟩
def OfPost (l : List Spn) (w : World) (e : Ending) (w' : World) : Prop := ∃ v, e = .returned v ∧ EntsAt w' v (refAll (rIn [] (setL l))) ∧ Ext w w'
theorem bnd_nil : Bnd [] 0 := ⟨Nat.le_refl _, fun k => by simp [findL]⟩
theorem bnd_redo {m : List (ByteArray × Int)} {N : Nat} (h : Bnd m N) : ∀ l : List Spn, Bnd (redo m l) (N + l.length) := by
  intro l
  induction l generalizing m N with
  | nil => exact h
  | cons x l ih =>
    have := ih (h.chg x (d := 1) (.inl rfl))
    rw [List.length_cons, show N + (l.length + 1) = N + 1 + l.length by omega]; exact this
theorem eof0_i (v : Value) (l : List Spn) (w : World) (mx : Int) (h : SpnsAt w v l) (hl : l.length ≤ 100) (hf : ∀ x ∈ l, x.Fits) (hg : ∀ x ∈ l, x.gone = false) (hm : w.cell? ⟨0, 0, none⟩ = some (.int .i64 mx)) :
    Calls Tryz.prog 15 #[v] w (OfPost l w) := by
  have hsl := setL_len l
  have hsf := setL_all (p := fun x => x.Fits) l fun x hx _ => kept_fits (hf x hx)
  have hsg := setL_all (p := fun x => x.gone = false) l fun x hx _ => hg x hx
  have hsm := setL_all (p := fun x => may x = true) l fun x hx hm => hm
  obtain ⟨wa, hwa⟩ : ∃ wa, wa = w.alloc (.cells #[.pointer none, .int .i64 0] 28) := ⟨_, rfl⟩
  have hE : Ext w wa := by rw [hwa]; exact (Keeps.refl _ w).alloc _
  have hM : LMapsi 28 w.heap.size 0 [] (fun i => i = w.heap.size) wa := by rw [hwa]; exact view_new w _
  obtain ⟨b, hb⟩ : ∃ b, b = w.heap.size := ⟨_, rfl⟩
  rw [← hb] at hM
  have H := Lib.hid (And.intro hE (And.intro (h.ext hE) (And.intro hM (And.intro (show ∀ wr, Ext w wr → wr.cell? ⟨0, 0, none⟩ = some (.int .i64 mx) from fun wr k => (Ext.cells k 0 0 (by rw [hm]; rfl)).trans hm) hf))))
  have HS := Lib.hid (And.intro hsl (And.intro hsf (And.intro hsg (And.intro hsm hl))))
  clear hE h hM hm hf hg hsl hsf hsg hsm hl
  go_enter Tryz.func15, Tryz.ntmps15
  go_wp2_with fail
  rw [← hwa, ← hb]
  have HBB := Lib.hid hb
  clear hwa hb
  refine (dset_i v l _ H.out.2.1 (by have := HS.out.2.2.2.2; omega) H.out.2.2.2.2).mono ?_
  rintro e9 w1 ⟨v1, rfl, hown1, hE1⟩
  obtain ⟨a1, c1, rfl, _, _⟩ := hown1.slice spnE
  have H1 := Lib.hid (And.intro hown1 hE1)
  clear hown1 hE1
  go_wp2_with fail
  refine (alive0_i (.slice none 0 0) (.slice a1 (setL l).length c1) [] (setL l) _ ⟨none, 0, rfl, ⟨by decide, by decide⟩, fun _ => rfl, fun _ _ _ h => nomatch h⟩ (spns_of_own H1.out.1 (by have := HS.out; omega)) (by decide) (by have := HS.out; omega) (fun _ h => nomatch h) HS.out.2.2.1).mono ?_
  rintro e9 w2 ⟨v2, u2, rfl, hv2, hu2, hE2⟩
  have hbn : ∀ {v : Value} {l : List Spn}, spnE.Own w1.heap.size v l w2 → ∀ g, slBlock v = some g → ¬ g = b := fun {v l} ho g hg e => by
    obtain ⟨a, c, rfl, _, _⟩ := ho.slice spnE
    have hg' : (Value.slice a l.length c).ownBlock = some g := by cases a <;> first | (cases hg; done) | exact hg
    have h1 := (ho.lt spnE hg').1
    have h2 := H.out.2.2.1.lt (i := b) rfl
    have h3 := H1.out.2.size
    omega
  have H2 := Lib.hid (And.intro hv2 (And.intro hu2 (And.intro hE2 (And.intro (hbn hv2) (hbn hu2)))))
  clear hv2 hu2 hE2 hbn
  go_wp2_with fail
  refine (vapply_i 28 b [] _ v2 u2 [] (setL l) _ 0 bnd_nil (by decide) (H.out.2.2.1.ext (H1.out.2.trans H2.out.2.2.1)) (spns_of_own H2.out.1 (by decide)) (spns_of_own H2.out.2.1 (by have := HS.out; omega)) (fun _ => H2.out.2.2.2.1) (fun _ => H2.out.2.2.2.2) (fun _ h => nomatch h) HS.out.2.1 (by decide) (by have := HS.out; omega)).mono ?_
  rintro e9 w3 ⟨rfl, ⟨S', hM3, hS3⟩, hK3⟩
  have hE3 : Ext w w3 := ⟨Nat.le_trans (H.out.1.trans (H1.out.2.trans H2.out.2.2.1)).size hK3.size, fun i hi _ => (hK3.same i (Nat.lt_of_lt_of_le hi (H.out.1.trans (H1.out.2.trans H2.out.2.2.1)).size) (fun e => by have := HBB.out; omega)).trans (Ext.same (H.out.1.trans (H1.out.2.trans H2.out.2.2.1)) hi), ((H.out.1.trans (H1.out.2.trans H2.out.2.2.1)).ost).trans hK3.ost⟩
  have hall : (setL l).all may = true := List.all_eq_true.2 HS.out.2.2.2.1
  have hva : vApply [] [] (setL l) = (redo [] (setL l), true) := by unfold vApply; rw [hall]; rfl
  have hra : rApply [] [] (setL l) = (rIn [] (setL l), true) := by unfold rApply; rw [hall]; rfl
  have hrel := (apply_rel EntRel.nil (out := []) (inn := setL l) (fun _ h => nomatch h) (fun x hx => (HS.out.2.1 x hx).tr)).2
  rw [hva, hra] at hrel
  rw [hva] at hM3
  have hbd := (bnd_redo bnd_nil (setL l)).1
  have H3 := Lib.hid (And.intro hM3 (And.intro hE3 (And.intro hrel hbd)))
  rw [hva]
  clear hM3 hS3 hK3 hE3 hall hva hra hrel hbd
  go_wp2_with fail
  refine (evall_rel 28 b _ _ _ _ mx H3.out.1 H3.out.2.2.1 (by have h1 := H3.out.2.2.2; have h2 := HS.out; omega) (H.out.2.2.2.1 _ H3.out.2.1)).mono ?_
  rintro e9 w4 ⟨v4, rfl, hv4, hE4⟩
  have H4 := Lib.hid (show OfPost l w (.returned v4) w4 from ⟨v4, rfl, hv4, H3.out.2.1.trans hE4⟩)
  clear hv4 hE4
  go_wp2_with fail
  go_ret
  exact H4.out
end Go.Proofs.YtdonmmjikcbihaaGreatDoor
