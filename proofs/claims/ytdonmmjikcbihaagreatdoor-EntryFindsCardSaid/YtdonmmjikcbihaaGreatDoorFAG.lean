/- Parts of the proof, one behind the other: EntS, EFinds. No condition beyond each theorem's own. -/
import Derived.Test.YtdonmmjikcbihaaGreatDoorFAF
/- Entries of records; the document's. -/
namespace Go.Proofs.YtdonmmjikcbihaaGreatDoor
open Go.RowKit Go.Proofs Go.Vc
attribute [local irreducible] Calls CallsIn Code.wp Code.wpIn
def OfSPost (l : List Spn) (w : World) (e : Ending) (w' : World) : Prop := ∃ v, e = .returned v ∧ EntsAt w' v (refAll (rIn [] (spansL l))) ∧ Ext w w'
theorem eof_i (v : Value) (l : List Spn) (w : World) (mx : Int) (h : SpnsAt w v l) (hl : l.length ≤ 100) (hf : ∀ x ∈ l, x.Fits) (hm : w.cell? ⟨0, 0, none⟩ = some (.int .i64 mx)) :
    Calls Tryz.prog 15 #[v] w (OfSPost l w) := by
  have hsl := spansL_len l
  have hss := spansL_isSet l hf
  have hsf := hss.fits
  have hsg := setL_len l
  have hsm := hss.may
  clear hss
  obtain ⟨wa, hwa⟩ : ∃ wa, wa = w.alloc (.cells #[.pointer none, .int .i64 0] 28) := ⟨_, rfl⟩
  have hE : Ext w wa := by rw [hwa]; exact (Keeps.refl _ w).alloc _
  have hM : LMapsi 28 w.heap.size 0 [] (fun i => i = w.heap.size) wa := by rw [hwa]; exact view_new w _
  obtain ⟨b, hb⟩ : ∃ b, b = w.heap.size := ⟨_, rfl⟩
  rw [← hb] at hM
  have H := Lib.hid (And.intro hE (And.intro (h.ext hE) (And.intro hM (And.intro (show ∀ wr, Ext w wr → wr.cell? ⟨0, 0, none⟩ = some (.int .i64 mx) from fun wr k => (Ext.cells k 0 0 (by rw [hm]; rfl)).trans hm) hf))))
  have HS := Lib.hid (And.intro hsl (And.intro hsf (And.intro hsg (And.intro hsm hl))))
  clear hE h hM hm hf hsl hsf hsg hsm hl
  go_enter Tryz.func15, Tryz.ntmps15
  go_wp2_with fail
  rw [← hwa, ← hb]
  have HBB := Lib.hid hb
  clear hwa hb
  refine (dset_i v l _ H.out.2.1 (by have := HS.out.2.2.2.2; omega) H.out.2.2.2.2).mono ?_
  rintro e9 w1 ⟨v1, rfl, hown1, hE1⟩
  obtain ⟨a1, c1, rfl, _, _⟩ := hown1.slice spnE
  have H1 := Lib.hid (And.intro hown1 hE1)
  clear hown1 hE1
  go_wp2_with fail
  refine (alive_i (.slice none 0 0) (.slice a1 (setL l).length c1) [] (setL l) _ ⟨none, 0, rfl, ⟨by decide, by decide⟩, fun _ => rfl, fun _ _ _ h => nomatch h⟩ (spns_of_own H1.out.1 (by have := HS.out; omega)) (by decide) (by have := HS.out; omega)).mono ?_
  rintro e9 w2 ⟨v2, u2, rfl, hv2', hu2', hE2⟩
  have hv2 : spnE.Own w1.heap.size v2 [] w2 := hv2'
  have hu2 : spnE.Own w1.heap.size u2 (spansL l) w2 := hu2'
  clear hv2' hu2'
  have hbn : ∀ {v : Value} {l : List Spn}, spnE.Own w1.heap.size v l w2 → ∀ g, slBlock v = some g → ¬ g = b := fun {v l} ho g hg e => by
    obtain ⟨a, c, rfl, _, _⟩ := ho.slice spnE
    have hg' : (Value.slice a l.length c).ownBlock = some g := by cases a <;> first | (cases hg; done) | exact hg
    have h1 := (ho.lt spnE hg').1
    have h2 := H.out.2.2.1.lt (i := b) rfl
    have h3 := H1.out.2.size
    omega
  have H2 := Lib.hid (And.intro hv2 (And.intro hu2 (And.intro hE2 (And.intro (hbn hv2) (hbn hu2)))))
  clear hv2 hu2 hE2 hbn
  go_wp2_with fail
  refine (vapply_i 28 b [] _ v2 u2 [] (spansL l) _ 0 bnd_nil (by decide) (H.out.2.2.1.ext (H1.out.2.trans H2.out.2.2.1)) (spns_of_own H2.out.1 (by decide)) (spns_of_own H2.out.2.1 (by have := HS.out; omega)) (fun _ => H2.out.2.2.2.1) (fun _ => H2.out.2.2.2.2) (fun _ h => nomatch h) HS.out.2.1 (by decide) (by have := HS.out; omega)).mono ?_
  rintro e9 w3 ⟨rfl, ⟨S', hM3, hS3⟩, hK3⟩
  have hE3 : Ext w w3 := ⟨Nat.le_trans (H.out.1.trans (H1.out.2.trans H2.out.2.2.1)).size hK3.size, fun i hi _ => (hK3.same i (Nat.lt_of_lt_of_le hi (H.out.1.trans (H1.out.2.trans H2.out.2.2.1)).size) (fun e => by have := HBB.out; omega)).trans (Ext.same (H.out.1.trans (H1.out.2.trans H2.out.2.2.1)) hi), ((H.out.1.trans (H1.out.2.trans H2.out.2.2.1)).ost).trans hK3.ost⟩
  have hall : (spansL l).all may = true := List.all_eq_true.2 HS.out.2.2.2.1
  have hva : vApply [] [] (spansL l) = (redo [] (spansL l), true) := by unfold vApply; rw [hall]; rfl
  have hra : rApply [] [] (spansL l) = (rIn [] (spansL l), true) := by unfold rApply; rw [hall]; rfl
  have hrel := (apply_rel EntRel.nil (out := []) (inn := spansL l) (fun _ h => nomatch h) (fun x hx => (HS.out.2.1 x hx).tr)).2
  rw [hva, hra] at hrel
  rw [hva] at hM3
  have hbd := (bnd_redo bnd_nil (spansL l)).1
  have H3 := Lib.hid (And.intro hM3 (And.intro hE3 (And.intro hrel hbd)))
  rw [hva]
  clear hM3 hS3 hK3 hE3 hall hva hra hrel hbd
  go_wp2_with fail
  refine (evall_rel 28 b _ _ _ _ mx H3.out.1 H3.out.2.2.1 (by have h1 := H3.out.2.2.2; have h2 := HS.out; omega) (H.out.2.2.2.1 _ H3.out.2.1)).mono ?_
  rintro e9 w4 ⟨v4, rfl, hv4, hE4⟩
  have H4 := Lib.hid (show OfSPost l w (.returned v4) w4 from ⟨v4, rfl, hv4, H3.out.2.1.trans hE4⟩)
  clear hv4 hE4
  go_wp2_with fail
  go_ret
  exact H4.out
set_option maxRecDepth 20000 in
theorem rof_i (v : Value) (l : List Spn) (w : World) (h : SpnsAt w v l) (hl : l.length ≤ 100) (hf : ∀ x ∈ l, x.Fits ∧ Shrt x) : Calls Tryz.prog 18 #[v] w (OfSPost l w) := by
  obtain ⟨wa, hwa⟩ : ∃ wa, wa = w.alloc (.cells #[.slice none 0 0] 33) := ⟨_, rfl⟩
  have hE : Ext w wa := by rw [hwa]; exact (Keeps.refl _ w).alloc _
  have hN : wa.heap[w.heap.size]? = some (.cells #[.slice none 0 0] 33 (0, 0)) := by rw [hwa]; exact World.alloc_heap_new w _
  obtain ⟨b, hb⟩ : ∃ b, b = w.heap.size := ⟨_, rfl⟩
  rw [← hb] at hN
  have hsl := spansL_len l
  have hss := spansL_isSet l fun x hx => (hf x hx).1
  have hsh : ∀ x ∈ spansL l, Shrt x := fun x hx => by
    have h1 : ∀ y ∈ refSet l, Shrt y := refSet_all l fun y hy => (hf y hy).2
    rw [(newest_own l fun y hy => (hf y hy).1).2] at h1
    exact h1 x (List.mem_filter.1 hx).1
  have H := Lib.hid (And.intro hE (And.intro (h.ext hE) hN))
  have HS := Lib.hid (And.intro hl (And.intro hf (And.intro hsl (And.intro hss hsh))))
  clear hE h hN hl hf hsl hss hsh
  go_enter Tryz.func18, Tryz.ntmps18
  go_wp2_with fail
  rw [← hwa, ← hb]
  have HBB := Lib.hid hb
  clear hwa hb
  refine (rspans_i v l _ H.out.2.1 (by have := HS.out.1; omega) HS.out.2.1).mono ?_
  rintro e9 w1 ⟨v1, rfl, hown1, hE1⟩
  obtain ⟨a1, c1, rfl, _, _⟩ := hown1.slice spnE
  have H1 := Lib.hid (And.intro hown1 (And.intro hE1 ((Ext.same hE1 (lt_of_heap H.out.2.2)).trans H.out.2.2)))
  clear hown1 hE1
  go_wp2_with fail
  have hra : rApply [] [] (spansL l) = (rIn [] (spansL l), true) := by unfold rApply; rw [List.all_eq_true.2 HS.out.2.2.2.1.may]; rfl
  have HRA := Lib.hid hra
  clear hra
  refine (rapply_i 33 b (.slice none 0 0) (.slice none 0 0) (.slice a1 (spansL l).length c1) [] [] (spansL l) _ H1.out.2.2 ⟨none, 0, rfl, ⟨by decide, by decide⟩, fun _ => rfl, fun _ _ _ h => nomatch h⟩ ⟨none, 0, rfl, ⟨by decide, by decide⟩, fun _ => rfl, fun _ _ _ h => nomatch h⟩ (spns_of_own H1.out.1 (by have := HS.out; omega)) (fun h => nomatch h) (fun _ h => nomatch h) (fun x hx => ⟨HS.out.2.2.2.1.fits x hx, HS.out.2.2.2.2 x hx⟩) (by decide) (by decide) (by have := HS.out; omega)).mono ?_
  rintro e9 w2 ⟨rfl, ⟨vL, hx2, hr2, _⟩, hk2⟩
  rw [HRA.out] at hr2 ⊢
  have hE2 : Ext w w2 := ⟨Nat.le_trans (H.out.1.trans H1.out.2.1).size hk2.size, fun i hi _ => (hk2.same i (Nat.lt_of_lt_of_le hi (H.out.1.trans H1.out.2.1).size) (fun e => by have := HBB.out; omega)).trans (Ext.same (H.out.1.trans H1.out.2.1) hi), ((H.out.1.trans H1.out.2.1).ost).trans hk2.ost⟩
  have H2 := Lib.hid (And.intro hx2 (And.intro hr2 hE2))
  clear hx2 hr2 hk2 hE2
  go_wp2_with fail
  refine (rall_i 33 b vL (rIn [] (spansL l)) _ H2.out.1 H2.out.2.1 (by have h1 := rIn_len [] (spansL l); have h2 := HS.out; simp only [List.length_nil] at h1; omega)).mono ?_
  rintro e9 w3 ⟨v3, rfl, hv3, hE3⟩
  have H3 := Lib.hid (show OfSPost l w (.returned v3) w3 from ⟨v3, rfl, hv3, H2.out.2.2.trans hE3⟩)
  clear hv3 hE3
  go_wp2_with fail
  go_ret
  exact H3.out
end Go.Proofs.YtdonmmjikcbihaaGreatDoor
/- The law EntryFinds, walked. -/
namespace Go.Proofs.YtdonmmjikcbihaaGreatDoor
open Go.RowKit Go.Proofs Go.Vc
attribute [local irreducible] Calls CallsIn Code.wp Code.wpIn
theorem few_short' {l : List Spn} {n : Nat} (h : fewL l n = true) : l.length ≤ n ∧ ∀ x ∈ l, Shrt x := by
  unfold fewL at h
  rw [Bool.and_eq_true, decide_eq_true_eq, List.all_eq_true] at h
  refine ⟨h.2, fun x hx => ?_⟩
  have := h.1 x (by rw [List.take_of_length_le h.2]; exact hx)
  unfold short at this
  rw [Bool.and_eq_true, decide_eq_true_eq, decide_eq_true_eq] at this
  exact ⟨by omega, by omega⟩
theorem VIs.mono' {ty : TypeId} {b N M : Nat} {L : List Spn} {S : Nat → Prop} {w : World} (h : VIs ty b N L S w) (k : N ≤ M) : VIs ty b M L S w := by
  obtain ⟨m, h1, h2, h3⟩ := h
  exact ⟨m, h1, h2, h3.mono k⟩
theorem own_slBlock {B : Nat} {v : Value} {l : List Spn} {w : World} (h : spnE.Own B v l w) {g : Nat} (hg : slBlock v = some g) : B ≤ g ∧ g < w.heap.size := by
  obtain ⟨a, c, rfl, _, _⟩ := h.slice spnE
  have hg' : (Value.slice a l.length c).ownBlock = some g := by cases a <;> first | (cases hg; done) | exact hg
  exact h.lt spnE hg'
/-- between two rounds -/
structure FBoth (n0 b : Nat) (j : Nat) (L P : List Spn) (S : Nat → Prop) (pv : Value) (wr : World) : Prop where
  v : VIs 28 b (100 * j) L S wr
  r : SpnsAt wr pv P
  set : IsSet P
  shr : P.length ≤ 20
  cn : ∀ q, cnt L q = rc P q
  na : ∀ g, slBlock pv = some g → ¬ S g
  lo : ∀ i, S i → n0 ≤ i
theorem IsSet.nil : IsSet [] := ⟨List.Pairwise.nil, (fun _ h => nomatch h), (fun _ h => nomatch h), (fun _ h => nomatch h)⟩
theorem ents_ext {w w' : World} {v : Value} {E : List Ent} (h : EntsAt w v E) (k : Ext w w') : EntsAt w' v E := h.ext k
set_option maxHeartbeats 4000000 in
set_option maxRecDepth 20000 in
theorem efinds_i (v : Value) (D : List (List Spn)) (w : World) (mx : Int) (h : SpssAt w v D) (hf : ∀ d ∈ D, ∀ x ∈ d, x.Fits) (hm : w.cell? ⟨0, 0, none⟩ = some (.int .i64 mx)) :
    Calls Tryz.prog 5 #[v] w fun e w' => e = .returned (.bool true) ∧ Ext w w' := by
  obtain ⟨l, hr, hlen, hs⟩ := h
  have hr' := hr
  obtain ⟨a, cap, rfl, hn, h0, _⟩ := hr'
  obtain ⟨n, hnl⟩ : ∃ n, n = l.length := ⟨_, rfl⟩
  rw [← hnl] at hr hn ⊢
  have HM := Lib.hid (show ∀ wr, Ext w wr → wr.cell? ⟨0, 0, none⟩ = some (.int .i64 mx) from fun wr k => (Ext.cells k 0 0 (by rw [hm]; rfl)).trans hm)
  have HD := Lib.hid (And.intro (show ∀ wr, Ext w wr → slE.Reads wr (.slice a n cap) l from fun wr k => hr.ext slE k) (And.intro (show ∀ wr, Ext w wr → ∀ i (h : i < l.length) (h' : i < D.length), SpnsAt wr (slV l[i]) D[i] from fun wr k i h h' => (hs i h h').ext k) (And.intro hlen hf)))
  have HN := Lib.hid hnl
  clear hr hs hlen hf hm hnl h0
  by_cases hn8 : (8 : Int) < n
  · go_enter Tryz.func5, Tryz.ntmps5
    go_wp2_with fail
    refine (awake_i _ mx (HM.out _ (Keeps.refl _ _))).mono ?_
    rintro e9 w2 ⟨rfl, hE2⟩
    have HE2 := Lib.hid hE2
    clear hE2
    go_wp2_with fail
    go_ret
    exact ⟨rfl, HE2.out⟩
  · go_enter Tryz.func5, Tryz.ntmps5
    go_wp2_with fail
    obtain ⟨wx, hwx⟩ : ∃ wx, wx = w.alloc (.cells #[.pointer none, .int .i64 0] 28) := ⟨_, rfl⟩
    have hEv : Ext w wx := by rw [hwx]; exact (Keeps.refl _ w).alloc _
    have hV : VIs 28 w.heap.size 0 [] (fun i => i = w.heap.size) wx := by rw [hwx]; exact VIs.new w 28
    obtain ⟨b, hb⟩ : ∃ b, b = w.heap.size := ⟨_, rfl⟩
    rw [← hb] at hV
    have HX := Lib.hid (And.intro (show FBoth w.heap.size b 0 [] [] (fun i => i = b) (.slice none 0 0) wx from
      { v := hV, r := ⟨none, 0, rfl, ⟨by decide, by decide⟩, fun _ => rfl, fun _ _ _ h => nomatch h⟩, set := IsSet.nil, shr := Nat.zero_le _, cn := fun q => rfl, na := (fun g h => nomatch h), lo := fun i hi => by rw [hi, hb]; exact Nat.le_refl _ }) (And.intro hEv hb))
    clear hEv hV
    rw [← hwx, ← hb]
    clear hwx hb
    go_loopg [4, 5] n (fun k p4 p5 wr => ∃ (j : Nat) (L P : List Spn) (S : Nat → Prop), p5 = .int .i64 j ∧ j + k = n ∧ Ext w wr ∧ FBoth w.heap.size b j L P S p4 wr)
    case atStart => exact ⟨0, [], [], _, rfl, Nat.zero_add _, HX.out.2.1, HX.out.1⟩
    case round =>
      obtain ⟨j, L, P, S, rfl, hj, hE, hB⟩ := hrel
      by_cases hjn : (j : Int) < n
      · have hjl : j < l.length := by rw [← HN.out]; omega
        have hjD : j < D.length := by rw [← HD.out.2.2.1]; exact hjl
        obtain ⟨g, o, rfl, hc⟩ := (HD.out.1 wr hE).at hjl
        have hgl : g < w.heap.size := by
          obtain ⟨g', o', e', hc'⟩ := (HD.out.1 w (Keeps.refl _ _)).at hjl
          injection e' with e'
          injection e' with e1 _ _
          subst e1
          exact World.block_lt_of_cell? w ⟨g, o' + (j * 1 + 0), none⟩ (hc' j hjl 0 (by decide))
        obtain ⟨d, hd⟩ : ∃ d, d = l[j] := ⟨_, rfl⟩
        have hk0 := hc j hjl 0 (by decide)
        rw [← hd] at hk0
        obtain ⟨p1, p2, p3⟩ := d
        have hk0' : wr.cell? ⟨g, o + j * 1, none⟩ = some (.slice p1 p2 p3) := hk0
        rw [Nat.mul_one] at hk0'
        obtain ⟨inp, hinp⟩ : ∃ x, x = D[j] := ⟨_, rfl⟩
        have hsp : ∀ wr, Ext w wr → SpnsAt wr (.slice p1 p2 p3) inp := fun wr k => by
          have := HD.out.2.1 wr k j hjl hjD
          rw [← hd, ← hinp] at this; exact this
        have hfit := HD.out.2.2.2 D[j] (List.getElem_mem hjD)
        rw [← hinp] at hfit
        have HSP := Lib.hid (And.intro hsp (And.intro hfit (And.intro hgl hk0')))
        have HB := Lib.hid (And.intro hB hE)
        have hng : ¬ w.heap.size ≤ g := by omega
        clear hc hd hk0 hinp hsp hfit hB hE
        go_wp2_with fail
        refine (few_i (.slice p1 p2 p3) inp 20 (by decide) _ (HSP.out.1 _ HB.out.2)).mono ?_
        rintro e9 w1 ⟨rfl, hE1⟩
        have HE1 := Lib.hid (And.intro (HB.out.2.trans hE1) hE1)
        have hk10 : w1.cell? ⟨g, o + j, none⟩ = some (.slice p1 p2 p3) := (Ext.cells hE1 _ _ (by rw [hk0']; rfl)).trans hk0'
        clear hE1
        cases hfew : fewL inp 20
        · clear hfew
          go_wp2_with fail
          refine (awake_i _ mx (HM.out _ HE1.out.1)).mono ?_
          rintro e9 w2 ⟨rfl, hE2⟩
          have HE2 := Lib.hid hE2
          clear hE2
          go_wp2_with fail
          go_ret
          exact ⟨rfl, HE1.out.1.trans HE2.out⟩
        · have HF := Lib.hid (few_short' hfew)
          clear hfew hk0'
          go_wp2_with fail
          refine (rspans_i (.slice p1 p2 p3) inp _ (HSP.out.1 _ HE1.out.1) (by have := HF.out.1; omega) (fun x hx => ⟨HSP.out.2.1 x hx, HF.out.2 x hx⟩)).mono ?_
          obtain ⟨nx, hnx⟩ : ∃ nx, nx = spansL inp := ⟨_, rfl⟩
          have HNX := Lib.hid hnx
          have hset : IsSet nx := by rw [hnx]; exact spansL_isSet inp HSP.out.2.1
          have hnl : nx.length ≤ 20 := by rw [hnx]; exact Nat.le_trans (spansL_len inp) HF.out.1
          rw [← hnx]
          clear hnx
          rintro e9 w2 ⟨nv, rfl, hown2, hE2⟩
          have hk20 : w2.cell? ⟨g, o + j, none⟩ = some (.slice p1 p2 p3) := (Ext.cells hE2 _ _ (by rw [hk10]; rfl)).trans hk10
          have hE02 := HE1.out.2.trans hE2
          obtain ⟨an, cn, rfl, _, _⟩ := hown2.slice spnE
          have H2 := Lib.hid (And.intro hown2 (And.intro (HB.out.2.trans hE02) (And.intro (HB.out.1.v.ext hE02) (And.intro (HB.out.1.r.ext hE02) (And.intro (show ∀ g, slBlock (.slice an nx.length cn) = some g → w.heap.size ≤ g ∧ ¬ S g from fun g hg => by
            have h1 := own_slBlock hown2 hg
            exact ⟨Nat.le_trans HE1.out.1.size h1.1, fun hs => by have h2 := HB.out.1.v.lt hs; have h3 := HE1.out.2.size; omega⟩) (And.intro hset (And.intro hnl hE02)))))))
          clear hown2 hE2 hE02 hk10 hset hnl
          have hnx20 : nx.length ≤ 20 := H2.out.2.2.2.2.2.2.1
          have hj8 : j < 8 := by omega
          go_wp2_with fail
          refine wp_drawK (fun i => w.heap.size ≤ i) (way [0, 1, 2, 3, 4, 5, 7, 8, 9, 10, 6, 11, 12, 13, 14, 15, 17, 18, 19, 20, 16, 21, 22, 23, 24]) (by kernel_rfl) (by kernel_rfl) (fun w3 hh hd hf hS => ?_)
          have hE3 : Ext w2 w3 := ⟨by rw [hh]; exact Nat.le_refl _, fun i _ _ => by rw [hh], hS.ost⟩
          have hk30 : w3.cell? ⟨g, o + j, none⟩ = some (.slice p1 p2 p3) := (hd _ _).trans hk20
          have H3 := Lib.hid hE3
          clear hh hd hf hE3
          simp only [way]
          go_wp2_with (first | (refine' hl_q rfl rfl rfl (fun _ => ?_) ?_; rotate_left; (go_simp <;> (try go_bits) <;> rfl); (try simp only [Act.put, List.setIfInBounds_toArray, List.set_cons_zero, List.set_cons_succ])) | (refine' hl_rS rfl rfl rfl hS ?_ ?_; rotate_left; (intro w9 hS9; (first | have hc9 := Ext.cells hS9 | have hc9 := Keeps.cells hS9); (go_simp <;> rfl)); (try simp only [Act.put, List.setIfInBounds_toArray, List.set_cons_zero, List.set_cons_succ])) | (refine' hl_r rfl rfl rfl ?_ ?_; rotate_left; (rintro w9 (rfl | hS9); (go_simp <;> rfl); (first | have hc9 := Ext.cells hS9 | have hc9 := Keeps.cells hS9 | (try dsimp only at hS9)); (go_simp <;> rfl)); (try simp only [Act.put, List.setIfInBounds_toArray, List.set_cons_zero, List.set_cons_succ])) | (refine' hl_s rfl rfl ?_; (try simp only [Act.put, List.setIfInBounds_toArray, List.set_cons_zero, List.set_cons_succ])) | (refine hl_e rfl rfl rfl (fun K hK => ?_)) | (with_reducible refine And.intro (fun hn => ?_) ?_; (first | exact hS | exact Keeps.alloc hS _ | exact absurd hn (by rw [show needS _ _ = false from by kernel_rfl]; exact Bool.false_ne_true))) | (refine hl_done ?_) | gi_step)
          refine callsIn_wide.2 ((between_i u4 (.slice an nx.length cn) P nx _ (H2.out.2.2.2.1.ext H3.out) ((spns_of_own H2.out.1 (by omega)).ext H3.out) (by have := HB.out.1.shr; omega) (by omega) HB.out.1.set.fits H2.out.2.2.2.2.2.1.fits).mono ?_)
          rw [between_sets HB.out.1.set H2.out.2.2.2.2.2.1, between_sets H2.out.2.2.2.2.2.1 HB.out.1.set]
          rintro e9 w4 ⟨v4, u5, rfl, ho4, hi4, hE4⟩
          have hS4 : Keeps (fun i => w.heap.size ≤ i) w2 w4 := hS.trans (hE4.mono fun _ _ hf => hf.elim)
          have hlo : (withoutL P nx).length ≤ 20 := Nat.le_trans (List.length_filter_le _ _) HB.out.1.shr
          have hli : (withoutL nx P).length ≤ 20 := Nat.le_trans (List.length_filter_le _ _) hnx20
          have H4 := Lib.hid (And.intro ho4 (And.intro hi4 (And.intro (H2.out.2.1.trans (H3.out.trans hE4)) (And.intro (H2.out.2.2.1.ext (H3.out.trans hE4)) (And.intro ((spns_of_own H2.out.1 (by omega)).ext (H3.out.trans hE4)) (And.intro hlo (And.intro hli (show ∀ i, S i → i < w3.heap.size from fun i hi => Nat.lt_of_lt_of_le (HB.out.1.v.lt hi) (Nat.le_trans H2.out.2.2.2.2.2.2.2.size H3.out.size)))))))))
          have hBE := Lib.hid (between_ents HB.out.1.set.nodup H2.out.2.2.2.2.2.1.nodup HB.out.1.set.may H2.out.2.2.2.2.2.1.may HB.out.1.cn)
          clear hS ho4 hi4 hE4 hlo hli hk30
          have hS := hS4
          clear hS4
          go_wp2_with (first | (refine' hl_q rfl rfl rfl (fun _ => ?_) ?_; rotate_left; (go_simp <;> (try go_bits) <;> rfl); (try simp only [Act.put, List.setIfInBounds_toArray, List.set_cons_zero, List.set_cons_succ])) | (refine' hl_rS rfl rfl rfl hS ?_ ?_; rotate_left; (intro w9 hS9; (first | have hc9 := Ext.cells hS9 | have hc9 := Keeps.cells hS9); (go_simp <;> rfl)); (try simp only [Act.put, List.setIfInBounds_toArray, List.set_cons_zero, List.set_cons_succ])) | (refine' hl_r rfl rfl rfl ?_ ?_; rotate_left; (rintro w9 (rfl | hS9); (go_simp <;> rfl); (first | have hc9 := Ext.cells hS9 | have hc9 := Keeps.cells hS9 | (try dsimp only at hS9)); (go_simp <;> rfl)); (try simp only [Act.put, List.setIfInBounds_toArray, List.set_cons_zero, List.set_cons_succ])) | (refine' hl_s rfl rfl ?_; (try simp only [Act.put, List.setIfInBounds_toArray, List.set_cons_zero, List.set_cons_succ])) | (refine hl_e rfl rfl rfl (fun K hK => ?_)) | (with_reducible refine And.intro (fun hn => ?_) ?_; (first | exact hS | exact Keeps.alloc hS _ | exact absurd hn (by rw [show needS _ _ = false from by kernel_rfl]; exact Bool.false_ne_true))) | (refine hl_done ?_) | gi_step)
          refine callsIn_wide.2 ((H4.out.2.2.2.1.apply (by omega) (spns_of_own H4.out.1 (by have := H4.out.2.2.2.2.2.1; omega)) (spns_of_own H4.out.2.1 (by have := H4.out.2.2.2.2.2.2.1; omega)) (fun _ g hg hs => by have h1 := own_slBlock H4.out.1 hg; have h2 := H4.out.2.2.2.2.2.2.2 g hs; omega) (fun _ g hg hs => by have h1 := own_slBlock H4.out.2.1 hg; have h2 := H4.out.2.2.2.2.2.2.2 g hs; omega) (fun x hx => HB.out.1.set.fits x (List.mem_filter.1 hx).1) (fun x hx => H2.out.2.2.2.2.2.1.fits x (List.mem_filter.1 hx).1) (by have := H4.out.2.2.2.2.2.1; omega) (by have := H4.out.2.2.2.2.2.2.1; omega)).mono ?_)
          rintro e9 w5 ⟨rfl, ⟨S5, hV5, hs5⟩, hk5⟩
          rw [hBE.out.1]
          obtain ⟨L5, hL5⟩ : ∃ L5, L5 = (rApply L (withoutL P nx) (withoutL nx P)).1 := ⟨_, rfl⟩
          rw [← hL5] at hV5
          have hE5 := ext_keeps H4.out.2.2.1 hk5 HB.out.1.lo
          have hS5' : Keeps (fun i => w.heap.size ≤ i) w2 w5 := hS.andThen hk5 fun i _ hi => HB.out.1.lo i hi
          have hlo5 : ∀ i, S5 i → w.heap.size ≤ i := fun i hi => (hs5 i hi).elim (HB.out.1.lo i) (fun h => Nat.le_trans H4.out.2.2.1.size h)
          have hr5 : SpnsAt w5 (.slice an nx.length cn) nx := H4.out.2.2.2.2.1.keeps hk5 fun g hg hs => (H2.out.2.2.2.2.1 g hg).2 hs
          have hna5 : ∀ g, slBlock (.slice an nx.length cn) = some g → ¬ S5 g := fun g hg hs => by
            rcases hs5 g hs with h | h
            · exact (H2.out.2.2.2.2.1 g hg).2 h
            · have h1 := (own_slBlock H2.out.1 hg).2
              have h2 := H3.out.size
              have h3 := hS.size
              omega
          have H5 := Lib.hid (And.intro hE5 (And.intro hV5 (And.intro hr5 (And.intro hna5 (And.intro hlo5 (show ∀ q, cnt L5 q = rc nx q from fun q => by rw [hL5]; exact hBE.out.2 q))))))
          clear hS hE5 hV5 hs5 hk5 hr5 hna5 hlo5 hL5
          have hS := hS5'
          clear hS5'
          have hk50 : w5.cell? ⟨g, o + j, none⟩ = some (.slice p1 p2 p3) := (Keeps.cells hS _ _ (by rw [hk20]; rfl) hng).trans hk20
          go_wp2_with (first | (refine' hl_q rfl rfl rfl (fun _ => ?_) ?_; rotate_left; (go_simp <;> (try go_bits) <;> rfl); (try simp only [Act.put, List.setIfInBounds_toArray, List.set_cons_zero, List.set_cons_succ])) | (refine' hl_rS rfl rfl rfl hS ?_ ?_; rotate_left; (intro w9 hS9; (first | have hc9 := Ext.cells hS9 | have hc9 := Keeps.cells hS9); (go_simp <;> rfl)); (try simp only [Act.put, List.setIfInBounds_toArray, List.set_cons_zero, List.set_cons_succ])) | (refine' hl_r rfl rfl rfl ?_ ?_; rotate_left; (rintro w9 (rfl | hS9); (go_simp <;> rfl); (first | have hc9 := Ext.cells hS9 | have hc9 := Keeps.cells hS9 | (try dsimp only at hS9)); (go_simp <;> rfl)); (try simp only [Act.put, List.setIfInBounds_toArray, List.set_cons_zero, List.set_cons_succ])) | (refine' hl_s rfl rfl ?_; (try simp only [Act.put, List.setIfInBounds_toArray, List.set_cons_zero, List.set_cons_succ])) | (refine hl_e rfl rfl rfl (fun K hK => ?_)) | (with_reducible refine And.intro (fun hn => ?_) ?_; (first | exact hS | exact Keeps.alloc hS _ | exact absurd hn (by rw [show needS _ _ = false from by kernel_rfl]; exact Bool.false_ne_true))) | (refine hl_done ?_) | gi_step)
          refine callsIn_wide.2 ((H5.out.2.1.all (by have := H4.out.2.2.2.2.2.1; have := H4.out.2.2.2.2.2.2.1; omega) (HM.out _ H5.out.1)).mono ?_)
          rintro e9 w6 ⟨v6, rfl, hv6, hE6⟩
          have hS6 : Keeps (fun i => w.heap.size ≤ i) w2 w6 := hS.trans (hE6.mono fun _ _ hf => hf.elim)
          have H6 := Lib.hid (And.intro hv6 (And.intro (H5.out.1.trans hE6) hE6))
          clear hS hv6 hE6
          have hS := hS6
          clear hS6
          go_wp2_with (first | (refine' hl_q rfl rfl rfl (fun _ => ?_) ?_; rotate_left; (go_simp <;> (try go_bits) <;> rfl); (try simp only [Act.put, List.setIfInBounds_toArray, List.set_cons_zero, List.set_cons_succ])) | (refine' hl_rS rfl rfl rfl hS ?_ ?_; rotate_left; (intro w9 hS9; (first | have hc9 := Ext.cells hS9 | have hc9 := Keeps.cells hS9); (go_simp <;> rfl)); (try simp only [Act.put, List.setIfInBounds_toArray, List.set_cons_zero, List.set_cons_succ])) | (refine' hl_r rfl rfl rfl ?_ ?_; rotate_left; (rintro w9 (rfl | hS9); (go_simp <;> rfl); (first | have hc9 := Ext.cells hS9 | have hc9 := Keeps.cells hS9 | (try dsimp only at hS9)); (go_simp <;> rfl)); (try simp only [Act.put, List.setIfInBounds_toArray, List.set_cons_zero, List.set_cons_succ])) | (refine' hl_s rfl rfl ?_; (try simp only [Act.put, List.setIfInBounds_toArray, List.set_cons_zero, List.set_cons_succ])) | (refine hl_e rfl rfl rfl (fun K hK => ?_)) | (with_reducible refine And.intro (fun hn => ?_) ?_; (first | exact hS | exact Keeps.alloc hS _ | exact absurd hn (by rw [show needS _ _ = false from by kernel_rfl]; exact Bool.false_ne_true))) | (refine hl_done ?_) | gi_step)
          refine callsIn_wide.2 ((eof_i (.slice p1 p2 p3) inp _ mx (HSP.out.1 _ H6.out.2.1) (by have := HF.out.1; omega) HSP.out.2.1 (HM.out _ H6.out.2.1)).mono ?_)
          rintro e9 w7 ⟨v7, rfl, hv7, hE7⟩
          have hra : refAll (rIn [] (spansL inp)) = refAll L5 := refAll_cnt fun q => by rw [cnt_rIn_nil, ← HNX.out]; exact (H5.out.2.2.2.2.2 q).symm
          rw [hra] at hv7
          have HRA := Lib.hid hra
          have hS7 : Keeps (fun i => w.heap.size ≤ i) w2 w7 := hS.trans (hE7.mono fun _ _ hf => hf.elim)
          have H7 := Lib.hid (And.intro hv7 (And.intro (H6.out.1.ext hE7) (And.intro (H6.out.2.1.trans hE7) (H6.out.2.2.trans hE7))))
          clear hS hv7 hE7 hra
          have hS := hS7
          clear hS7
          go_wp2_with (first | (refine' hl_q rfl rfl rfl (fun _ => ?_) ?_; rotate_left; (go_simp <;> (try go_bits) <;> rfl); (try simp only [Act.put, List.setIfInBounds_toArray, List.set_cons_zero, List.set_cons_succ])) | (refine' hl_rS rfl rfl rfl hS ?_ ?_; rotate_left; (intro w9 hS9; (first | have hc9 := Ext.cells hS9 | have hc9 := Keeps.cells hS9); (go_simp <;> rfl)); (try simp only [Act.put, List.setIfInBounds_toArray, List.set_cons_zero, List.set_cons_succ])) | (refine' hl_r rfl rfl rfl ?_ ?_; rotate_left; (rintro w9 (rfl | hS9); (go_simp <;> rfl); (first | have hc9 := Ext.cells hS9 | have hc9 := Keeps.cells hS9 | (try dsimp only at hS9)); (go_simp <;> rfl)); (try simp only [Act.put, List.setIfInBounds_toArray, List.set_cons_zero, List.set_cons_succ])) | (refine' hl_s rfl rfl ?_; (try simp only [Act.put, List.setIfInBounds_toArray, List.set_cons_zero, List.set_cons_succ])) | (refine hl_e rfl rfl rfl (fun K hK => ?_)) | (with_reducible refine And.intro (fun hn => ?_) ?_; (first | exact hS | exact Keeps.alloc hS _ | exact absurd hn (by rw [show needS _ _ = false from by kernel_rfl]; exact Bool.false_ne_true))) | (refine hl_done ?_) | gi_step)
          refine callsIn_wide.2 ((rsame_i v6 v7 _ _ _ H7.out.2.1 H7.out.1).mono ?_)
          rintro e9 w8 ⟨rfl, hE8⟩
          rw [decide_eq_true rfl]
          have hS8 : Keeps (fun i => w.heap.size ≤ i) w2 w8 := hS.trans (hE8.mono fun _ _ hf => hf.elim)
          have H8 := Lib.hid (And.intro (H7.out.2.2.1.trans hE8) (H7.out.2.2.2.trans hE8))
          clear hS hE8
          have hS := hS8
          clear hS8
          have hk80 : w8.cell? ⟨g, o + j, none⟩ = some (.slice p1 p2 p3) := (Keeps.cells hS _ _ (by rw [hk20]; rfl) hng).trans hk20
          go_wp2_with (first | (refine' hl_q rfl rfl rfl (fun _ => ?_) ?_; rotate_left; (go_simp <;> (try go_bits) <;> rfl); (try simp only [Act.put, List.setIfInBounds_toArray, List.set_cons_zero, List.set_cons_succ])) | (refine' hl_rS rfl rfl rfl hS ?_ ?_; rotate_left; (intro w9 hS9; (first | have hc9 := Ext.cells hS9 | have hc9 := Keeps.cells hS9); (go_simp <;> rfl)); (try simp only [Act.put, List.setIfInBounds_toArray, List.set_cons_zero, List.set_cons_succ])) | (refine' hl_r rfl rfl rfl ?_ ?_; rotate_left; (rintro w9 (rfl | hS9); (go_simp <;> rfl); (first | have hc9 := Ext.cells hS9 | have hc9 := Keeps.cells hS9 | (try dsimp only at hS9)); (go_simp <;> rfl)); (try simp only [Act.put, List.setIfInBounds_toArray, List.set_cons_zero, List.set_cons_succ])) | (refine' hl_s rfl rfl ?_; (try simp only [Act.put, List.setIfInBounds_toArray, List.set_cons_zero, List.set_cons_succ])) | (refine hl_e rfl rfl rfl (fun K hK => ?_)) | (with_reducible refine And.intro (fun hn => ?_) ?_; (first | exact hS | exact Keeps.alloc hS _ | exact absurd hn (by rw [show needS _ _ = false from by kernel_rfl]; exact Bool.false_ne_true))) | (refine hl_done ?_) | gi_step)
          refine callsIn_wide.2 (((H5.out.2.1.ext H8.out.2).all (by have := H4.out.2.2.2.2.2.1; have := H4.out.2.2.2.2.2.2.1; omega) (HM.out _ H8.out.1)).mono ?_)
          rintro e9 w9 ⟨v9, rfl, hv9, hE9⟩
          have hS9 : Keeps (fun i => w.heap.size ≤ i) w2 w9 := hS.trans (hE9.mono fun _ _ hf => hf.elim)
          have H9 := Lib.hid (And.intro hv9 (And.intro (H8.out.1.trans hE9) (H8.out.2.trans hE9)))
          clear hS hv9 hE9
          have hS := hS9
          clear hS9
          go_wp2_with (first | (refine' hl_q rfl rfl rfl (fun _ => ?_) ?_; rotate_left; (go_simp <;> (try go_bits) <;> rfl); (try simp only [Act.put, List.setIfInBounds_toArray, List.set_cons_zero, List.set_cons_succ])) | (refine' hl_rS rfl rfl rfl hS ?_ ?_; rotate_left; (intro w9 hS9; (first | have hc9 := Ext.cells hS9 | have hc9 := Keeps.cells hS9); (go_simp <;> rfl)); (try simp only [Act.put, List.setIfInBounds_toArray, List.set_cons_zero, List.set_cons_succ])) | (refine' hl_r rfl rfl rfl ?_ ?_; rotate_left; (rintro w9 (rfl | hS9); (go_simp <;> rfl); (first | have hc9 := Ext.cells hS9 | have hc9 := Keeps.cells hS9 | (try dsimp only at hS9)); (go_simp <;> rfl)); (try simp only [Act.put, List.setIfInBounds_toArray, List.set_cons_zero, List.set_cons_succ])) | (refine' hl_s rfl rfl ?_; (try simp only [Act.put, List.setIfInBounds_toArray, List.set_cons_zero, List.set_cons_succ])) | (refine hl_e rfl rfl rfl (fun K hK => ?_)) | (with_reducible refine And.intro (fun hn => ?_) ?_; (first | exact hS | exact Keeps.alloc hS _ | exact absurd hn (by rw [show needS _ _ = false from by kernel_rfl]; exact Bool.false_ne_true))) | (refine hl_done ?_) | gi_step)
          refine callsIn_wide.2 ((rof_i (.slice p1 p2 p3) inp _ (HSP.out.1 _ H9.out.2.1) (by have := HF.out.1; omega) (fun x hx => ⟨HSP.out.2.1 x hx, HF.out.2 x hx⟩)).mono ?_)
          rintro e9 w10 ⟨v10, rfl, hv10, hE10⟩
          rw [HRA.out] at hv10
          have hS10 : Keeps (fun i => w.heap.size ≤ i) w2 w10 := hS.trans (hE10.mono fun _ _ hf => hf.elim)
          have H10 := Lib.hid (And.intro hv10 (And.intro (H9.out.1.ext hE10) (And.intro (H9.out.2.1.trans hE10) (H9.out.2.2.trans hE10))))
          clear hS hv10 hE10
          have hS := hS10
          clear hS10
          go_wp2_with (first | (refine' hl_q rfl rfl rfl (fun _ => ?_) ?_; rotate_left; (go_simp <;> (try go_bits) <;> rfl); (try simp only [Act.put, List.setIfInBounds_toArray, List.set_cons_zero, List.set_cons_succ])) | (refine' hl_rS rfl rfl rfl hS ?_ ?_; rotate_left; (intro w9 hS9; (first | have hc9 := Ext.cells hS9 | have hc9 := Keeps.cells hS9); (go_simp <;> rfl)); (try simp only [Act.put, List.setIfInBounds_toArray, List.set_cons_zero, List.set_cons_succ])) | (refine' hl_r rfl rfl rfl ?_ ?_; rotate_left; (rintro w9 (rfl | hS9); (go_simp <;> rfl); (first | have hc9 := Ext.cells hS9 | have hc9 := Keeps.cells hS9 | (try dsimp only at hS9)); (go_simp <;> rfl)); (try simp only [Act.put, List.setIfInBounds_toArray, List.set_cons_zero, List.set_cons_succ])) | (refine' hl_s rfl rfl ?_; (try simp only [Act.put, List.setIfInBounds_toArray, List.set_cons_zero, List.set_cons_succ])) | (refine hl_e rfl rfl rfl (fun K hK => ?_)) | (with_reducible refine And.intro (fun hn => ?_) ?_; (first | exact hS | exact Keeps.alloc hS _ | exact absurd hn (by rw [show needS _ _ = false from by kernel_rfl]; exact Bool.false_ne_true))) | (refine hl_done ?_) | gi_step)
          refine callsIn_wide.2 ((rsame_i v9 v10 _ _ _ H10.out.2.1 H10.out.1).mono ?_)
          rintro e9 w11 ⟨rfl, hE11⟩
          rw [decide_eq_true rfl]
          have hS11 : Keeps (fun i => w.heap.size ≤ i) w2 w11 := hS.trans (hE11.mono fun _ _ hf => hf.elim)
          have H11 := Lib.hid (And.intro (H10.out.2.2.1.trans hE11) (H10.out.2.2.2.trans hE11))
          clear hS hE11
          have hS := hS11
          clear hS11
          go_wp2_with (first | (refine' hl_q rfl rfl rfl (fun _ => ?_) ?_; rotate_left; (go_simp <;> (try go_bits) <;> rfl); (try simp only [Act.put, List.setIfInBounds_toArray, List.set_cons_zero, List.set_cons_succ])) | (refine' hl_rS rfl rfl rfl hS ?_ ?_; rotate_left; (intro w9 hS9; (first | have hc9 := Ext.cells hS9 | have hc9 := Keeps.cells hS9); (go_simp <;> rfl)); (try simp only [Act.put, List.setIfInBounds_toArray, List.set_cons_zero, List.set_cons_succ])) | (refine' hl_r rfl rfl rfl ?_ ?_; rotate_left; (rintro w9 (rfl | hS9); (go_simp <;> rfl); (first | have hc9 := Ext.cells hS9 | have hc9 := Keeps.cells hS9 | (try dsimp only at hS9)); (go_simp <;> rfl)); (try simp only [Act.put, List.setIfInBounds_toArray, List.set_cons_zero, List.set_cons_succ])) | (refine' hl_s rfl rfl ?_; (try simp only [Act.put, List.setIfInBounds_toArray, List.set_cons_zero, List.set_cons_succ])) | (refine hl_e rfl rfl rfl (fun K hK => ?_)) | (with_reducible refine And.intro (fun hn => ?_) ?_; (first | exact hS | exact Keeps.alloc hS _ | exact absurd hn (by rw [show needS _ _ = false from by kernel_rfl]; exact Bool.false_ne_true))) | (refine hl_done ?_) | gi_step)
          go_roundg (gk - 1)
          case measure => omega
          case rel => exact ⟨j + 1, L5, nx, S5, by simp, by omega, H11.out.1, { v := (H5.out.2.1.mono' (by have := H4.out.2.2.2.2.2.1; have := H4.out.2.2.2.2.2.2.1; omega)).ext H11.out.2, r := H5.out.2.2.1.ext H11.out.2, set := H2.out.2.2.2.2.2.1, shr := H2.out.2.2.2.2.2.2.1, cn := H5.out.2.2.2.2.2, na := H5.out.2.2.2.1, lo := H5.out.2.2.2.2.1 }⟩
      · have HE := Lib.hid hE
        clear hE hB
        go_wp2_with fail
        refine (awake_i _ mx (HM.out _ HE.out)).mono ?_
        rintro e9 w2 ⟨rfl, hE2⟩
        have HE2 := Lib.hid (HE.out.trans hE2)
        clear hE2
        go_wp2_with fail
        go_ret
        exact ⟨rfl, HE2.out⟩
end Go.Proofs.YtdonmmjikcbihaaGreatDoor
