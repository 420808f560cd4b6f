/- The law EntryPlays, walked. -/
import Derived.Test.YtdonmmjikcbihaaGreatDoorAwk
import Derived.Test.YtdonmmjikcbihaaGreatDoorRef28e
import Derived.Test.YtdonmmjikcbihaaGreatDoorRef28f
namespace Go.Proofs.YtdonmmjikcbihaaGreatDoor
open Go.RowKit Go.Proofs Go.Vc
attribute [local irreducible] Calls CallsIn Code.wp Code.wpIn
/-- deltas: two slices -/
theorem dltF : (Tryz.prog.info? 36).map (fun i => (i.zero, i.size, i.bytes)) = some (some (.agg #[.slice none 0 0, .slice none 0 0]), 2, 48) := by kernel_rfl
noncomputable def dltE : Ek Tryz.prog (Sl × Sl) where
  t := 22
  e := 36
  i := infoOf 36 (by kernel_rfl)
  z := .agg #[.slice none 0 0, .slice none 0 0]
  size := 2
  bytes := 48
  enc x := [slV x.1, slV x.2]
  ht := by kernel_rfl
  hi := infoOf_eq _ _
  hz := (facts_of dltF (infoOf_eq _ _)).1
  hs := (facts_of dltF (infoOf_eq _ _)).2.1
  hb := (facts_of dltF (infoOf_eq _ _)).2.2
  zs := rfl
  pos := by decide
  bb := by decide
  len _ := rfl
  one x u hu := by
    simp only [List.mem_cons, List.not_mem_nil, or_false] at hu
    rcases hu with rfl | rfl <;> rfl
/-- a slice of deltas that reads so -/
def DltsAt (w : World) (v : Value) (D : List (List Spn × List Spn)) : Prop :=
  ∃ l : List (Sl × Sl), dltE.Reads w v l ∧ l.length = D.length ∧ ∀ i (h : i < l.length) (h' : i < D.length), SpnsAt w (slV l[i].1) D[i].1 ∧ SpnsAt w (slV l[i].2) D[i].2
theorem DltsAt.ext {w w' : World} {v : Value} {D : List (List Spn × List Spn)} (h : DltsAt w v D) (k : Ext w w') : DltsAt w' v D := by
  obtain ⟨l, h1, h2, h3⟩ := h
  exact ⟨l, h1.ext dltE k, h2, fun i h h' => ⟨(h3 i h h').1.ext k, (h3 i h h').2.ext k⟩⟩
theorem few_short {l : List Spn} {n : Nat} (h : fewL l n = true) : l.length ≤ n ∧ ∀ x ∈ l, Shrt x := by
  unfold fewL at h
  rw [Bool.and_eq_true, decide_eq_true_eq, List.all_eq_true] at h
  refine ⟨h.2, fun x hx => ?_⟩
  have := h.1 x (by rw [List.take_of_length_le h.2]; exact hx)
  unfold short at this
  rw [Bool.and_eq_true, decide_eq_true_eq, decide_eq_true_eq] at this
  exact ⟨by omega, by omega⟩
theorem rApply_len (L out inn : List Spn) : (rApply L out inn).1.length ≤ L.length + inn.length := by
  unfold rApply
  have hro : ∀ (l : List Spn) (L L' : List Spn), rOut L l = some L' → L'.length ≤ L.length := by
    intro l
    induction l with
    | nil => intro L L' h; injection h with h; rw [h]; exact Nat.le_refl _
    | cons x l ih =>
      intro L L' h
      simp only [rOut] at h
      cases ht : takeOut L x with
      | none => rw [ht] at h; cases h
      | some L1 =>
        rw [ht] at h
        have := ih L1 L' h
        have := takeOut_len ht
        omega
  split
  · cases hr : rOut L out with
    | none => dsimp only; omega
    | some L' => have := hro out L L' hr; have := rIn_len L' inn; dsimp only; omega
  · dsimp only; omega
theorem VIs.mono {ty : TypeId} {b N M : Nat} {L : List Spn} {S : Nat → Prop} {w : World} (h : VIs ty b N L S w) (k : N ≤ M) : VIs ty b M L S w := by
  obtain ⟨m, h1, h2, h3⟩ := h
  exact ⟨m, h1, h2, h3.mono k⟩
theorem spns_len {w : World} {v : Value} {l m : List Spn} {w' : World} (h : SpnsAt w v l) (k : SpnsAt w' v m) : l.length = m.length := by
  obtain ⟨a, c, rfl, _⟩ := h
  obtain ⟨a', c', e, _⟩ := k
  injection e
/-- both views between two rounds -/
structure Both (n0 b xb : Nat) (j : Nat) (L : List Spn) (S : Nat → Prop) (vL : Value) (wr : World) : Prop where
  v : VIs 28 b (36 * j) L S wr
  x : wr.heap[xb]? = some (.cells #[vL] 33 (0, 0))
  r : SpnsAt wr vL L
  nx : ¬ S xb
  nv : slBlock vL ≠ some xb
  na : L ≠ [] → ∀ g, slBlock vL = some g → ¬ S g
  lo : ∀ i, S i → n0 ≤ i
  len : L.length ≤ 12 * j
set_option maxHeartbeats 4000000 in
set_option maxRecDepth 20000 in
theorem eplays_i (v : Value) (D : List (List Spn × List Spn)) (w : World) (mx : Int) (h : DltsAt w v D) (hf : ∀ d ∈ D, (∀ x ∈ d.1, x.Fits) ∧ ∀ x ∈ d.2, x.Fits) (hm : w.cell? ⟨0, 0, none⟩ = some (.int .i64 mx)) :
    Calls Tryz.prog 3 #[v] w fun e w' => e = .returned (.bool true) ∧ Ext w w' := by
  obtain ⟨l, hr, hlen, hs⟩ := h
  have hr' := hr
  obtain ⟨a, cap, rfl, hn, h0, _⟩ := hr'
  obtain ⟨n, hnl⟩ : ∃ n, n = l.length := ⟨_, rfl⟩
  rw [← hnl] at hr hn ⊢
  have HM := Lib.hid (show ∀ wr, Ext w wr → wr.cell? ⟨0, 0, none⟩ = some (.int .i64 mx) from fun wr k => (Ext.cells k 0 0 (by rw [hm]; rfl)).trans hm)
  have HD := Lib.hid (And.intro (show ∀ wr, Ext w wr → dltE.Reads wr (.slice a n cap) l from fun wr k => hr.ext dltE k) (And.intro (show ∀ wr, Ext w wr → ∀ i (h : i < l.length) (h' : i < D.length), SpnsAt wr (slV l[i].1) D[i].1 ∧ SpnsAt wr (slV l[i].2) D[i].2 from fun wr k i h h' => ⟨(hs i h h').1.ext k, (hs i h h').2.ext k⟩) (And.intro hlen hf)))
  have HN := Lib.hid hnl
  clear hr hs hm hlen hf h0 hnl
  by_cases h8 : (8 : Int) < n
  · go_enter Tryz.func3, Tryz.ntmps3
    go_wp2_with fail
    refine (awake_i _ mx (HM.out _ (Keeps.refl _ _))).mono ?_
    rintro e9 w1 ⟨rfl, hE1⟩
    have HE1 := Lib.hid hE1
    clear hE1
    go_wp2_with fail
    go_ret
    exact ⟨rfl, HE1.out⟩
  · have hn8 : (n : Int) ≤ 8 := by omega
    go_enter Tryz.func3, Tryz.ntmps3
    go_wp2_with fail
    obtain ⟨wx, hwx⟩ : ∃ wx, wx = (w.alloc (.cells #[.pointer none, .int .i64 0] 28)).alloc (.cells #[.slice none 0 0] 33) := ⟨_, rfl⟩
    have hEv : Ext w (w.alloc (.cells #[.pointer none, .int .i64 0] 28)) := (Keeps.refl _ w).alloc _
    have hEx : Ext (w.alloc (.cells #[.pointer none, .int .i64 0] 28)) wx := by rw [hwx]; exact (Keeps.refl _ _).alloc _
    have hV := (VIs.new w 28).ext hEx
    have hX : wx.heap[w.heap.size + 1]? = some (.cells #[.slice none 0 0] 33 (0, 0)) := by
      have := World.alloc_heap_new (w.alloc (.cells #[.pointer none, .int .i64 0] 28)) (.cells #[.slice none 0 0] 33)
      rw [World.size_alloc] at this; rw [hwx]; exact this
    obtain ⟨b, hb⟩ : ∃ b, b = w.heap.size := ⟨_, rfl⟩
    rw [← hb] at hV hX
    have HX := Lib.hid (And.intro (show Both w.heap.size b (b + 1) 0 [] (fun i => i = b) (.slice none 0 0) wx from
      { v := hV, x := hX, r := ⟨none, 0, rfl, ⟨by decide, by decide⟩, fun _ => rfl, fun _ _ _ h => nomatch h⟩, nx := by omega, nv := (fun h => nomatch h), na := (fun h => absurd rfl h), lo := fun i hi => by rw [hi, hb]; exact Nat.le_refl _, len := Nat.zero_le _ }) (And.intro (hEv.trans hEx) hb))
    clear hEv hEx hV hX
    rw [← hwx, ← hb]
    clear hwx hb
    go_loopg [6] n (fun k p6 wr => ∃ (j : Nat) (L : List Spn) (S : Nat → Prop) (vL : Value), p6 = .int .i64 j ∧ j + k = n ∧ Ext w wr ∧ Both w.heap.size b (b + 1) j L S vL wr)
    case atStart => exact ⟨0, [], _, _, rfl, Nat.zero_add _, HX.out.2.1, HX.out.1⟩
    case round =>
      obtain ⟨j, L, S, vL, rfl, hj, hE, hB⟩ := hrel
      by_cases hjn : (j : Int) < n
      · have hjl : j < l.length := by rw [← HN.out]; omega
        have hjD : j < D.length := by rw [← HD.out.2.2.1]; exact hjl
        obtain ⟨g, o, rfl, hc⟩ := (HD.out.1 wr hE).at hjl
        have hgl : g < w.heap.size := by
          obtain ⟨g', o', e', hc'⟩ := (HD.out.1 w (Keeps.refl _ _)).at hjl
          injection e' with e'
          injection e' with e1 _ _
          subst e1
          have h1 := hc' j hjl 0 (by decide)
          exact World.block_lt_of_cell? w ⟨g, o' + (j * 2 + 0), none⟩ h1
        obtain ⟨d, hd⟩ : ∃ d, d = l[j] := ⟨_, rfl⟩
        have hk0 := hc j hjl 0 (by decide)
        have hk1 := hc j hjl 1 (by decide)
        rw [← hd] at hk0 hk1
        obtain ⟨⟨p1, p2, p3⟩, ⟨q1, q2, q3⟩⟩ := d
        have hk0' : wr.cell? ⟨g, o + j * 2, none⟩ = some (.slice p1 p2 p3) := hk0
        have hk1' : wr.cell? ⟨g, o + j * 2 + 1, none⟩ = some (.slice q1 q2 q3) := hk1
        obtain ⟨out, hout⟩ : ∃ x, x = D[j].1 := ⟨_, rfl⟩
        obtain ⟨inn, hinn⟩ : ∃ x, x = D[j].2 := ⟨_, rfl⟩
        have hsp : ∀ wr, Ext w wr → SpnsAt wr (.slice p1 p2 p3) out ∧ SpnsAt wr (.slice q1 q2 q3) inn := fun wr k => by
          have := HD.out.2.1 wr k j hjl hjD
          rw [← hd, ← hout, ← hinn] at this; exact this
        have hfit := HD.out.2.2.2 D[j] (List.getElem_mem hjD)
        rw [← hout, ← hinn] at hfit
        have HSP := Lib.hid (And.intro hsp (And.intro hfit (And.intro hgl (And.intro hk0' hk1'))))
        have HB := Lib.hid (And.intro hB hE)
        have HPQ := Lib.hid (show p2 = out.length ∧ q2 = inn.length from by
          have h := HSP.out.1 w (Keeps.refl _ _)
          obtain ⟨⟨a1, c1, e1, _⟩, ⟨a2, c2, e2, _⟩⟩ := h
          injection e1 with _ e1 _
          injection e2 with _ e2 _
          exact ⟨e1, e2⟩)
        have hng : ¬ w.heap.size ≤ g := by omega
        clear hc hd hk0 hk1 hout hinn hsp hfit hB hE
        go_wp2_with fail
        refine (dfew_i (.slice p1 p2 p3) (.slice q1 q2 q3) out inn _ (HSP.out.1 _ HB.out.2).1 (HSP.out.1 _ HB.out.2).2).mono ?_
        rintro e9 w1 ⟨rfl, hE1⟩
        have HE1 := Lib.hid (And.intro (HB.out.2.trans hE1) hE1)
        have hk10 : w1.cell? ⟨g, o + j * 2, none⟩ = some (.slice p1 p2 p3) := (Ext.cells hE1 _ _ (by rw [hk0']; rfl)).trans hk0'
        have hk11 : w1.cell? ⟨g, o + j * 2 + 1, none⟩ = some (.slice q1 q2 q3) := (Ext.cells hE1 _ _ (by rw [hk1']; rfl)).trans hk1'
        clear hE1
        cases hfew : (fewL out 12 && fewL inn 12)
        · clear hfew
          go_wp2_with fail
          refine (awake_i _ mx (HM.out _ HE1.out.1)).mono ?_
          rintro e9 w2 ⟨rfl, hE2⟩
          have HE2 := Lib.hid hE2
          clear hE2
          go_wp2_with fail
          go_ret
          exact ⟨rfl, HE1.out.1.trans HE2.out⟩
        · rw [Bool.and_eq_true] at hfew
          have HF := Lib.hid (And.intro (few_short hfew.1) (few_short hfew.2))
          have HBW := Lib.hid (show VIs 28 b (36 * j) L S w1 from HB.out.1.v.ext HE1.out.2)
          clear hfew hk0' hk1'
          go_wp2_with fail
          refine wp_drawK (fun i => w.heap.size ≤ i) (way [0, 1, 2, 3, 5, 6, 7, 8, 9, 4, 10, 11, 12, 14, 13, 15, 16, 17, 18]) (by kernel_rfl) (by kernel_rfl) (fun w2 hh hd hf hS => ?_)
          have hE2 : Ext w1 w2 := ⟨by rw [hh]; exact Nat.le_refl _, fun i _ _ => by rw [hh], hS.ost⟩
          have hk20 : w2.cell? ⟨g, o + j * 2, none⟩ = some (.slice p1 p2 p3) := (hd _ _).trans hk10
          have hk21 : w2.cell? ⟨g, o + j * 2 + 1, none⟩ = some (.slice q1 q2 q3) := (hd _ _).trans hk11
          have H2 := Lib.hid (And.intro (HE1.out.1.trans hE2) (And.intro (HBW.out.ext hE2) (HE1.out.2.trans hE2)))
          clear hh hd hf hE2
          simp only [way]
          go_wp2_with (first | (refine' hl_q rfl rfl rfl (fun _ => ?_) ?_; rotate_left; (go_simp <;> (try go_bits) <;> rfl); (try simp only [Act.put, List.setIfInBounds_toArray, List.set_cons_zero, List.set_cons_succ])) | (refine' hl_rS rfl rfl rfl hS ?_ ?_; rotate_left; (intro w9 hS9; (first | have hc9 := Ext.cells hS9 | have hc9 := Keeps.cells hS9); (go_simp <;> rfl)); (try simp only [Act.put, List.setIfInBounds_toArray, List.set_cons_zero, List.set_cons_succ])) | (refine' hl_r rfl rfl rfl ?_ ?_; rotate_left; (rintro w9 (rfl | hS9); (go_simp <;> rfl); (first | have hc9 := Ext.cells hS9 | have hc9 := Keeps.cells hS9 | (try dsimp only at hS9)); (go_simp <;> rfl)); (try simp only [Act.put, List.setIfInBounds_toArray, List.set_cons_zero, List.set_cons_succ])) | (refine' hl_s rfl rfl ?_; (try simp only [Act.put, List.setIfInBounds_toArray, List.set_cons_zero, List.set_cons_succ])) | (refine hl_e rfl rfl rfl (fun K hK => ?_)) | (with_reducible refine And.intro (fun hn => ?_) ?_; (first | exact hS | exact Keeps.alloc hS _ | exact absurd hn (by rw [show needS _ _ = false from by kernel_rfl]; exact Bool.false_ne_true))) | (refine hl_done ?_) | gi_step)
          have hex : ∀ {vv : Value} {ll : List Spn}, SpnsAt w vv ll → ll ≠ [] → ∀ g, slBlock vv = some g → ¬ S g := fun hh hl g hg hs => by
            have h1 := hh.blk_lt hl hg
            have h2 := HB.out.1.lo g hs
            omega
          have hso := hex (HSP.out.1 _ (Keeps.refl _ _)).1
          have hsi := hex (HSP.out.1 _ (Keeps.refl _ _)).2
          have HSO := Lib.hid (And.intro hso hsi)
          clear hex hso hsi
          have hj8 : j ≤ 8 := by omega
          refine callsIn_wide.2 ((H2.out.2.1.apply (by omega) (HSP.out.1 _ H2.out.1).1 (HSP.out.1 _ H2.out.1).2 HSO.out.1 HSO.out.2 HSP.out.2.1.1 HSP.out.2.1.2 (by have := HF.out.1.1; omega) (by have := HF.out.2.1; omega)).mono ?_)
          rintro e9 w3 ⟨rfl, ⟨S3, hV3, hs3⟩, hk3⟩
          have hE3 := ext_keeps H2.out.1 hk3 HB.out.1.lo
          have hS3 : Keeps (fun i => w.heap.size ≤ i) w1 w3 := hS.andThen hk3 fun i _ hi => HB.out.1.lo i hi
          have hx2 : w2.heap[b + 1]? = some (.cells #[vL] 33 (0, 0)) := (Ext.same H2.out.2.2 (lt_of_heap HB.out.1.x)).trans HB.out.1.x
          have hx3 := (hk3.same _ (lt_of_heap hx2) HB.out.1.nx).trans hx2
          have hr2 := HB.out.1.r.ext H2.out.2.2
          have hr3 := hr2.keeps2 hk3 HB.out.1.na
          have hnx3 : ¬ S3 (b + 1) := fun h => (hs3 _ h).elim HB.out.1.nx (fun h => by have := lt_of_heap hx2; omega)
          have hna3 : L ≠ [] → ∀ g, slBlock vL = some g → ¬ S3 g := fun hl g hg h => (hs3 _ h).elim (HB.out.1.na hl g hg) (fun h => by have := hr2.blk_lt hl hg; omega)
          have hlo3 : ∀ i, S3 i → w.heap.size ≤ i := fun i hi => (hs3 i hi).elim (HB.out.1.lo i) (fun h => Nat.le_trans H2.out.1.size h)
          have H3 := Lib.hid (And.intro hE3 (And.intro hV3 (And.intro hx3 (And.intro hr3 (And.intro hnx3 (And.intro hna3 hlo3))))))
          clear hS hE3 hV3 hs3 hk3 hx2 hx3 hr2 hr3 hnx3 hna3 hlo3 hk20 hk21
          have hS := hS3
          clear hS3
          go_wp2_with (first | (refine' hl_q rfl rfl rfl (fun _ => ?_) ?_; rotate_left; (go_simp <;> (try go_bits) <;> rfl); (try simp only [Act.put, List.setIfInBounds_toArray, List.set_cons_zero, List.set_cons_succ])) | (refine' hl_rS rfl rfl rfl hS ?_ ?_; rotate_left; (intro w9 hS9; (first | have hc9 := Ext.cells hS9 | have hc9 := Keeps.cells hS9); (go_simp <;> rfl)); (try simp only [Act.put, List.setIfInBounds_toArray, List.set_cons_zero, List.set_cons_succ])) | (refine' hl_r rfl rfl rfl ?_ ?_; rotate_left; (rintro w9 (rfl | hS9); (go_simp <;> rfl); (first | have hc9 := Ext.cells hS9 | have hc9 := Keeps.cells hS9 | (try dsimp only at hS9)); (go_simp <;> rfl)); (try simp only [Act.put, List.setIfInBounds_toArray, List.set_cons_zero, List.set_cons_succ])) | (refine' hl_s rfl rfl ?_; (try simp only [Act.put, List.setIfInBounds_toArray, List.set_cons_zero, List.set_cons_succ])) | (refine hl_e rfl rfl rfl (fun K hK => ?_)) | (with_reducible refine And.intro (fun hn => ?_) ?_; (first | exact hS | exact Keeps.alloc hS _ | exact absurd hn (by rw [show needS _ _ = false from by kernel_rfl]; exact Bool.false_ne_true))) | (refine hl_done ?_) | gi_step)
          refine callsIn_wide.2 ((rapply_i 33 (b + 1) vL _ _ L out inn _ H3.out.2.2.1 H3.out.2.2.2.1 (HSP.out.1 _ H3.out.1).1 (HSP.out.1 _ H3.out.1).2 HB.out.1.nv (fun x hx => ⟨HSP.out.2.1.1 x hx, HF.out.1.2 x hx⟩) (fun x hx => ⟨HSP.out.2.1.2 x hx, HF.out.2.2 x hx⟩) (by have := HB.out.1.len; omega) (by have := HF.out.1.1; omega) (by have := HF.out.2.1; omega)).mono ?_)
          rintro e9 w4 ⟨rfl, ⟨vL', hx4, hr4, hor4⟩, hk4⟩
          have hE4 := ext_keeps H3.out.1 hk4 (fun i hi => by have h1 := HX.out.2.2; omega)
          have hS4 : Keeps (fun i => w.heap.size ≤ i) w1 w4 := hS.andThen hk4 fun i _ hi => by have h1 := HX.out.2.2; omega
          obtain ⟨L', hL'⟩ : ∃ L', L' = (rApply L out inn).1 := ⟨_, rfl⟩
          obtain ⟨r, hr⟩ : ∃ r, r = (rApply L out inn).2 := ⟨_, rfl⟩
          have hlen' := rApply_len L out inn
          rw [← hL'] at hr4 hlen'
          have hV4 := H3.out.2.1.keeps hk4 (fun i hi he => by subst he; exact H3.out.2.2.2.2.1 hi)
          rw [← hL'] at hV4
          rw [← hr]
          have hB4 : Both w.heap.size b (b + 1) (j + 1) L' S3 vL' w4 :=
            { v := hV4.mono (by have := HF.out.1.1; have := HF.out.2.1; omega), x := hx4, r := hr4, nx := H3.out.2.2.2.2.1,
              nv := by
                rcases hor4 with h | h
                · rw [h]; exact HB.out.1.nv
                · intro hg; have h1 := h _ hg; have h2 := lt_of_heap H3.out.2.2.1; omega
              na := fun hl g hg hs => by
                rcases hor4 with h | h
                · subst h
                  have hle := spns_len hr4 H3.out.2.2.2.1
                  exact H3.out.2.2.2.2.2.1 (fun e => hl (List.eq_nil_of_length_eq_zero (by rw [hle, e]; rfl))) g hg hs
                · have h1 := h g hg
                  have h2 := H3.out.2.1.lt hs
                  omega
              lo := H3.out.2.2.2.2.2.2,
              len := by have := HB.out.1.len; have := HF.out.2.1; omega }
          have H4 := Lib.hid (And.intro hE4 hB4)
          clear hS hE4 hk4 hx4 hr4 hor4 hlen' hV4 hB4 hL' hr
          have hS := hS4
          clear hS4
          cases r
          all_goals
            go_wp2_with (first | (refine' hl_q rfl rfl rfl (fun _ => ?_) ?_; rotate_left; (go_simp <;> (try go_bits) <;> rfl); (try simp only [Act.put, List.setIfInBounds_toArray, List.set_cons_zero, List.set_cons_succ])) | (refine' hl_rS rfl rfl rfl hS ?_ ?_; rotate_left; (intro w9 hS9; (first | have hc9 := Ext.cells hS9 | have hc9 := Keeps.cells hS9); (go_simp <;> rfl)); (try simp only [Act.put, List.setIfInBounds_toArray, List.set_cons_zero, List.set_cons_succ])) | (refine' hl_r rfl rfl rfl ?_ ?_; rotate_left; (rintro w9 (rfl | hS9); (go_simp <;> rfl); (first | have hc9 := Ext.cells hS9 | have hc9 := Keeps.cells hS9 | (try dsimp only at hS9)); (go_simp <;> rfl)); (try simp only [Act.put, List.setIfInBounds_toArray, List.set_cons_zero, List.set_cons_succ])) | (refine' hl_s rfl rfl ?_; (try simp only [Act.put, List.setIfInBounds_toArray, List.set_cons_zero, List.set_cons_succ])) | (refine hl_e rfl rfl rfl (fun K hK => ?_)) | (with_reducible refine And.intro (fun hn => ?_) ?_; (first | exact hS | exact Keeps.alloc hS _ | exact absurd hn (by rw [show needS _ _ = false from by kernel_rfl]; exact Bool.false_ne_true))) | (refine hl_done ?_) | gi_step)
            refine callsIn_wide.2 ((H4.out.2.v.all (by omega) (HM.out _ H4.out.1)).mono ?_)
            rintro e9 w5 ⟨v5, rfl, hv5, hE5⟩
            have hS5 : Keeps (fun i => w.heap.size ≤ i) w1 w5 := hS.trans (hE5.mono fun _ _ hf => hf.elim)
            have H5 := Lib.hid (And.intro hv5 hE5)
            clear hS hv5 hE5
            have hS := hS5
            clear hS5
            go_wp2_with (first | (refine' hl_q rfl rfl rfl (fun _ => ?_) ?_; rotate_left; (go_simp <;> (try go_bits) <;> rfl); (try simp only [Act.put, List.setIfInBounds_toArray, List.set_cons_zero, List.set_cons_succ])) | (refine' hl_rS rfl rfl rfl hS ?_ ?_; rotate_left; (intro w9 hS9; (first | have hc9 := Ext.cells hS9 | have hc9 := Keeps.cells hS9); (go_simp <;> rfl)); (try simp only [Act.put, List.setIfInBounds_toArray, List.set_cons_zero, List.set_cons_succ])) | (refine' hl_r rfl rfl rfl ?_ ?_; rotate_left; (rintro w9 (rfl | hS9); (go_simp <;> rfl); (first | have hc9 := Ext.cells hS9 | have hc9 := Keeps.cells hS9 | (try dsimp only at hS9)); (go_simp <;> rfl)); (try simp only [Act.put, List.setIfInBounds_toArray, List.set_cons_zero, List.set_cons_succ])) | (refine' hl_s rfl rfl ?_; (try simp only [Act.put, List.setIfInBounds_toArray, List.set_cons_zero, List.set_cons_succ])) | (refine hl_e rfl rfl rfl (fun K hK => ?_)) | (with_reducible refine And.intro (fun hn => ?_) ?_; (first | exact hS | exact Keeps.alloc hS _ | exact absurd hn (by rw [show needS _ _ = false from by kernel_rfl]; exact Bool.false_ne_true))) | (refine hl_done ?_) | gi_step)
            refine callsIn_wide.2 ((rall_i 33 (b + 1) vL' L' _ ((Ext.same H5.out.2 (lt_of_heap H4.out.2.x)).trans H4.out.2.x) (H4.out.2.r.ext H5.out.2) (by have := H4.out.2.len; omega)).mono ?_)
            rintro e9 w6 ⟨v6, rfl, hv6, hE6⟩
            have hS6 : Keeps (fun i => w.heap.size ≤ i) w1 w6 := hS.trans (hE6.mono fun _ _ hf => hf.elim)
            have H6 := Lib.hid (And.intro hv6 (And.intro (H5.out.2.trans hE6) (H5.out.1.ext hE6)))
            clear hS hv6 hE6
            have hS := hS6
            clear hS6
            go_wp2_with (first | (refine' hl_q rfl rfl rfl (fun _ => ?_) ?_; rotate_left; (go_simp <;> (try go_bits) <;> rfl); (try simp only [Act.put, List.setIfInBounds_toArray, List.set_cons_zero, List.set_cons_succ])) | (refine' hl_rS rfl rfl rfl hS ?_ ?_; rotate_left; (intro w9 hS9; (first | have hc9 := Ext.cells hS9 | have hc9 := Keeps.cells hS9); (go_simp <;> rfl)); (try simp only [Act.put, List.setIfInBounds_toArray, List.set_cons_zero, List.set_cons_succ])) | (refine' hl_r rfl rfl rfl ?_ ?_; rotate_left; (rintro w9 (rfl | hS9); (go_simp <;> rfl); (first | have hc9 := Ext.cells hS9 | have hc9 := Keeps.cells hS9 | (try dsimp only at hS9)); (go_simp <;> rfl)); (try simp only [Act.put, List.setIfInBounds_toArray, List.set_cons_zero, List.set_cons_succ])) | (refine' hl_s rfl rfl ?_; (try simp only [Act.put, List.setIfInBounds_toArray, List.set_cons_zero, List.set_cons_succ])) | (refine hl_e rfl rfl rfl (fun K hK => ?_)) | (with_reducible refine And.intro (fun hn => ?_) ?_; (first | exact hS | exact Keeps.alloc hS _ | exact absurd hn (by rw [show needS _ _ = false from by kernel_rfl]; exact Bool.false_ne_true))) | (refine hl_done ?_) | gi_step)
            refine callsIn_wide.2 ((rsame_i v5 v6 _ _ _ H6.out.2.2 H6.out.1).mono ?_)
            rintro e9 w7 ⟨rfl, hE7⟩
            rw [decide_eq_true rfl]
            have hS7 : Keeps (fun i => w.heap.size ≤ i) w1 w7 := hS.trans (hE7.mono fun _ _ hf => hf.elim)
            have H7 := Lib.hid (H6.out.2.1.trans hE7)
            clear hS hE7
            have hS := hS7
            clear hS7
            go_wp2_with (first | (refine' hl_q rfl rfl rfl (fun _ => ?_) ?_; rotate_left; (go_simp <;> (try go_bits) <;> rfl); (try simp only [Act.put, List.setIfInBounds_toArray, List.set_cons_zero, List.set_cons_succ])) | (refine' hl_rS rfl rfl rfl hS ?_ ?_; rotate_left; (intro w9 hS9; (first | have hc9 := Ext.cells hS9 | have hc9 := Keeps.cells hS9); (go_simp <;> rfl)); (try simp only [Act.put, List.setIfInBounds_toArray, List.set_cons_zero, List.set_cons_succ])) | (refine' hl_r rfl rfl rfl ?_ ?_; rotate_left; (rintro w9 (rfl | hS9); (go_simp <;> rfl); (first | have hc9 := Ext.cells hS9 | have hc9 := Keeps.cells hS9 | (try dsimp only at hS9)); (go_simp <;> rfl)); (try simp only [Act.put, List.setIfInBounds_toArray, List.set_cons_zero, List.set_cons_succ])) | (refine' hl_s rfl rfl ?_; (try simp only [Act.put, List.setIfInBounds_toArray, List.set_cons_zero, List.set_cons_succ])) | (refine hl_e rfl rfl rfl (fun K hK => ?_)) | (with_reducible refine And.intro (fun hn => ?_) ?_; (first | exact hS | exact Keeps.alloc hS _ | exact absurd hn (by rw [show needS _ _ = false from by kernel_rfl]; exact Bool.false_ne_true))) | (refine hl_done ?_) | gi_step)
            have hk70 : w7.cell? ⟨g, o + j * 2, none⟩ = some (.slice p1 p2 p3) := (Keeps.cells hS _ _ (by rw [hk10]; rfl) hng).trans hk10
            have hk71 : w7.cell? ⟨g, o + j * 2 + 1, none⟩ = some (.slice q1 q2 q3) := (Keeps.cells hS _ _ (by rw [hk11]; rfl) hng).trans hk11
            have HS7 := Lib.hid (H4.out.1.trans H7.out)
            clear hS
            refine wp_drawE (way [0, 1, 2, 3, 4, 6, 7, 8, 9, 10, 11, 12, 13, 14, 15, 16, 17, 18, 19, 5, 20, 21, 22, 23, 24, 25, 26]) (by kernel_rfl) (by kernel_rfl) (fun w8 hh hd hf hS => ?_)
            have hk80 : w8.cell? ⟨g, o + j * 2, none⟩ = some (.slice p1 p2 p3) := (hd _ _).trans hk70
            have hk81 : w8.cell? ⟨g, o + j * 2 + 1, none⟩ = some (.slice q1 q2 q3) := (hd _ _).trans hk71
            have hp12 : (p2 : Int) ≤ 12 := by have h1 := HPQ.out.1; have h2 := HF.out.1.1; omega
            have hq12 : (q2 : Int) ≤ 12 := by have h1 := HPQ.out.2; have h2 := HF.out.2.1; omega
            clear hh hd hf
            simp only [way]
            go_wp2_with (first | (refine' hl_q rfl rfl rfl (fun _ => ?_) ?_; rotate_left; (go_simp <;> (try go_bits) <;> rfl); (try simp only [Act.put, List.setIfInBounds_toArray, List.set_cons_zero, List.set_cons_succ])) | (refine' hl_rS rfl rfl rfl hS ?_ ?_; rotate_left; (intro w9 hS9; (first | have hc9 := Ext.cells hS9 | have hc9 := Keeps.cells hS9); (go_simp <;> rfl)); (try simp only [Act.put, List.setIfInBounds_toArray, List.set_cons_zero, List.set_cons_succ])) | (refine' hl_r rfl rfl rfl ?_ ?_; rotate_left; (rintro w9 (rfl | hS9); (go_simp <;> rfl); (first | have hc9 := Ext.cells hS9 | have hc9 := Keeps.cells hS9 | (try dsimp only at hS9)); (go_simp <;> rfl)); (try simp only [Act.put, List.setIfInBounds_toArray, List.set_cons_zero, List.set_cons_succ])) | (refine' hl_s rfl rfl ?_; (try simp only [Act.put, List.setIfInBounds_toArray, List.set_cons_zero, List.set_cons_succ])) | (refine hl_e rfl rfl rfl (fun K hK => ?_)) | (with_reducible refine And.intro (fun hn => ?_) ?_; (first | exact hS | exact Keeps.alloc hS _ | exact absurd hn (by rw [show needS _ _ = false from by kernel_rfl]; exact Bool.false_ne_true))) | (refine hl_done ?_) | gi_step)
            refine callsIn_wide.2 ((vapplynil_i (.slice p1 p2 p3) (.slice q1 q2 q3) out inn _ (HSP.out.1 _ (HS7.out.trans hS)).1 (HSP.out.1 _ (HS7.out.trans hS)).2 (by have := HF.out.1.1; omega) (by have := HF.out.2.1; omega)).mono ?_)
            rintro e9 w9 ⟨rfl, hE9⟩
            rw [← HPQ.out.1, ← HPQ.out.2]
            have hS9 := hS.trans hE9
            have hk90 := (Ext.cells hE9 _ _ (by rw [hk80]; rfl)).trans hk80
            have hk91 := (Ext.cells hE9 _ _ (by rw [hk81]; rfl)).trans hk81
            clear hS hE9 hk80 hk81
            have hS := hS9
            clear hS9
            rcases Decidable.em ((p2 : Int) + q2 = 0) with hz | hz
            · have hzb : ((p2 : Int) + q2 == 0) = true := by simpa using hz
              clear hz
              go_wp2_with (first | (refine' hl_q rfl rfl rfl (fun _ => ?_) ?_; rotate_left; (go_simp <;> (try go_bits) <;> rfl); (try simp only [Act.put, List.setIfInBounds_toArray, List.set_cons_zero, List.set_cons_succ])) | (refine' hl_rS rfl rfl rfl hS ?_ ?_; rotate_left; (intro w9 hS9; (first | have hc9 := Ext.cells hS9 | have hc9 := Keeps.cells hS9); (go_simp <;> rfl)); (try simp only [Act.put, List.setIfInBounds_toArray, List.set_cons_zero, List.set_cons_succ])) | (refine' hl_r rfl rfl rfl ?_ ?_; rotate_left; (rintro w9 (rfl | hS9); (go_simp <;> rfl); (first | have hc9 := Ext.cells hS9 | have hc9 := Keeps.cells hS9 | (try dsimp only at hS9)); (go_simp <;> rfl)); (try simp only [Act.put, List.setIfInBounds_toArray, List.set_cons_zero, List.set_cons_succ])) | (refine' hl_s rfl rfl ?_; (try simp only [Act.put, List.setIfInBounds_toArray, List.set_cons_zero, List.set_cons_succ])) | (refine hl_e rfl rfl rfl (fun K hK => ?_)) | (with_reducible refine And.intro (fun hn => ?_) ?_; (first | exact hS | exact Keeps.alloc hS _ | exact absurd hn (by rw [show needS _ _ = false from by kernel_rfl]; exact Bool.false_ne_true))) | (refine hl_done ?_) | gi_step)
              refine callsIn_wide.2 ((evallnil_i _).mono ?_)
              rintro e9 w10 ⟨rfl, hE10⟩
              have hS10 := hS.trans hE10
              have H10 := Lib.hid (HS7.out.trans hS10)
              have HB10 := Lib.hid (H7.out.trans hS10)
              clear hS hE10
              have hS := hS10
              clear hS10
              go_wp2_with (first | (refine' hl_q rfl rfl rfl (fun _ => ?_) ?_; rotate_left; (go_simp <;> (try go_bits) <;> rfl); (try simp only [Act.put, List.setIfInBounds_toArray, List.set_cons_zero, List.set_cons_succ])) | (refine' hl_rS rfl rfl rfl hS ?_ ?_; rotate_left; (intro w9 hS9; (first | have hc9 := Ext.cells hS9 | have hc9 := Keeps.cells hS9); (go_simp <;> rfl)); (try simp only [Act.put, List.setIfInBounds_toArray, List.set_cons_zero, List.set_cons_succ])) | (refine' hl_r rfl rfl rfl ?_ ?_; rotate_left; (rintro w9 (rfl | hS9); (go_simp <;> rfl); (first | have hc9 := Ext.cells hS9 | have hc9 := Keeps.cells hS9 | (try dsimp only at hS9)); (go_simp <;> rfl)); (try simp only [Act.put, List.setIfInBounds_toArray, List.set_cons_zero, List.set_cons_succ])) | (refine' hl_s rfl rfl ?_; (try simp only [Act.put, List.setIfInBounds_toArray, List.set_cons_zero, List.set_cons_succ])) | (refine hl_e rfl rfl rfl (fun K hK => ?_)) | (with_reducible refine And.intro (fun hn => ?_) ?_; (first | exact hS | exact Keeps.alloc hS _ | exact absurd hn (by rw [show needS _ _ = false from by kernel_rfl]; exact Bool.false_ne_true))) | (refine hl_done ?_) | gi_step)
              go_roundg (gk - 1)
              case measure => omega
              case rel => exact ⟨j + 1, L', S3, vL', by simp, by omega, H10.out, { v := H4.out.2.v.ext HB10.out, x := (Ext.same HB10.out (lt_of_heap H4.out.2.x)).trans H4.out.2.x, r := H4.out.2.r.ext HB10.out, nx := H4.out.2.nx, nv := H4.out.2.nv, na := H4.out.2.na, lo := H4.out.2.lo, len := H4.out.2.len }⟩
            · have hzb : ((p2 : Int) + q2 == 0) = false := by simpa using hz
              clear hz
              go_wp2_with (first | (refine' hl_q rfl rfl rfl (fun _ => ?_) ?_; rotate_left; (go_simp <;> (try go_bits) <;> rfl); (try simp only [Act.put, List.setIfInBounds_toArray, List.set_cons_zero, List.set_cons_succ])) | (refine' hl_rS rfl rfl rfl hS ?_ ?_; rotate_left; (intro w9 hS9; (first | have hc9 := Ext.cells hS9 | have hc9 := Keeps.cells hS9); (go_simp <;> rfl)); (try simp only [Act.put, List.setIfInBounds_toArray, List.set_cons_zero, List.set_cons_succ])) | (refine' hl_r rfl rfl rfl ?_ ?_; rotate_left; (rintro w9 (rfl | hS9); (go_simp <;> rfl); (first | have hc9 := Ext.cells hS9 | have hc9 := Keeps.cells hS9 | (try dsimp only at hS9)); (go_simp <;> rfl)); (try simp only [Act.put, List.setIfInBounds_toArray, List.set_cons_zero, List.set_cons_succ])) | (refine' hl_s rfl rfl ?_; (try simp only [Act.put, List.setIfInBounds_toArray, List.set_cons_zero, List.set_cons_succ])) | (refine hl_e rfl rfl rfl (fun K hK => ?_)) | (with_reducible refine And.intro (fun hn => ?_) ?_; (first | exact hS | exact Keeps.alloc hS _ | exact absurd hn (by rw [show needS _ _ = false from by kernel_rfl]; exact Bool.false_ne_true))) | (refine hl_done ?_) | gi_step)
              refine callsIn_wide.2 ((evallnil_i _).mono ?_)
              rintro e9 w10 ⟨rfl, hE10⟩
              have hS10 := hS.trans hE10
              have H10 := Lib.hid (HS7.out.trans hS10)
              have HB10 := Lib.hid (H7.out.trans hS10)
              clear hS hE10
              have hS := hS10
              clear hS10
              go_wp2_with (first | (refine' hl_q rfl rfl rfl (fun _ => ?_) ?_; rotate_left; (go_simp <;> (try go_bits) <;> rfl); (try simp only [Act.put, List.setIfInBounds_toArray, List.set_cons_zero, List.set_cons_succ])) | (refine' hl_rS rfl rfl rfl hS ?_ ?_; rotate_left; (intro w9 hS9; (first | have hc9 := Ext.cells hS9 | have hc9 := Keeps.cells hS9); (go_simp <;> rfl)); (try simp only [Act.put, List.setIfInBounds_toArray, List.set_cons_zero, List.set_cons_succ])) | (refine' hl_r rfl rfl rfl ?_ ?_; rotate_left; (rintro w9 (rfl | hS9); (go_simp <;> rfl); (first | have hc9 := Ext.cells hS9 | have hc9 := Keeps.cells hS9 | (try dsimp only at hS9)); (go_simp <;> rfl)); (try simp only [Act.put, List.setIfInBounds_toArray, List.set_cons_zero, List.set_cons_succ])) | (refine' hl_s rfl rfl ?_; (try simp only [Act.put, List.setIfInBounds_toArray, List.set_cons_zero, List.set_cons_succ])) | (refine hl_e rfl rfl rfl (fun K hK => ?_)) | (with_reducible refine And.intro (fun hn => ?_) ?_; (first | exact hS | exact Keeps.alloc hS _ | exact absurd hn (by rw [show needS _ _ = false from by kernel_rfl]; exact Bool.false_ne_true))) | (refine hl_done ?_) | gi_step)
              go_roundg (gk - 1)
              case measure => omega
              case rel => exact ⟨j + 1, L', S3, vL', by simp, by omega, H10.out, { v := H4.out.2.v.ext HB10.out, x := (Ext.same HB10.out (lt_of_heap H4.out.2.x)).trans H4.out.2.x, r := H4.out.2.r.ext HB10.out, nx := H4.out.2.nx, nv := H4.out.2.nv, na := H4.out.2.na, lo := H4.out.2.lo, len := H4.out.2.len }⟩
      · have HE := Lib.hid hE
        clear hE hB
        go_wp2_with fail
        refine (awake_i _ mx (HM.out _ HE.out)).mono ?_
        rintro e9 w2 ⟨rfl, hE2⟩
        have HE2 := Lib.hid (HE.out.trans hE2)
        clear hE2
        go_wp2_with fail
        go_ret
        exact ⟨rfl, HE2.out⟩
end Go.Proofs.YtdonmmjikcbihaaGreatDoor
