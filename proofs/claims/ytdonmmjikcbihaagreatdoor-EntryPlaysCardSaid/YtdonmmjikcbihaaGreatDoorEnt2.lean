/- Package entry: Apply. -/
import Derived.Test.YtdonmmjikcbihaaGreatDoorEnt
namespace Go.Proofs.YtdonmmjikcbihaaGreatDoor
open Go.RowKit Go.Proofs Go.Vc
attribute [local irreducible] Calls CallsIn Code.wp Code.wpIn
/-- few keys, small counts -/
def Bnd (m : List (ByteArray × Int)) (N : Nat) : Prop := m.length ≤ N ∧ ∀ k, -(N : Int) ≤ (findL cmpS k m).getD 0 ∧ (findL cmpS k m).getD 0 ≤ N
theorem putL_length {κ α : Type} {c : κ → κ → Ordering} (k : κ) (v : α) : ∀ m : List (κ × α), (putL c k v m).length ≤ m.length + 1
  | [] => Nat.le_refl _
  | z :: m => by
    have := putL_length (c := c) k v m
    simp only [putL]; split <;> simp only [List.length_cons] <;> omega
theorem Bnd.chg {m : List (ByteArray × Int)} {N : Nat} (h : Bnd m N) (x : Spn) {d : Int} (hd : d = 1 ∨ d = -1) : Bnd (chg m x d).1 (N + 1) := by
  have h0 := h.2 (ekey x)
  unfold Go.Proofs.YtdonmmjikcbihaaGreatDoor.chg
  split
  · split
    · exact ⟨by have := h.1; dsimp only; omega, fun k => by have := h.2 k; dsimp only; omega⟩
    · split
      · refine ⟨?_, fun k => ?_⟩
        · have := h.1
          have := List.length_filter_le (fun y : ByteArray × Int => cmpS (ekey x) y.1 != .eq) m
          unfold dropL; dsimp only; omega
        · dsimp only
          rw [findL_dropL order_S]
          split
          · simp only [Option.getD_none]; omega
          · have := h.2 k; omega
      · refine ⟨?_, fun k => ?_⟩
        · have := h.1
          have := putL_length (c := cmpS) (ekey x) ((findL cmpS (ekey x) m).getD 0 + d) m
          dsimp only; omega
        · dsimp only
          rw [findL_putL order_S]
          split
          · simp only [Option.getD_some]; omega
          · have := h.2 k; omega
  · exact ⟨by have := h.1; dsimp only; omega, fun k => by have := h.2 k; dsimp only; omega⟩
theorem vOut_snoc (m : List (ByteArray × Int)) (done : List Spn) (x : Spn) (l : List Spn) (h : (chg m x (-1)).2 = true) : vOut m done (x :: l) = vOut (chg m x (-1)).1 (done ++ [x]) l := by
  simp only [vOut]; rw [if_pos h]
theorem vOut_fail (m : List (ByteArray × Int)) (done : List Spn) (x : Spn) (l : List Spn) (h : (chg m x (-1)).2 = false) : vOut m done (x :: l) = (redo (chg m x (-1)).1 done, false) := by
  simp only [vOut]; rw [h]; rfl
theorem redo_snoc (m : List (ByteArray × Int)) (l : List Spn) (x : Spn) : redo m (l ++ [x]) = (chg (redo m l) x 1).1 := by unfold redo; rw [List.foldl_append]; rfl
/-- what Apply leaves -/
def VApPost (ty : TypeId) (b : Nat) (m : List (ByteArray × Int)) (S : Nat → Prop) (out inn : List Spn) (w : World) (e : Ending) (w' : World) : Prop :=
  e = .returned (.bool (vApply m out inn).2) ∧ (∃ S', LMapsi ty b 0 (vApply m out inn).1 S' w' ∧ ∀ i, S' i → S i ∨ w.heap.size ≤ i) ∧ Keeps S w w'
/-- the map on the way -/
def OnWay (ty : TypeId) (b : Nat) (S : Nat → Prop) (w : World) (m : List (ByteArray × Int)) (wr : World) : Prop :=
  (∃ S', LMapsi ty b 0 m S' wr ∧ ∀ i, S' i → S i ∨ w.heap.size ≤ i) ∧ Keeps S w wr
theorem OnWay.ext {ty : TypeId} {b : Nat} {S : Nat → Prop} {w wr wr' : World} {m : List (ByteArray × Int)} (h : OnWay ty b S w m wr) (k : Ext wr wr') : OnWay ty b S w m wr' := by
  obtain ⟨⟨S', hm, hs⟩, hk⟩ := h
  exact ⟨⟨S', hm.ext k, hs⟩, hk.trans (k.mono fun _ _ hf => hf.elim)⟩
theorem OnWay.step {ty : TypeId} {b : Nat} {S : Nat → Prop} {w wr : World} {m : List (ByteArray × Int)} (h : OnWay ty b S w m wr) {x : Spn} {d : Int} {N : Nat} (hx : Goodk (trip x)) (hd : d = 1 ∨ d = -1) (hB : Bnd m N) (hN : N ≤ 100000) :
    Calls Tryz.prog 24 #[.pointer (some ⟨b, 0, none⟩), spnV x, .int .i64 d] wr fun e w' => e = .returned (.bool (chg m x d).2) ∧ OnWay ty b S w (chg m x d).1 w' := by
  obtain ⟨⟨S', hm, hs⟩, hk⟩ := h
  refine (change_i ty b m S' x d wr hm hx hd (by have := hB.1; omega) (by have := hB.2 (ekey x); omega)).mono ?_
  rintro e w' ⟨he, ⟨S2, hm2, hs2⟩, hk2⟩
  refine ⟨he, ⟨S2, hm2, fun i hi => ?_⟩, ⟨Nat.le_trans hk.size hk2.size, fun i hi hf => ?_, (hk.ost).trans hk2.ost⟩⟩
  · rcases hs2 i hi with h | h
    · exact hs i h
    · exact .inr (Nat.le_trans hk.size h)
  · rw [hk2.same i (Nat.lt_of_lt_of_le hi hk.size) (fun h => (hs i h).elim hf (by omega)), hk.same i hi hf]
set_option maxRecDepth 20000 in
theorem vapply_i (ty : TypeId) (b : Nat) (m : List (ByteArray × Int)) (S : Nat → Prop) (vo vi : Value) (out inn : List Spn) (w : World) (N : Nat) (hB : Bnd m N) (hN : N ≤ 10000) (h : LMapsi ty b 0 m S w)
    (ho : SpnsAt w vo out) (hi : SpnsAt w vi inn) (hso : out ≠ [] → ∀ g, slBlock vo = some g → ¬ S g) (hsi : inn ≠ [] → ∀ g, slBlock vi = some g → ¬ S g) (hfo : ∀ x ∈ out, x.Fits) (hfi : ∀ x ∈ inn, x.Fits) (hlo : out.length ≤ 100) (hli : inn.length ≤ 100) :
    Calls Tryz.prog 9 #[.pointer (some ⟨b, 0, none⟩), .agg #[vo, vi]] w (VApPost ty b m S out inn w) := by
  have ho' := ho
  have hi' := hi
  obtain ⟨ao, capo, rfl, hno, h0o, hju⟩ := ho'
  obtain ⟨ai, capi, rfl, hni, h0i, hjv⟩ := hi'
  have hlno : ∀ j : Nat, j < out.length → ao ≠ none := fun j hj ha => by rw [h0o ha] at hj; exact absurd hj (Nat.not_lt_zero _)
  have hlni : ∀ j : Nat, j < inn.length → ai ≠ none := fun j hj ha => by rw [h0i ha] at hj; exact absurd hj (Nat.not_lt_zero _)
  have HL := Lib.hid (And.intro hlno hlni)
  obtain ⟨no, hnl⟩ : ∃ n, n = out.length := ⟨_, rfl⟩
  obtain ⟨ni, hnl2⟩ : ∃ n, n = inn.length := ⟨_, rfl⟩
  rw [← hnl] at ho
  rw [← hnl2] at hi
  rw [← hnl, ← hnl2]
  rw [← hnl] at hso
  rw [← hnl2] at hsi
  have HNL := Lib.hid (And.intro hnl hnl2)
  have hno2 : (no : Int) ≤ 100 := by omega
  have hni2 : (ni : Int) ≤ 100 := by omega
  have hco : (no : Int) ≤ capo := by rw [hnl]; exact hno.2
  clear hno h0o hni h0i hlno hlni hnl hnl2 hju hjv
  obtain ⟨wa, hwa⟩ : ∃ wa, wa = w.alloc (.cells #[.slice ao no capo, .slice ai ni capi] 36) := ⟨_, rfl⟩
  have hE : Ext w wa := by rw [hwa]; exact (Keeps.refl _ w).alloc _
  have hNw : wa.heap[w.heap.size]? = some (.cells #[.slice ao no capo, .slice ai ni capi] 36 (0, 0)) := by rw [hwa]; exact World.alloc_heap_new w _
  obtain ⟨c, hc0⟩ : ∃ c, c = w.heap.size := ⟨_, rfl⟩
  rw [← hc0] at hNw
  have hSc : ¬ S c := fun hs => by have := h.lt hs; omega
  have H0 := Lib.hid (show OnWay ty b S wa m wa from ⟨⟨S, h.ext hE, fun i hi => .inl hi⟩, Keeps.refl _ wa⟩)
  have HO := Lib.hid (show ∀ wr, Keeps S wa wr → SpnsAt wr (.slice ao no capo) out from fun wr k => (ho.ext hE).keeps2 k hso)
  have HI := Lib.hid (show ∀ wr, Keeps S wa wr → SpnsAt wr (.slice ai ni capi) inn from fun wr k => (hi.ext hE).keeps2 k hsi)
  have HF := Lib.hid (And.intro hfo (And.intro hfi (And.intro hlo (And.intro hli (And.intro hB hN)))))
  have HC := Lib.hid (show ∀ wr, Keeps S wa wr → wr.heap[c]? = some (.cells #[.slice ao no capo, .slice ai ni capi] 36 (0, 0)) from fun wr k => (k.same c (lt_of_heap hNw) hSc).trans hNw)
  have HQ := Lib.hid (show ∀ wr r, OnWay ty b S wa (vApply m out inn).1 wr → r = (vApply m out inn).2 → VApPost ty b m S out inn w (.returned (.bool r)) wr from fun wr r ⟨⟨S', h1, h2⟩, h3⟩ hr =>
    ⟨by rw [hr], ⟨S', h1, fun i hi => (h2 i hi).imp id (fun h => Nat.le_trans hE.size h)⟩, (hE.mono fun _ _ hf => hf.elim).trans h3⟩)
  have hcw := blk_cell hNw
  clear hE h ho hi hso hsi hfo hfi hlo hli hB hN hNw hSc
  obtain ⟨ro, hro⟩ : ∃ r, r = out.all may := ⟨_, rfl⟩
  obtain ⟨ri, hri⟩ : ∃ r, r = inn.all may := ⟨_, rfl⟩
  have HR := Lib.hid (And.intro hro hri)
  go_enter Tryz.func9, Tryz.ntmps9
  go_wp2_with fail
  rw [← hwa, ← hc0]
  clear hwa hc0
  refine (emay_i (.slice ao no capo) out _ (HO.out wa (Keeps.refl _ wa)) HF.out.1).mono ?_
  rintro e9 w1 ⟨rfl, hE1⟩
  rw [← hro]
  have HE1 := Lib.hid hE1
  have hc1 := blk_cell (HC.out w1 (hE1.mono fun _ _ hf => hf.elim))
  clear hE1 hro
  cases ro
  · go_wp2_with fail
    go_ret
    refine HQ.out _ _ ?_ ?_
    · unfold vApply; rw [← HR.out.1, Bool.false_and]; exact H0.out.ext HE1.out
    · unfold vApply; rw [← HR.out.1, Bool.false_and]; rfl
  go_wp2_with fail
  refine (emay_i (.slice ai ni capi) inn _ (HI.out w1 (HE1.out.mono fun _ _ hf => hf.elim)) HF.out.2.1).mono ?_
  rintro e9 w2 ⟨rfl, hE2⟩
  rw [← hri]
  have HE2 := Lib.hid (HE1.out.trans hE2)
  have hc2 := blk_cell (HC.out w2 (HE2.out.mono fun _ _ hf => hf.elim))
  clear hE2 hri hc1
  cases ri
  · go_wp2_with fail
    go_ret
    refine HQ.out _ _ ?_ ?_
    · unfold vApply; rw [← HR.out.2, Bool.and_false]; exact H0.out.ext HE2.out
    · unfold vApply; rw [← HR.out.2, Bool.and_false]; rfl
  go_wp2_with fail
  clear hcw
  have hgo : ∀ x ∈ out, Goodk (trip x) := fun x hx => good_may (HF.out.1 x hx).tr (List.all_eq_true.1 HR.out.1.symm x hx)
  have hgi : ∀ x ∈ inn, Goodk (trip x) := fun x hx => good_may (HF.out.2.1 x hx).tr (List.all_eq_true.1 HR.out.2.symm x hx)
  have hva : vApply m out inn = if (vOut m [] out).2 then (redo (vOut m [] out).1 inn, true) else vOut m [] out := by
    unfold vApply; rw [← HR.out.1, ← HR.out.2]; rfl
  have HG := Lib.hid (And.intro hgo (And.intro hgi hva))
  clear hgo hgi hva
  have H2 := Lib.hid (H0.out.ext HE2.out)
  go_loopg [36] no (fun k p wr => ∃ (j : Nat) (mj : List (ByteArray × Int)), p = .int .i64 j ∧ j + k = no ∧ OnWay ty b S wa mj wr ∧ Bnd mj (N + j) ∧ vOut m [] out = vOut mj (out.take j) (out.drop j))
  case atStart => exact ⟨0, m, rfl, Nat.zero_add _, H2.out, HF.out.2.2.2.2.1, by simp⟩
  case round =>
    obtain ⟨j, mj, rfl, hj, hW, hBj, hvo⟩ := hrel
    by_cases hjn : (j : Int) < no
    · have hjl : j < out.length := by rw [← HNL.out.1]; omega
      obtain ⟨g, o, rfl, hc9⟩ := (HO.out wr hW.2).at hjl
      have hy := hc9 j hjl
      obtain ⟨y, hyl⟩ : ∃ y, y = out[j] := ⟨_, rfl⟩
      rw [← hyl] at hy
      unfold C9 at hy
      have hcr := blk_cell (HC.out wr hW.2)
      have hyg : Goodk (trip y) := by rw [hyl]; exact HG.out.1 _ (List.getElem_mem hjl)
      have hdr : out.drop j = y :: out.drop (j + 1) := by rw [hyl]; exact List.drop_eq_getElem_cons hjl
      have htk : out.take (j + 1) = out.take j ++ [y] := by rw [hyl]; exact (List.take_append_getElem hjl).symm
      have hEa : Ext wr (wr.alloc (.cells (spnC y) 48)) := (Keeps.refl _ wr).alloc _
      have HY := Lib.hid (And.intro hyg (And.intro hdr (And.intro htk (And.intro hBj (And.intro hvo hjl)))))
      have HW := Lib.hid (hW.ext hEa)
      have hcb : (wr.alloc (.cells (spnC y) 48)).heap[c]? = some (.cells #[.slice (some ⟨g, o, none⟩) no capo, .slice ai ni capi] 36 (0, 0)) := (Ext.same hEa (lt_of_heap (HC.out wr hW.2))).trans (HC.out wr hW.2)
      clear hc9 hyl hyg hdr htk hEa hBj hvo hW
      obtain ⟨wb, hwb⟩ : ∃ wb, wb = wr.alloc (.cells (spnC y) 48) := ⟨_, rfl⟩
      rw [← hwb] at HW hcb
      have hlb := lt_of_heap hcb
      clear hcb
      go_wp2_with fail
      rw [← hwb]
      clear hwb
      refine (HW.out.step HY.out.1 (.inr rfl) HY.out.2.2.2.1 (by have := HF.out.2.2.2.2.2; have := HF.out.2.2.1; have := HY.out.2.2.2.2.2; omega)).mono ?_
      rintro e9 w3 ⟨rfl, hW3⟩
      have hBn := HY.out.2.2.2.1.chg y (d := -1) (.inr rfl)
      have HW3 := Lib.hid (And.intro hW3 hBn)
      have hc3 := blk_cell (HC.out w3 hW3.2)
      clear hW3 hBn hcr
      cases hok : (chg mj y (-1)).2
      · have HVO := Lib.hid (show vOut m [] out = (redo (chg mj y (-1)).1 (out.take j), false) from by rw [HY.out.2.2.2.2.1, HY.out.2.1]; exact vOut_fail _ _ _ _ hok)
        clear hok hy
        go_wp2_with fail
        go_loopg [49] j (fun k p wr => ∃ (i : Nat), p = .int .i64 i ∧ i + k = j ∧ OnWay ty b S wa (redo (chg mj y (-1)).1 (out.take i)) wr ∧ Bnd (redo (chg mj y (-1)).1 (out.take i)) (N + j + 1 + i))
        case atStart => exact ⟨0, rfl, Nat.zero_add _, HW3.out.1, HW3.out.2⟩
        case round =>
          obtain ⟨i, rfl, hi, hW, hBi⟩ := hrel
          by_cases hij : (i : Int) < j
          · have hil : i < out.length := by have := HY.out.2.2.2.2.2; omega
            obtain ⟨g2, o2, e2, hc9⟩ := (HO.out wr hW.2).at hil
            injection e2 with e2
            injection e2 with e21 e22 _
            subst e21; subst e22
            have hy := hc9 i hil
            obtain ⟨z, hzl⟩ : ∃ z, z = out[i] := ⟨_, rfl⟩
            rw [← hzl] at hy
            unfold C9 at hy
            have hzg : Goodk (trip z) := by rw [hzl]; exact HG.out.1 _ (List.getElem_mem hil)
            have htk : out.take (i + 1) = out.take i ++ [z] := by rw [hzl]; exact (List.take_append_getElem hil).symm
            have hEa : Ext wr (wr.alloc (.cells (spnC z) 48)) := (Keeps.refl _ wr).alloc _
            have HZ := Lib.hid (And.intro hzg (And.intro htk (And.intro hBi hil)))
            have HWz := Lib.hid (hW.ext hEa)
            clear hc9 hzl hzg htk hEa hBi hW
            obtain ⟨wb, hwb⟩ : ∃ wb, wb = wr.alloc (.cells (spnC z) 48) := ⟨_, rfl⟩
            rw [← hwb] at HWz
            go_wp2_with fail
            rw [← hwb]
            clear hwb
            refine (HWz.out.step HZ.out.1 (.inl rfl) HZ.out.2.2.1 (by have := HF.out.2.2.2.2.2; have := HF.out.2.2.1; have := HY.out.2.2.2.2.2; omega)).mono ?_
            rintro e9 w4 ⟨rfl, hW4⟩
            have HW4 := Lib.hid (And.intro (show OnWay ty b S wa (redo (chg mj y (-1)).1 (out.take (i + 1))) w4 from by rw [HZ.out.2.1, redo_snoc]; exact hW4) (show Bnd (redo (chg mj y (-1)).1 (out.take (i + 1))) (N + j + 1 + i + 1) from by rw [HZ.out.2.1, redo_snoc]; exact HZ.out.2.2.1.chg z (.inl rfl)))
            clear hW4 hy
            go_wp2_with fail
            go_roundg (gk - 1)
            case measure => omega
            case rel => exact ⟨i + 1, by simp, by omega, HW4.out.1, HW4.out.2⟩
          · have hie : i = j := by omega
            subst hie
            have HEND := Lib.hid hW
            clear hW hBi
            go_wp2_with fail
            go_ret
            refine HQ.out _ _ ?_ ?_
            · rw [HG.out.2.2, HVO.out]; exact HEND.out
            · rw [HG.out.2.2, HVO.out]; rfl
      · have HVO := Lib.hid (show vOut m [] out = vOut (chg mj y (-1)).1 (out.take (j + 1)) (out.drop (j + 1)) from by rw [HY.out.2.2.2.2.1, HY.out.2.1, HY.out.2.2.1]; exact vOut_snoc _ _ _ _ hok)
        clear hok hy
        go_wp2_with fail
        go_roundg (gk - 1)
        case measure => omega
        case rel => exact ⟨j + 1, _, by simp, by omega, HW3.out.1, HW3.out.2, HVO.out⟩
    · have hje : j = no := by omega
      have hje2 : j = out.length := by rw [hje]; exact HNL.out.1
      have HVO := Lib.hid (show vOut m [] out = (mj, true) from by rw [hvo, hje2, List.drop_length]; rfl)
      have HVA := Lib.hid (show vApply m out inn = (redo mj inn, true) from by rw [HG.out.2.2, HVO.out]; rfl)
      have HWj := Lib.hid (And.intro hW hBj)
      have hcj := blk_cell (HC.out wr hW.2)
      clear hvo hW hBj hje2 hc2
      go_wp2_with fail
      go_loopg [61] ni (fun k p wr => ∃ (i : Nat), p = .int .i64 i ∧ i + k = ni ∧ OnWay ty b S wa (redo mj (inn.take i)) wr ∧ Bnd (redo mj (inn.take i)) (N + j + i))
      case atStart => exact ⟨0, rfl, Nat.zero_add _, HWj.out.1, HWj.out.2⟩
      case round =>
        obtain ⟨i, rfl, hi, hW, hBi⟩ := hrel
        by_cases hij : (i : Int) < ni
        · have hil : i < inn.length := by rw [← HNL.out.2]; omega
          obtain ⟨g2, o2, rfl, hc9⟩ := (HI.out wr hW.2).at hil
          have hy := hc9 i hil
          obtain ⟨z, hzl⟩ : ∃ z, z = inn[i] := ⟨_, rfl⟩
          rw [← hzl] at hy
          unfold C9 at hy
          have hzg : Goodk (trip z) := by rw [hzl]; exact HG.out.2.1 _ (List.getElem_mem hil)
          have htk : inn.take (i + 1) = inn.take i ++ [z] := by rw [hzl]; exact (List.take_append_getElem hil).symm
          have hEa : Ext wr (wr.alloc (.cells (spnC z) 48)) := (Keeps.refl _ wr).alloc _
          have HZ := Lib.hid (And.intro hzg (And.intro htk (And.intro hBi hil)))
          have HWz := Lib.hid (hW.ext hEa)
          clear hc9 hzl hzg htk hEa hBi hW
          obtain ⟨wb, hwb⟩ : ∃ wb, wb = wr.alloc (.cells (spnC z) 48) := ⟨_, rfl⟩
          rw [← hwb] at HWz
          go_wp2_with fail
          rw [← hwb]
          clear hwb
          refine (HWz.out.step HZ.out.1 (.inl rfl) HZ.out.2.2.1 (by have := HF.out.2.2.2.2.2; omega)).mono ?_
          rintro e9 w4 ⟨rfl, hW4⟩
          have HW4 := Lib.hid (And.intro (show OnWay ty b S wa (redo mj (inn.take (i + 1))) w4 from by rw [HZ.out.2.1, redo_snoc]; exact hW4) (show Bnd (redo mj (inn.take (i + 1))) (N + j + i + 1) from by rw [HZ.out.2.1, redo_snoc]; exact HZ.out.2.2.1.chg z (.inl rfl)))
          clear hW4 hy
          cases hcx : (chg (redo mj (inn.take i)) z 1).2
          all_goals
            go_wp2_with fail
            go_roundg (gk - 1)
            case measure => omega
            case rel => exact ⟨i + 1, by simp, by omega, HW4.out.1, HW4.out.2⟩
        · have hie : i = inn.length := by rw [← HNL.out.2]; omega
          have HEND := Lib.hid (show OnWay ty b S wa (redo mj inn) wr from by rw [hie, List.take_length] at hW; exact hW)
          clear hW hBi
          go_wp2_with fail
          go_ret
          refine HQ.out _ _ ?_ ?_
          · rw [HVA.out]; exact HEND.out
          · rw [HVA.out]
end Go.Proofs.YtdonmmjikcbihaaGreatDoor
