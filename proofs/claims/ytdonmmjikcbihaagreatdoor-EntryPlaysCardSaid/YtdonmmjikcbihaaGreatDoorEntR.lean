/- Entries as rows of the call's own. -/
import Derived.Test.YtdonmmjikcbihaaGreatDoorEks
import Derived.Test.YtdonmmjikcbihaaGreatDoorEntP
import Derived.Lib.SplitLaws
namespace Go.Proofs.YtdonmmjikcbihaaGreatDoor
open Go.RowKit Go.Proofs Go.Vc
/-- a slice of entries that reads so -/
def EntsAt (w : World) (v : Value) (E : List Ent) : Prop :=
  ∃ l : List (ByteArray × ByteArray × Sl), entE.Reads w v l ∧ l.length = E.length ∧ (∀ i (h : i < l.length) (h' : i < E.length), l[i].1 = E[i].sv ∧ l[i].2.1 = E[i].op) ∧
    ∀ i (h : i < l.length) (h' : i < E.length), intE.Reads w (slV l[i].2.2) E[i].tr
theorem EntsAt.ext {w w' : World} {v : Value} {E : List Ent} (h : EntsAt w v E) (k : Ext w w') : EntsAt w' v E := by
  obtain ⟨l, h1, h2, h3, h4⟩ := h
  exact ⟨l, h1.ext entE k, h2, h3, fun i h h' => (h4 i h h').ext intE k⟩
structure EntRows (B : Nat) (v : Value) (l : List (ByteArray × ByteArray × Sl)) (E : List Ent) (W : World) : Prop where
  row : entE.Own B v l W
  len : l.length = E.length
  nm : ∀ i (h : i < l.length) (h' : i < E.length), l[i].1 = E[i].sv ∧ l[i].2.1 = E[i].op
  tr : ∀ i (h : i < l.length) (h' : i < E.length), intE.Own B (slV l[i].2.2) E[i].tr W
  ap : l.Pairwise fun a b => a.2.2.1 ≠ none ∧ a.2.2.1 ≠ b.2.2.1
theorem EntRows.nil (B : Nat) (W : World) : EntRows B (.slice none 0 0) [] [] W := ⟨Ek.Own.nil entE B W, rfl, fun i h => absurd h (Nat.not_lt_zero _), fun i h => absurd h (Nat.not_lt_zero _), List.Pairwise.nil⟩
theorem EntRows.bk {B C : Nat} {v : Value} {l : List (ByteArray × ByteArray × Sl)} {E : List Ent} {W W' : World} (h : EntRows B v l E W) (k : Bk C W W') : EntRows B v l E W' :=
  ⟨h.row.bk entE k, h.len, h.nm, fun i h1 h2 => (h.tr i h1 h2).bk intE k, h.ap⟩
theorem EntRows.ext {B : Nat} {v : Value} {l : List (ByteArray × ByteArray × Sl)} {E : List Ent} {W W' : World} (h : EntRows B v l E W) (k : Ext W W') : EntRows B v l E W' :=
  ⟨h.row.ext entE k, h.len, h.nm, fun i h1 h2 => (h.tr i h1 h2).ext intE k, h.ap⟩
theorem ty_ne : (entE.e == intE.e) = false := by kernel_rfl
/-- rows of different kinds lie apart -/
theorem kinds_apart {B C : Nat} {v u : Value} {l : List (ByteArray × ByteArray × Sl)} {m : List Int} {W : World} (h : entE.Own B v l W) (k : intE.Own C u m W) {g : Nat} (hg : v.ownBlock = some g) : u.ownBlock ≠ some g := by
  intro hu
  obtain ⟨c, f, h1⟩ := h.kind entE hg
  obtain ⟨c', f', h2⟩ := k.kind intE hu
  rw [h1] at h2
  injection h2 with h2
  injection h2 with _ h2
  have := ty_ne
  rw [h2] at this; simp at this
theorem EntRows.reads {B : Nat} {v : Value} {l : List (ByteArray × ByteArray × Sl)} {E : List Ent} {W : World} (h : EntRows B v l E W) (hl : E.length ≤ 1000000) (ht : ∀ e ∈ E, e.tr.length ≤ 1000000) : EntsAt W v E :=
  ⟨l, h.row.reads entE (by rw [h.len]; exact hl), h.len, h.nm, fun i h1 h2 => (h.tr i h1 h2).reads intE (ht _ (List.getElem_mem h2))⟩
theorem EntRows.some {B : Nat} {v : Value} {l : List (ByteArray × ByteArray × Sl)} {E : List Ent} {W : World} (h : EntRows B v l E W) (hne : ∀ e ∈ E, e.tr ≠ []) : ∀ a ∈ l, a.2.2.1 ≠ none := by
  intro a ha
  obtain ⟨i, hi, rfl⟩ := List.getElem_of_mem ha
  have hE : i < E.length := by rw [← h.len]; exact hi
  intro hn
  obtain ⟨a', c', e, h0, _⟩ := (h.tr i hi hE).slice intE
  injection e with e1 _ _
  exact hne _ (List.getElem_mem hE) (h0 (e1.symm.trans hn))
/-- one entry more, of no traces yet -/
theorem EntRows.push {B : Nat} {v v' : Value} {l : List (ByteArray × ByteArray × Sl)} {E : List Ent} {W W' : World} (h : EntRows B v l E W) (hne : ∀ e ∈ E, e.tr ≠ []) (s o : ByteArray)
    (hr : entE.Own B v' (l ++ [(s, o, (none, 0, 0))]) W') (k : Keeps (fun b => v.ownBlock = .some b) W W') : EntRows B v' (l ++ [(s, o, (none, 0, 0))]) (E ++ [⟨s, o, []⟩]) W' := by
  refine ⟨hr, by rw [List.length_append, List.length_append, h.len]; rfl, fun i h1 h2 => ?_, fun i h1 h2 => ?_, ?_⟩
  · rcases Nat.lt_or_ge i l.length with hi | hi
    · have hE : i < E.length := by rw [← h.len]; exact hi
      rw [List.getElem_append_left hi, List.getElem_append_left hE]; exact h.nm i hi hE
    · have e : i = l.length := by rw [List.length_append, List.length_singleton] at h1; omega
      subst e
      rw [List.getElem_append_right (Nat.le_refl _), List.getElem_append_right (by rw [h.len]; exact Nat.le_refl _)]
      simp [h.len]
  · rcases Nat.lt_or_ge i l.length with hi | hi
    · have hE : i < E.length := by rw [← h.len]; exact hi
      rw [List.getElem_append_left hi, List.getElem_append_left hE]
      exact (h.tr i hi hE).keeps intE k fun g hg hv => kinds_apart h.row (h.tr i hi hE) hv hg
    · have e : i = l.length := by rw [List.length_append, List.length_singleton] at h1; omega
      subst e
      rw [List.getElem_append_right (Nat.le_refl _), List.getElem_append_right (by rw [h.len]; exact Nat.le_refl _)]
      simp only [h.len, Nat.sub_self, List.getElem_cons_zero]
      exact Ek.Own.nil intE B W'
  · rw [List.pairwise_append]
    exact ⟨h.ap, List.pairwise_singleton _ _, fun a ha b hb => by rw [List.mem_singleton] at hb; subst hb; exact ⟨h.some hne a ha, h.some hne a ha⟩⟩
/-- the last entry's traces longer -/
theorem EntRows.last {B g n cap : Nat} {l : List (ByteArray × ByteArray × Sl)} {x : ByteArray × ByteArray × Sl} {E : List Ent} {e : Ent} {W W' : World} {u : Sl} {t : Int} (h : EntRows B (.slice (.some ⟨g, 0, none⟩) n cap) (l ++ [x]) (E ++ [e]) W)
    (hr : intE.Own B (slV u) (e.tr ++ [t]) W') (k : Keeps (fun b => (slV x.2.2).ownBlock = .some b) W W') (hu : (slV u).ownBlock = (slV x.2.2).ownBlock ∨ ∃ b, (slV u).ownBlock = .some b ∧ W.heap.size ≤ b) :
    EntRows B (.slice (.some ⟨g, 0, none⟩) n cap) (l ++ [(x.1, x.2.1, u)]) (E ++ [{ e with tr := e.tr ++ [t] }]) (W'.setCell ⟨g, l.length * 3 + 2, none⟩ (slV u)) := by
  have hlen : l.length = E.length := by have := h.len; simpa using this
  have hx := h.tr l.length (by simp) (by simp [hlen])
  have hnx := h.nm l.length (by simp) (by simp [hlen])
  rw [List.getElem_append_right (Nat.le_refl _), List.getElem_append_right (by rw [hlen]; exact Nat.le_refl _)] at hx hnx
  simp only [hlen, Nat.sub_self, List.getElem_cons_zero] at hx hnx
  have hrow' : entE.Own B (.slice (.some ⟨g, 0, none⟩) n cap) (l ++ [x]) W' := h.row.keeps entE k fun b hb hx' => kinds_apart h.row hx hb hx'
  have hset := hrow'.set entE (g := g) rfl l.length 2 (slV u) (x.1, x.2.1, u) (by simp) (by decide) (by simp [entE])
  rw [show (l ++ [x]).set l.length (x.1, x.2.1, u) = l ++ [(x.1, x.2.1, u)] by rw [List.set_append_right _ _ (Nat.le_refl _)]; simp] at hset
  have hset' : entE.Own B (.slice (.some ⟨g, 0, none⟩) n cap) (l ++ [(x.1, x.2.1, u)]) (W'.setCell ⟨g, l.length * 3 + 2, none⟩ (slV u)) := hset
  have hot : ∀ {m : List Int} {v : Value}, intE.Own B v m W' → intE.Own B v m (W'.setCell ⟨g, l.length * 3 + 2, none⟩ (slV u)) := fun hm =>
    hm.keeps intE ((Only.refl [g] W').setCell (by simp) _).keeps fun b hb hg => by
      rw [List.mem_singleton] at hg
      subst hg
      exact kinds_apart hrow' hm rfl hb
  have hap := h.ap
  rw [List.pairwise_append] at hap
  have hlt : ∀ i (hi : i < l.length) (hE : i < E.length), intE.Own B (slV l[i].2.2) E[i].tr W := fun i hi hE => by
    have := h.tr i (by rw [List.length_append]; omega) (by rw [List.length_append]; omega)
    rw [List.getElem_append_left hi, List.getElem_append_left hE] at this; exact this
  have hxo : ∀ i (hi : i < l.length), ∃ b, (slV l[i].2.2).ownBlock = .some b ∧ (slV x.2.2).ownBlock ≠ .some b := fun i hi => by
    have hE : i < E.length := by omega
    have h1 := hap.2.2 l[i] (List.getElem_mem hi) x (List.mem_singleton.2 rfl)
    have ho := hlt i hi hE
    obtain ⟨a', c', e', _, _⟩ := ho.slice intE
    injection e' with e1 _ _
    rcases ho.form intE with hf | ⟨g1, c1, hf, _⟩
    · injection hf with hf _ _; exact absurd hf h1.1
    · refine ⟨g1, by rw [hf]; rfl, fun hc => ?_⟩
      injection hf with hf _ _
      rcases hx.form intE with hg | ⟨g2, c2, hg, _⟩
      · rw [hg] at hc; cases hc
      · rw [hg] at hc
        simp only [Value.ownBlock, Option.some.injEq] at hc
        injection hg with hg _ _
        exact h1.2 (by rw [hf, hg, hc])
  refine ⟨hset', by rw [List.length_append, List.length_append, hlen]; rfl, fun i h1 h2 => ?_, fun i h1 h2 => ?_, ?_⟩
  · rcases Nat.lt_or_ge i l.length with hi | hi
    · have hE : i < E.length := by omega
      have := h.nm i (by rw [List.length_append]; omega) (by rw [List.length_append]; omega)
      rw [List.getElem_append_left hi, List.getElem_append_left hE] at this ⊢; exact this
    · have e' : i = l.length := by rw [List.length_append, List.length_singleton] at h1; omega
      subst e'
      rw [List.getElem_append_right (Nat.le_refl _), List.getElem_append_right (by rw [hlen]; exact Nat.le_refl _)]
      simp only [hlen, Nat.sub_self, List.getElem_cons_zero]
      exact hnx
  · rcases Nat.lt_or_ge i l.length with hi | hi
    · have hE : i < E.length := by omega
      rw [List.getElem_append_left hi, List.getElem_append_left hE]
      obtain ⟨b, hb1, hb2⟩ := hxo i hi
      exact hot ((hlt i hi hE).keeps intE k fun g' hg' hc => by rw [hb1] at hg'; injection hg' with hg'; subst hg'; exact hb2 hc)
    · have e' : i = l.length := by rw [List.length_append, List.length_singleton] at h1; omega
      subst e'
      rw [List.getElem_append_right (Nat.le_refl _), List.getElem_append_right (by rw [hlen]; exact Nat.le_refl _)]
      have hh := hot hr
      simp only [hlen, Nat.sub_self, List.getElem_cons_zero] at hh ⊢
      exact hh
  · rw [List.pairwise_append]
    refine ⟨hap.1, List.pairwise_singleton _ _, fun a ha b hb => ?_⟩
    rw [List.mem_singleton] at hb
    subst hb
    have h1 := hap.2.2 a ha x (List.mem_singleton.2 rfl)
    refine ⟨h1.1, fun hc => ?_⟩
    obtain ⟨i, hi, rfl⟩ := List.getElem_of_mem ha
    obtain ⟨b, hb1, hb2⟩ := hxo i hi
    have hE : i < E.length := by omega
    have hub : (slV u).ownBlock = .some b := by
      rw [← hb1]; simp only [slV]
      dsimp only at hc
      rw [← hc]
      cases hq : l[i].2.2.1 <;> rfl
    rcases hu with hu | ⟨b', hu, hbb⟩
    · exact hb2 (hu.symm.trans hub)
    · rw [hub] at hu
      injection hu with hu
      subst hu
      have := ((hlt i hi hE).lt intE hb1).2
      omega
/-! ### strings.Split of an entry's beginning -/
theorem indexByte_app (r : List UInt8) : ∀ l : List UInt8, (∀ c ∈ l, c ≠ 0) → Lib.indexByte (l ++ 0 :: r) 0 = l.length
  | [], _ => rfl
  | a :: l, h => by
    have h0 := h a (List.mem_cons_self ..)
    have ih := indexByte_app r l fun c hc => h c (List.mem_cons_of_mem _ hc)
    rw [List.cons_append, Lib.indexByte, ih, if_neg (by simpa using h0), if_neg (by rw [beq_iff_eq]; omega), List.length_cons]; rfl
theorem indexB_app (s r : ByteArray) (h : ∀ c ∈ s.toList, c ≠ 0) : Lib.indexB (s ++ nul ++ r) nul = (s.size : Nat) := by
  unfold Lib.indexB
  have e : nul.data.toList = [0] := rfl
  rw [e, Lib.index_one]
  have e2 : (s ++ nul ++ r).data.toList = s.data.toList ++ 0 :: r.data.toList := by simp [ByteArray.data_append, nul]
  rw [e2, indexByte_app _ _ (by rw [← toList_data]; exact h), Array.length_toList]; rfl
theorem split_first (s o : ByteArray) (hs : ∀ c ∈ s.toList, c ≠ 0) (ho : ∀ c ∈ o.toList, c ≠ 0) : Lib.countB (efirst s o) nul = 2 ∧ Lib.splitB nul 0 2 (efirst s o) = [s, o, ByteArray.empty] := by
  have hn : nul.size = 1 := rfl
  have e1 : efirst s o = s ++ nul ++ (o ++ nul) := by unfold efirst; rw [ByteArray.append_assoc]
  have e2 : o ++ nul = o ++ nul ++ ByteArray.empty := by rw [ByteArray.append_empty]
  have i1 := indexB_app s (o ++ nul) hs
  have i2 := indexB_app o ByteArray.empty ho
  rw [← e1] at i1
  rw [← e2] at i2
  have i3 : Lib.indexB ByteArray.empty nul = -1 := by unfold Lib.indexB; rw [show nul.data.toList = [0] from rfl, Lib.index_one]; rfl
  have x1 : (efirst s o).extract (s.size + 1) (efirst s o).size = o ++ nul := by
    rw [e1]; exact ByteArray.extract_append_eq_right (by rw [ByteArray.size_append, hn]) (by simp only [ByteArray.size_append])
  have x2 : (o ++ nul).extract (o.size + 1) (o ++ nul).size = ByteArray.empty := by
    conv => lhs; rw [e2]
    exact ByteArray.extract_append_eq_right (by rw [ByteArray.size_append, hn]) (by simp only [ByteArray.size_append])
  have y1 : (efirst s o).extract 0 s.size = s := by
    rw [e1, ByteArray.append_assoc]; exact ByteArray.extract_append_eq_left rfl
  have y2 : (o ++ nul).extract 0 o.size = o := ByteArray.extract_append_eq_left rfl
  constructor
  · rw [Lib.countB_hit _ _ s.size (by rw [hn]; exact Nat.le_refl _) i1, hn, x1, Lib.countB_hit _ _ o.size (by rw [hn]; exact Nat.le_refl _) i2, hn, x2, Lib.countB_miss _ _ i3]
  · rw [Lib.splitB_hit nul 0 1 _ s.size i1, hn, x1, Lib.splitB_hit nul 0 0 _ o.size i2, hn, x2, Nat.add_zero, Nat.add_zero, y1, y2]; rfl
end Go.Proofs.YtdonmmjikcbihaaGreatDoor
