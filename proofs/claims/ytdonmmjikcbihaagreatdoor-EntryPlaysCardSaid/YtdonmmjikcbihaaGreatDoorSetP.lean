/- Sets (plain): the document's sets are the newest of records. -/
import Derived.Test.YtdonmmjikcbihaaGreatDoorEntP
import Derived.Test.YtdonmmjikcbihaaGreatDoorDelta
namespace Go.Proofs.YtdonmmjikcbihaaGreatDoor
open Go Go.Vc
/-- does a record's key stand ahead? -/
def before (a b : Spn) : Bool := decide (a.tr < b.tr) || (decide (a.tr = b.tr) && decide (a.id < b.id))
/-- have two records one key? -/
def oneK (a b : Spn) : Bool := decide (a.tr = b.tr) && decide (a.id = b.id)
def refInsert (l : List Spn) (x : Spn) : List Spn := l.takeWhile (fun y => before y x) ++ x :: l.filter (fun y => before x y)
def refStep (out : List Spn) (x : Spn) : List Spn :=
  if may x then
    match out.find? (fun y => oneK y (kept x)) with
    | none => refInsert out (kept x)
    | some o => if newer (kept x) o then refInsert out (kept x) else out
  else out
def refSet (l : List Spn) : List Spn := l.foldl refStep []
theorem cmp_skey {x y : Spn} (hx : x.Fits) (hy : y.Fits) : cmpS (skey x) (skey y) = if before x y then .lt else if before y x then .gt else .eq := by
  unfold skey
  rw [cmp_num _ _ hx.tr hy.tr]
  have h2 := cmp_num _ _ hx.id hy.id ByteArray.empty ByteArray.empty
  simp only [ByteArray.append_empty] at h2
  rw [h2, order_S.refl]
  unfold before
  by_cases a : x.tr < y.tr
  · simp [a]
  · by_cases b : y.tr < x.tr
    · have : ¬ x.tr = y.tr := by omega
      simp [a, b, this]
    · have e : x.tr = y.tr := by omega
      simp [e]
theorem before_flip {x y : Spn} (h : before x y = true) : before y x = false := by
  unfold before at *
  simp only [Bool.or_eq_true, Bool.and_eq_true, decide_eq_true_eq] at h
  simp only [Bool.or_eq_false_iff, Bool.and_eq_false_iff, decide_eq_false_iff_not]
  omega
theorem oneK_iff (x y : Spn) : oneK x y = (!before x y && !before y x) := by
  unfold oneK before
  by_cases a : x.tr < y.tr
  · have : ¬ x.tr = y.tr := by omega
    simp [a, this]
  · by_cases b : y.tr < x.tr
    · have : ¬ x.tr = y.tr := by omega
      simp [a, b, this]
    · have e : x.tr = y.tr := by omega
      by_cases c : x.id < y.id
      · have : ¬ x.id = y.id := by omega
        simp [e, c, this]
      · by_cases d : y.id < x.id
        · have : ¬ x.id = y.id := by omega
          simp [e, c, d, this]
        · have : x.id = y.id := by omega
          simp [e, this]
theorem before_tr {x y z : Spn} (h : before x y = true) (k : before y z = true) : before x z = true := by
  unfold before at *
  simp only [Bool.or_eq_true, Bool.and_eq_true, decide_eq_true_eq] at *
  omega
/-- a map of records by their own keys -/
structure Own (m : List (ByteArray × Spn)) : Prop where
  up : Rises cmpS m
  key : ∀ y ∈ m, y.1 = skey y.2
  fit : ∀ y ∈ m, y.2.Fits
theorem Own.sorted {m : List (ByteArray × Spn)} (h : Own m) : (m.map (·.2)).Pairwise fun a b => before a b = true := by
  rw [List.pairwise_map]
  refine List.Pairwise.imp_of_mem (fun {a b} ha hb hab => ?_) h.up
  rw [h.key a ha, h.key b hb, cmp_skey (h.fit a ha) (h.fit b hb)] at hab
  cases hc : before a.2 b.2 with
  | true => rfl
  | false => rw [hc] at hab; simp only [Bool.false_eq_true, if_false] at hab; split at hab <;> cases hab
theorem Own.tail {y : ByteArray × Spn} {m : List (ByteArray × Spn)} (h : Own (y :: m)) : Own m :=
  ⟨(List.pairwise_cons.1 h.up).2, fun z hz => h.key z (List.mem_cons_of_mem _ hz), fun z hz => h.fit z (List.mem_cons_of_mem _ hz)⟩
theorem own_find {x : Spn} (hx : x.Fits) : ∀ {m : List (ByteArray × Spn)}, Own m → (m.map (·.2)).find? (fun y => oneK y x) = findL cmpS (skey x) m
  | [], _ => rfl
  | y :: m, h => by
    have hk := h.key y (List.mem_cons_self ..)
    have hf := h.fit y (List.mem_cons_self ..)
    simp only [List.map_cons, List.find?_cons, findL]
    rw [hk, cmp_skey hx hf, own_find hx h.tail, oneK_iff]
    cases h1 : before x y.2 with
    | true => simp
    | false =>
      cases h2 : before y.2 x with
      | true => simp
      | false => simp
theorem own_insert {x : Spn} (hx : x.Fits) : ∀ {m : List (ByteArray × Spn)}, Own m → refInsert (m.map (·.2)) x = (putL cmpS (skey x) x m).map (·.2)
  | [], _ => rfl
  | y :: m, h => by
    have hk := h.key y (List.mem_cons_self ..)
    have hf := h.fit y (List.mem_cons_self ..)
    have hs := h.sorted
    rw [List.map_cons, List.pairwise_cons] at hs
    have ih := own_insert hx h.tail
    unfold refInsert at ih ⊢
    simp only [List.map_cons, List.takeWhile_cons, List.filter_cons, putL]
    rw [hk, cmp_skey hx hf]
    cases h1 : before x y.2 with
    | true =>
      rw [before_flip h1]
      have hall : (m.map (·.2)).filter (fun z => before x z) = m.map (·.2) := List.filter_eq_self.2 fun z hz => before_tr h1 (hs.1 z hz)
      simp [hall]
    | false =>
      cases h2 : before y.2 x with
      | true =>
        simp only [Bool.false_eq_true, if_false, if_true, List.cons_append, List.map_cons, ih]
      | false =>
        have hall : (m.map (·.2)).filter (fun z => before x z) = m.map (·.2) := List.filter_eq_self.2 fun z hz => by
          have hyz := hs.1 z hz
          have e1 : x.tr = y.2.tr ∧ x.id = y.2.id := by
            have : oneK x y.2 = true := by rw [oneK_iff, h1, h2]; rfl
            unfold oneK at this
            simpa using this
          unfold before at hyz ⊢
          rw [e1.1, e1.2]; exact hyz
        simp [hall]
theorem own_put {x : Spn} (hx : x.Fits) {m : List (ByteArray × Spn)} (h : Own m) : Own (putL cmpS (skey x) x m) := by
  have : ∀ {m : List (ByteArray × Spn)}, (∀ y ∈ m, y.1 = skey y.2 ∧ y.2.Fits) → ∀ y ∈ putL cmpS (skey x) x m, y.1 = skey y.2 ∧ y.2.Fits := by
    intro m
    induction m with
    | nil => intro _ y hy; simp only [putL, List.mem_singleton] at hy; subst hy; exact ⟨rfl, hx⟩
    | cons z m ih =>
      intro hm y hy
      simp only [putL] at hy
      split at hy
      · rw [List.mem_cons] at hy
        rcases hy with rfl | hy
        · exact ⟨rfl, hx⟩
        · exact hm y hy
      · rename_i hk
        rw [List.mem_cons] at hy
        rcases hy with rfl | hy
        · exact ⟨(order_S.eq hk).symm, hx⟩
        · exact hm y (List.mem_cons_of_mem _ hy)
      · rw [List.mem_cons] at hy
        rcases hy with rfl | hy
        · exact hm _ (List.mem_cons_self ..)
        · exact ih (fun w hw => hm w (List.mem_cons_of_mem _ hw)) y hy
  have h2 := this fun y hy => ⟨h.key y hy, h.fit y hy⟩
  exact ⟨rises_putL order_S _ _ _ h.up, fun y hy => (h2 y hy).1, fun y hy => (h2 y hy).2⟩
theorem own_step {m : List (ByteArray × Spn)} (h : Own m) {x : Spn} (hx : x.Fits) : Own (newStep m x) ∧ refStep (m.map (·.2)) x = (newStep m x).map (·.2) := by
  have hkf := kept_fits hx
  have hsk : skey (kept x) = skey x := rfl
  unfold newStep refStep
  by_cases hm : may x = true
  · rw [if_pos hm, if_pos hm, own_find hkf h, hsk]
    cases hf : findL cmpS (skey x) m with
    | none => exact ⟨by rw [← hsk]; exact own_put hkf h, by rw [← hsk]; exact own_insert hkf h⟩
    | some o =>
      dsimp only
      by_cases hn : newer (kept x) o = true
      · rw [if_pos hn, if_pos hn]
        exact ⟨by rw [← hsk]; exact own_put hkf h, by rw [← hsk]; exact own_insert hkf h⟩
      · rw [if_neg hn, if_neg hn]; exact ⟨h, rfl⟩
  · rw [if_neg hm, if_neg hm]; exact ⟨h, rfl⟩
theorem newest_own (l : List Spn) (h : ∀ x ∈ l, x.Fits) : Own (newestL l) ∧ refSet l = (newestL l).map (·.2) := by
  unfold newestL refSet
  have : ∀ (l : List Spn) (m : List (ByteArray × Spn)), Own m → (∀ x ∈ l, x.Fits) → Own (l.foldl newStep m) ∧ l.foldl refStep (m.map (·.2)) = (l.foldl newStep m).map (·.2) := by
    intro l
    induction l with
    | nil => exact fun m h _ => ⟨h, rfl⟩
    | cons x l ih =>
      intro m h hl
      have hs := own_step h (hl x (List.mem_cons_self ..))
      have := ih (newStep m x) hs.1 fun y hy => hl y (List.mem_cons_of_mem _ hy)
      rw [List.foldl_cons, List.foldl_cons, hs.2]; exact this
  exact this l [] ⟨List.Pairwise.nil, (fun _ h => nomatch h), (fun _ h => nomatch h)⟩ h
end Go.Proofs.YtdonmmjikcbihaaGreatDoor
