/- Search trees as lists in order (plain). -/
import Derived.Test.YtdonmmjikcbihaaGreatDoorTree
namespace Go.Vc
variable {κ α : Type}
/-- an order of keys -/
structure Order (c : κ → κ → Ordering) : Prop where
  refl : ∀ a, c a a = .eq
  eq : ∀ {a b}, c a b = .eq → a = b
  flip : ∀ {a b}, c a b = .lt → c b a = .gt
  flip' : ∀ {a b}, c a b = .gt → c b a = .lt
  trans : ∀ {a b d}, c a b = .lt → c b d = .lt → c a d = .lt
theorem Order.gtrans {c : κ → κ → Ordering} (O : Order c) {a b d : κ} (h : c a b = .gt) (k : c b d = .gt) : c a d = .gt := O.flip (O.trans (O.flip' k) (O.flip' h))
/-- keys that rise -/
def Rises (c : κ → κ → Ordering) (l : List (κ × α)) : Prop := l.Pairwise fun a b => c a.1 b.1 = .lt
def putL (c : κ → κ → Ordering) (k : κ) (v : α) : List (κ × α) → List (κ × α)
  | [] => [(k, v)]
  | x :: t => match c k x.1 with
    | .lt => (k, v) :: x :: t
    | .eq => (x.1, v) :: t
    | .gt => x :: putL c k v t
def findL (c : κ → κ → Ordering) (k : κ) : List (κ × α) → Option α
  | [] => none
  | x :: t => match c k x.1 with
    | .eq => some x.2
    | _ => findL c k t
def dropL (c : κ → κ → Ordering) (k : κ) (l : List (κ × α)) : List (κ × α) := l.filter fun x => c k x.1 != .eq
def sinceL (c : κ → κ → Ordering) (k : κ) (l : List (κ × α)) : List (κ × α) := l.filter fun x => c x.1 k != .lt
theorem putL_below {c : κ → κ → Ordering} {k : κ} {v : α} {x : κ × α} {R : List (κ × α)} (h : c k x.1 = .lt) : ∀ L : List (κ × α), putL c k v (L ++ x :: R) = putL c k v L ++ x :: R
  | [] => by simp only [List.nil_append, putL, h]; rfl
  | y :: L => by
    simp only [List.cons_append, putL]
    cases hy : c k y.1 <;> simp only [List.cons_append]
    rw [putL_below h L]
theorem putL_above {c : κ → κ → Ordering} {k : κ} {v : α} {M : List (κ × α)} : ∀ L : List (κ × α), (∀ y ∈ L, c k y.1 = .gt) → putL c k v (L ++ M) = L ++ putL c k v M
  | [], _ => rfl
  | y :: L, h => by
    simp only [List.cons_append, putL, h y (List.mem_cons_self ..)]
    rw [putL_above L fun z hz => h z (List.mem_cons_of_mem _ hz)]
theorem findL_skip {c : κ → κ → Ordering} {k : κ} {M : List (κ × α)} : ∀ L : List (κ × α), (∀ y ∈ L, c k y.1 ≠ .eq) → findL c k (L ++ M) = findL c k M
  | [], _ => rfl
  | y :: L, h => by
    have hy := h y (List.mem_cons_self ..)
    simp only [List.cons_append, findL]
    rw [findL_skip L fun z hz => h z (List.mem_cons_of_mem _ hz)]
theorem findL_left {c : κ → κ → Ordering} {k : κ} {M : List (κ × α)} (hM : ∀ y ∈ M, c k y.1 ≠ .eq) : ∀ L : List (κ × α), findL c k (L ++ M) = findL c k L
  | [] => by
    have := findL_skip (M := []) M hM
    simpa [findL] using this
  | y :: L => by
    simp only [List.cons_append, findL]
    rw [findL_left hM L]
namespace T
/-- what a node's list tells of its parts -/
theorem rises_node {c : κ → κ → Ordering} {b : Nat} {k : κ} {v : α} {l r : T κ α} (h : Rises c (node b k v l r).toList) :
    Rises c l.toList ∧ Rises c r.toList ∧ (∀ y ∈ l.toList, c y.1 k = .lt) ∧ (∀ y ∈ r.toList, c k y.1 = .lt) ∧ (∀ x ∈ l.toList, ∀ y ∈ r.toList, c x.1 y.1 = .lt) := by
  unfold Rises at *
  rw [show (node b k v l r).toList = l.toList ++ (k, v) :: r.toList from rfl, List.pairwise_append] at h
  obtain ⟨h1, h2, h3⟩ := h
  rw [List.pairwise_cons] at h2
  exact ⟨h1, h2.2, fun y hy => h3 y hy _ (List.mem_cons_self ..), h2.1, fun x hx y hy => h3 x hx y (List.mem_cons_of_mem _ hy)⟩
theorem put_toList {c : κ → κ → Ordering} (O : Order c) (N : Nat) (key : κ) (val : α) (t : T κ α) (h : Rises c t.toList) : (t.put c N key val).1.toList = putL c key val t.toList := by
  induction t with
  | nil => rfl
  | node b k v l r ihl ihr =>
    obtain ⟨h1, h2, h3, h4, h5⟩ := rises_node h
    cases hk : c key k with
    | lt => simp only [put, hk, level_toList, toList, ihl h1]; rw [putL_below hk]
    | gt =>
      simp only [put, hk, level_toList, toList, ihr h2]
      rw [putL_above _ fun y hy => O.gtrans hk (O.flip (h3 y hy))]
      simp only [putL, hk]
    | eq =>
      simp only [put, hk, level_toList, toList]
      have := O.eq hk
      subst this
      rw [putL_above _ fun y hy => O.flip (h3 y hy)]
      simp only [putL, hk]
theorem find_toList {c : κ → κ → Ordering} (O : Order c) (key : κ) (t : T κ α) (h : Rises c t.toList) : t.find c key = findL c key t.toList := by
  induction t with
  | nil => rfl
  | node b k v l r ihl ihr =>
    obtain ⟨h1, h2, h3, h4, h5⟩ := rises_node h
    cases hk : c key k with
    | lt =>
      simp only [find, hk, toList, ihl h1]
      rw [findL_left]
      intro y hy
      rw [List.mem_cons] at hy
      rcases hy with rfl | hy
      · rw [hk]; exact fun e => by cases e
      · rw [O.trans hk (h4 y hy)]; exact fun e => by cases e
    | gt =>
      simp only [find, hk, toList, ihr h2]
      rw [findL_skip _ fun y hy => by rw [O.gtrans hk (O.flip (h3 y hy))]; exact fun e => by cases e]
      simp only [findL, hk]
    | eq =>
      simp only [find, hk, toList]
      have := O.eq hk
      subst this
      rw [findL_skip _ fun y hy => by rw [O.flip (h3 y hy)]; exact fun e => by cases e]
      simp only [findL, hk]
theorem drop_toList {c : κ → κ → Ordering} (O : Order c) (key : κ) (t : T κ α) (h : Rises c t.toList) : (t.drop c key).1.toList = dropL c key t.toList := by
  induction t with
  | nil => rfl
  | node b k v l r ihl ihr =>
    obtain ⟨h1, h2, h3, h4, h5⟩ := rises_node h
    have keepAll : ∀ L : List (κ × α), (∀ y ∈ L, c key y.1 ≠ .eq) → dropL c key L = L := by
      intro L hL
      refine List.filter_eq_self.2 fun y hy => ?_
      have := hL y hy
      cases he : c key y.1 <;> simp_all
    have split : dropL c key (node b k v l r).toList = dropL c key l.toList ++ (if c key k = .eq then [] else [(k, v)]) ++ dropL c key r.toList := by
      rw [show (node b k v l r).toList = l.toList ++ (k, v) :: r.toList from rfl]
      unfold dropL
      rw [List.filter_append, List.filter_cons]
      cases hk : c key k <;> simp
    rw [split]
    cases hk : c key k with
    | lt =>
      rw [drop_lt hk, level_toList, if_neg (by exact fun e => by cases e), keepAll r.toList (fun y hy => by rw [O.trans hk (h4 y hy)]; exact fun e => by cases e)]
      show (l.drop c key).1.toList ++ (k, v) :: r.toList = _
      rw [ihl h1]; simp
    | gt =>
      rw [drop_gt hk, level_toList, if_neg (by exact fun e => by cases e), keepAll l.toList (fun y hy => by rw [O.gtrans hk (O.flip (h3 y hy))]; exact fun e => by cases e)]
      show l.toList ++ (k, v) :: (r.drop c key).1.toList = _
      rw [ihr h2]; simp
    | eq =>
      have e := O.eq hk
      subst e
      rw [if_pos rfl, keepAll l.toList (fun y hy => by rw [O.flip (h3 y hy)]; exact fun e => by cases e), keepAll r.toList (fun y hy => by rw [h4 y hy]; exact fun e => by cases e)]
      cases r with
      | nil => simp only [drop, hk, toList, List.append_nil]
      | node b' k' v' l' r' =>
        obtain ⟨d, kc, vc, hl⟩ := least_some b' k' v' l' r'
        have ht := least_toList b' k' v' l' r' d kc vc hl
        simp only [drop, hk, hl, level_toList]
        show l.toList ++ (kc, vc) :: (least (node b' k' v' l' r')).1.toList = _
        rw [ht]; simp
theorem since_toList {c : κ → κ → Ordering} (O : Order c) (fk : κ) (t : T κ α) (h : Rises c t.toList) : t.since c fk = sinceL c fk t.toList := by
  induction t with
  | nil => rfl
  | node b k v l r ihl ihr =>
    obtain ⟨h1, h2, h3, h4, h5⟩ := rises_node h
    rw [show (node b k v l r).toList = l.toList ++ (k, v) :: r.toList from rfl]
    have up : c k fk ≠ .lt → sinceL c fk r.toList = r.toList := by
      intro hk
      refine List.filter_eq_self.2 fun y hy => ?_
      cases he : c y.1 fk <;> simp
      exact hk (O.trans (h4 y hy) he)
    cases hk : c k fk with
    | lt =>
      simp only [since, hk, ihr h2]
      have hl : sinceL c fk l.toList = [] := by
        refine List.filter_eq_nil_iff.2 fun y hy => ?_
        rw [O.trans (h3 y hy) hk]; simp
      unfold sinceL at *
      rw [List.filter_append, List.filter_cons, hl, hk]; simp
    | gt | eq =>
      have hu := up (by rw [hk]; exact fun e => by cases e)
      simp only [since, hk, ihl h1]
      unfold sinceL at *
      rw [List.filter_append, List.filter_cons, hu, hk]; simp
end T
theorem T.put_flag {c : κ → κ → Ordering} (N : Nat) (key : κ) (val : α) (t : T κ α) : (t.put c N key val).2 = (t.find c key).isNone := by
  induction t with
  | nil => rfl
  | node b k v l r ihl ihr => cases hk : c key k <;> simp only [T.put, T.find, hk, ihl, ihr, Option.isNone_some]
theorem T.drop_flag {c : κ → κ → Ordering} (key : κ) (t : T κ α) : (t.drop c key).2 = (t.find c key).isSome := by
  induction t with
  | nil => rfl
  | node b k v l r ihl ihr =>
    cases hk : c key k with
    | lt => rw [T.drop_lt hk]; simp only [T.find, hk, ihl]
    | gt => rw [T.drop_gt hk]; simp only [T.find, hk, ihr]
    | eq =>
      cases r with
      | nil => simp only [T.drop, T.find, hk, Option.isSome_some]
      | node b' k' v' l' r' =>
        obtain ⟨d, kc, vc, hl⟩ := T.least_some b' k' v' l' r'
        simp only [T.drop, T.find, hk, hl, Option.isSome_some]
theorem putL_keys {c : κ → κ → Ordering} (k : κ) (v : α) : ∀ (l : List (κ × α)) (y : κ × α), y ∈ putL c k v l → y.1 = k ∨ ∃ z ∈ l, z.1 = y.1
  | [], y, h => by simp only [putL, List.mem_singleton] at h; subst h; exact .inl rfl
  | x :: t, y, h => by
    simp only [putL] at h
    split at h
    · rw [List.mem_cons] at h
      rcases h with rfl | h
      · exact .inl rfl
      · exact .inr ⟨y, h, rfl⟩
    · rw [List.mem_cons] at h
      rcases h with rfl | h
      · exact .inr ⟨x, List.mem_cons_self .., rfl⟩
      · exact .inr ⟨y, List.mem_cons_of_mem _ h, rfl⟩
    · rw [List.mem_cons] at h
      rcases h with rfl | h
      · exact .inr ⟨y, List.mem_cons_self .., rfl⟩
      · rcases putL_keys k v t y h with h | ⟨z, hz, e⟩
        · exact .inl h
        · exact .inr ⟨z, List.mem_cons_of_mem _ hz, e⟩
theorem rises_putL {c : κ → κ → Ordering} (O : Order c) (k : κ) (v : α) : ∀ l : List (κ × α), Rises c l → Rises c (putL c k v l)
  | [], _ => List.pairwise_singleton _ _
  | x :: t, h => by
    unfold Rises at h
    rw [List.pairwise_cons] at h
    simp only [putL]
    split
    · rename_i hk
      exact List.pairwise_cons.2 ⟨fun y hy => by
        rw [List.mem_cons] at hy
        rcases hy with rfl | hy
        · exact hk
        · exact O.trans hk (h.1 y hy), List.pairwise_cons.2 h⟩
    · exact List.pairwise_cons.2 ⟨fun y hy => h.1 y hy, h.2⟩
    · rename_i hk
      refine List.pairwise_cons.2 ⟨fun y hy => ?_, rises_putL O k v t h.2⟩
      rcases putL_keys k v t y hy with e | ⟨z, hz, e⟩
      · rw [e]; exact O.flip' hk
      · rw [← e]; exact h.1 z hz
theorem rises_dropL {c : κ → κ → Ordering} (k : κ) (l : List (κ × α)) (h : Rises c l) : Rises c (dropL c k l) := List.Pairwise.filter _ h
theorem order_I : Order cmpI := by
  refine ⟨fun a => ?_, fun {a b} h => ?_, fun {a b} h => ?_, fun {a b} h => ?_, fun {a b d} h k => ?_⟩
  all_goals unfold cmpI at *
  · simp
  · split at h <;> try cases h
    split at h <;> first | assumption | cases h
  · split at h
    · rw [if_neg (by omega), if_neg (by omega)]
    · split at h <;> cases h
  · split at h
    · cases h
    · split at h
      · cases h
      · rw [if_pos (by omega)]
  · split at h
    · split at k
      · rw [if_pos (by omega)]
      · split at k <;> cases k
    · split at h <;> cases h
end Go.Vc
