/- Search trees as ghosts: what the Go trees of package avl are, with the blocks in which their nodes lie; the plain laws (no program here). -/
import Derived.WalkKit
namespace Go.Vc
/-- a tree: of each node its block, its key, its value, its halves -/
inductive T (κ α : Type) where
  | nil
  | node (b : Nat) (k : κ) (v : α) (l r : T κ α)
namespace T
variable {κ α : Type}
def ht : T κ α → Nat
  | nil => 0
  | node _ _ _ l r => 1 + max l.ht r.ht
def size : T κ α → Nat
  | nil => 0
  | node _ _ _ l r => l.size + r.size + 1
def blocks : T κ α → List Nat
  | nil => []
  | node b _ _ l r => b :: (l.blocks ++ r.blocks)
def toList : T κ α → List (κ × α)
  | nil => []
  | node _ k v l r => l.toList ++ (k, v) :: r.toList
def ptr : T κ α → Option Addr
  | nil => none
  | node b _ _ _ _ => some ⟨b, 0, none⟩
@[simp] theorem ptr_nil : (nil : T κ α).ptr = none := rfl
@[simp] theorem ptr_node (b : Nat) (k : κ) (v : α) (l r : T κ α) : (node b k v l r).ptr = some ⟨b, 0, none⟩ := rfl
/-- how much deeper the upper half is -/
def lean : T κ α → Int
  | nil => 0
  | node _ _ _ l r => (r.ht : Int) - l.ht
def turnLow : T κ α → T κ α
  | node b k v l (node b' k' v' l' r') => node b' k' v' (node b k v l l') r'
  | t => t
def turnHigh : T κ α → T κ α
  | node b k v (node b' k' v' l' r') r => node b' k' v' l' (node b k v r' r)
  | t => t
def level : T κ α → T κ α
  | nil => nil
  | node b k v l r =>
    if (r.ht : Int) - l.ht = 2 then turnLow (node b k v l (if r.lean < 0 then r.turnHigh else r))
    else if (r.ht : Int) - l.ht = -2 then turnHigh (node b k v (if 0 < l.lean then l.turnLow else l) r)
    else node b k v l r
/-- put a key; N: the block of a new node -/
def put (c : κ → κ → Ordering) (N : Nat) (key : κ) (val : α) : T κ α → T κ α × Bool
  | nil => (node N key val nil nil, true)
  | node b k v l r =>
    match c key k with
    | .lt => (level (node b k v (put c N key val l).1 r), (put c N key val l).2)
    | .gt => (level (node b k v l (put c N key val r).1), (put c N key val r).2)
    | .eq => (level (node b k val l r), false)
/-- the least node taken out: what is left; its block, key, value -/
def least : T κ α → T κ α × Option (Nat × κ × α)
  | nil => (nil, none)
  | node b k v nil r => (r, some (b, k, v))
  | node b k v (node b' k' v' l' r') r => (level (node b k v (least (node b' k' v' l' r')).1 r), (least (node b' k' v' l' r')).2)
def drop (c : κ → κ → Ordering) (key : κ) : T κ α → T κ α × Bool
  | nil => (nil, false)
  | node b k v l r =>
    match c key k with
    | .lt => (level (node b k v (drop c key l).1 r), (drop c key l).2)
    | .gt => (level (node b k v l (drop c key r).1), (drop c key r).2)
    | .eq => match r with
      | nil => (l, true)
      | node b' k' v' l' r' =>
        match (least (node b' k' v' l' r')).2 with
        | some (d, kc, vc) => (level (node d kc vc l (least (node b' k' v' l' r')).1), true)
        | none => (l, true)
def find (c : κ → κ → Ordering) (key : κ) : T κ α → Option α
  | nil => none
  | node _ k v l r => match c key k with
    | .lt => find c key l
    | .gt => find c key r
    | .eq => some v
/-- the keys that are not below one, with their values, as 'give' gives them -/
def since (c : κ → κ → Ordering) (fk : κ) : T κ α → List (κ × α)
  | nil => []
  | node _ k v l r => match c k fk with
    | .lt => since c fk r
    | _ => since c fk l ++ (k, v) :: r.toList
theorem drop_lt {c : κ → κ → Ordering} {key : κ} {b : Nat} {k : κ} {v : α} {l r : T κ α} (h : c key k = .lt) : (node b k v l r).drop c key = (level (node b k v (l.drop c key).1 r), (l.drop c key).2) := by
  cases r <;> simp only [drop, h]
theorem drop_gt {c : κ → κ → Ordering} {key : κ} {b : Nat} {k : κ} {v : α} {l r : T κ α} (h : c key k = .gt) : (node b k v l r).drop c key = (level (node b k v l (r.drop c key).1), (r.drop c key).2) := by
  cases r <;> simp only [drop, h]
/-- the order of strings, of numbers -/
def _root_.Go.Vc.cmpS (a b : ByteArray) : Ordering := if Op.bytesLess a.toList b.toList then .lt else if a.toList == b.toList then .eq else .gt
def _root_.Go.Vc.cmpI (a b : Int) : Ordering := if a < b then .lt else if a = b then .eq else .gt
theorem _root_.Go.Vc.cmpS_lt {a b : ByteArray} (h : cmpS a b = .lt) : Op.bytesLess a.toList b.toList = true ∧ True := by
  unfold cmpS at h; split at h
  · exact ⟨by assumption, trivial⟩
  · split at h <;> cases h
theorem _root_.Go.Vc.cmpS_gt {a b : ByteArray} (h : cmpS a b = .gt) : Op.bytesLess a.toList b.toList = false ∧ (a.toList == b.toList) = false := by
  unfold cmpS at h; split at h
  · cases h
  · split at h
    · cases h
    · simp_all
theorem _root_.Go.Vc.cmpS_eq {a b : ByteArray} (h : cmpS a b = .eq) : Op.bytesLess a.toList b.toList = false ∧ (a.toList == b.toList) = true := by
  unfold cmpS at h; split at h
  · cases h
  · split at h
    · simp_all
    · cases h
theorem _root_.Go.Vc.cmpI_lt {a b : Int} (h : cmpI a b = .lt) : a < b ∧ True := by
  unfold cmpI at h; split at h
  · exact ⟨by assumption, trivial⟩
  · split at h <;> cases h
theorem _root_.Go.Vc.cmpI_gt {a b : Int} (h : cmpI a b = .gt) : b < a ∧ True := by
  unfold cmpI at h; split at h
  · cases h
  · split at h
    · cases h
    · exact ⟨by omega, trivial⟩
theorem _root_.Go.Vc.cmpI_eq {a b : Int} (h : cmpI a b = .eq) : ¬ a < b ∧ ¬ b < a := by
  unfold cmpI at h; split at h
  · cases h
  · split at h
    · omega
    · cases h

/-- the same with the other way round: as a search asks (first '!=' with the node's key ahead, then '<') -/
theorem _root_.Go.Vc.cmpS_lt' {a b : ByteArray} (h : cmpS a b = .lt) : Op.bytesLess a.toList b.toList = true ∧ (b.toList == a.toList) = false ∧ (a.toList == b.toList) = false := by
  have h1 := (cmpS_lt h).1
  have hne : ¬ a.toList = b.toList := fun e => by
    rw [e] at h1
    have : ∀ l : List UInt8, Op.bytesLess l l = false := fun l => by induction l with | nil => rfl | cons x l ih => simp [Op.bytesLess, ih]
    rw [this] at h1; cases h1
  exact ⟨h1, by simp [Ne.symm hne], by simp [hne]⟩
theorem _root_.Go.Vc.cmpS_gt' {a b : ByteArray} (h : cmpS a b = .gt) : Op.bytesLess a.toList b.toList = false ∧ (b.toList == a.toList) = false ∧ (a.toList == b.toList) = false := by
  have h1 := cmpS_gt h
  have hne : ¬ a.toList = b.toList := by simpa using h1.2
  exact ⟨h1.1, by simp [Ne.symm hne], h1.2⟩
theorem _root_.Go.Vc.cmpS_eq' {a b : ByteArray} (h : cmpS a b = .eq) : Op.bytesLess a.toList b.toList = false ∧ (b.toList == a.toList) = true ∧ (a.toList == b.toList) = true := by
  have h1 := cmpS_eq h
  have hne : a.toList = b.toList := by simpa using h1.2
  exact ⟨h1.1, by simp [hne], h1.2⟩
theorem _root_.Go.Vc.cmpI_lt' {a b : Int} (h : cmpI a b = .lt) : a < b ∧ (b == a) = false ∧ True := by
  have := (cmpI_lt h).1
  exact ⟨this, by rw [beq_eq_false_iff_ne]; omega, trivial⟩
theorem _root_.Go.Vc.cmpI_gt' {a b : Int} (h : cmpI a b = .gt) : ¬ a < b ∧ (b == a) = false ∧ True := by
  have := (cmpI_gt h).1
  exact ⟨by omega, by rw [beq_eq_false_iff_ne]; omega, trivial⟩
theorem _root_.Go.Vc.cmpI_eq' {a b : Int} (h : cmpI a b = .eq) : ¬ a < b ∧ (b == a) = true ∧ True := by
  have := cmpI_eq h
  exact ⟨this.1, by rw [beq_iff_eq]; omega, trivial⟩
theorem ht_le_size : ∀ t : T κ α, t.ht ≤ t.size
  | nil => Nat.le_refl _
  | node _ _ _ l r => by have := ht_le_size l; have := ht_le_size r; simp only [ht, size]; omega
@[simp] theorem turnLow_toList (t : T κ α) : t.turnLow.toList = t.toList := by
  unfold turnLow; split <;> simp [toList]
@[simp] theorem turnHigh_toList (t : T κ α) : t.turnHigh.toList = t.toList := by
  unfold turnHigh; split <;> simp [toList]
@[simp] theorem level_toList (t : T κ α) : t.level.toList = t.toList := by
  unfold level
  split
  · rfl
  · split
    · rw [turnLow_toList]; simp only [toList]; split <;> simp
    · split
      · rw [turnHigh_toList]; simp only [toList]; split <;> simp
      · rfl
theorem turnLow_size (t : T κ α) : t.turnLow.size = t.size := by unfold turnLow; split <;> simp [size]; omega
theorem turnHigh_size (t : T κ α) : t.turnHigh.size = t.size := by unfold turnHigh; split <;> simp [size]; omega
theorem level_size (t : T κ α) : t.level.size = t.size := by
  unfold level
  split
  · rfl
  · split
    · rw [turnLow_size]; simp only [size]; split <;> simp [turnHigh_size]
    · split
      · rw [turnHigh_size]; simp only [size]; split <;> simp [turnLow_size]
      · rfl
theorem size_toList (t : T κ α) : t.toList.length = t.size := by
  induction t with
  | nil => rfl
  | node b k v l r ihl ihr => simp [toList, size, ihl, ihr]; omega
/-- the blocks of a levelled tree are those of the tree -/
theorem turnLow_perm (t : T κ α) : t.turnLow.blocks.Perm t.blocks := by
  unfold turnLow
  split
  · rename_i b k v l b' k' v' l' r'
    simp only [blocks, List.cons_append, List.append_assoc]
    exact (List.Perm.swap b b' _).trans (List.Perm.cons b (by
      rw [← List.singleton_append, ← List.append_assoc l.blocks]
      have := List.perm_append_comm (l₁ := [b']) (l₂ := l.blocks)
      simpa using this.append_right (l'.blocks ++ r'.blocks)))
  · exact List.Perm.refl _
theorem turnHigh_perm (t : T κ α) : t.turnHigh.blocks.Perm t.blocks := by
  unfold turnHigh
  split
  · rename_i b k v b' k' v' l' r' r
    simp only [blocks, List.cons_append, List.append_assoc]
    exact (List.Perm.cons b' List.perm_middle).trans (List.Perm.swap b b' _)
  · exact List.Perm.refl _
theorem level_perm (t : T κ α) : t.level.blocks.Perm t.blocks := by
  unfold level
  split
  · exact List.Perm.refl _
  · rename_i b k v l r
    split
    · refine (turnLow_perm _).trans ?_
      simp only [blocks]
      split
      · exact List.Perm.cons _ ((turnHigh_perm r).append_left _)
      · exact List.Perm.refl _
    · split
      · refine (turnHigh_perm _).trans ?_
        simp only [blocks]
        split
        · exact List.Perm.cons _ ((turnLow_perm l).append_right _)
        · exact List.Perm.refl _
      · exact List.Perm.refl _
theorem put_size (c : κ → κ → Ordering) (N : Nat) (key : κ) (val : α) (t : T κ α) : (t.put c N key val).1.size = t.size + (if (t.put c N key val).2 then 1 else 0) := by
  induction t with
  | nil => rfl
  | node b k v l r ihl ihr =>
    unfold put
    split <;> simp only [level_size, size, ihl, ihr] <;> (try simp) <;> omega
theorem put_size_le (c : κ → κ → Ordering) (N : Nat) (key : κ) (val : α) (t : T κ α) : (t.put c N key val).1.size ≤ t.size + 1 := by
  rw [put_size]; split <;> omega
theorem put_blocks (c : κ → κ → Ordering) (N : Nat) (key : κ) (val : α) (t : T κ α) : ∀ x ∈ (t.put c N key val).1.blocks, x ∈ t.blocks ∨ x = N := by
  induction t with
  | nil => intro x hx; simp [put, blocks] at hx; exact .inr hx
  | node b k v l r ihl ihr =>
    intro x hx
    unfold put at hx
    split at hx <;> (try simp only at hx) <;> rw [(level_perm _).mem_iff] at hx <;> simp only [blocks, List.mem_cons, List.mem_append] at hx ⊢
    · rcases hx with hx | hx | hx
      · exact .inl (.inl hx)
      · rcases ihl x hx with g | g
        · exact .inl (.inr (.inl g))
        · exact .inr g
      · exact .inl (.inr (.inr hx))
    · rcases hx with hx | hx | hx
      · exact .inl (.inl hx)
      · exact .inl (.inr (.inl hx))
      · rcases ihr x hx with g | g
        · exact .inl (.inr (.inr g))
        · exact .inr g
    · exact .inl hx
theorem least_some (b : Nat) (k : κ) (v : α) (l r : T κ α) : ∃ d kc vc, (least (node b k v l r)).2 = some (d, kc, vc) := by
  induction l generalizing b k v r with
  | nil => exact ⟨b, k, v, rfl⟩
  | node b' k' v' l' r' ihl _ => exact ihl b' k' v' r'
/-- what is left and the least node's block are the blocks -/
theorem least_perm (b : Nat) (k : κ) (v : α) (l r : T κ α) : ∀ d kc vc, (least (node b k v l r)).2 = some (d, kc, vc) → (d :: (least (node b k v l r)).1.blocks).Perm (node b k v l r).blocks := by
  induction l generalizing b k v r with
  | nil =>
    intro d kc vc h
    simp only [least, Option.some.injEq, Prod.mk.injEq] at h
    obtain ⟨rfl, rfl, rfl⟩ := h
    simp [least, blocks]
  | node b' k' v' l' r' ihl _ =>
    intro d kc vc h
    have := ihl b' k' v' r' d kc vc h
    simp only [least]
    refine (List.Perm.cons d (level_perm _)).trans ?_
    simp only [blocks]
    refine (List.Perm.swap b d _).trans (List.Perm.cons b ?_)
    rw [← List.cons_append]
    exact this.append_right _
theorem least_size (b : Nat) (k : κ) (v : α) (l r : T κ α) : (least (node b k v l r)).1.size + 1 = (node b k v l r).size := by
  induction l generalizing b k v r with
  | nil => simp [least, size]
  | node b' k' v' l' r' ihl _ =>
    have := ihl b' k' v' r'
    simp only [least, level_size]
    simp only [size] at this ⊢
    omega
theorem least_toList (b : Nat) (k : κ) (v : α) (l r : T κ α) : ∀ d kc vc, (least (node b k v l r)).2 = some (d, kc, vc) → (kc, vc) :: (least (node b k v l r)).1.toList = (node b k v l r).toList := by
  induction l generalizing b k v r with
  | nil =>
    intro d kc vc h
    simp only [least, Option.some.injEq, Prod.mk.injEq] at h
    obtain ⟨rfl, rfl, rfl⟩ := h
    simp [least, toList]
  | node b' k' v' l' r' ihl _ =>
    intro d kc vc h
    have := ihl b' k' v' r' d kc vc h
    simp only [least, level_toList]
    simp only [toList] at this ⊢
    rw [← List.cons_append, this]
theorem drop_blocks (c : κ → κ → Ordering) (key : κ) (t : T κ α) : ∀ x ∈ (t.drop c key).1.blocks, x ∈ t.blocks := by
  induction t with
  | nil => intro x hx; simp [drop, blocks] at hx
  | node b k v l r ihl ihr =>
    intro x hx
    unfold drop at hx
    split at hx
    · simp only at hx; rw [(level_perm _).mem_iff] at hx; simp only [blocks, List.mem_cons, List.mem_append] at hx ⊢
      rcases hx with hx | hx | hx
      · exact .inl hx
      · exact .inr (.inl (ihl x hx))
      · exact .inr (.inr hx)
    · simp only at hx; rw [(level_perm _).mem_iff] at hx; simp only [blocks, List.mem_cons, List.mem_append] at hx ⊢
      rcases hx with hx | hx | hx
      · exact .inl hx
      · exact .inr (.inl hx)
      · exact .inr (.inr (ihr x hx))
    · cases r with
      | nil => simp only at hx; simp only [blocks, List.mem_cons, List.mem_append]; exact .inr (.inl hx)
      | node b' k' v' l' r' =>
        obtain ⟨d, kc, vc, hd⟩ := least_some b' k' v' l' r'
        have hp := least_perm b' k' v' l' r' d kc vc hd
        simp only [hd] at hx
        rw [(level_perm _).mem_iff] at hx
        simp only [blocks, List.mem_cons, List.mem_append] at hx ⊢
        have hm := fun y => hp.mem_iff (a := y)
        simp only [blocks, List.mem_cons, List.mem_append] at hm
        rcases hx with hx | hx | hx
        · exact .inr (.inr ((hm x).1 (.inl hx)))
        · exact .inr (.inl hx)
        · exact .inr (.inr ((hm x).1 (.inr hx)))
theorem drop_size (c : κ → κ → Ordering) (key : κ) (t : T κ α) : (t.drop c key).1.size + (if (t.drop c key).2 then 1 else 0) = t.size := by
  induction t with
  | nil => rfl
  | node b k v l r ihl ihr =>
    unfold drop
    split
    · simp only [level_size, size]; omega
    · simp only [level_size, size]; omega
    · cases r with
      | nil => simp [size]
      | node b' k' v' l' r' =>
        obtain ⟨d, kc, vc, hd⟩ := least_some b' k' v' l' r'
        have := least_size b' k' v' l' r'
        simp only [hd, level_size]
        simp only [size] at this ⊢
        simp; omega
end T
end Go.Vc
