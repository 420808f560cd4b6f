/- Entries (plain): the counts of a view and the document's list of records come to the same. -/
import Derived.Test.YtdonmmjikcbihaaGreatDoorKeyOrd
import Derived.Test.YtdonmmjikcbihaaGreatDoorRank
namespace Go.Vc
variable {κ α : Type}
theorem findL_putL {c : κ → κ → Ordering} (O : Order c) (k k' : κ) (v : α) : ∀ m : List (κ × α), findL c k (putL c k' v m) = if c k k' = .eq then some v else findL c k m
  | [] => by simp only [putL, findL]; cases c k k' <;> rfl
  | x :: t => by
    simp only [putL]
    cases hk : c k' x.1 with
    | lt => simp only [findL]; cases c k k' <;> rfl
    | eq =>
      have e := O.eq hk
      subst e
      simp only [findL]; cases c k x.1 <;> rfl
    | gt =>
      simp only [findL, findL_putL O k k' v t]
      by_cases h : c k k' = .eq
      · have e := O.eq h
        subst e
        rw [hk, if_pos h]
      · rw [if_neg h]; cases c k x.1 <;> simp only [if_neg h]
theorem findL_dropL {c : κ → κ → Ordering} (O : Order c) (k k' : κ) : ∀ m : List (κ × α), findL c k (dropL c k' m) = if c k k' = .eq then none else findL c k m
  | [] => by simp [dropL, findL]
  | x :: t => by
    have ih := findL_dropL O k k' t
    unfold dropL at ih ⊢
    rw [List.filter_cons]
    by_cases hk : c k' x.1 = .eq
    · have e := O.eq hk
      subst e
      simp only [hk, bne_self_eq_false, Bool.false_eq_true, if_false, ih, findL]
      cases h : c k x.1 <;> simp
    · have hb : (c k' x.1 != .eq) = true := by simpa using hk
      rw [if_pos hb]
      simp only [findL, ih]
      by_cases h : c k k' = .eq
      · have e := O.eq h
        subst e
        cases h2 : c k x.1 <;> simp_all
      · cases h2 : c k x.1 <;> simp [h]
theorem findL_some {c : κ → κ → Ordering} {k : κ} {v : α} : ∀ {m : List (κ × α)}, findL c k m = some v → ∃ y ∈ m, c k y.1 = .eq ∧ y.2 = v
  | [], h => by cases h
  | z :: m, h => by
    simp only [findL] at h
    split at h
    · rename_i e; injection h with h; exact ⟨z, List.mem_cons_self .., e, h⟩
    · obtain ⟨y, hy, e⟩ := findL_some h
      exact ⟨y, List.mem_cons_of_mem _ hy, e⟩
theorem findL_of_mem {c : κ → κ → Ordering} (O : Order c) {y : κ × α} : ∀ {m : List (κ × α)}, y ∈ m → ∃ v, findL c y.1 m = some v
  | z :: m, h => by
    simp only [findL]
    cases hz : c y.1 z.1 with
    | eq => exact ⟨_, rfl⟩
    | lt | gt =>
      rw [List.mem_cons] at h
      rcases h with rfl | h
      · rw [O.refl] at hz; cases hz
      · exact findL_of_mem O h
/-- lists that rise and hold the same are the same -/
theorem sorted_ext {r : α → α → Prop} (irr : ∀ a, ¬ r a a) (tr : ∀ a b d, r a b → r b d → r a d) : ∀ l m : List α, l.Pairwise r → m.Pairwise r → (∀ x, x ∈ l ↔ x ∈ m) → l = m
  | [], [], _, _, _ => rfl
  | [], b :: m, _, _, h => by have := (h b).2 (List.mem_cons_self ..); cases this
  | a :: l, [], _, _, h => by have := (h a).1 (List.mem_cons_self ..); cases this
  | a :: l, b :: m, hl, hm, h => by
    rw [List.pairwise_cons] at hl hm
    have ha := (h a).1 (List.mem_cons_self ..)
    have hb := (h b).2 (List.mem_cons_self ..)
    rw [List.mem_cons] at ha hb
    have e : a = b := by
      rcases ha with e | ha
      · exact e
      · rcases hb with e | hb
        · exact e.symm
        · exact absurd (tr _ _ _ (hl.1 b hb) (hm.1 a ha)) (irr a)
    subst e
    have hrec := sorted_ext irr tr l m hl.2 hm.2 (fun x => by
      constructor
      · intro hx
        have := (h x).1 (List.mem_cons_of_mem _ hx)
        rw [List.mem_cons] at this
        rcases this with rfl | this
        · exact absurd (hl.1 _ hx) (irr _)
        · exact this
      · intro hx
        have := (h x).2 (List.mem_cons_of_mem _ hx)
        rw [List.mem_cons] at this
        rcases this with rfl | this
        · exact absurd (hm.1 _ hx) (irr _)
        · exact this)
    rw [hrec]
/-- an entry -/
structure Ent where
  sv : ByteArray
  op : ByteArray
  tr : List Int
  deriving DecidableEq
/-- the order of strings -/
def sless (a b : ByteArray) : Prop := Op.bytesLess a.toList b.toList = true
theorem sless_irr (a : ByteArray) : ¬ sless a a := by unfold sless; rw [less_irrefl]; exact fun h => by cases h
theorem sless_tr {a b d : ByteArray} (h : sless a b) (k : sless b d) : sless a d := less_trans _ _ _ h k
theorem sless_tri (a b : ByteArray) : sless a b ∨ a = b ∨ sless b a := by
  unfold sless
  cases h : Op.bytesLess a.toList b.toList with
  | true => exact .inl rfl
  | false =>
    cases k : Op.bytesLess b.toList a.toList with
    | true => exact .inr (.inr rfl)
    | false => exact .inr (.inl (bytes_ext (less_tri _ _ h k)))
/-- the order of pairs -/
def plt (s o s' o' : ByteArray) : Prop := sless s s' ∨ s = s' ∧ sless o o'
theorem plt_irr (s o : ByteArray) : ¬ plt s o s o := fun h => h.elim (sless_irr s) fun h => sless_irr o h.2
theorem plt_tr {s o s' o' s'' o'' : ByteArray} (h : plt s o s' o') (k : plt s' o' s'' o'') : plt s o s'' o'' := by
  rcases h with h | ⟨rfl, h⟩
  · rcases k with k | ⟨rfl, k⟩
    · exact .inl (sless_tr h k)
    · exact .inl h
  · rcases k with k | ⟨rfl, k⟩
    · exact .inl k
    · exact .inr ⟨rfl, sless_tr h k⟩
theorem plt_tri (s o s' o' : ByteArray) : plt s o s' o' ∨ (s = s' ∧ o = o') ∨ plt s' o' s o := by
  rcases sless_tri s s' with h | rfl | h
  · exact .inl (.inl h)
  · rcases sless_tri o o' with h | rfl | h
    · exact .inl (.inr ⟨rfl, h⟩)
    · exact .inr (.inl ⟨rfl, rfl⟩)
    · exact .inr (.inr (.inr ⟨rfl, h⟩))
  · exact .inr (.inr (.inl h))
def elt (a b : Ent) : Prop := plt a.sv a.op b.sv b.op
/-- entries in order that say just this -/
structure Canon (E : List Ent) (P : ByteArray → ByteArray → Int → Prop) : Prop where
  up : E.Pairwise elt
  ne : ∀ e ∈ E, e.tr ≠ []
  tup : ∀ e ∈ E, e.tr.Pairwise (· < ·)
  mem : ∀ s o t, (∃ e ∈ E, e.sv = s ∧ e.op = o ∧ t ∈ e.tr) ↔ P s o t
theorem elt_one {E : List Ent} (h : E.Pairwise elt) {a b : Ent} (ha : a ∈ E) (hb : b ∈ E) (hs : a.sv = b.sv) (ho : a.op = b.op) : a = b := by
  induction E with
  | nil => cases ha
  | cons x E ih =>
    rw [List.pairwise_cons] at h
    rw [List.mem_cons] at ha hb
    rcases ha with rfl | ha
    · rcases hb with rfl | hb
      · rfl
      · have := h.1 b hb
        unfold elt at this; rw [hs, ho] at this; exact absurd this (plt_irr _ _)
    · rcases hb with rfl | hb
      · have := h.1 a ha
        unfold elt at this; rw [← hs, ← ho] at this; exact absurd this (plt_irr _ _)
      · exact ih h.2 ha hb
theorem Canon.sub {E E' : List Ent} {P : ByteArray → ByteArray → Int → Prop} (h : Canon E P) (h' : Canon E' P) {e : Ent} (he : e ∈ E) : e ∈ E' := by
  obtain ⟨t, ht⟩ := List.exists_mem_of_ne_nil _ (h.ne e he)
  obtain ⟨e', he', hs, ho, _⟩ := (h'.mem e.sv e.op t).2 ((h.mem e.sv e.op t).1 ⟨e, he, rfl, rfl, ht⟩)
  have htr : e.tr = e'.tr := by
    refine sorted_ext (fun a => Int.lt_irrefl a) (fun _ _ _ => Int.lt_trans) _ _ (h.tup e he) (h'.tup e' he') fun x => ⟨fun hx => ?_, fun hx => ?_⟩
    · obtain ⟨e2, he2, hs2, ho2, hx2⟩ := (h'.mem e.sv e.op x).2 ((h.mem e.sv e.op x).1 ⟨e, he, rfl, rfl, hx⟩)
      rw [elt_one h'.up he' he2 (hs.trans hs2.symm) (ho.trans ho2.symm)]; exact hx2
    · obtain ⟨e2, he2, hs2, ho2, hx2⟩ := (h.mem e'.sv e'.op x).2 ((h'.mem e'.sv e'.op x).1 ⟨e', he', rfl, rfl, hx⟩)
      rw [elt_one h.up he he2 (hs.symm.trans hs2.symm) (ho.symm.trans ho2.symm)]; exact hx2
  have : e = e' := by cases e; cases e'; simp only at *; rw [hs, ho, htr]
  rw [this]; exact he'
theorem Canon.one {E E' : List Ent} {P : ByteArray → ByteArray → Int → Prop} (h : Canon E P) (h' : Canon E' P) : E = E' :=
  sorted_ext (r := elt) (fun a => plt_irr a.sv a.op) (fun _ _ _ h k => plt_tr h k) _ _ h.up h'.up fun _ => ⟨h.sub h', h'.sub h⟩
/-! ### The view's way: keys in order -/
/-- one key more -/
def entStep (E : List Ent) (q : ByteArray × ByteArray × Int) : List Ent :=
  match E.getLast? with
  | some e => if e.sv = q.1 ∧ e.op = q.2.1 then E.dropLast ++ [{ e with tr := e.tr ++ [q.2.2] }] else E ++ [⟨q.1, q.2.1, [q.2.2]⟩]
  | none => [⟨q.1, q.2.1, [q.2.2]⟩]
def entsOf (l : List (ByteArray × ByteArray × Int)) : List Ent := l.foldl entStep []
/-- the order of keys -/
def tlt (a b : ByteArray × ByteArray × Int) : Prop := plt a.1 a.2.1 b.1 b.2.1 ∨ (a.1 = b.1 ∧ a.2.1 = b.2.1) ∧ a.2.2 < b.2.2
theorem entsOf_snoc (l : List (ByteArray × ByteArray × Int)) (q : ByteArray × ByteArray × Int) : entsOf (l ++ [q]) = entStep (entsOf l) q := by unfold entsOf; rw [List.foldl_append]; rfl
theorem entsOf_canon (l : List (ByteArray × ByteArray × Int)) (h : l.Pairwise tlt) : Canon (entsOf l) fun s o t => (s, o, t) ∈ l := by
  have : ∀ n : Nat, ∀ l : List (ByteArray × ByteArray × Int), l.length = n → l.Pairwise tlt → Canon (entsOf l) fun s o t => (s, o, t) ∈ l := by
    intro n
    induction n with
    | zero =>
      intro l hl _
      have := List.eq_nil_of_length_eq_zero hl
      subst this
      exact ⟨List.Pairwise.nil, fun e he => by simp [entsOf] at he, fun e he => by simp [entsOf] at he, fun s o t => by simp [entsOf]⟩
    | succ n ih =>
      intro l hl hp
      obtain ⟨l', q, rfl⟩ : ∃ l' q, l = l' ++ [q] := by
        have hne : l ≠ [] := by intro e; subst e; cases hl
        exact ⟨l.dropLast, l.getLast hne, (List.dropLast_concat_getLast hne).symm⟩
      rw [List.pairwise_append] at hp
      obtain ⟨hp1, _, hp3⟩ := hp
      have C := ih l' (by simpa using hl) hp1
      obtain ⟨s, o, t⟩ := q
      have hbig : ∀ e ∈ entsOf l', ∀ x ∈ e.tr, tlt (e.sv, e.op, x) (s, o, t) := fun e he x hx => hp3 _ ((C.mem e.sv e.op x).1 ⟨e, he, rfl, rfl, hx⟩) _ (List.mem_singleton.2 rfl)
      rw [entsOf_snoc]
      unfold entStep
      cases hE : (entsOf l').getLast? with
      | none =>
        have h0 : entsOf l' = [] := by simpa using hE
        refine ⟨List.pairwise_singleton _ _, fun e he => by simp at he; subst he; simp, fun e he => by simp at he; subst he; exact List.pairwise_singleton _ _, fun s' o' t' => ?_⟩
        have hm := C.mem s' o' t'
        rw [h0] at hm
        simp only [List.not_mem_nil, false_and, exists_false, false_iff] at hm
        simp only [List.mem_singleton, List.mem_append, hm, false_or, exists_eq_left, Prod.mk.injEq]
        constructor
        · rintro ⟨rfl, rfl, rfl⟩; exact ⟨rfl, rfl, rfl⟩
        · rintro ⟨rfl, rfl, rfl⟩; exact ⟨rfl, rfl, rfl⟩
      | some e =>
        obtain ⟨E, hEE⟩ : ∃ E, entsOf l' = E ++ [e] := by
          have hne : entsOf l' ≠ [] := by intro h0; rw [h0] at hE; cases hE
          refine ⟨(entsOf l').dropLast, ?_⟩
          rw [List.getLast?_eq_some_getLast hne] at hE
          injection hE with hE
          rw [← hE]; exact (List.dropLast_concat_getLast hne).symm
        rw [hEE] at C hbig ⊢
        have hup := C.up
        rw [List.pairwise_append] at hup
        dsimp only
        by_cases hc : e.sv = s ∧ e.op = o
        · rw [if_pos hc, List.dropLast_concat]
          obtain ⟨rfl, rfl⟩ := hc
          refine ⟨?_, ?_, ?_, ?_⟩
          · rw [List.pairwise_append]
            exact ⟨hup.1, List.pairwise_singleton _ _, fun a ha b hb => by rw [List.mem_singleton] at hb; subst hb; exact hup.2.2 a ha e (List.mem_singleton.2 rfl)⟩
          · intro e' he'
            rw [List.mem_append, List.mem_singleton] at he'
            rcases he' with he' | rfl
            · exact C.ne e' (List.mem_append.2 (.inl he'))
            · simp
          · intro e' he'
            rw [List.mem_append, List.mem_singleton] at he'
            rcases he' with he' | rfl
            · exact C.tup e' (List.mem_append.2 (.inl he'))
            · dsimp only
              rw [List.pairwise_append]
              refine ⟨C.tup e (by simp), List.pairwise_singleton _ _, fun a ha b hb => ?_⟩
              rw [List.mem_singleton] at hb; subst hb
              rcases hbig e (by simp) a ha with h | h
              · exact absurd h (plt_irr _ _)
              · exact h.2
          · intro s' o' t'
            have hm := C.mem s' o' t'
            rw [List.mem_append, ← hm]
            constructor
            · rintro ⟨e', he', h1, h2, h3⟩
              rw [List.mem_append, List.mem_singleton] at he'
              rcases he' with he' | rfl
              · exact .inl ⟨e', List.mem_append.2 (.inl he'), h1, h2, h3⟩
              · dsimp only at h1 h2 h3
                rw [List.mem_append, List.mem_singleton] at h3
                rcases h3 with h3 | rfl
                · exact .inl ⟨e, by simp, h1, h2, h3⟩
                · exact .inr (by rw [← h1, ← h2]; simp)
            · rintro (⟨e', he', h1, h2, h3⟩ | h)
              · rw [List.mem_append, List.mem_singleton] at he'
                rcases he' with he' | rfl
                · exact ⟨e', List.mem_append.2 (.inl he'), h1, h2, h3⟩
                · exact ⟨_, List.mem_append.2 (.inr (List.mem_singleton.2 rfl)), h1, h2, by dsimp only; rw [List.mem_append]; exact .inl h3⟩
              · simp only [List.mem_singleton, Prod.mk.injEq] at h
                obtain ⟨rfl, rfl, rfl⟩ := h
                exact ⟨_, List.mem_append.2 (.inr (List.mem_singleton.2 rfl)), rfl, rfl, by simp⟩
        · rw [if_neg hc]
          have hlt : ∀ a ∈ E ++ [e], plt a.sv a.op s o := by
            intro a ha
            have hae : plt a.sv a.op e.sv e.op ∨ a = e := by
              rw [List.mem_append, List.mem_singleton] at ha
              rcases ha with ha | rfl
              · exact .inl (hup.2.2 a ha e (List.mem_singleton.2 rfl))
              · exact .inr rfl
            obtain ⟨x, hx⟩ := List.exists_mem_of_ne_nil _ (C.ne e (by simp))
            have hes : plt e.sv e.op s o := by
              rcases hbig e (by simp) x hx with h | h
              · exact h
              · exact absurd h.1 hc
            rcases hae with h | rfl
            · exact plt_tr h hes
            · exact hes
          refine ⟨?_, ?_, ?_, ?_⟩
          · rw [List.pairwise_append]
            exact ⟨C.up, List.pairwise_singleton _ _, fun a ha b hb => by rw [List.mem_singleton] at hb; subst hb; exact hlt a ha⟩
          · intro e' he'
            rw [List.mem_append, List.mem_singleton] at he'
            rcases he' with he' | rfl
            · exact C.ne e' he'
            · simp
          · intro e' he'
            rw [List.mem_append, List.mem_singleton] at he'
            rcases he' with he' | rfl
            · exact C.tup e' he'
            · exact List.pairwise_singleton _ _
          · intro s' o' t'
            rw [List.mem_append, ← C.mem s' o' t']
            constructor
            · rintro ⟨e', he', h1, h2, h3⟩
              rw [List.mem_append (t := [_]), List.mem_singleton] at he'
              rcases he' with he' | rfl
              · exact .inl ⟨e', he', h1, h2, h3⟩
              · dsimp only at h1 h2 h3
                rw [List.mem_singleton] at h3
                exact .inr (by rw [← h1, ← h2, h3]; simp)
            · rintro (⟨e', he', h⟩ | h)
              · exact ⟨e', List.mem_append.2 (.inl he'), h⟩
              · simp only [List.mem_singleton, Prod.mk.injEq] at h
                obtain ⟨rfl, rfl, rfl⟩ := h
                exact ⟨_, List.mem_append.2 (.inr (List.mem_singleton.2 rfl)), rfl, rfl, by simp⟩
  exact this _ l rfl h
/-! ### The document's way: insertion -/
def trIns (t : Int) : List Int → List Int
  | [] => [t]
  | x :: l => if x < t then x :: trIns t l else if x = t then x :: l else t :: x :: l
theorem trIns_mem (t : Int) : ∀ (l : List Int) (y : Int), y ∈ trIns t l ↔ y = t ∨ y ∈ l
  | [], y => by simp [trIns]
  | x :: l, y => by
    simp only [trIns]
    split
    · rw [List.mem_cons, trIns_mem t l y, List.mem_cons]; constructor
      · rintro (h | h | h)
        · exact .inr (.inl h)
        · exact .inl h
        · exact .inr (.inr h)
      · rintro (h | h | h)
        · exact .inr (.inl h)
        · exact .inl h
        · exact .inr (.inr h)
    · split
      · rename_i h; subst h; rw [List.mem_cons]; constructor
        · exact .inr
        · rintro (h | h)
          · exact .inl h
          · exact h
      · rw [List.mem_cons]
theorem trIns_up (t : Int) : ∀ l : List Int, l.Pairwise (· < ·) → (trIns t l).Pairwise (· < ·)
  | [], _ => List.pairwise_singleton _ _
  | x :: l, h => by
    rw [List.pairwise_cons] at h
    simp only [trIns]
    split
    · rename_i hx
      refine List.pairwise_cons.2 ⟨fun y hy => ?_, trIns_up t l h.2⟩
      rcases (trIns_mem t l y).1 hy with rfl | hy
      · exact hx
      · exact h.1 y hy
    · split
      · exact List.pairwise_cons.2 h
      · refine List.pairwise_cons.2 ⟨fun y hy => ?_, List.pairwise_cons.2 h⟩
        rw [List.mem_cons] at hy
        rcases hy with rfl | hy
        · omega
        · have := h.1 y hy; omega
def trStep (s o : ByteArray) (out : List Int) (x : Spn) : List Int := if x.sv = s ∧ x.op = o then trIns x.tr out else out
def trOf (L : List Spn) (s o : ByteArray) : List Int := L.foldl (trStep s o) []
theorem trOf_aux (s o : ByteArray) : ∀ (L : List Spn) (out : List Int), out.Pairwise (· < ·) → (L.foldl (trStep s o) out).Pairwise (· < ·) ∧ ∀ t, t ∈ L.foldl (trStep s o) out ↔ t ∈ out ∨ ∃ x ∈ L, x.sv = s ∧ x.op = o ∧ x.tr = t
  | [], out, h => ⟨h, fun t => by simp⟩
  | x :: L, out, h => by
    rw [List.foldl_cons]
    by_cases hc : x.sv = s ∧ x.op = o
    · have e : trStep s o out x = trIns x.tr out := by unfold trStep; rw [if_pos hc]
      rw [e]
      obtain ⟨h1, h2⟩ := trOf_aux s o L (trIns x.tr out) (trIns_up _ _ h)
      refine ⟨h1, fun t => ?_⟩
      rw [h2, trIns_mem]
      constructor
      · rintro ((rfl | h) | ⟨y, hy, h⟩)
        · exact .inr ⟨x, List.mem_cons_self .., hc.1, hc.2, rfl⟩
        · exact .inl h
        · exact .inr ⟨y, List.mem_cons_of_mem _ hy, h⟩
      · rintro (h | ⟨y, hy, h⟩)
        · exact .inl (.inr h)
        · rw [List.mem_cons] at hy
          rcases hy with rfl | hy
          · exact .inl (.inl h.2.2.symm)
          · exact .inr ⟨y, hy, h⟩
    · have e : trStep s o out x = out := by unfold trStep; rw [if_neg hc]
      rw [e]
      obtain ⟨h1, h2⟩ := trOf_aux s o L out h
      refine ⟨h1, fun t => ?_⟩
      rw [h2]
      constructor
      · rintro (h | ⟨y, hy, h⟩)
        · exact .inl h
        · exact .inr ⟨y, List.mem_cons_of_mem _ hy, h⟩
      · rintro (h | ⟨y, hy, h⟩)
        · exact .inl h
        · rw [List.mem_cons] at hy
          rcases hy with rfl | hy
          · exact absurd ⟨h.1, h.2.1⟩ hc
          · exact .inr ⟨y, hy, h⟩
theorem trOf_up (L : List Spn) (s o : ByteArray) : (trOf L s o).Pairwise (· < ·) := (trOf_aux s o L [] List.Pairwise.nil).1
theorem trOf_mem (L : List Spn) (s o : ByteArray) (t : Int) : t ∈ trOf L s o ↔ ∃ x ∈ L, x.sv = s ∧ x.op = o ∧ x.tr = t := by
  have := (trOf_aux s o L [] List.Pairwise.nil).2 t
  simpa [trOf] using this
/-- does an entry stand ahead of a record's? -/
def eless (e : Ent) (x : Spn) : Bool := Op.bytesLess e.sv.toList x.sv.toList || (decide (e.sv = x.sv) && Op.bytesLess e.op.toList x.op.toList)
theorem eless_iff (e : Ent) (x : Spn) : eless e x = true ↔ plt e.sv e.op x.sv x.op := by
  unfold eless plt sless; simp
def entIns (L : List Spn) (x : Spn) : List Ent → List Ent
  | [] => [⟨x.sv, x.op, trOf L x.sv x.op⟩]
  | e :: E => if eless e x then e :: entIns L x E else if e.sv = x.sv ∧ e.op = x.op then e :: E else ⟨x.sv, x.op, trOf L x.sv x.op⟩ :: e :: E
def refAll (L : List Spn) : List Ent := L.foldl (fun E x => entIns L x E) []
theorem entIns_mem (L : List Spn) (x : Spn) : ∀ (E : List Ent) (e : Ent), e ∈ entIns L x E → e ∈ E ∨ e = ⟨x.sv, x.op, trOf L x.sv x.op⟩
  | [], e, h => by simp only [entIns, List.mem_singleton] at h; exact .inr h
  | d :: E, e, h => by
    simp only [entIns] at h
    split at h
    · rw [List.mem_cons] at h
      rcases h with rfl | h
      · exact .inl (List.mem_cons_self ..)
      · exact (entIns_mem L x E e h).imp (List.mem_cons_of_mem _) id
    · split at h
      · exact .inl h
      · rw [List.mem_cons] at h
        exact h.elim .inr .inl
theorem entIns_sub (L : List Spn) (x : Spn) : ∀ (E : List Ent) (e : Ent), e ∈ E → e ∈ entIns L x E
  | d :: E, e, h => by
    simp only [entIns]
    split
    · rw [List.mem_cons] at h ⊢
      exact h.imp id (entIns_sub L x E e)
    · split
      · exact h
      · exact List.mem_cons_of_mem _ h
theorem entIns_has (L : List Spn) (x : Spn) : ∀ E : List Ent, ∃ e ∈ entIns L x E, e.sv = x.sv ∧ e.op = x.op
  | [] => ⟨_, List.mem_singleton.2 rfl, rfl, rfl⟩
  | d :: E => by
    simp only [entIns]
    split
    · obtain ⟨e, he, h⟩ := entIns_has L x E
      exact ⟨e, List.mem_cons_of_mem _ he, h⟩
    · split
      · rename_i h; exact ⟨d, List.mem_cons_self .., h⟩
      · exact ⟨_, List.mem_cons_self .., rfl, rfl⟩
theorem entIns_up (L : List Spn) (x : Spn) : ∀ E : List Ent, E.Pairwise elt → (entIns L x E).Pairwise elt
  | [], _ => List.pairwise_singleton _ _
  | d :: E, h => by
    rw [List.pairwise_cons] at h
    simp only [entIns]
    split
    · rename_i hd
      rw [eless_iff] at hd
      refine List.pairwise_cons.2 ⟨fun e he => ?_, entIns_up L x E h.2⟩
      rcases entIns_mem L x E e he with he | rfl
      · exact h.1 e he
      · exact hd
    · rename_i hd
      rw [eless_iff] at hd
      split
      · exact List.pairwise_cons.2 h
      · rename_i hne
        have hlt : plt x.sv x.op d.sv d.op := by
          rcases plt_tri x.sv x.op d.sv d.op with h | h | h
          · exact h
          · exact absurd ⟨h.1.symm, h.2.symm⟩ hne
          · exact absurd h hd
        refine List.pairwise_cons.2 ⟨fun e he => ?_, List.pairwise_cons.2 h⟩
        rw [List.mem_cons] at he
        rcases he with rfl | he
        · exact hlt
        · exact plt_tr hlt (h.1 e he)
theorem refAll_aux (L : List Spn) : ∀ (l done : List Spn) (E : List Ent), (∀ x ∈ done, x ∈ L) → (∀ x ∈ l, x ∈ L) → E.Pairwise elt → (∀ e ∈ E, e.tr = trOf L e.sv e.op ∧ ∃ x ∈ L, x.sv = e.sv ∧ x.op = e.op) → (∀ x ∈ done, ∃ e ∈ E, e.sv = x.sv ∧ e.op = x.op) →
    (l.foldl (fun E x => entIns L x E) E).Pairwise elt ∧ (∀ e ∈ l.foldl (fun E x => entIns L x E) E, e.tr = trOf L e.sv e.op ∧ ∃ x ∈ L, x.sv = e.sv ∧ x.op = e.op) ∧ ∀ x ∈ done ++ l, ∃ e ∈ l.foldl (fun E x => entIns L x E) E, e.sv = x.sv ∧ e.op = x.op
  | [], done, E, _, _, h1, h2, h3 => ⟨h1, h2, by simpa using h3⟩
  | x :: l, done, E, hd, hl, h1, h2, h3 => by
    have := refAll_aux L l (done ++ [x]) (entIns L x E) (fun y hy => by
        rw [List.mem_append, List.mem_singleton] at hy
        rcases hy with hy | rfl
        · exact hd y hy
        · exact hl _ (List.mem_cons_self ..)) (fun y hy => hl y (List.mem_cons_of_mem _ hy)) (entIns_up L x E h1)
      (fun e he => by
        rcases entIns_mem L x E e he with he | rfl
        · exact h2 e he
        · exact ⟨rfl, x, hl x (List.mem_cons_self ..), rfl, rfl⟩)
      (fun y hy => by
        rw [List.mem_append, List.mem_singleton] at hy
        rcases hy with hy | rfl
        · obtain ⟨e, he, h⟩ := h3 y hy
          exact ⟨e, entIns_sub L x E e he, h⟩
        · exact entIns_has L y E)
    rw [List.append_assoc] at this
    exact this
theorem refAll_canon (L : List Spn) : Canon (refAll L) fun s o t => ∃ x ∈ L, x.sv = s ∧ x.op = o ∧ x.tr = t := by
  obtain ⟨h1, h2, h3⟩ := refAll_aux L L [] [] (fun _ h => by cases h) (fun _ h => h) List.Pairwise.nil (fun _ h => by cases h) (fun _ h => by cases h)
  refine ⟨h1, fun e he => ?_, fun e he => ?_, fun s o t => ⟨?_, ?_⟩⟩
  · obtain ⟨e1, x, hx, e2, e3⟩ := h2 e he
    rw [e1]
    exact List.ne_nil_of_mem ((trOf_mem L _ _ x.tr).2 ⟨x, hx, e2, e3, rfl⟩)
  · rw [(h2 e he).1]; exact trOf_up L _ _
  · rintro ⟨e, he, rfl, rfl, ht⟩
    rw [(h2 e he).1] at ht
    exact (trOf_mem L _ _ t).1 ht
  · rintro ⟨x, hx, rfl, rfl, rfl⟩
    obtain ⟨e, he, e1, e2⟩ := h3 x (by simpa using hx)
    exact ⟨e, he, e1, e2, by rw [(h2 e he).1, e1, e2]; exact (trOf_mem L _ _ _).2 ⟨x, hx, rfl, rfl, rfl⟩⟩
end Go.Vc
namespace Go.Proofs.YtdonmmjikcbihaaGreatDoor
open Go Go.Vc
/-! ### Keys -/
def nul : ByteArray := ⟨#[0]⟩
def efirst (s o : ByteArray) : ByteArray := s ++ nul ++ o ++ nul
def tkey (q : ByteArray × ByteArray × Int) : ByteArray := efirst q.1 q.2.1 ++ (num q.2.2 ++ num 0)
def trip (x : Spn) : ByteArray × ByteArray × Int := (x.sv, x.op, x.tr)
def ekey (x : Spn) : ByteArray := tkey (trip x)
/-- keys that may be -/
def Goodk (q : ByteArray × ByteArray × Int) : Prop := named q.1 = true ∧ named q.2.1 = true ∧ I64 q.2.2
theorem named_nz {s : ByteArray} (h : named s = true) : ∀ c ∈ s.toList, c ≠ 0 := by
  intro c hc e
  subst e
  unfold named at h
  simp only [Bool.and_eq_true] at h
  have := List.all_eq_true.1 h.1.1 0 (by rw [← toList_data]; exact hc)
  revert this; decide
theorem less_nul : ∀ (s t x y : List UInt8), (∀ c ∈ s, c ≠ 0) → (∀ c ∈ t, c ≠ 0) → Op.bytesLess (s ++ 0 :: x) (t ++ 0 :: y) = (Op.bytesLess s t || (decide (s = t) && Op.bytesLess x y))
  | [], [], x, y, _, _ => by
    have : ¬ (0 : UInt8) < 0 := by decide
    simp [Op.bytesLess]
  | [], b :: t, x, y, _, ht => by
    have hb : (0 : UInt8) < b := by
      have h0 := ht b (List.mem_cons_self ..)
      rw [UInt8.lt_iff_toNat_lt]
      have : b.toNat ≠ 0 := fun e => h0 (UInt8.toNat.inj e)
      show 0 < b.toNat
      omega
    simp [Op.bytesLess, hb]
  | a :: s, [], x, y, hs, _ => by
    have h0 := hs a (List.mem_cons_self ..)
    have h1 : ¬ a < 0 := fun h => by rw [UInt8.lt_iff_toNat_lt] at h; exact absurd h (Nat.not_lt_zero _)
    simp [Op.bytesLess, h0, h1]
  | a :: s, b :: t, x, y, hs, ht => by
    have ih := less_nul s t x y (fun c hc => hs c (List.mem_cons_of_mem _ hc)) (fun c hc => ht c (List.mem_cons_of_mem _ hc))
    simp only [List.cons_append, Op.bytesLess, ih]
    by_cases hab : a = b
    · subst hab
      have : ¬ a < a := fun h => by rw [UInt8.lt_iff_toNat_lt] at h; exact absurd h (Nat.lt_irrefl _)
      simp [this]
    · have h2 : (a == b) = false := by simpa using hab
      have h3 : decide (a :: s = b :: t) = false := by simp [hab]
      rw [h2, h3]; simp
theorem app_toList (x y : ByteArray) : (x ++ y).toList = x.toList ++ y.toList := by simp only [ByteArray.toList_eq, ByteArray.data_append, Array.toList_append]
theorem tkey_toList (q : ByteArray × ByteArray × Int) : (tkey q).toList = q.1.toList ++ 0 :: (q.2.1.toList ++ 0 :: (num q.2.2 ++ num 0).toList) := by
  have hn : nul.toList = [0] := by rw [toList_data]; rfl
  simp only [tkey, efirst, app_toList, hn, List.append_assoc, List.cons_append, List.nil_append]
theorem tkey_lt {p q : ByteArray × ByteArray × Int} (hp : Goodk p) (hq : Goodk q) : cmpS (tkey p) (tkey q) = .lt ↔ tlt p q := by
  rw [cmpS_is_lt, tkey_toList, tkey_toList, less_nul _ _ _ _ (named_nz hp.1) (named_nz hq.1), less_nul _ _ _ _ (named_nz hp.2.1) (named_nz hq.2.1)]
  have h3 : Op.bytesLess (num p.2.2 ++ num 0).toList (num q.2.2 ++ num 0).toList = true ↔ p.2.2 < q.2.2 := by
    rw [← cmpS_is_lt, cmp_num _ _ hp.2.2 hq.2.2]
    by_cases h : p.2.2 < q.2.2
    · rw [if_pos h]; simp [h]
    · rw [if_neg h]
      by_cases h2 : q.2.2 < p.2.2
      · rw [if_pos h2]; simp [h]
      · rw [if_neg h2, order_S.refl]; simp [h]
  have he : ∀ a b : ByteArray, a.toList = b.toList ↔ a = b := fun a b => ⟨bytes_ext, fun h => by rw [h]⟩
  simp only [Bool.or_eq_true, Bool.and_eq_true, decide_eq_true_eq, h3, he]
  unfold tlt plt sless
  constructor
  · rintro (h | ⟨e1, h | ⟨e2, h⟩⟩)
    · exact .inl (.inl h)
    · exact .inl (.inr ⟨e1, h⟩)
    · exact .inr ⟨⟨e1, e2⟩, h⟩
  · rintro ((h | ⟨e1, h⟩) | ⟨⟨e1, e2⟩, h⟩)
    · exact .inl h
    · exact .inr ⟨e1, .inl h⟩
    · exact .inr ⟨e1, .inr ⟨e2, h⟩⟩
theorem tlt_tri (p q : ByteArray × ByteArray × Int) : tlt p q ∨ p = q ∨ tlt q p := by
  obtain ⟨s, o, t⟩ := p
  obtain ⟨s', o', t'⟩ := q
  unfold tlt
  rcases plt_tri s o s' o' with h | ⟨rfl, rfl⟩ | h
  · exact .inl (.inl h)
  · rcases Int.lt_trichotomy t t' with h | rfl | h
    · exact .inl (.inr ⟨⟨rfl, rfl⟩, h⟩)
    · exact .inr (.inl rfl)
    · exact .inr (.inr (.inr ⟨⟨rfl, rfl⟩, h⟩))
  · exact .inr (.inr (.inl h))
theorem tkey_inj {p q : ByteArray × ByteArray × Int} (hp : Goodk p) (hq : Goodk q) (h : tkey p = tkey q) : p = q := by
  rcases tlt_tri p q with k | k | k
  · rw [← tkey_lt hp hq, h, order_S.refl] at k; cases k
  · exact k
  · rw [← tkey_lt hq hp, h, order_S.refl] at k; cases k
theorem tkey_eq {p q : ByteArray × ByteArray × Int} (hp : Goodk p) (hq : Goodk q) : cmpS (tkey p) (tkey q) = .eq ↔ p = q :=
  ⟨fun h => tkey_inj hp hq (order_S.eq h), fun h => by rw [h]; exact order_S.refl _⟩
/-! ### The counts -/
def alike (x y : Spn) : Bool := decide (trip x = trip y)
/-- how many records begin a trace as one says -/
def cnt (L : List Spn) (q : ByteArray × ByteArray × Int) : Nat := L.countP fun y => decide (trip y = q)
structure EntRel (m : List (ByteArray × Int)) (L : List Spn) : Prop where
  up : Rises cmpS m
  good : ∀ x ∈ L, Goodk (trip x)
  key : ∀ y ∈ m, ∃ q, Goodk q ∧ y.1 = tkey q
  val : ∀ q, Goodk q → findL cmpS (tkey q) m = if cnt L q = 0 then none else some (cnt L q : Int)
theorem EntRel.congr {m : List (ByteArray × Int)} {L L' : List Spn} (h : EntRel m L) (hg : ∀ x ∈ L', Goodk (trip x)) (hc : ∀ q, cnt L' q = cnt L q) : EntRel m L' :=
  ⟨h.up, hg, h.key, fun q hq => by rw [hc]; exact h.val q hq⟩
theorem EntRel.nil : EntRel [] [] := ⟨List.Pairwise.nil, (fun _ h => nomatch h), (fun _ h => nomatch h), fun q _ => rfl⟩
/-- what the view's change does -/
def chg (m : List (ByteArray × Int)) (x : Spn) (b : Int) : List (ByteArray × Int) × Bool :=
  if x.pa = 0 then
    if (findL cmpS (ekey x) m).getD 0 + b < 0 then (m, false)
    else if (findL cmpS (ekey x) m).getD 0 + b = 0 then (dropL cmpS (ekey x) m, true)
    else (putL cmpS (ekey x) ((findL cmpS (ekey x) m).getD 0 + b) m, true)
  else (m, true)
theorem EntRel.get {m : List (ByteArray × Int)} {L : List Spn} (h : EntRel m L) {x : Spn} (hx : Goodk (trip x)) : (findL cmpS (ekey x) m).getD 0 = (cnt L (trip x) : Int) := by
  unfold ekey
  rw [h.val _ hx]
  split
  · rename_i e; rw [e]; rfl
  · rfl
theorem EntRel.put {m : List (ByteArray × Int)} {L L' : List Spn} (h : EntRel m L) {q : ByteArray × ByteArray × Int} (hq : Goodk q) (hg : ∀ x ∈ L', Goodk (trip x)) {n : Int} (h0 : cnt L' q ≠ 0) (hn : n = (cnt L' q : Int)) (hc : ∀ p, p ≠ q → cnt L' p = cnt L p) :
    EntRel (putL cmpS (tkey q) n m) L' := by
  refine ⟨rises_putL order_S _ _ _ h.up, hg, fun y hy => ?_, fun p hp => ?_⟩
  · rcases putL_keys _ _ _ y hy with e | ⟨z, hz, e⟩
    · exact ⟨q, hq, e⟩
    · obtain ⟨p, hp, e'⟩ := h.key z hz
      exact ⟨p, hp, e ▸ e'⟩
  · rw [findL_putL order_S]
    by_cases e : p = q
    · subst e
      rw [if_pos (order_S.refl _), if_neg h0, hn]
    · rw [if_neg (fun k => e ((tkey_eq hp hq).1 k)), h.val p hp, hc p e]
theorem EntRel.drop {m : List (ByteArray × Int)} {L L' : List Spn} (h : EntRel m L) {q : ByteArray × ByteArray × Int} (hq : Goodk q) (hg : ∀ x ∈ L', Goodk (trip x)) (h0 : cnt L' q = 0) (hc : ∀ p, p ≠ q → cnt L' p = cnt L p) :
    EntRel (dropL cmpS (tkey q) m) L' := by
  refine ⟨rises_dropL _ _ h.up, hg, fun y hy => h.key y (List.mem_filter.1 hy).1, fun p hp => ?_⟩
  rw [findL_dropL order_S]
  by_cases e : p = q
  · subst e
    rw [if_pos (order_S.refl _), if_pos h0]
  · rw [if_neg (fun k => e ((tkey_eq hp hq).1 k)), h.val p hp, hc p e]
theorem cnt_snoc (L : List Spn) (x : Spn) (q : ByteArray × ByteArray × Int) : cnt (L ++ [x]) q = cnt L q + if trip x = q then 1 else 0 := by
  unfold cnt
  rw [List.countP_append, List.countP_singleton]; simp
/-- a record more -/
def addIn (L : List Spn) (x : Spn) : List Spn := if x.pa = 0 then L ++ [x] else L
theorem chg_in {m : List (ByteArray × Int)} {L : List Spn} (h : EntRel m L) {x : Spn} (hx : Goodk (trip x)) : (chg m x 1).2 = true ∧ EntRel (chg m x 1).1 (addIn L x) := by
  unfold chg addIn
  by_cases hp : x.pa = 0
  · rw [if_pos hp, if_pos hp, h.get hx, if_neg (by omega), if_neg (by omega)]
    refine ⟨rfl, h.put hx (fun y hy => ?_) ?_ ?_ ?_⟩
    · rw [List.mem_append, List.mem_singleton] at hy
      rcases hy with hy | rfl
      · exact h.good y hy
      · exact hx
    · rw [cnt_snoc, if_pos rfl]; omega
    · rw [cnt_snoc, if_pos rfl]; omega
    · intro p hne
      rw [cnt_snoc, if_neg (fun e => hne e.symm)]; rfl
  · rw [if_neg hp, if_neg hp]; exact ⟨rfl, h⟩
/-- a record less -/
def takeOut (L : List Spn) (x : Spn) : Option (List Spn) := if x.pa = 0 then (if L.any (fun y => alike y x) then some (L.eraseP fun y => alike y x) else none) else some L
theorem cnt_erase {L : List Spn} {x : Spn} (h : L.any (fun y => alike y x) = true) (q : ByteArray × ByteArray × Int) : cnt (L.eraseP fun y => alike y x) q + (if trip x = q then 1 else 0) = cnt L q := by
  induction L with
  | nil => cases h
  | cons y L ih =>
    unfold cnt at *
    by_cases hy : alike y x = true
    · rw [List.eraseP_cons_of_pos (p := fun y => alike y x) hy, List.countP_cons]
      have e : trip y = trip x := by unfold alike at hy; exact of_decide_eq_true hy
      rw [e]; simp
    · rw [List.eraseP_cons_of_neg (p := fun y => alike y x) hy, List.countP_cons, List.countP_cons]
      have := ih (by rw [List.any_cons] at h; simpa [hy] using h)
      omega
theorem chg_out {m : List (ByteArray × Int)} {L : List Spn} (h : EntRel m L) {x : Spn} (hx : Goodk (trip x)) :
    match takeOut L x with
    | some L' => (chg m x (-1)).2 = true ∧ EntRel (chg m x (-1)).1 L' ∧ ∀ q, cnt L' q + (if x.pa = 0 ∧ trip x = q then 1 else 0) = cnt L q
    | none => chg m x (-1) = (m, false) := by
  unfold chg takeOut
  by_cases hp : x.pa = 0
  · rw [if_pos hp, if_pos hp, h.get hx]
    by_cases ha : L.any (fun y => alike y x) = true
    · rw [if_pos ha]
      have hc := cnt_erase ha
      have h1 := hc (trip x)
      rw [if_pos rfl] at h1
      have hg : ∀ y ∈ L.eraseP (fun y => alike y x), Goodk (trip y) := fun y hy => h.good y (List.mem_of_mem_eraseP hy)
      have hne : ∀ p, p ≠ trip x → cnt (L.eraseP fun y => alike y x) p = cnt L p := fun p hp => by have := hc p; rw [if_neg (fun e => hp e.symm)] at this; exact this
      dsimp only
      rw [if_neg (by omega)]
      by_cases h0 : cnt (L.eraseP fun y => alike y x) (trip x) = 0
      · rw [if_pos (by omega)]
        exact ⟨rfl, h.drop hx hg h0 hne, fun q => by simpa [hp] using hc q⟩
      · rw [if_neg (by omega)]
        exact ⟨rfl, h.put hx hg h0 (by omega) hne, fun q => by simpa [hp] using hc q⟩
    · rw [if_neg ha]
      have h0 : cnt L (trip x) = 0 := by
        unfold cnt
        rw [List.countP_eq_zero]
        intro y hy hd
        exact ha (List.any_eq_true.2 ⟨y, hy, hd⟩)
      dsimp only
      rw [h0, if_pos (by decide)]
  · rw [if_neg hp, if_neg hp]
    exact ⟨rfl, h, fun q => by simp [hp]⟩
/-! ### Apply -/
/-- what is done again -/
def redo (m : List (ByteArray × Int)) (l : List Spn) : List (ByteArray × Int) := l.foldl (fun m y => (chg m y 1).1) m
/-- the records that go -/
def vOut (m : List (ByteArray × Int)) (done : List Spn) : List Spn → List (ByteArray × Int) × Bool
  | [] => (m, true)
  | x :: l => if (chg m x (-1)).2 then vOut (chg m x (-1)).1 (done ++ [x]) l else (redo (chg m x (-1)).1 done, false)
def vApply (m : List (ByteArray × Int)) (out inn : List Spn) : List (ByteArray × Int) × Bool :=
  if out.all may && inn.all may then (if (vOut m [] out).2 then (redo (vOut m [] out).1 inn, true) else vOut m [] out) else (m, false)
def rOut (L : List Spn) : List Spn → Option (List Spn)
  | [] => some L
  | x :: l => match takeOut L x with
    | some L' => rOut L' l
    | none => none
def rIn (L : List Spn) (l : List Spn) : List Spn := l.foldl addIn L
def rApply (L : List Spn) (out inn : List Spn) : List Spn × Bool :=
  if out.all may && inn.all may then (match rOut L out with | some L' => (rIn L' inn, true) | none => (L, false)) else (L, false)
theorem redo_rel : ∀ (l : List Spn) {m : List (ByteArray × Int)} {L : List Spn}, EntRel m L → (∀ x ∈ l, Goodk (trip x)) → EntRel (redo m l) (rIn L l)
  | [], _, _, h, _ => h
  | x :: l, m, L, h, hl => redo_rel l (chg_in h (hl x (List.mem_cons_self ..))).2 fun y hy => hl y (List.mem_cons_of_mem _ hy)
theorem cnt_rIn (q : ByteArray × ByteArray × Int) : ∀ (l L : List Spn), cnt (rIn L l) q = cnt L q + (l.countP fun x => decide (x.pa = 0 ∧ trip x = q))
  | [], L => rfl
  | x :: l, L => by
    show cnt (rIn (addIn L x) l) q = _
    rw [cnt_rIn q l, List.countP_cons]
    unfold addIn
    by_cases hp : x.pa = 0
    · rw [if_pos hp, cnt_snoc]; simp only [hp, true_and]
      by_cases h : trip x = q
      · simp [h]; omega
      · simp [h]
    · rw [if_neg hp]; simp [hp]
theorem rIn_good : ∀ (l L : List Spn), (∀ x ∈ L, Goodk (trip x)) → (∀ x ∈ l, Goodk (trip x)) → ∀ x ∈ rIn L l, Goodk (trip x)
  | [], _, h, _ => h
  | x :: l, L, h, hl => rIn_good l _ (fun y hy => by
      unfold addIn at hy
      split at hy
      · rw [List.mem_append, List.mem_singleton] at hy
        rcases hy with hy | rfl
        · exact h y hy
        · exact hl _ (List.mem_cons_self ..)
      · exact h y hy) fun y hy => hl y (List.mem_cons_of_mem _ hy)
theorem vOut_rel : ∀ (l done : List Spn) {m : List (ByteArray × Int)} {L L0 : List Spn}, EntRel m L → (∀ x ∈ L0, Goodk (trip x)) → (∀ x ∈ done, Goodk (trip x)) → (∀ x ∈ l, Goodk (trip x)) →
    (∀ q, cnt L q + (done.countP fun x => decide (x.pa = 0 ∧ trip x = q)) = cnt L0 q) →
    match rOut L l with
    | some L' => (vOut m done l).2 = true ∧ EntRel (vOut m done l).1 L'
    | none => (vOut m done l).2 = false ∧ EntRel (vOut m done l).1 L0
  | [], done, m, L, L0, h, _, _, _, _ => ⟨rfl, h⟩
  | x :: l, done, m, L, L0, h, hg0, hd, hl, hc => by
    have hx := hl x (List.mem_cons_self ..)
    have hs := chg_out h hx
    simp only [rOut, vOut]
    cases ht : takeOut L x with
    | none =>
      rw [ht] at hs
      dsimp only at hs ⊢
      rw [hs]
      simp only [Bool.false_eq_true, if_false]
      exact ⟨trivial, (redo_rel done h hd).congr hg0 fun q => by rw [cnt_rIn, ← hc q]⟩
    | some L' =>
      rw [ht] at hs
      dsimp only at hs ⊢
      obtain ⟨h1, h2, h3⟩ := hs
      rw [h1, if_pos rfl]
      refine vOut_rel l (done ++ [x]) h2 hg0 (fun y hy => ?_) (fun y hy => hl y (List.mem_cons_of_mem _ hy)) fun q => ?_
      · rw [List.mem_append, List.mem_singleton] at hy
        rcases hy with hy | rfl
        · exact hd y hy
        · exact hx
      · rw [List.countP_append, List.countP_singleton]
        have := h3 q; have := hc q
        simp only [decide_eq_true_eq]; omega
theorem good_may {x : Spn} (hf : I64 x.tr) (h : may x = true) : Goodk (trip x) := by
  unfold may at h
  simp only [Bool.and_eq_true] at h
  exact ⟨h.1.1.1.2, h.1.1.2, hf⟩
/-- **Apply: the view and the document go together.** -/
theorem apply_rel {m : List (ByteArray × Int)} {L : List Spn} (h : EntRel m L) {out inn : List Spn} (ho : ∀ x ∈ out, I64 x.tr) (hi : ∀ x ∈ inn, I64 x.tr) :
    (vApply m out inn).2 = (rApply L out inn).2 ∧ EntRel (vApply m out inn).1 (rApply L out inn).1 := by
  unfold vApply rApply
  by_cases hm : (out.all may && inn.all may) = true
  · rw [if_pos hm, if_pos hm]
    rw [Bool.and_eq_true, List.all_eq_true, List.all_eq_true] at hm
    have hgo : ∀ x ∈ out, Goodk (trip x) := fun x hx => good_may (ho x hx) (hm.1 x hx)
    have hgi : ∀ x ∈ inn, Goodk (trip x) := fun x hx => good_may (hi x hx) (hm.2 x hx)
    have hv := vOut_rel out [] h h.good (fun _ h => by cases h) hgo (fun q => by simp)
    cases hr : rOut L out with
    | none =>
      rw [hr] at hv
      dsimp only at hv ⊢
      rw [hv.1]
      exact ⟨hv.1, hv.2⟩
    | some L' =>
      rw [hr] at hv
      dsimp only at hv ⊢
      rw [hv.1, if_pos rfl]
      exact ⟨rfl, redo_rel inn hv.2 hgi⟩
  · rw [if_neg hm, if_neg hm]; exact ⟨rfl, h⟩
/-! ### All -/
/-- the keys are those of records -/
theorem EntRel.keys {m : List (ByteArray × Int)} {L : List Spn} (h : EntRel m L) : ∃ qs : List (ByteArray × ByteArray × Int), m.map (·.1) = qs.map tkey ∧ qs.Pairwise tlt ∧ (∀ q ∈ qs, Goodk q) ∧ ∀ q, q ∈ qs ↔ ∃ x ∈ L, trip x = q := by
  have : ∀ l : List (ByteArray × Int), (∀ y ∈ l, ∃ q, Goodk q ∧ y.1 = tkey q) → ∃ qs : List (ByteArray × ByteArray × Int), l.map (·.1) = qs.map tkey ∧ ∀ q ∈ qs, Goodk q := by
    intro l
    induction l with
    | nil => exact fun _ => ⟨[], rfl, fun _ h => by cases h⟩
    | cons y l ih =>
      intro hl
      obtain ⟨qs, h1, h2⟩ := ih fun z hz => hl z (List.mem_cons_of_mem _ hz)
      obtain ⟨q, hq, e⟩ := hl y (List.mem_cons_self ..)
      exact ⟨q :: qs, by simp [h1, e], fun p hp => by
        rw [List.mem_cons] at hp
        rcases hp with rfl | hp
        · exact hq
        · exact h2 p hp⟩
  obtain ⟨qs, h1, h2⟩ := this m h.key
  have hup : (m.map (·.1)).Pairwise fun a b => cmpS a b = .lt := by
    rw [List.pairwise_map]; exact h.up
  rw [h1, List.pairwise_map] at hup
  refine ⟨qs, h1, ?_, h2, fun q => ?_⟩
  · exact List.Pairwise.imp_of_mem (fun ha hb hab => (tkey_lt (h2 _ ha) (h2 _ hb)).1 hab) hup
  · have hcm : ∀ q, Goodk q → (cnt L q ≠ 0 ↔ ∃ x ∈ L, trip x = q) := fun q _ => by
      unfold cnt
      rw [Ne, List.countP_eq_zero]
      constructor
      · intro hn
        refine Classical.byContradiction fun hne => hn fun x hx hd => hne ⟨x, hx, of_decide_eq_true hd⟩
      · rintro ⟨x, hx, e⟩ hall
        exact hall x hx (decide_eq_true e)
    constructor
    · intro hq
      have hg := h2 q hq
      have hm : tkey q ∈ m.map (·.1) := by rw [h1]; exact List.mem_map_of_mem hq
      obtain ⟨y, hy, e⟩ := List.mem_map.1 hm
      obtain ⟨v, hv⟩ := findL_of_mem order_S hy
      rw [e, h.val q hg] at hv
      refine (hcm q hg).1 fun h0 => ?_
      rw [if_pos h0] at hv; cases hv
    · rintro ⟨x, hx, rfl⟩
      have hg := h.good x hx
      have h0 := (hcm _ hg).2 ⟨x, hx, rfl⟩
      have hv := h.val _ hg
      rw [if_neg h0] at hv
      obtain ⟨y, hy, e, _⟩ := findL_some hv
      have e := order_S.eq e
      have : y.1 ∈ qs.map tkey := by rw [← h1]; exact List.mem_map_of_mem hy
      obtain ⟨q, hq, e'⟩ := List.mem_map.1 this
      have := tkey_inj hg (h2 q hq) (e.trans e'.symm)
      rw [this]; exact hq
/-- **All entries: the view and the document give the same.** -/
theorem all_rel {m : List (ByteArray × Int)} {L : List Spn} (h : EntRel m L) : ∃ qs : List (ByteArray × ByteArray × Int), m.map (·.1) = qs.map tkey ∧ (∀ q ∈ qs, Goodk q) ∧ qs.Pairwise tlt ∧ entsOf qs = refAll L := by
  obtain ⟨qs, h1, h2, h3, h4⟩ := h.keys
  refine ⟨qs, h1, h3, h2, (entsOf_canon qs h2).one ?_⟩
  have C := refAll_canon L
  refine ⟨C.up, C.ne, C.tup, fun s o t => ?_⟩
  rw [C.mem s o t, h4]
  constructor
  · rintro ⟨x, hx, rfl, rfl, rfl⟩; exact ⟨x, hx, rfl⟩
  · rintro ⟨x, hx, e⟩
    simp only [trip, Prod.mk.injEq] at e
    exact ⟨x, hx, e⟩
end Go.Proofs.YtdonmmjikcbihaaGreatDoor
