/- The document's answers for entry: All. -/
import Derived.Test.YtdonmmjikcbihaaGreatDoorRef28c
namespace Go.Proofs.YtdonmmjikcbihaaGreatDoor
open Go.RowKit Go.Proofs Go.Vc
attribute [local irreducible] Calls CallsIn Code.wp Code.wpIn
theorem entIns_end (L : List Spn) (x : Spn) : ∀ a : List Ent, (∀ e ∈ a, eless e x = true) → entIns L x a = a ++ [⟨x.sv, x.op, trOf L x.sv x.op⟩]
  | [], _ => rfl
  | e :: a, h => by
    rw [entIns, if_pos (h e (List.mem_cons_self ..)), entIns_end L x a fun y hy => h y (List.mem_cons_of_mem _ hy)]; rfl
theorem entIns_same (L : List Spn) (x : Spn) (e : Ent) (r : List Ent) (h1 : eless e x = false) (h2 : e.sv = x.sv ∧ e.op = x.op) : ∀ a : List Ent, (∀ e ∈ a, eless e x = true) → entIns L x (a ++ e :: r) = a ++ e :: r
  | [], _ => by rw [List.nil_append, entIns, if_neg (by rw [h1]; simp), if_pos h2]
  | d :: a, h => by
    rw [List.cons_append, entIns, if_pos (h d (List.mem_cons_self ..)), entIns_same L x e r h1 h2 a fun y hy => h y (List.mem_cons_of_mem _ hy)]
theorem entIns_mid (L : List Spn) (x : Spn) (e : Ent) (r : List Ent) (h1 : eless e x = false) (h2 : ¬ (e.sv = x.sv ∧ e.op = x.op)) : ∀ a : List Ent, (∀ e ∈ a, eless e x = true) → entIns L x (a ++ e :: r) = a ++ ⟨x.sv, x.op, trOf L x.sv x.op⟩ :: e :: r
  | [], _ => by rw [List.nil_append, entIns, if_neg (by rw [h1]; simp), if_neg h2]; rfl
  | d :: a, h => by
    rw [List.cons_append, entIns, if_pos (h d (List.mem_cons_self ..)), entIns_mid L x e r h1 h2 a fun y hy => h y (List.mem_cons_of_mem _ hy)]; rfl
/-- the entries so far -/
def reTo (L : List Spn) (j : Nat) : List Ent := (L.take j).foldl (fun E x => entIns L x E) []
theorem reTo_succ (L : List Spn) (j : Nat) (h : j < L.length) : reTo L (j + 1) = entIns L L[j] (reTo L j) := by
  unfold reTo
  rw [← List.take_append_getElem h, List.foldl_append]; rfl
theorem entIns_len (L : List Spn) (x : Spn) : ∀ E : List Ent, (entIns L x E).length ≤ E.length + 1
  | [] => Nat.le_refl _
  | e :: E => by
    have := entIns_len L x E
    simp only [entIns]; split
    · simp only [List.length_cons]; omega
    · split <;> simp
theorem reTo_len (L : List Spn) : ∀ j, (reTo L j).length ≤ j
  | 0 => by simp [reTo]
  | j + 1 => by
    rcases Nat.lt_or_ge j L.length with h | h
    · rw [reTo_succ L j h]
      have := entIns_len L L[j] (reTo L j)
      have := reTo_len L j
      omega
    · have : reTo L (j + 1) = reTo L j := by unfold reTo; rw [List.take_of_length_le (by omega), List.take_of_length_le (by omega)]
      rw [this]; have := reTo_len L j; omega
/-- rows that hold entries, their traces in rows of the call's own -/
def EntsOwn (B : Nat) (W : World) : List (ByteArray × ByteArray × Sl) → List Ent → Prop
  | [], [] => True
  | x :: l, e :: E => (x.1 = e.sv ∧ x.2.1 = e.op ∧ intE.Own B (slV x.2.2) e.tr W) ∧ EntsOwn B W l E
  | _, _ => False
theorem EntsOwn.len {B : Nat} {W : World} : ∀ {l : List (ByteArray × ByteArray × Sl)} {E : List Ent}, EntsOwn B W l E → l.length = E.length
  | [], [], _ => rfl
  | _ :: _, _ :: _, h => by rw [List.length_cons, List.length_cons, EntsOwn.len h.2]
  | [], _ :: _, h => h.elim
  | _ :: _, [], h => h.elim
theorem EntsOwn.append {B : Nat} {W : World} {m : List (ByteArray × ByteArray × Sl)} {F : List Ent} (k : EntsOwn B W m F) : ∀ {l : List (ByteArray × ByteArray × Sl)} {E : List Ent}, EntsOwn B W l E → EntsOwn B W (l ++ m) (E ++ F)
  | [], [], _ => k
  | _ :: _, _ :: _, h => ⟨h.1, EntsOwn.append k h.2⟩
  | [], _ :: _, h => h.elim
  | _ :: _, [], h => h.elim
theorem EntsOwn.take {B : Nat} {W : World} : ∀ {l : List (ByteArray × ByteArray × Sl)} {E : List Ent} (i : Nat), EntsOwn B W l E → EntsOwn B W (l.take i) (E.take i)
  | [], [], i, _ => by simp [EntsOwn]
  | _ :: _, _ :: _, 0, _ => by simp [EntsOwn]
  | _ :: _, _ :: _, i + 1, h => ⟨h.1, EntsOwn.take i h.2⟩
  | [], _ :: _, _, h => h.elim
  | _ :: _, [], _, h => h.elim
theorem EntsOwn.drop {B : Nat} {W : World} : ∀ {l : List (ByteArray × ByteArray × Sl)} {E : List Ent} (i : Nat), EntsOwn B W l E → EntsOwn B W (l.drop i) (E.drop i)
  | [], [], i, _ => by simp [EntsOwn]
  | _ :: _, _ :: _, 0, h => h
  | _ :: _, _ :: _, i + 1, h => EntsOwn.drop i h.2
  | [], _ :: _, _, h => h.elim
  | _ :: _, [], _, h => h.elim
theorem EntsOwn.keeps {F : Nat → Prop} {B : Nat} {W W' : World} (k : Keeps F W W') (hF : ∀ v m g, intE.Own B v m W → v.ownBlock = some g → ¬ F g) : ∀ {l : List (ByteArray × ByteArray × Sl)} {E : List Ent}, EntsOwn B W l E → EntsOwn B W' l E
  | [], [], _ => trivial
  | _ :: _, _ :: _, h => ⟨⟨h.1.1, h.1.2.1, h.1.2.2.keeps intE k fun g hg => hF _ _ g h.1.2.2 hg⟩, EntsOwn.keeps k hF h.2⟩
  | [], _ :: _, h => h.elim
  | _ :: _, [], h => h.elim
theorem EntsOwn.ext {B : Nat} {W W' : World} {l : List (ByteArray × ByteArray × Sl)} {E : List Ent} (h : EntsOwn B W l E) (k : Ext W W') : EntsOwn B W' l E := h.keeps k fun _ _ _ _ _ hf => hf
/-- an own row of entries grows: what their traces lie in stays -/
theorem EntsOwn.grow {B : Nat} {W W' : World} {v : Value} {m l : List (ByteArray × ByteArray × Sl)} {E : List Ent} (h : EntsOwn B W l E) (ho : entE.Own B v m W) (k : Keeps (fun b => v.ownBlock = some b) W W') : EntsOwn B W' l E :=
  h.keeps k fun _ _ _ hi hg hf => kinds_apart ho hi hf hg
theorem EntsOwn.at {B : Nat} {W : World} : ∀ {l : List (ByteArray × ByteArray × Sl)} {E : List Ent} (i : Nat) (h : i < l.length) (h' : i < E.length), EntsOwn B W l E → l[i].1 = E[i].sv ∧ l[i].2.1 = E[i].op ∧ intE.Own B (slV l[i].2.2) E[i].tr W
  | _ :: _, _ :: _, 0, _, _, h => h.1
  | _ :: _, _ :: _, i + 1, h1, h2, h => EntsOwn.at i (Nat.lt_of_succ_lt_succ h1) (Nat.lt_of_succ_lt_succ h2) h.2
theorem EntsOwn.reads {B : Nat} {W : World} {v : Value} {l : List (ByteArray × ByteArray × Sl)} {E : List Ent} (h : EntsOwn B W l E) (ho : entE.Own B v l W) (hl : E.length ≤ 1000000) (ht : ∀ e ∈ E, e.tr.length ≤ 1000000) : EntsAt W v E :=
  ⟨l, ho.reads entE (by rw [h.len]; exact hl), h.len, fun i h1 h2 => ⟨(h.at i h1 h2).1, (h.at i h1 h2).2.1⟩, fun i h1 h2 => (h.at i h1 h2).2.2.reads intE (ht _ (List.getElem_mem h2))⟩
theorem entIns_tr (L : List Spn) (x : Spn) {E : List Ent} (h : ∀ e ∈ E, e.tr.length ≤ L.length) : ∀ e ∈ entIns L x E, e.tr.length ≤ L.length := by
  intro e he
  rcases entIns_mem L x E e he with he | rfl
  · exact h e he
  · exact trOf_len L _ _
theorem reTo_tr (L : List Spn) : ∀ j, ∀ e ∈ reTo L j, e.tr.length ≤ L.length
  | 0, e, he => by simp [reTo] at he
  | j + 1, e, he => by
    rcases Nat.lt_or_ge j L.length with h | h
    · rw [reTo_succ L j h] at he
      exact entIns_tr L _ (reTo_tr L j) e he
    · have : reTo L (j + 1) = reTo L j := by unfold reTo; rw [List.take_of_length_le (by omega), List.take_of_length_le (by omega)]
      rw [this] at he; exact reTo_tr L j e he
theorem bless_eq (a b : ByteArray) : (a.toList == b.toList) = decide (a = b) := by
  by_cases h : a = b
  · rw [h]; simp
  · rw [decide_eq_false h, beq_eq_false_iff_ne]; exact fun e => h (bytes_ext e)
end Go.Proofs.YtdonmmjikcbihaaGreatDoor
