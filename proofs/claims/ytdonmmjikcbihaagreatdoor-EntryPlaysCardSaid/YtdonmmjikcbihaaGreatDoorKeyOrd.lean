/- The order of keys (plain). -/
import Derived.Test.YtdonmmjikcbihaaGreatDoorSorted
import Derived.Test.YtdonmmjikcbihaaGreatDoorKeyed
namespace Go.Vc
open Go
theorem less_irrefl : ∀ x : List UInt8, Op.bytesLess x x = false
  | [] => rfl
  | a :: x => by simp [Op.bytesLess, less_irrefl x]
theorem less_trans : ∀ x y z : List UInt8, Op.bytesLess x y = true → Op.bytesLess y z = true → Op.bytesLess x z = true
  | _, [], _, h, _ => by cases ‹List UInt8› <;> simp [Op.bytesLess] at h
  | _, _ :: _, [], _, k => by simp [Op.bytesLess] at k
  | [], _ :: _, _ :: _, _, _ => rfl
  | a :: x, b :: y, d :: z, h, k => by
    simp only [Op.bytesLess, Bool.or_eq_true, Bool.and_eq_true, decide_eq_true_eq, beq_iff_eq] at h k ⊢
    rcases h with h | ⟨rfl, h⟩
    · rcases k with k | ⟨rfl, k⟩
      · exact .inl (UInt8.lt_trans h k)
      · exact .inl h
    · rcases k with k | ⟨rfl, k⟩
      · exact .inl k
      · exact .inr ⟨rfl, less_trans x y z h k⟩
theorem less_tri : ∀ x y : List UInt8, Op.bytesLess x y = false → Op.bytesLess y x = false → x = y
  | [], [], _, _ => rfl
  | [], _ :: _, h, _ => by simp [Op.bytesLess] at h
  | _ :: _, [], _, h => by simp [Op.bytesLess] at h
  | a :: x, b :: y, h, k => by
    simp only [Op.bytesLess, Bool.or_eq_false_iff, Bool.and_eq_false_iff, decide_eq_false_iff_not] at h k
    have e : a = b := UInt8.le_antisymm (UInt8.not_lt.1 k.1) (UInt8.not_lt.1 h.1)
    subst e
    have h2 : Op.bytesLess x y = false := by rcases h.2 with h | h; simp at h; exact h
    have k2 : Op.bytesLess y x = false := by rcases k.2 with k | k; simp at k; exact k
    rw [less_tri x y h2 k2]
theorem less_asymm {x y : List UInt8} (h : Op.bytesLess x y = true) : Op.bytesLess y x = false := by
  cases hk : Op.bytesLess y x with
  | false => rfl
  | true =>
    have := less_trans _ _ _ h hk
    rw [less_irrefl] at this; cases this
theorem bytes_ext {a b : ByteArray} (h : a.toList = b.toList) : a = b := by
  rw [ByteArray.toList_eq, ByteArray.toList_eq] at h
  obtain ⟨⟨x⟩⟩ := a; obtain ⟨⟨y⟩⟩ := b
  simp only at h; rw [h]
theorem cmpS_is_lt {a b : ByteArray} : cmpS a b = .lt ↔ Op.bytesLess a.toList b.toList = true := by
  unfold cmpS; split
  · simp_all
  · split <;> simp_all
theorem cmpS_is_gt {a b : ByteArray} : cmpS a b = .gt ↔ Op.bytesLess b.toList a.toList = true := by
  unfold cmpS; split
  · rename_i h; rw [less_asymm h]; simp
  · rename_i h
    split
    · rename_i e; rw [beq_iff_eq] at e; rw [e, less_irrefl]; simp
    · rename_i e
      simp only [true_iff]
      cases hk : Op.bytesLess b.toList a.toList with
      | true => rfl
      | false => exact absurd (by rw [beq_iff_eq]; exact less_tri _ _ (Bool.eq_false_iff.2 h) hk) e
theorem order_S : Order cmpS where
  refl a := by unfold cmpS; rw [less_irrefl]; simp
  eq {a b} h := by
    unfold cmpS at h; split at h
    · cases h
    · split at h
      · rename_i e; rw [beq_iff_eq] at e; exact bytes_ext e
      · cases h
  flip h := cmpS_is_gt.2 (cmpS_is_lt.1 h)
  flip' h := cmpS_is_lt.2 (cmpS_is_gt.1 h)
  trans h k := cmpS_is_lt.2 (less_trans _ _ _ (cmpS_is_lt.1 h) (cmpS_is_lt.1 k))
/-! ### numbers as bytes -/
def valB : List UInt8 → Nat
  | [] => 0
  | d :: l => d.toNat * 256 ^ l.length + valB l
theorem valB_lt : ∀ l : List UInt8, valB l < 256 ^ l.length
  | [] => by simp [valB]
  | d :: l => by
    have := valB_lt l
    have hd := d.toNat_lt
    simp only [valB, List.length_cons, Nat.pow_succ]
    have : d.toNat * 256 ^ l.length + 256 ^ l.length ≤ 256 * 256 ^ l.length := by
      have : (d.toNat + 1) * 256 ^ l.length ≤ 256 * 256 ^ l.length := Nat.mul_le_mul_right _ (by omega)
      rw [Nat.succ_mul] at this; exact this
    rw [Nat.mul_comm (256 ^ l.length) 256]; omega
theorem less_val : ∀ (p q : List UInt8) (x y : List UInt8), p.length = q.length → Op.bytesLess (p ++ x) (q ++ y) = (decide (valB p < valB q) || (decide (valB p = valB q) && Op.bytesLess x y))
  | [], [], x, y, _ => by simp [valB]
  | a :: p, b :: q, x, y, h => by
    have hl : p.length = q.length := by simpa using h
    have hp := valB_lt p
    have hq := valB_lt q
    rw [hl] at hp
    simp only [List.cons_append, Op.bytesLess, valB, hl]
    rw [less_val p q x y hl]
    rcases Nat.lt_trichotomy a.toNat b.toNat with hab | hab | hab
    · have h1 : a < b := UInt8.lt_iff_toNat_lt.2 hab
      have h2 : (a.toNat + 1) * 256 ^ q.length ≤ b.toNat * 256 ^ q.length := Nat.mul_le_mul_right _ hab
      rw [Nat.succ_mul] at h2
      rw [decide_eq_true h1, decide_eq_true (show a.toNat * 256 ^ q.length + valB p < b.toNat * 256 ^ q.length + valB q by omega)]; rfl
    · have e : a = b := UInt8.toNat.inj hab
      subst e
      rw [decide_eq_false (show ¬ a < a from fun h => absurd (UInt8.lt_iff_toNat_lt.1 h) (Nat.lt_irrefl _))]
      simp
    · have h1 : ¬ a < b := fun h => absurd (UInt8.lt_iff_toNat_lt.1 h) (by omega)
      have h3 : (a == b) = false := by rw [beq_eq_false_iff_ne]; intro e; subst e; omega
      have h2 : (b.toNat + 1) * 256 ^ q.length ≤ a.toNat * 256 ^ q.length := Nat.mul_le_mul_right _ hab
      rw [Nat.succ_mul] at h2
      rw [decide_eq_false h1, h3, decide_eq_false (show ¬ a.toNat * 256 ^ q.length + valB p < b.toNat * 256 ^ q.length + valB q by omega), decide_eq_false (show ¬ a.toNat * 256 ^ q.length + valB p = b.toNat * 256 ^ q.length + valB q by omega)]; rfl
end Go.Vc
namespace Go.Proofs.YtdonmmjikcbihaaGreatDoor
open Go.Vc
theorem num_val (n : Int) (h : I64 n) : (valB (num n).toList : Int) = n + 9223372036854775808 := by
  obtain ⟨u, hu⟩ : ∃ u, u = n + 9223372036854775808 := ⟨_, rfl⟩
  have h0 : 0 ≤ u ∧ u < 18446744073709551616 := by rw [hu]; omega
  rw [ByteArray.toList_eq, ← hu, num, ← hu]
  have e : ∀ i, ((UInt8.ofNat (B8 u i).toNat).toNat : Int) = B8 u i := fun i => u8_back (B8_bound u i)
  show ((valB [UInt8.ofNat (B8 u 7).toNat, UInt8.ofNat (B8 u 6).toNat, UInt8.ofNat (B8 u 5).toNat, UInt8.ofNat (B8 u 4).toNat, UInt8.ofNat (B8 u 3).toNat, UInt8.ofNat (B8 u 2).toNat, UInt8.ofNat (B8 u 1).toNat, UInt8.ofNat (B8 u 0).toNat] : Nat) : Int) = u
  have e7 := e 7; have e6 := e 6; have e5 := e 5; have e4 := e 4; have e3 := e 3; have e2 := e 2; have e1 := e 1; have e0 := e 0
  simp only [valB, List.length_cons, List.length_nil]
  simp only [Nat.reduceAdd, Nat.reducePow]
  unfold B8 at *
  simp only [Nat.reduceMul, Int.reducePow] at *
  omega
theorem cmp_num (a b : Int) (ha : I64 a) (hb : I64 b) (s t : ByteArray) : cmpS (num a ++ s) (num b ++ t) = if a < b then .lt else if b < a then .gt else cmpS s t := by
  have va := num_val a ha
  have vb := num_val b hb
  have ln : ∀ n, (num n).toList.length = 8 := fun n => by rw [ByteArray.toList_eq]; rfl
  have app : ∀ x y : ByteArray, (x ++ y).toList = x.toList ++ y.toList := fun x y => by simp only [ByteArray.toList_eq, ByteArray.data_append, Array.toList_append]
  have hlt := less_val (num a).toList (num b).toList s.toList t.toList (by rw [ln, ln])
  have hgt := less_val (num b).toList (num a).toList t.toList s.toList (by rw [ln, ln])
  rw [← app, ← app] at hlt hgt
  by_cases h1 : a < b
  · rw [if_pos h1, cmpS_is_lt, hlt, decide_eq_true (by omega)]; rfl
  · by_cases h2 : b < a
    · rw [if_neg h1, if_pos h2, cmpS_is_gt, hgt, decide_eq_true (by omega)]; rfl
    · have e : a = b := by omega
      subst e
      rw [if_neg h1, if_neg h2]
      simp only [Nat.lt_irrefl, decide_false, decide_true, Bool.true_and, Bool.false_or] at hlt hgt
      cases hc : cmpS s t with
      | lt => rw [cmpS_is_lt, hlt]; exact cmpS_is_lt.1 hc
      | gt => rw [cmpS_is_gt, hgt]; exact cmpS_is_gt.1 hc
      | eq => rw [order_S.eq hc]; exact order_S.refl _
end Go.Proofs.YtdonmmjikcbihaaGreatDoor
