/- Slices of spans: reading, searching, comparing. -/
import Derived.Test.YtdonmmjikcbihaaGreatDoorCode
import Derived.Deep.LoopGhost
namespace Go.Vc
/-- are two spans the same? -/
def same (x y : Spn) : Bool := decide (x = y)
/-- nine cells hold a span -/
def C9 (w : World) (g p : Nat) (x : Spn) : Prop := ((w.cell? ⟨g, p, none⟩ = some (.int .i64 x.tr) ∧ w.cell? ⟨g, p + 1, none⟩ = some (.int .i64 x.id) ∧ w.cell? ⟨g, p + 2, none⟩ = some (.int .i64 x.pa)) ∧ w.cell? ⟨g, p + 3, none⟩ = some (.int .i64 x.rv) ∧ w.cell? ⟨g, p + 4, none⟩ = some (.string x.sv) ∧ w.cell? ⟨g, p + 5, none⟩ = some (.string x.op)) ∧ w.cell? ⟨g, p + 6, none⟩ = some (.int .i64 x.st) ∧ w.cell? ⟨g, p + 7, none⟩ = some (.int .i64 x.du) ∧ w.cell? ⟨g, p + 8, none⟩ = some (.bool x.gone)
/-- the block of a slice's cells -/
def slBlock : Value → Option Nat
  | .slice (some a) _ _ => some a.block
  | _ => none
/-- the slice holds these spans -/
def SpnsAt (w : World) (v : Value) (l : List Spn) : Prop :=
  ∃ a cap, v = .slice a l.length cap ∧ ((l.length : Int) ≤ 9223372036854775807 ∧ (l.length : Int) ≤ cap) ∧ (a = none → l = []) ∧ ∀ g o s, a = some ⟨g, o, s⟩ → (l ≠ [] → s = none) ∧ ∀ i (h : i < l.length), C9 w g (o + i * 9) l[i]
theorem C9.mem {w : World} {g p : Nat} {x : Spn} (h : C9 w g p x) : ∃ ob, w.heap[g]? = some ob := by
  have := h.1.1.1
  unfold World.cell? at this
  cases hh : w.heap[g]? with
  | none => simp [hh] at this
  | some ob => exact ⟨ob, rfl⟩
theorem C9.keeps {F : Nat → Prop} {w w' : World} {g p : Nat} {x : Spn} (h : C9 w g p x) (k : Keeps F w w') (hg : ¬ F g) : C9 w' g p x := by
  obtain ⟨ob, hob⟩ := h.mem
  have hs : w'.heap[g]? = w.heap[g]? := k.same g (lt_of_heap hob) hg
  have hc : ∀ q, w'.cell? ⟨g, q, none⟩ = w.cell? ⟨g, q, none⟩ := fun q => by unfold World.cell?; rw [hs]
  unfold C9 at h ⊢
  simp only [hc]; exact h
theorem SpnsAt.keeps {F : Nat → Prop} {w w' : World} {v : Value} {l : List Spn} (h : SpnsAt w v l) (k : Keeps F w w') (hF : ∀ g, slBlock v = some g → ¬ F g) : SpnsAt w' v l := by
  obtain ⟨a, cap, rfl, hn, h0, hc⟩ := h
  refine ⟨a, cap, rfl, hn, h0, fun g o s ha => ?_⟩
  obtain ⟨hs, hi⟩ := hc g o s ha
  subst ha
  exact ⟨hs, fun i h => (hi i h).keeps k (hF g rfl)⟩
theorem SpnsAt.keeps2 {F : Nat → Prop} {w w' : World} {v : Value} {l : List Spn} (h : SpnsAt w v l) (k : Keeps F w w') (hF : l ≠ [] → ∀ g, slBlock v = some g → ¬ F g) : SpnsAt w' v l := by
  obtain ⟨a, cap, rfl, hn, h0, hc⟩ := h
  refine ⟨a, cap, rfl, hn, h0, fun g o s ha => ?_⟩
  obtain ⟨hs, hi⟩ := hc g o s ha
  subst ha
  exact ⟨hs, fun i h => (hi i h).keeps k (hF (fun e => by rw [e] at h; exact absurd h (Nat.not_lt_zero _)) g rfl)⟩
theorem SpnsAt.blk_lt {w : World} {v : Value} {l : List Spn} (h : SpnsAt w v l) (hl : l ≠ []) {g : Nat} (hg : slBlock v = some g) : g < w.heap.size := by
  obtain ⟨a, cap, rfl, hn, h0, hc⟩ := h
  cases a with
  | none => cases hg
  | some ad =>
    obtain ⟨g', o, s⟩ := ad
    injection hg with hg
    dsimp only at hg
    subst hg
    obtain ⟨ob, hob⟩ := ((hc g' o s rfl).2 0 (List.length_pos_iff.2 hl)).mem
    exact lt_of_heap hob
theorem SpnsAt.ext {w w' : World} {v : Value} {l : List Spn} (h : SpnsAt w v l) (k : Ext w w') : SpnsAt w' v l := h.keeps k fun _ _ hf => hf
end Go.Vc
namespace Go.Proofs.YtdonmmjikcbihaaGreatDoor
open Go.RowKit Go.Proofs Go.Vc
theorem toList_inj {a b : ByteArray} (h : a.toList = b.toList) : a = b := by
  rw [toList_data, toList_data] at h
  obtain ⟨⟨x⟩⟩ := a; obtain ⟨⟨y⟩⟩ := b
  simp only at h; rw [h]
theorem spn_ext {x y : Spn} (h1 : x.tr = y.tr) (h2 : x.id = y.id) (h3 : x.pa = y.pa) (h4 : x.rv = y.rv) (h5 : x.sv.toList = y.sv.toList) (h6 : x.op.toList = y.op.toList) (h7 : x.st = y.st) (h8 : x.du = y.du) (h9 : x.gone = y.gone) : x = y := by
  have e5 := toList_inj h5
  have e6 := toList_inj h6
  cases x; cases y; simp only at *; subst_vars; rfl
theorem eql_spn (x y : Spn) (w : World) : (binOp .eql 48 (spnV x) (spnV y)).run Tryz.prog w = .ok (.bool (same x y)) w := by
  unfold same
  go_simp
  by_cases h : x = y
  · subst h; simp
  · rw [decide_eq_false h]
    repeat' split
    all_goals first | rfl | exact absurd (spn_ext ‹_› ‹_› ‹_› ‹_› ‹_› ‹_› ‹_› ‹_› ‹_›) h
theorem neq_spn (x y : Spn) (w : World) : (binOp .neq 48 (spnV x) (spnV y)).run Tryz.prog w = .ok (.bool (!same x y)) w := by
  unfold same
  go_simp
  by_cases h : x = y
  · subst h; simp
  · rw [decide_eq_false h]
    repeat' split
    all_goals first | rfl | exact absurd (spn_ext ‹_› ‹_› ‹_› ‹_› ‹_› ‹_› ‹_› ‹_› ‹_›) h
attribute [local go_sem high] eql_spn neq_spn
attribute [local irreducible] Calls CallsIn Code.wp Code.wpIn
/-- where in a list a span first stands, or -1 -/
def indexOf (p : Spn → Bool) (l : List Spn) : Int := match l.findIdx? p with | some i => (i : Int) | none => -1
theorem indexOf_hit {p : Spn → Bool} {l : List Spn} {j : Nat} (hj : j < l.length) (h : p l[j] = true) (hb : ∀ i (hi : i < j), p (l[i]'(Nat.lt_trans hi hj)) = false) : indexOf p l = j := by
  have : l.findIdx? p = some j := by
    rw [List.findIdx?_eq_some_iff_getElem]
    exact ⟨hj, h, fun i hi => by rw [hb i hi]; simp⟩
  unfold indexOf; rw [this]
theorem indexOf_miss {p : Spn → Bool} {l : List Spn} (hb : ∀ i (hi : i < l.length), p l[i] = false) : indexOf p l = -1 := by
  have : l.findIdx? p = none := by
    rw [List.findIdx?_eq_none_iff]
    intro x hx
    obtain ⟨i, hi, rfl⟩ := List.getElem_of_mem hx
    exact hb i hi
  unfold indexOf; rw [this]
/-- is a span among them? -/
def has (l : List Spn) (x : Spn) : Bool := l.any fun y => same x y
theorem indexOf_nonneg (p : Spn → Bool) (l : List Spn) : decide (0 ≤ indexOf p l) = l.any p := by
  unfold indexOf
  cases h : l.findIdx? p with
  | none =>
    rw [List.findIdx?_eq_none_iff] at h
    have : l.any p = false := by rw [List.any_eq_false]; intro x hx; rw [h x hx]; simp
    rw [this]; rfl
  | some i =>
    have : l.any p = true := by
      rw [List.findIdx?_eq_some_iff_getElem] at h
      obtain ⟨hi, hp, _⟩ := h
      exact List.any_eq_true.2 ⟨_, List.getElem_mem hi, hp⟩
    rw [this]; exact decide_eq_true (Int.natCast_nonneg i)
theorem list_ne {l m : List Spn} (hl : l.length = m.length) {j : Nat} (h1 : j < l.length) (h2 : j < m.length) (h : same l[j] m[j] = false) : decide (l = m) = false := by
  rw [decide_eq_false_iff_not]
  rintro rfl
  unfold same at h; simp at h
theorem list_eq {l m : List Spn} (hl : l.length = m.length) (h : ∀ i (h1 : i < l.length) (h2 : i < m.length), same l[i] m[i] = true) : decide (l = m) = true := by
  rw [decide_eq_true_iff]
  exact List.ext_getElem hl fun i h1 h2 => of_decide_eq_true (h i h1 h2)
theorem _root_.Go.Vc.SpnsAt.at {w : World} {a : Option Addr} {n cap : Nat} {l : List Spn} (h : SpnsAt w (.slice a n cap) l) {j : Nat} (hj : j < l.length) : ∃ g o, a = some ⟨g, o, none⟩ ∧ ∀ i (hi : i < l.length), C9 w g (o + i * 9) l[i] := by
  obtain ⟨a1, cap1, e1, _, h0, hc⟩ := h
  injection e1 with e1 _ _
  subst e1
  cases a with
  | none => rw [h0 rfl] at hj; exact absurd hj (Nat.not_lt_zero _)
  | some ad =>
    obtain ⟨g, o, s⟩ := ad
    obtain ⟨hs0, hi⟩ := hc g o s rfl
    obtain rfl := hs0 (ne_nil_of_lt hj)
    exact ⟨g, o, rfl, hi⟩
end Go.Proofs.YtdonmmjikcbihaaGreatDoor
