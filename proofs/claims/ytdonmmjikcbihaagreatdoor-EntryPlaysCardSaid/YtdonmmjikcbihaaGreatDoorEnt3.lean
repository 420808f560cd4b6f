/- Package entry: all entries. -/
import Derived.Test.YtdonmmjikcbihaaGreatDoorEntR
import Derived.Test.YtdonmmjikcbihaaGreatDoorEnt2
namespace Go.Proofs.YtdonmmjikcbihaaGreatDoor
open Go.RowKit Go.Proofs Go.Vc
attribute [local go_sem] Oper.semAt_some
attribute [local irreducible] Calls CallsIn Code.wp Code.wpIn
theorem efrom_i (b : Nat) (fk : ByteArray) (w : World) : Calls Tryz.prog 27 #[.pointer (some ⟨b, 0, none⟩), .string fk] w fun e w' =>
    e = .returned (.func (.func 72) #[] #[.pointer (some ⟨w.heap.size, 0, none⟩), .pointer (some ⟨w.heap.size + 1, 0, none⟩)]) ∧ w' = (w.alloc (.cells #[.pointer (some ⟨b, 0, none⟩)] 88)).alloc (.cells #[.string fk] 9) := by
  go_enter Tryz.func27, Tryz.ntmps27
  go_wp2_with fail
  refine (from_si _ _ _).mono ?_
  rintro e9 w1 ⟨rfl, hw⟩
  have HW := Lib.hid hw
  clear hw
  go_wp2_with fail
  go_ret
  exact ⟨rfl, HW.out⟩
theorem efromnil_i (fk : ByteArray) (w : World) : Calls Tryz.prog 27 #[.pointer none, .string fk] w fun e w' =>
    e = .returned (.func (.func 70) #[] #[.pointer (some ⟨w.heap.size, 0, none⟩)]) ∧ w' = w.alloc (.cells #[.pointer none] 88) := by
  go_enter Tryz.func27, Tryz.ntmps27
  go_wp2_with fail
  refine (all_si _ _).mono ?_
  rintro e9 w1 ⟨rfl, hw⟩
  have HW := Lib.hid hw
  clear hw
  go_wp2_with fail
  go_ret
  exact ⟨rfl, HW.out⟩
theorem allocs4 (w : World) (a b c d : Obj) {w1 : World} (h : w1 = (((w.alloc a).alloc b).alloc c).alloc d) : Ext w w1 ∧ w1.heap[w.heap.size]? = some a ∧ w1.heap[w.heap.size + 1]? = some b ∧ w1.heap[w.heap.size + 2]? = some c ∧ w1.heap[w.heap.size + 3]? = some d ∧ w1.heap.size = w.heap.size + 4 := by
  subst h
  have hs : ∀ (w : World) o, (w.alloc o).heap.size = w.heap.size + 1 := fun w o => by show (w.heap.push _).size = _; rw [Array.size_push]
  have e : ∀ (w : World) o, Ext w (w.alloc o) := fun w o => (Keeps.refl _ w).alloc _
  have g : ∀ (w : World) o i x, w.heap[i]? = some x → (w.alloc o).heap[i]? = some x := fun w o i x h => (Ext.same (e w o) (lt_of_heap h)).trans h
  have n1 : ∀ (w : World) o, (w.alloc o).heap[w.heap.size]? = some o := fun w o => World.alloc_heap_new w o
  refine ⟨((((Keeps.refl _ w).alloc _).alloc _).alloc _).alloc _, g _ _ _ _ (g _ _ _ _ (g _ _ _ _ (n1 w a))), g _ _ _ _ (g _ _ _ _ ?_), g _ _ _ _ ?_, ?_, by simp only [hs]⟩
  · have := n1 (w.alloc a) b; rwa [hs] at this
  · have := n1 ((w.alloc a).alloc b) c; rwa [hs, hs] at this
  · have := n1 (((w.alloc a).alloc b).alloc c) d; rwa [hs, hs, hs] at this
/-- the beginning that was last -/
def wasOf (E : List Ent) : ByteArray := match E.getLast? with | some e => efirst e.sv e.op | none => ⟨#[]⟩
theorem efirst_inj {s o s' o' : ByteArray} (h1 : named s = true) (h2 : named o = true) (h3 : named s' = true) (h4 : named o' = true) (h : efirst s o = efirst s' o') : s = s' ∧ o = o' := by
  have := tkey_inj (p := (s, o, 0)) (q := (s', o', 0)) ⟨h1, h2, show I64 0 from by decide⟩ ⟨h3, h4, show I64 0 from by decide⟩ (by unfold tkey; dsimp only; rw [h])
  simp only [Prod.mk.injEq] at this
  exact ⟨this.1, this.2.1⟩
theorem entStep_same (E : List Ent) (e : Ent) (t : Int) : entStep (E ++ [e]) (e.sv, e.op, t) = E ++ [{ e with tr := e.tr ++ [t] }] := by
  unfold entStep
  rw [List.getLast?_concat]
  dsimp only
  rw [if_pos ⟨rfl, rfl⟩, List.dropLast_concat]
theorem entStep_new (E : List Ent) (s o : ByteArray) (t : Int) (h : ∀ e, E.getLast? = some e → ¬ (e.sv = s ∧ e.op = o)) : entStep E (s, o, t) = E ++ [⟨s, o, [t]⟩] := by
  unfold entStep
  cases hE : E.getLast? with
  | none =>
    have : E = [] := by simpa using hE
    subst this; rfl
  | some e => dsimp only; rw [if_neg (h e hE)]
theorem entStep_len (E : List Ent) (q : ByteArray × ByteArray × Int) : (entStep E q).length ≤ E.length + 1 := by
  unfold entStep
  cases hE : E.getLast? with
  | none => simp
  | some e =>
    dsimp only
    split
    · have : E ≠ [] := fun h0 => by rw [h0] at hE; cases hE
      have := List.length_pos_iff.2 this
      rw [List.length_append, List.length_dropLast, List.length_singleton]; omega
    · simp
theorem entsOf_len : ∀ l : List (ByteArray × ByteArray × Int), (entsOf l).length ≤ l.length := by
  unfold entsOf
  have : ∀ (l : List (ByteArray × ByteArray × Int)) (E : List Ent), (l.foldl entStep E).length ≤ E.length + l.length := by
    intro l
    induction l with
    | nil => exact fun E => Nat.le_refl _
    | cons q l ih => intro E; have := ih (entStep E q); have := entStep_len E q; simp only [List.foldl_cons, List.length_cons]; omega
  exact fun l => by simpa using this l []
theorem entStep_tr {N : Nat} (E : List Ent) (q : ByteArray × ByteArray × Int) (h : ∀ e ∈ E, e.tr.length ≤ N) : ∀ e ∈ entStep E q, e.tr.length ≤ N + 1 := by
  intro e he
  unfold entStep at he
  cases hE : E.getLast? with
  | none => rw [hE] at he; dsimp only at he; rw [List.mem_singleton] at he; subst he; simp
  | some d =>
    rw [hE] at he
    dsimp only at he
    have hd : d ∈ E := List.mem_of_getLast? hE
    split at he
    · rw [List.mem_append, List.mem_singleton] at he
      rcases he with he | rfl
      · exact Nat.le_succ_of_le (h e ((List.dropLast_sublist E).subset he))
      · have := h d hd; simp; omega
    · rw [List.mem_append, List.mem_singleton] at he
      rcases he with he | rfl
      · exact Nat.le_succ_of_le (h e he)
      · simp
theorem entsOf_tr : ∀ l : List (ByteArray × ByteArray × Int), ∀ e ∈ entsOf l, e.tr.length ≤ l.length := by
  unfold entsOf
  have : ∀ (l : List (ByteArray × ByteArray × Int)) (E : List Ent) (N : Nat), (∀ e ∈ E, e.tr.length ≤ N) → ∀ e ∈ l.foldl entStep E, e.tr.length ≤ N + l.length := by
    intro l
    induction l with
    | nil => exact fun E N h => h
    | cons q l ih => intro E N h e he; have := ih (entStep E q) (N + 1) (entStep_tr E q h) e he; simp only [List.length_cons]; omega
  intro l e he
  have := this l [] 0 (fun _ h => nomatch h) e he
  simpa using this
theorem reads_one (W : World) (t : Int) : intE.Reads (W.alloc (.cells #[.int .i64 t] 3)) (.slice (some ⟨W.heap.size, 0, none⟩) 1 1) [t] := Ek.reads_new intE W t _ _ rfl
theorem reads_ent (W : World) (s o : ByteArray) : entE.Reads (W.alloc (.cells #[.string s, .string o, .slice none 0 0] 46)) (.slice (some ⟨W.heap.size, 0, none⟩) 1 1) [(s, o, (none, 0, 0))] := Ek.reads_new entE W _ _ _ rfl
/-- the state ahead of a round's last two statements -/
structure Tail (n : Nat) (s o : ByteArray) (t : Int) (R : List Ent) (g cap : Nat) (l' : List (ByteArray × ByteArray × Sl)) (x : ByteArray × ByteArray × Sl) (E' : List Ent) (e : Ent) (W : World) : Prop where
  out : W.heap[n]? = some (.cells #[.slice (some ⟨g, 0, none⟩) (l'.length + 1) cap] 38 (0, 0))
  was : W.heap[n + 1]? = some (.cells #[.string (efirst s o)] 9 (0, 0))
  rows : EntRows (n + 4) (.slice (some ⟨g, 0, none⟩) (l'.length + 1) cap) (l' ++ [x]) (E' ++ [e]) W
  sv : e.sv = s
  op : e.op = o
  step : R = E' ++ [{ e with tr := e.tr ++ [t] }]
theorem Tail.done {n : Nat} {s o : ByteArray} {t : Int} {R : List Ent} {g cap : Nat} {l' : List (ByteArray × ByteArray × Sl)} {x : ByteArray × ByteArray × Sl} {E' : List Ent} {e : Ent} {W W' : World} {u : Sl} (T : Tail n s o t R g cap l' x E' e W)
    (hx : intE.Own (n + 4) (slV x.2.2) e.tr W) (hown : intE.Own (n + 4) (slV u) (e.tr ++ [t]) W') (hgrow : Keeps (fun b => (slV x.2.2).ownBlock = some b) (W.alloc (.cells #[.int .i64 t] 3)) W')
    (hblk : (slV u).ownBlock = (slV x.2.2).ownBlock ∨ (slV u).ownBlock = some (W.heap.size + 1)) {b2 b3 : Obj} (h2 : W.heap[n + 2]? = some b2) (h3 : W.heap[n + 3]? = some b3) {Wf : World} (hWf : Wf = W'.setCell ⟨g, l'.length * 3 + 2, none⟩ (slV u)) :
    Mut n W Wf ∧ Wf.heap[n]? = some (.cells #[.slice (some ⟨g, 0, none⟩) (l'.length + 1) cap] 38 (0, 0)) ∧ Wf.heap[n + 1]? = some (.cells #[.string (wasOf R)] 9 (0, 0)) ∧ Wf.heap[n + 2]? = some b2 ∧ Wf.heap[n + 3]? = some b3 ∧
      EntRows (n + 4) (.slice (some ⟨g, 0, none⟩) (l'.length + 1) cap) (l' ++ [(x.1, x.2.1, u)]) R Wf := by
  have hEal : Ext W (W.alloc (.cells #[.int .i64 t] 3)) := (Keeps.refl _ W).alloc _
  have hg := T.rows.row.lt entE (g := g) rfl
  have hnx : ¬ (slV x.2.2).ownBlock = some g := fun hc => kinds_apart T.rows.row hx (g := g) rfl hc
  have hk : Keeps (fun b => (slV x.2.2).ownBlock = some b) W W' := ⟨Nat.le_trans hEal.size hgrow.size, fun i hi hf => (hgrow.same i (Nat.lt_of_lt_of_le hi hEal.size) hf).trans (Ext.same hEal hi), (hEal.ost).trans hgrow.ost⟩
  have hM := (Mut.of_ext (n := n) hEal).own intE (hx.ext intE hEal) (by omega) hgrow
  obtain ⟨c, f, hgc⟩ := T.rows.row.kind entE (g := g) rfl
  have hgw : W'.heap[g]? = some (.cells c entE.e f) := (hk.same g hg.2 hnx).trans hgc
  have hs : ∀ i b, W.heap[i]? = some b → i < n + 4 → Wf.heap[i]? = some b := fun i b hb hi => by
    rw [hWf, heap_set_other _ _ _ _ _ (by omega), hk.same i (lt_of_heap hb) (fun hf => by have := (hx.lt intE hf).1; omega)]; exact hb
  refine ⟨hM.cell hgw (by omega) _ _ hWf, hs _ _ T.out (by omega), ?_, hs _ _ h2 (by omega), hs _ _ h3 (by omega), ?_⟩
  · have hw : wasOf R = efirst s o := by
      unfold wasOf
      rw [T.step, List.getLast?_concat]
      dsimp only
      rw [T.sv, T.op]
    rw [hw]; exact hs _ _ T.was (by omega)
  · rw [T.step, hWf]
    exact T.rows.last hown hk (hblk.imp id fun h => ⟨_, h, by omega⟩)
/-- what All leaves -/
def AllPost (E : List Ent) (w : World) (e : Ending) (w' : World) : Prop := ∃ v, e = .returned v ∧ EntsAt w' v E ∧ Ext w w'
theorem since_all (m : List (ByteArray × Int)) : sinceL cmpS ⟨#[]⟩ m = m := by
  refine List.filter_eq_self.2 fun y _ => ?_
  have : ∀ l : List UInt8, Op.bytesLess l [] = false := fun l => by cases l <;> rfl
  cases h : cmpS y.1 ⟨#[]⟩ with
  | lt => have := cmpS_is_lt.1 h; rw [toList_data ⟨#[]⟩, ‹∀ l : List UInt8, Op.bytesLess l [] = false›] at this; cases this
  | eq => rfl
  | gt => rfl
set_option maxRecDepth 20000 in
theorem evall_i (ty : TypeId) (b : Nat) (m : List (ByteArray × Int)) (S : Nat → Prop) (w : World) (qs : List (ByteArray × ByteArray × Int)) (mx : Int) (h : LMapsi ty b 0 m S w) (hq : m.map (·.1) = qs.map tkey) (hg : ∀ q ∈ qs, Goodk q) (hup : qs.Pairwise tlt) (hl : qs.length ≤ 100000)
    (hm : w.cell? ⟨0, 0, none⟩ = some (.int .i64 mx)) : Calls Tryz.prog 12 #[.pointer (some ⟨b, 0, none⟩)] w (AllPost (entsOf qs) w) := by
  refine calls_of_marks Tryz.func12 rfl ?_
  simp only [Tryz.ntmps12, List.size_toArray, List.length_cons, List.length_nil, Nat.reduceAdd, Nat.reduceSub, Array.replicate_succ,
     Array.replicate_zero, List.push_toArray, List.append_toArray, List.nil_append, List.cons_append]
  gi_wp2_with fail
  refine callsIn_wide.2 ((efrom_i b _ _).mono ?_)
  rintro e9 w1 ⟨rfl, hw1⟩
  gi_wp2_with fail
  obtain ⟨c0, tr, hM, htl, hri, hS⟩ := h
  obtain ⟨n, hn⟩ : ∃ n, n = w.heap.size := ⟨_, rfl⟩
  obtain ⟨hE1, h0, h1, h2, h3, hs1⟩ := allocs4 w _ _ _ _ hw1
  rw [← hw1, ← hn]
  rw [← hn] at h0 h1 h2 h3 hs1
  clear hw1
  have hseq : Seq Tryz.prog 72 #[.pointer (some ⟨n + 2, 0, none⟩), .pointer (some ⟨n + 3, 0, none⟩)] (m.map encsi)
      (fun W => W.cell? ⟨n + 2, 0, none⟩ = some (.pointer (some ⟨b, 0, none⟩)) ∧ W.cell? ⟨n + 3, 0, none⟩ = some (.string ⟨#[]⟩) ∧ W.cell? ⟨b, 0, none⟩ = some (.pointer tr.ptr) ∧ At Ssi W tr) := by
    have t18 := seqfrom_si tr ⟨#[]⟩ (n + 2) (n + 3) b 0
    rw [T.since_toList order_S _ _ (by rw [htl]; exact hri), htl, since_all] at t18
    exact t18
  have hlen : m.length = qs.length := by have t20 := congrArg List.length hq; simpa using t20
  have hcan : ∀ k, Canon (entsOf (qs.take k)) fun s' o' t' => (s', o', t') ∈ qs.take k := fun k => entsOf_canon _ (List.Pairwise.take hup)
  refine range_loop (gf := 72) (lb := #[.pointer (some ⟨n + 2, 0, none⟩), .pointer (some ⟨n + 3, 0, none⟩)]) (xs := m.map encsi) (by simp [Act.eval]) (enters_of Tryz.func72 (by kernel_rfl) rfl) (by intro x hx; simp [encsi] at hx; obtain ⟨_, _, _, rfl⟩ := hx; rfl) hseq
    (fun k W => ∃ v l, W.heap[n]? = some (.cells #[v] 38 (0, 0)) ∧ W.heap[n + 1]? = some (.cells #[.string (wasOf (entsOf (qs.take k)))] 9 (0, 0)) ∧ W.heap[n + 2]? = some (.cells #[.pointer (some ⟨b, 0, none⟩)] 88 (0, 0)) ∧ W.heap[n + 3]? = some (.cells #[.string ⟨#[]⟩] 9 (0, 0)) ∧ EntRows (n + 4) v l (entsOf (qs.take k)) W ∧ Ext w W)
    (fun _ _ _ => False) ?_ (fun _ _ _ _ h => h.elim) ?_ ?_ ?_ ?_ (fun _ _ _ _ _ _ h => h.elim)
  · rintro k W W' ⟨v, l, i0, i1, i2, i3, i4, i5⟩ hbk
    exact ⟨v, l, hbk.same _ _ i0 (.inr rfl), hbk.same _ _ i1 (.inr rfl), hbk.same _ _ i2 (.inr rfl), hbk.same _ _ i3 (.inr rfl), i4.bk hbk, ext_bk i5 hbk (by omega)⟩
  · rintro k W ⟨v, l, i0, i1, i2, i3, i4, i5⟩
    exact ⟨by rw [blk_cell i2]; rfl, by rw [blk_cell i3]; rfl, (hM.ext i5).cellR, (hM.ext i5).tree⟩
  · exact ⟨_, [], h0, h1, h2, h3, EntRows.nil _ _, hE1⟩
  · rintro lp k hk W ⟨v, l, i0, i1, i2, i3, i4, i5⟩ hWs
    unfold roundStart
    have HN0 := Lib.hid hn
    have hkm : k < m.length := by simpa using hk
    have hkq : k < qs.length := by rw [← hlen]; exact hkm
    obtain ⟨⟨s, o, t⟩, hqk⟩ : ∃ q, q = qs[k] := ⟨_, rfl⟩
    obtain ⟨nv, hnv⟩ : ∃ nv, nv = m[k].2 := ⟨_, rfl⟩
    have hmk : m[k].1 = tkey (s, o, t) := by
      have h1 : (m.map (·.1))[k]'(by simpa using hkm) = (qs.map tkey)[k]'(by simpa using hkq) := by simp only [hq]
      rw [List.getElem_map, List.getElem_map, ← hqk] at h1; exact h1
    have hxk : (m.map encsi)[k] = #[.string (tkey (s, o, t)), .int .i64 nv] := by rw [List.getElem_map, hnv, ← hmk]; rfl
    rw [hxk]
    simp only [List.zip_toArray, List.zip_cons_cons, List.zip_nil_right, List.foldl_toArray, List.foldl_cons, List.foldl_nil, List.setIfInBounds_toArray, List.set_cons_zero, List.set_cons_succ]
    have hgq : Goodk (s, o, t) := by rw [hqk]; exact hg _ (List.getElem_mem hkq)
    have htk : entsOf (qs.take (k + 1)) = entStep (entsOf (qs.take k)) (s, o, t) := by rw [hqk, ← entsOf_snoc, List.take_append_getElem hkq]
    have HV := Lib.hid (And.intro i0 (And.intro i1 (And.intro i2 (And.intro i3 (And.intro i4 i5)))))
    have HK := Lib.hid (And.intro hgq (And.intro htk (And.intro hkq hl)))
    clear i0 i1 i2 i3 i4 i5 hxk hmk hnv hgq htk hk hkm
    gi_wp2_with fail
    refine ⟨KeepsFrom.of_ext (Keeps.refl _ _), fun W2 hbk hsz2 => ?_⟩
    obtain ⟨E, hE⟩ : ∃ E, E = entsOf (qs.take k) := ⟨_, rfl⟩
    have hCE : Canon E fun s' o' t' => (s', o', t') ∈ qs.take k := by rw [hE]; exact hcan k
    rw [← hE] at HV HK
    have HI := Lib.hid (And.intro (hbk.same _ _ HV.out.1 (.inr rfl)) (And.intro (hbk.same _ _ HV.out.2.1 (.inr rfl)) (And.intro (hbk.same _ _ HV.out.2.2.1 (.inr rfl)) (And.intro (hbk.same _ _ HV.out.2.2.2.1 (.inr rfl)) (And.intro (HV.out.2.2.2.2.1.bk hbk) (ext_bk HV.out.2.2.2.2.2 hbk (by omega)))))))
    clear hn
    have hgE : ∀ e ∈ E, named e.sv = true ∧ named e.op = true := fun e he => by
      obtain ⟨x, hx⟩ := List.exists_mem_of_ne_nil _ (hCE.ne e he)
      have t58 := hg _ (List.mem_of_mem_take ((hCE.mem e.sv e.op x).1 ⟨e, he, rfl, rfl, hx⟩))
      exact ⟨t58.1, t58.2.1⟩
    obtain ⟨ws, hws⟩ : ∃ ws, ws = wasOf E := ⟨_, rfl⟩
    rw [← hws] at HI
    have HW := Lib.hid (And.intro hws (And.intro hgE hCE))
    have HS := Lib.hid (And.intro hs1 (And.intro hWs hsz2))
    have HKE := Lib.hid hE
    clear HV hbk hE hws hgE hCE hs1 hWs hsz2
    have hsz : s.size ≤ 1000 := by have t65 := named_size HK.out.1.1; dsimp only at t65; omega
    have hoz : o.size ≤ 1000 := by have t66 := named_size HK.out.1.2.1; dsimp only at t66; omega
    clear hcan h0 h1 h2 h3 hE1 hM hS hri hseq hq hg hlen htl hqk hl
    gi_wp2_with fail
    refine (callsIn_wide.2 ((esplit_i s o t hsz hoz HK.out.1.2.2 _).mono ?_)).inRound lp
    rintro e9 W3 ⟨rfl, hE3⟩
    have HE3 := Lib.hid (And.intro (HI.out.2.2.2.2.2.trans hE3) (And.intro (HI.out.2.2.2.2.1.ext hE3) hE3))
    have hw3 := blk_cell ((Ext.same hE3 (lt_of_heap HI.out.2.1)).trans HI.out.2.1)
    have ho3 := blk_cell ((Ext.same hE3 (lt_of_heap HI.out.1)).trans HI.out.1)
    clear hE3
    have HN1 := Lib.hid (show l.length + 1 ≤ 100001 ∧ ∀ e ∈ E, e.tr.length ≤ 100000 from by
      have h1 := HI.out.2.2.2.2.1.len
      have h2 := entsOf_len (qs.take k)
      have h3 := entsOf_tr (qs.take k)
      rw [← HKE.out] at h2 h3
      rw [List.length_take] at h2 h3
      have t81 := HK.out.2.2
      exact ⟨by omega, fun e he => by have t82 := h3 e he; omega⟩)
    by_cases hc : efirst s o = ws
    · have hcb : ((efirst s o).toList == ws.toList) = true := by rw [hc]; simp
      have HC := Lib.hid hc
      clear hc
      obtain ⟨E', e, hEe, hsv, hop⟩ : ∃ E' e, E = E' ++ [e] ∧ e.sv = s ∧ e.op = o := by
        have hw := HW.out.1
        rw [← HC.out] at hw
        unfold wasOf at hw
        cases hgl : E.getLast? with
        | none => rw [hgl] at hw; have t92 := congrArg ByteArray.size hw; rw [efirst_size] at t92; exact absurd t92 (by show ¬ _ = 0; omega)
        | some e =>
          rw [hgl] at hw
          have hmem : e ∈ E := List.mem_of_getLast? hgl
          have hq := HW.out.2.1 e hmem
          have hi := efirst_inj HK.out.1.1 HK.out.1.2.1 hq.1 hq.2 hw
          have hne : E ≠ [] := fun h0 => by rw [h0] at hgl; cases hgl
          rw [List.getLast?_eq_some_getLast hne] at hgl
          injection hgl with hgl
          exact ⟨E.dropLast, e, by rw [← hgl]; exact (List.dropLast_concat_getLast hne).symm, hi.1.symm, hi.2.symm⟩
      obtain ⟨l', x, hlx⟩ : ∃ l' x, l = l' ++ [x] := by
        have hl := HI.out.2.2.2.2.1.len
        have hne : l ≠ [] := fun h0 => by rw [h0, hEe] at hl; simp at hl
        exact ⟨l.dropLast, l.getLast hne, (List.dropLast_concat_getLast hne).symm⟩
      subst hlx
      obtain ⟨g, cap, hv⟩ : ∃ g cap, v = .slice (some ⟨g, 0, none⟩) (l'.length + 1) cap := by
        rcases HI.out.2.2.2.2.1.row.form entE with hf | ⟨g, cap, hf, _⟩
        · obtain ⟨a', c', e', h0, _⟩ := HI.out.2.2.2.2.1.row.slice entE
          rw [hf] at e'; injection e' with e1 _ _
          exact absurd (h0 e1.symm) (by simp)
        · exact ⟨g, cap, by rw [hf]; simp⟩
      subst hv
      have HT := Lib.hid (show Tail n s o t (entStep E (s, o, t)) g cap l' x E' e W3 from by
        refine ⟨(Ext.same HE3.out.2.2 (lt_of_heap HI.out.1)).trans HI.out.1, ((Ext.same HE3.out.2.2 (lt_of_heap HI.out.2.1)).trans HI.out.2.1).trans (by rw [HC.out]), ?_, hsv, hop, ?_⟩
        · rw [← hEe]; exact HE3.out.2.1
        · rw [hEe, ← hsv, ← hop]; exact entStep_same E' e t)
      have hN1 : (l'.length : Int) + 1 ≤ 100001 := by have t118 := HN1.out.1; rw [List.length_append, List.length_singleton] at t118; omega
      have HBX := Lib.hid (And.intro ((Ext.same HE3.out.2.2 (lt_of_heap HI.out.2.2.1)).trans HI.out.2.2.1) ((Ext.same HE3.out.2.2 (lt_of_heap HI.out.2.2.2.1)).trans HI.out.2.2.2.1))
      have HM := Lib.hid (show Mut n W2 W3 from Mut.of_ext HE3.out.2.2)
      obtain ⟨N1, hN⟩ : ∃ N1, N1 = l'.length := ⟨_, rfl⟩
      rw [← hN] at hN1 ho3
      have HNN := Lib.hid hN
      have HEM := Lib.hid (show e.tr.length ≤ 100000 from HN1.out.2 e (by rw [hEe]; simp))
      clear hN
      have hcx := HT.out.rows.row.reads entE (by rw [List.length_append, List.length_singleton, ← HNN.out]; omega)
      have hcx2 := hcx.elem entE l'.length 2 (by simp) (by decide)
      have hlx : W3.cell? ⟨g, N1 * 3 + 2, none⟩ = some (slV x.2.2) := by
        rw [HNN.out]
        rw [List.getElem_append_right (Nat.le_refl _)] at hcx2
        simpa [entE] using hcx2
      clear hcx hcx2
      have hxo : intE.Own (n + 4) (slV x.2.2) e.tr W3 := by
        have h := HT.out.rows.tr l'.length (by simp) (by have t134 := HT.out.rows.len; simp at t134 ⊢; omega)
        have hle : l'.length = E'.length := by have t135 := HT.out.rows.len; simpa using t135
        rw [List.getElem_append_right (Nat.le_refl _), List.getElem_append_right (by rw [hle]; exact Nat.le_refl _)] at h
        simpa [hle] using h
      have HXO := Lib.hid hxo
      clear hxo
      gi_wp2_with (gi_at_builtin; refine intE.app rfl _ _ rfl (n + 4) (slV x.2.2) e.tr [t] rfl (HXO.out.ext intE ((Keeps.refl _ _).alloc _)) (reads_one _ _) ?c1 ?c2 ?_)
      case c1 => have t141 := HEM.out; simp; omega
      case c2 =>
        have h8 := HT.out.rows.row.lt entE (g := g) rfl
        have h7 := ((Keeps.refl Non W3).alloc (.cells #[.int .i64 t] 3)).size
        omega
      intro v9 w9 hown' hgrow _ hblk
      have hEal : Ext W3 (W3.alloc (.cells #[.int .i64 t] 3)) := (Keeps.refl _ W3).alloc _
      obtain ⟨cap2, cur, hgc, hcs⟩ : ∃ cap2 cur, W3.heap[g]? = some (.cells cur entE.e (0, 0)) ∧ cur.size = cap2 * 3 ∧ N1 + 1 ≤ cap2 := by
        rcases HT.out.rows.row.2 with ⟨hh, _⟩ | ⟨g', cap', cur, hh, hb, hg, r1, r2, r3, r4⟩
        · cases hh
        · injection hh with hh hh2 hh3
          injection hh with hh
          injection hh with hh
          subst hh
          refine ⟨cap', cur, hg, r3, ?_⟩
          rw [List.length_append, List.length_singleton, ← HNN.out] at r1; exact r1
      have hnx : ¬ (slV x.2.2).ownBlock = some g := fun hc => kinds_apart HT.out.rows.row HXO.out (g := g) rfl hc
      have hgw : w9.heap[g]? = some (.cells cur entE.e (0, 0)) := (hgrow.same g (Nat.lt_of_lt_of_le (lt_of_heap hgc) hEal.size) hnx).trans ((Ext.same hEal (lt_of_heap hgc)).trans hgc)
      have hcw := blk_cell hgw
      have hzw := blk_free hgw
      have hcur : N1 * 3 + 2 < cur.size := by omega
      have hlw := lt_of_heap hgw
      obtain ⟨d, hd⟩ : ∃ d, w9.cell? ⟨g, N1 * 3 + 2, none⟩ = some d := ⟨_, by rw [hcw]; exact Array.getElem?_eq_getElem hcur⟩
      clear hcw hcur hcs
      obtain ⟨a', c', hva, _, _⟩ := hown'.slice intE
      have HO := Lib.hid (And.intro hown' (And.intro hgrow (And.intro hblk (And.intro hgw hva))))
      clear hown' hgrow hblk hgc hgw hnx hEal hlx ho3 hw3
      gi_wp2_with fail
      have hD := HT.out.done (u := (a', e.tr.length + 1, c')) HXO.out (by have t169 := HO.out.1; rw [HO.out.2.2.2.2, List.length_append, List.length_singleton] at t169; exact t169) HO.out.2.1 (by have t169 := HO.out.2.2.1; rw [HO.out.2.2.2.2, List.length_append, List.length_singleton] at t169; exact t169)
        HBX.out.1 HBX.out.2 rfl
      rw [← HNN.out, ← HK.out.2.1] at hD
      exact ⟨(HM.out.trans hD.1).toFrom, _, _, hD.2.1, hD.2.2.1, hD.2.2.2.1, hD.2.2.2.2.1, hD.2.2.2.2.2, (HM.out.trans hD.1).toExt HI.out.2.2.2.2.2 (by rw [HN0.out]; exact Nat.le_refl _)⟩
    · have hcb : ((efirst s o).toList == ws.toList) = false := by
        rw [beq_eq_false_iff_ne]; exact fun e => hc (bytes_ext e)
      have HC := Lib.hid hc
      clear hc
      have hm3 : W3.cell? ⟨0, 0, none⟩ = some (.int .i64 mx) := (Ext.cells HE3.out.1 0 0 (by rw [hm]; rfl)).trans hm
      have hfz : (efirst s o).size < 4294967281 := by rw [efirst_size]; omega
      obtain ⟨hc2, hsp⟩ := split_first s o (named_nz HK.out.1.1) (named_nz HK.out.1.2.1)
      have HSP := Lib.hid (And.intro hc2 hsp)
      clear hc2 hsp
      gi_wp2_with fail
      refine (callsIn_wide.2 ((Tryz.strings_Split (efirst s o) nul mx _ hfz hm3 (by decide)).mono ?_)).inRound lp
      rintro e9 W4 ⟨rfl, hW4⟩
      rw [HSP.out.1, HSP.out.2] at hW4
      rw [HSP.out.1]
      obtain ⟨p, hp⟩ : ∃ p, p = W3.heap.size := ⟨_, rfl⟩
      have hE4 : Ext W3 W4 := by rw [hW4]; exact (Keeps.refl _ _).alloc _
      have hN4 : W4.heap[p]? = some (.cells #[.string s, .string o, .string ByteArray.empty] 9 (0, 0)) := by rw [hW4, hp]; exact World.alloc_heap_new W3 _
      rw [← hp]
      clear hW4 hm3 hfz
      have ho4 := blk_cell ((Ext.same hE4 (lt_of_heap ((Ext.same HE3.out.2.2 (lt_of_heap HI.out.1)).trans HI.out.1))).trans ((Ext.same HE3.out.2.2 (lt_of_heap HI.out.1)).trans HI.out.1))
      have hp4 := blk_cell hN4
      have H4 := Lib.hid (And.intro (HE3.out.2.2.trans hE4) (And.intro hN4 hp))
      have H4x := Lib.hid hE4
      clear hE4 hN4 hp hw3 ho3
      gi_wp2_with fail
      refine wpIn_drawE (fun _ => trivial) (way [0, 1, 2, 3, 4, 5, 6, 7, 8, 9, 10]) (by kernel_rfl) (by kernel_rfl) (fun W5 hh hd hf hS => ?_)
      have ho5 := blk_cell ((Ext.same hS (lt_of_heap ((Ext.same H4.out.1 (lt_of_heap HI.out.1)).trans HI.out.1))).trans ((Ext.same H4.out.1 (lt_of_heap HI.out.1)).trans HI.out.1))
      have hp5 := blk_cell ((Ext.same hS (lt_of_heap H4.out.2.1)).trans H4.out.2.1)
      have HR5 := Lib.hid (HE3.out.2.1.ext (H4x.out.trans hS))
      have HS5 := Lib.hid (H4.out.1.trans hS)
      clear hh hd hf
      simp only [way]
      gi_wp2_with (first | (refine Ek.hl_app entE rfl rfl rfl _ _ rfl (n + 4) v l [(s, o, (none, 0, 0))] rfl (HR5.out.row.ext entE ((Keeps.refl _ _).alloc _)) (reads_ent _ _ _) ?c1 ?c2 ?_) | (refine' hl_q rfl rfl rfl (fun _ => ?_) ?_; rotate_left; (go_simp <;> (try go_bits) <;> rfl); (try simp only [Act.put, List.setIfInBounds_toArray, List.set_cons_zero, List.set_cons_succ])) | (refine' hl_rS rfl rfl rfl hS ?_ ?_; rotate_left; (intro w9 hS9; (first | have hc9 := Ext.cells hS9 | have hc9 := Keeps.cells hS9); (go_simp <;> rfl)); (try simp only [Act.put, List.setIfInBounds_toArray, List.set_cons_zero, List.set_cons_succ])) | (refine' hl_r rfl rfl rfl ?_ ?_; rotate_left; (rintro w9 (rfl | hS9); (go_simp <;> rfl); (first | have hc9 := Ext.cells hS9 | have hc9 := Keeps.cells hS9 | (try dsimp only at hS9)); (go_simp <;> rfl)); (try simp only [Act.put, List.setIfInBounds_toArray, List.set_cons_zero, List.set_cons_succ])) | (refine' hl_s rfl rfl ?_; (try simp only [Act.put, List.setIfInBounds_toArray, List.set_cons_zero, List.set_cons_succ])) | (refine hl_e rfl rfl rfl (fun K hK => ?_)) | (with_reducible refine And.intro (fun hn => ?_) ?_; (first | exact hS | exact Keeps.alloc hS _ | exact absurd hn (by rw [show needS _ _ = false from by kernel_rfl]; exact Bool.false_ne_true))) | (refine hl_done ?_) | gi_step)
      case c1 => have t206 := HN1.out.1; simp; omega
      case c2 =>
        have h1 := HS5.out.size
        have h2 := ((Keeps.refl Non W5).alloc (.cells #[.string s, .string o, .slice none 0 0] 46)).size
        have h3 := HS.out
        omega
      intro v6 w6 hown6 hgrow6 _ hblk6
      have hE6 : Ext W5 (W5.alloc (.cells #[.string s, .string o, .slice none 0 0] 46)) := (Keeps.refl _ W5).alloc _
      have hk6 : Keeps (fun b => v.ownBlock = some b) W5 w6 := ⟨Nat.le_trans hE6.size hgrow6.size, fun i hi hf => (hgrow6.same i (Nat.lt_of_lt_of_le hi hE6.size) hf).trans (Ext.same hE6 hi), (hE6.ost).trans hgrow6.ost⟩
      have hb : ∀ i x, W2.heap[i]? = some x → i < n + 4 → w6.heap[i]? = some x := fun i x hx hi => by
        have h5 := (Ext.same HS5.out (lt_of_heap hx)).trans hx
        rw [hk6.same i (lt_of_heap h5) (fun hf => by have t217 := (HR5.out.row.lt entE hf).1; omega)]; exact h5
      have hn6 := hb _ _ HI.out.1 (by omega)
      have hw6 := hb _ _ HI.out.2.1 (by omega)
      have hb2 := hb _ _ HI.out.2.2.1 (by omega)
      have hb3 := hb _ _ HI.out.2.2.2.1 (by omega)
      have hMu6 : Mut n W2 w6 := (Mut.of_ext HS5.out).own entE HR5.out.row (by omega) hk6
      have hR6 := HR5.out.push HW.out.2.2.ne s o hown6 hk6
      obtain ⟨W8, hW8⟩ : ∃ W8, (w6.setCell ⟨n, 0, none⟩ v6).setCell ⟨n + 1, 0, none⟩ (.string (efirst s o)) = W8 := ⟨_, rfl⟩
      have o6 : Only [n] w6 (w6.setCell ⟨n, 0, none⟩ v6) := (Only.refl [n] w6).setCell (by simp) _
      have o7 : Only [n + 1] (w6.setCell ⟨n, 0, none⟩ v6) W8 := by rw [← hW8]; exact (Only.refl [n + 1] _).setCell (by simp) _
      have hn7 : (w6.setCell ⟨n, 0, none⟩ v6).heap[n]? = some (.cells #[v6] 38 (0, 0)) := heap_set hn6 0 v6
      have hw7 := (o6.same (n + 1) (by simp)).trans hw6
      have hn8 := (o7.same n (by simp)).trans hn7
      have hw8 : W8.heap[n + 1]? = some (.cells #[.string (efirst s o)] 9 (0, 0)) := by rw [← hW8]; exact heap_set hw7 0 _
      have hMu8 : Mut n W2 W8 := (hMu6.cell hn6 (Nat.le_refl _) 0 v6 rfl).cell hw7 (by omega) 0 (.string (efirst s o)) hW8.symm
      have k68 : Keeps (fun i => i = n ∨ i = n + 1) w6 W8 := (o6.keeps.mono fun i _ hi => .inl (by simpa using hi)).andThen o7.keeps fun i _ hi => .inr (by simpa using hi)
      have hR8 : EntRows (n + 4) v6 (l ++ [(s, o, (none, 0, 0))]) (E ++ [⟨s, o, []⟩]) W8 :=
        ⟨hR6.row.keeps entE k68 (fun g hg hf => by have t234 := (hR6.row.lt entE hg).1; omega), hR6.len, hR6.nm, fun i h1 h2 => (hR6.tr i h1 h2).keeps intE k68 (fun g hg hf => by have t234 := ((hR6.tr i h1 h2).lt intE hg).1; omega), hR6.ap⟩
      obtain ⟨g, cap, hv6⟩ : ∃ g cap, v6 = .slice (some ⟨g, 0, none⟩) (l.length + 1) cap := by
        rcases hR8.row.form entE with hf | ⟨g, cap, hf, _⟩
        · obtain ⟨a', c', e', h0, _⟩ := hR8.row.slice entE
          rw [hf] at e'; injection e' with e1 _ _
          exact absurd (h0 e1.symm) (by simp)
        · exact ⟨g, cap, by rw [hf]; simp⟩
      subst hv6
      have hst : entStep E (s, o, t) = E ++ [{ (⟨s, o, []⟩ : Ent) with tr := (⟨s, o, []⟩ : Ent).tr ++ [t] }] := entStep_new E s o t (fun e he hc' => HC.out (by
        rw [HW.out.1]; unfold wasOf; rw [he]; dsimp only; rw [hc'.1, hc'.2]))
      have HT := Lib.hid (show Tail n s o t (entStep E (s, o, t)) g cap l (s, o, (none, 0, 0)) E ⟨s, o, []⟩ W8 from ⟨hn8, hw8, hR8, rfl, rfl, hst⟩)
      have hN1 : (l.length : Int) + 1 ≤ 100001 := by have t245 := HN1.out.1; omega
      have ho3 := blk_cell hn8
      have hcn6 := blk_cell hn6
      have hzn6 := blk_free hn6
      have hcw7 := blk_cell hw7
      have hzw7 := blk_free hw7
      have hln6 := lt_of_heap hn6
      have hlw7 := lt_of_heap hw7
      have hB2 := (k68.same (n + 2) (lt_of_heap hb2) (by omega)).trans hb2
      have hB3 := (k68.same (n + 3) (lt_of_heap hb3) (by omega)).trans hb3
      have HBX := Lib.hid (And.intro (hB2) (hB3))
      have HM := Lib.hid (show Mut n W2 W8 from hMu8)
      obtain ⟨N1, hN⟩ : ∃ N1, N1 = l.length := ⟨_, rfl⟩
      rw [← hN] at hN1 ho3
      have HNN := Lib.hid hN
      have HEM := Lib.hid (show (⟨s, o, []⟩ : Ent).tr.length ≤ 100000 from Nat.zero_le _)
      clear hN
      have hcx := HT.out.rows.row.reads entE (by rw [List.length_append, List.length_singleton, ← HNN.out]; omega)
      have hcx2 := hcx.elem entE l.length 2 (by simp) (by decide)
      have hlx : W8.cell? ⟨g, N1 * 3 + 2, none⟩ = some (slV ((s, o, (none, 0, 0)) : ByteArray × ByteArray × Sl).2.2) := by
        rw [HNN.out]
        rw [List.getElem_append_right (Nat.le_refl _)] at hcx2
        simpa [entE] using hcx2
      clear hcx hcx2
      have hxo : intE.Own (n + 4) (slV ((s, o, (none, 0, 0)) : ByteArray × ByteArray × Sl).2.2) (⟨s, o, []⟩ : Ent).tr W8 := by
        have h := HT.out.rows.tr l.length (by simp) (by have t270 := HT.out.rows.len; simp at t270 ⊢; omega)
        have hle : l.length = E.length := by have t271 := HT.out.rows.len; simpa using t271
        rw [List.getElem_append_right (Nat.le_refl _), List.getElem_append_right (by rw [hle]; exact Nat.le_refl _)] at h
        simpa [hle] using h
      have HXO := Lib.hid hxo
      clear hxo
      gi_wp2_with (first | (gi_at_builtin; refine intE.app rfl _ _ rfl (n + 4) (slV ((s, o, (none, 0, 0)) : ByteArray × ByteArray × Sl).2.2) (⟨s, o, []⟩ : Ent).tr [t] rfl (HXO.out.ext intE ((Keeps.refl _ _).alloc _)) (reads_one _ _) ?c1 ?c2 ?_) | (refine' hl_q rfl rfl rfl (fun _ => ?_) ?_; rotate_left; (go_simp <;> (try go_bits) <;> rfl); (try simp only [Act.put, List.setIfInBounds_toArray, List.set_cons_zero, List.set_cons_succ])) | (refine' hl_rS rfl rfl rfl hS ?_ ?_; rotate_left; (intro w9 hS9; (first | have hc9 := Ext.cells hS9 | have hc9 := Keeps.cells hS9); (go_simp <;> rfl)); (try simp only [Act.put, List.setIfInBounds_toArray, List.set_cons_zero, List.set_cons_succ])) | (refine' hl_r rfl rfl rfl ?_ ?_; rotate_left; (rintro w9 (rfl | hS9); (go_simp <;> rfl); (first | have hc9 := Ext.cells hS9 | have hc9 := Keeps.cells hS9 | (try dsimp only at hS9)); (go_simp <;> rfl)); (try simp only [Act.put, List.setIfInBounds_toArray, List.set_cons_zero, List.set_cons_succ])) | (refine' hl_s rfl rfl ?_; (try simp only [Act.put, List.setIfInBounds_toArray, List.set_cons_zero, List.set_cons_succ])) | (refine hl_e rfl rfl rfl (fun K hK => ?_)) | (with_reducible refine And.intro (fun hn => ?_) ?_; (first | exact hS | exact Keeps.alloc hS _ | exact absurd hn (by rw [show needS _ _ = false from by kernel_rfl]; exact Bool.false_ne_true))) | (refine hl_done ?_) | gi_step)
      case c2 =>
        have h8 := HT.out.rows.row.lt entE (g := g) rfl
        have h7 := ((Keeps.refl Non W8).alloc (.cells #[.int .i64 t] 3)).size
        omega
      intro v9 w9 hown' hgrow _ hblk
      have hEal : Ext W8 (W8.alloc (.cells #[.int .i64 t] 3)) := (Keeps.refl _ W8).alloc _
      obtain ⟨cap2, cur, hgc, hcs⟩ : ∃ cap2 cur, W8.heap[g]? = some (.cells cur entE.e (0, 0)) ∧ cur.size = cap2 * 3 ∧ N1 + 1 ≤ cap2 := by
        rcases HT.out.rows.row.2 with ⟨hh, _⟩ | ⟨g', cap', cur, hh, hb, hg, r1, r2, r3, r4⟩
        · cases hh
        · injection hh with hh hh2 hh3
          injection hh with hh
          injection hh with hh
          subst hh
          refine ⟨cap', cur, hg, r3, ?_⟩
          rw [List.length_append, List.length_singleton, ← HNN.out] at r1; exact r1
      have hnx : ¬ (slV ((s, o, (none, 0, 0)) : ByteArray × ByteArray × Sl).2.2).ownBlock = some g := fun hc => kinds_apart HT.out.rows.row HXO.out (g := g) rfl hc
      have hgw : w9.heap[g]? = some (.cells cur entE.e (0, 0)) := (hgrow.same g (Nat.lt_of_lt_of_le (lt_of_heap hgc) hEal.size) hnx).trans ((Ext.same hEal (lt_of_heap hgc)).trans hgc)
      have hcw := blk_cell hgw
      have hzw := blk_free hgw
      have hcur : N1 * 3 + 2 < cur.size := by omega
      have hlw := lt_of_heap hgw
      obtain ⟨d, hd⟩ : ∃ d, w9.cell? ⟨g, N1 * 3 + 2, none⟩ = some d := ⟨_, by rw [hcw]; exact Array.getElem?_eq_getElem hcur⟩
      clear hcw hcur hcs
      obtain ⟨a', c', hva, _, _⟩ := hown'.slice intE
      have HO := Lib.hid (And.intro hown' (And.intro hgrow (And.intro hblk (And.intro hgw hva))))
      clear hown' hgrow hblk hgc hgw hnx hEal hlx ho3 
      gi_wp2_with fail
      have hD := HT.out.done (u := (a', 1, c')) HXO.out (by have h := HO.out.1; rw [HO.out.2.2.2.2] at h; exact h) HO.out.2.1 (by have h := HO.out.2.2.1; rw [HO.out.2.2.2.2] at h; exact h)
        HBX.out.1 HBX.out.2 rfl
      rw [← HNN.out, ← HK.out.2.1] at hD
      exact ⟨(HM.out.trans hD.1).toFrom, _, _, hD.2.1, hD.2.2.1, hD.2.2.2.1, hD.2.2.2.2.1, hD.2.2.2.2.2, (HM.out.trans hD.1).toExt HI.out.2.2.2.2.2 (by rw [HN0.out]; exact Nat.le_refl _)⟩
  · rintro D W hD ⟨v, l, i0, i1, i2, i3, i4, i5⟩ hDh
    have hcv := blk_cell i0
    have hDw : w.heap.size ≤ D := by omega
    have HP := Lib.hid (show AllPost (entsOf qs) w (.returned v) (W.putObj D (.deferred none)) from by
      have hbk : Bk w.heap.size W (W.putObj D (.deferred none)) := Bk.putObj hDh rfl hDw
      have e : qs.take (m.map encsi).length = qs := by rw [List.length_map, hlen, List.take_length]
      rw [e] at i4
      refine ⟨v, rfl, (i4.bk hbk).reads ?_ ?_, ext_bk i5 hbk (Nat.le_refl _)⟩
      · have := entsOf_len qs; omega
      · intro e he; have := entsOf_tr qs e he; omega)
    have HD := Lib.hid hDh
    clear hn hE1 h0 h1 h2 h3 hs1 hM hseq hcan i0 i1 i2 i3 i4 i5 hDh hm hg hup hq
    simp only [Exit.inBlock, Exit.then]
    gi_wp2_with fail
    refine leave_ret (v := v) HD.out ?_ HP.out
    simp [results, Tryz.results12, go_sem]
end Go.Proofs.YtdonmmjikcbihaaGreatDoor
