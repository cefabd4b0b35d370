/- Instructions in memory of the call's own: what a sweep has between its rounds. -/
import Derived.Test.YtlniohgnkihefaaDeadP
import Derived.Lib.SliceRun
import Derived.OwnWalkIn
namespace Go.Proofs.Ytlniohgnkihefaa
open Go.RowKit

/-- append onto a row, behind 'gi_at_builtin'. -/
theorem wpListIn_append_row {F : Fence} {nn : Nat} {P : Program} (w : World) {ops : Array Oper} {rest : List Oper} {o : Oper} {a : Act} {Q : Exit → Act → World → Prop} (hgd : o.guard = none) (s x : Operand) (t e : Nat) (z : Value) (size bytes : Nat)
    (ho : o.op = .call { callee := .builtin .append, args := #[s, x], argTypes := #[t, t] })
    (ht : P.underlying t = some (.slice e)) (hinfo : (P.info? e).map (fun i => (i.zero, i.size, i.bytes)) = some (some z, size, bytes)) (hz : z.cells.size = size)
    {v : Value} {r : Option Nat} {n : Nat} {xs : List Value} (HO : RowAt w e size v r n xs) (ad : Addr) (m c : Nat) (news : List Value) (hln : news.length = m * size) (hnews : ∀ j u, news[j]? = some u → w.cell? (ad.add j) = some u)
    (h1 : ∀ u ∈ news, u.oneCell' = true) (hs : a.eval s = v) (hx : a.eval x = .slice (some ad) m c)
    (hl : (n + m) * bytes ≤ 140737488355328) (hn : n + m ≤ maxLen) (hm : 0 < m)
    (h : ∀ v' r' w', RowAt w' e size v' r' (n + m) (xs ++ news) → Chg (fun k => some k = r) w w' → NewOr w r r' → wpListIn F nn P ops Q rest (a.put o.dst v') w') :
    wpListIn F nn P ops Q (o :: rest) a w := by
  obtain ⟨i0, hi, hz0, hz1, hz2⟩ := info_parts hinfo
  obtain ⟨v', r', w', hrun, hR, hC, hN⟩ := run_append_row (P := P) w t o.type e i0 z size bytes ht hi hz0 hz1 hz2 hz v r n xs HO ad m c news hln hnews h1 hn hl hm
  refine wpListIn_plain hgd fun K hK' => ?_
  unfold Oper.wpIn
  refine ⟨?_, ?_⟩
  · simp [Oper.about, ho, resolve, Target.leads, Sem.run_pure]
  · rw [Oper.semAt_plain F _ _ (by rw [ho]; intro c hc'; cases hc')]
    simp [execOp, ho, resolve, invoke, builtin, hs, hx, hrun, Result.andThen]
    exact hK' _ _ (h v' r' w' hR hC hN)
theorem flat_len {L : List (List Value)} {m : Nat} (h : ∀ c ∈ L, c.length = m) : L.flatten.length = L.length * m := by
  induction L with
  | nil => simp
  | cons c L ih =>
    rw [List.flatten_cons, List.length_append, ih fun x hx => h x (by simp [hx]), h c (by simp), List.length_cons, Nat.add_mul]; omega
theorem flat_at {L : List (List Value)} {m : Nat} (h : ∀ c ∈ L, c.length = m) (i j : Nat) (hj : j < m) : L.flatten[i * m + j]? = (L[i]?).bind fun c => c[j]? := by
  induction L generalizing i with
  | nil => simp
  | cons c L ih =>
    have hc := h c (by simp)
    cases i with
    | zero => rw [List.flatten_cons, List.getElem?_append_left (by omega)]; simp
    | succ i =>
      rw [List.flatten_cons, List.getElem?_append_right (by rw [hc, Nat.add_mul]; omega), hc, show (i + 1) * m + j - m = i * m + j from by rw [Nat.add_mul]; omega, ih fun x hx => h x (by simp [hx])]
      simp
def insQ (x : InsQ) : List Value := insCells x.k (.slice x.A x.k.args.length x.c)
def insRowC (xs : List InsQ) : List Value := (xs.map insQ).flatten
theorem insQ_len (x : InsQ) : (insQ x).length = 8 := rfl
theorem insRow_all (xs : List InsQ) : ∀ c ∈ xs.map insQ, c.length = 8 := fun c hc => by obtain ⟨x, _, rfl⟩ := List.mem_map.1 hc; rfl
theorem insRowC_len (xs : List InsQ) : (insRowC xs).length = xs.length * 8 := by unfold insRowC; rw [flat_len (insRow_all xs), List.length_map]
theorem insRowC_at (xs : List InsQ) (i : Nat) (h : i < xs.length) (j : Nat) (u : Value) (hu : (insQ xs[i])[j]? = some u) : (insRowC xs)[i * 8 + j]? = some u := by
  have hj : j < 8 := (List.getElem?_eq_some_iff.1 hu).1
  unfold insRowC
  rw [flat_at (insRow_all xs) i j hj, List.getElem?_map, List.getElem?_eq_getElem h]
  exact hu
theorem insRowC_snoc (xs : List InsQ) (x : InsQ) : insRowC (xs ++ [x]) = insRowC xs ++ insQ x := by simp [insRowC]
theorem insQ_plain (x : InsQ) : ∀ u ∈ insQ x, u.oneCell' = true := by
  intro u hu
  simp [insQ, insCells] at hu
  rcases hu with rfl | rfl | rfl | rfl | rfl | rfl | rfl | rfl <;> rfl
/-- Numbers that lie in a block of numbers. -/
def IntsIn (W : World) (A : Option Addr) (zs : List Int) : Prop := 0 < zs.length → ∃ g off c f, A = some ⟨g, off, none⟩ ∧ W.heap[g]? = some (.cells c 3 f) ∧ ∀ j u, (ints zs)[j]? = some u → c[off + j]? = some u
theorem IntsIn.reads {W : World} {A : Option Addr} {zs : List Int} (h : IntsIn W A zs) : ReadsAt W A (ints zs) := fun hp => by
  obtain ⟨g, off, c, f, hA, hg, hc⟩ := h (by simpa [ints] using hp)
  exact ⟨g, off, hA, lt_of_heap hg, fun j u hu => by rw [cell_of_row _ _ _ _ _ _ hg]; exact hc j u hu⟩
/-- Blocks of numbers stay. -/
def KI (W W' : World) : Prop := ∀ (k : Nat) (c : Array Value) (f : Nat × Nat), W.heap[k]? = some (.cells c 3 f) → W'.heap[k]? = some (.cells c 3 f)
theorem IntsIn.ki {W W' : World} {A : Option Addr} {zs : List Int} (h : IntsIn W A zs) (k : KI W W') : IntsIn W' A zs := fun hp => by
  obtain ⟨g, off, c, f, hA, hg, hc⟩ := h hp
  exact ⟨g, off, c, f, hA, k g c f hg, hc⟩
theorem KI.refl (W : World) : KI W W := fun _ _ _ h => h
theorem KI.trans {A B C : World} (h : KI A B) (k : KI B C) : KI A C := fun i c f hi => k i c f (h i c f hi)
theorem KI.of_chg {S : Nat → Prop} {W W' : World} (h : Chg S W W') (hS : ∀ k, S k → ∀ c f, W.heap[k]? ≠ some (.cells c 3 f)) : KI W W' := fun k c f hk => h.heap hk fun hs => hS k hs c f hk
theorem KI.of_below {W W' : World} (h : Below W.heap.size W W') : KI W W' := KI.of_chg (S := fun _ => False) (Chg.of_below h _) fun _ h => h.elim
theorem KI.of_kt {W W' : World} (h : KT W W') : KI W W' := fun k c f hk => h.blk k _ hk (by rintro ⟨c, f, h | h | h⟩ <;> cases h)
def zeroQ : BlkQ := ⟨⟨[], 0, 0, 0, 0⟩, none, 0⟩
/-- Between two rounds of a sweep. -/
structure SwI (w : World) (q2 q6 q7 q8 s : Nat) (x : BlkQ) (st : Sw) (v : Value) (r rr : Option Nat) (W : World) : Prop where
  below : Below w.heap.size w W
  b2 : BlkBox W q2 x
  b4 : BlkBox W (q2 + 1) zeroQ
  b6 : Boxed W q6 65 (.pointer (some ⟨s, 0, none⟩))
  b7 : Boxed W q7 43 v
  b8 : Boxed W q8 4 (.bool st.t)
  set : ∃ ws, BitsAt W s r ws ∧ memW ws = st.S
  row : ∃ xs : List InsQ, xs.map InsQ.k = st.left ∧ RowAt W 48 8 v rr xs.length (insRowC xs) ∧ ∀ y ∈ xs, IntsIn W y.A y.k.args
  low : (w.heap.size ≤ q2 ∧ w.heap.size ≤ q6 ∧ w.heap.size ≤ q7 ∧ w.heap.size ≤ q8 ∧ w.heap.size ≤ s) ∧ (∀ k, r = some k → w.heap.size ≤ k) ∧ ∀ k, rr = some k → w.heap.size ≤ k
section
variable {w W W' : World} {q2 q6 q7 q8 s : Nat} {x : BlkQ} {st : Sw} {v : Value} {r rr : Option Nat}
theorem SwI.bits (h : SwI w q2 q6 q7 q8 s x st v r rr W) {c : Array Value} {t k : Nat} {f : Nat × Nat} (hk : W.heap[k]? = some (.cells c t f)) (h1 : t ≠ 81) (h2 : t ≠ 101) : ¬ FootB s r k := by
  obtain ⟨ws, hb, _⟩ := h.set
  obtain ⟨u, g1, g2⟩ := hb.ex
  rintro (e | e)
  · rw [e, g1] at hk; cases hk; exact h1 rfl
  · exact row_ne_of_type g2 hk h2 e.symm
theorem SwI.rowne (h : SwI w q2 q6 q7 q8 s x st v r rr W) {c : Array Value} {t k : Nat} {f : Nat × Nat} (hk : W.heap[k]? = some (.cells c t f)) (h1 : t ≠ 48) : rr ≠ some k := by
  obtain ⟨xs, _, hr, _⟩ := h.row
  exact row_ne_of_type hr hk h1
/-- A step that turns none of it. -/
theorem SwI.chg (h : SwI w q2 q6 q7 q8 s x st v r rr W) {S : Nat → Prop} (hc : Chg S W W') (hS : ∀ k, S k → w.heap.size ≤ k ∧ k ≠ q2 ∧ k ≠ q2 + 1 ∧ k ≠ q6 ∧ k ≠ q7 ∧ k ≠ q8 ∧ ¬ FootB s r k ∧ rr ≠ some k ∧ ∀ c f, W.heap[k]? ≠ some (.cells c 3 f)) : SwI w q2 q6 q7 q8 s x st v r rr W' := by
  obtain ⟨ws, hb, hw⟩ := h.set
  obtain ⟨xs, e, hr, ha⟩ := h.row
  have hki : KI W W' := KI.of_chg hc fun k hk => (hS k hk).2.2.2.2.2.2.2.2
  exact ⟨h.below.trans (hc.below h.below.size fun k hk => (hS k hk).1), hc.heap h.b2 fun hs => (hS _ hs).2.1 rfl, hc.heap h.b4 fun hs => (hS _ hs).2.2.1 rfl, hc.heap h.b6 fun hs => (hS _ hs).2.2.2.1 rfl, hc.heap h.b7 fun hs => (hS _ hs).2.2.2.2.1 rfl, hc.heap h.b8 fun hs => (hS _ hs).2.2.2.2.2.1 rfl,
    ⟨ws, hb.kept hc (fun hs => (hS _ hs).2.2.2.2.2.2.1 (.inl rfl)) (fun k hk hs => (hS _ hs).2.2.2.2.2.2.1 (.inr hk.symm)), hw⟩, ⟨xs, e, hr.kept hc fun k hk hs => (hS _ hs).2.2.2.2.2.2.2.1 hk, fun y hy => (ha y hy).ki hki⟩, h.low⟩
theorem SwI.below_ (h : SwI w q2 q6 q7 q8 s x st v r rr W) (hb : Below W.heap.size W W') : SwI w q2 q6 q7 q8 s x st v r rr W' := h.chg (S := fun _ => False) (Chg.of_below hb _) fun _ h => h.elim
theorem SwI.own (h : SwI w q2 q6 q7 q8 s x st v r rr W) {row : Option Nat} (hg : W.grownBy W' row) (hr : ∀ r, row = some r → w.heap.size ≤ r ∧ ∃ o : Obj, W.heap[r]? = some o ∧ o.isCells = false) : SwI w q2 q6 q7 q8 s x st v r rr W' := by
  refine h.chg (own_chg hg) fun k hk => ?_
  obtain ⟨h1, o, ho, hc⟩ := hr k hk.symm
  have hne : ∀ {c t f}, W.heap[k]? ≠ some (.cells c t f) := fun e => by rw [ho] at e; cases e; cases hc
  obtain ⟨ws, hb, _⟩ := h.set
  obtain ⟨xs, _, hrw, _⟩ := h.row
  refine ⟨h1, fun e => hne (by rw [e]; exact h.b2), fun e => hne (by rw [e]; exact h.b4), fun e => hne (by rw [e]; exact h.b6), fun e => hne (by rw [e]; exact h.b7), fun e => hne (by rw [e]; exact h.b8), ?_, fun e => ?_, fun c f => hne⟩
  · obtain ⟨u, g1, g2⟩ := hb.ex
    rintro (e | e)
    · exact hne (by rw [e]; exact g1)
    · rcases g2.2 with ⟨_, e2, _⟩ | ⟨g, off, cap, cur, _, e2, hg', _⟩
      · rw [e2] at e; cases e
      · rw [e2] at e; cases e; exact hne hg'
  · rcases hrw.2 with ⟨_, e2, _⟩ | ⟨g, off, cap, cur, _, e2, hg', _⟩
    · rw [e2] at e; cases e
    · rw [e2] at e; cases e; exact hne hg'
/-- The box of the round's own instruction turns. -/
theorem SwI.inbox (h : SwI w q2 q6 q7 q8 s x st v r rr W) {q : Nat} {c : Array Value} {f : Nat × Nat} (hq : W.heap[q]? = some (.cells c 48 f)) (hN : w.heap.size ≤ q) (hrr : rr ≠ some q) (j : Nat) (u : Value) : SwI w q2 q6 q7 q8 s x st v r rr (W.setCell ⟨q, j, none⟩ u) := by
  refine h.chg (Chg.store W q j u) fun k e => ?_
  rw [e]
  refine ⟨hN, fun e => ?_, fun e => ?_, fun e => ?_, fun e => ?_, fun e => ?_, h.bits hq (by decide) (by decide), hrr, fun c f e => by rw [hq] at e; cases e⟩
  · have := h.b2; unfold BlkBox at this; rw [← e, hq] at this; cases this
  · have := h.b4; unfold BlkBox at this; rw [← e, hq] at this; cases this
  · have := h.b6; unfold Boxed at this; rw [← e, hq] at this; cases this
  · have := h.b7; unfold Boxed at this; rw [← e, hq] at this; cases this
  · have := h.b8; unfold Boxed at this; rw [← e, hq] at this; cases this
/-- 'turned' is stored. -/
theorem SwI.turned (h : SwI w q2 q6 q7 q8 s x st v r rr W) (t : Bool) : SwI w q2 q6 q7 q8 s x { st with t := t } v r rr (W.setCell ⟨q8, 0, none⟩ (.bool t)) := by
  have hc := Chg.store W q8 0 (.bool t)
  obtain ⟨ws, hb, hw⟩ := h.set
  obtain ⟨xs, e, hr, ha⟩ := h.row
  have h8 := h.b8
  unfold Boxed at h8
  have hki : KI W (W.setCell ⟨q8, 0, none⟩ (.bool t)) := KI.of_chg hc fun k hk c f e => by rw [hk, h8] at e; cases e
  refine ⟨h.below.trans (hc.below h.below.size fun k hk => by rw [hk]; exact h.low.1.2.2.2.1), hc.heap h.b2 fun e => ?_, hc.heap h.b4 fun e => ?_, hc.heap h.b6 fun e => ?_, hc.heap h.b7 fun e => ?_, heap_setCell_same W q8 0 #[.bool st.t] 4 (.bool t) h8,
    ⟨ws, hb.kept hc (fun e => h.bits h8 (by decide) (by decide) (.inl e.symm)) (fun k hk e => h.bits h8 (by decide) (by decide) (.inr (by rw [hk, e]))), hw⟩, ⟨xs, e, hr.kept hc fun k hk e => h.rowne h8 (by decide) (by rw [hk, e]), fun y hy => (ha y hy).ki hki⟩, h.low⟩
  · have := h.b2; unfold BlkBox at this; rw [e, h8] at this; cases this
  · have := h.b4; unfold BlkBox at this; rw [e, h8] at this; cases this
  · have := h.b6; unfold Boxed at this; rw [e, h8] at this; cases this
  · have := h.b7; unfold Boxed at this; rw [e, h8] at this; cases this
/-- The set is turned. -/
theorem SwI.grow (h : SwI w q2 q6 q7 q8 s x st v r rr W) {ws ws' : List Nat} {r' : Option Nat} (g : GrowAt W s r ws W' r' ws') {S : Nat → Bool} (hm : memW ws' = S) : SwI w q2 q6 q7 q8 s x { st with S := S } v r' rr W' := by
  obtain ⟨xs, e, hr, ha⟩ := h.row
  have hki : KI W W' := KI.of_chg g.chg fun k hk c f e => h.bits e (by decide) (by decide) hk
  refine ⟨h.below.trans (g.chg.below h.below.size fun k hk => ?_), g.chg.heap h.b2 (h.bits h.b2 (by decide) (by decide)), g.chg.heap h.b4 (h.bits h.b4 (by decide) (by decide)), g.chg.heap h.b6 (h.bits h.b6 (by decide) (by decide)), g.chg.heap h.b7 (h.bits h.b7 (by decide) (by decide)), g.chg.heap h.b8 (h.bits h.b8 (by decide) (by decide)),
    ⟨ws', g.at_, hm⟩, ⟨xs, e, hr.kept g.chg fun k hk hf => ?_, fun y hy => (ha y hy).ki hki⟩, ⟨h.low.1, fun k hk => g.new.ge h.below.size h.low.2.1 k hk, h.low.2.2⟩⟩
  · rcases hk with rfl | hk
    · exact h.low.1.2.2.2.2
    · exact h.low.2.1 k hk.symm
  · rcases hr.2 with ⟨_, e2, _⟩ | ⟨g', off, cap, cur, _, e2, hg', _⟩
    · rw [e2] at hk; cases hk
    · rw [e2] at hk; cases hk; exact h.bits hg' (by decide) (by decide) hf
/-- One more is left: its cells appended, the slice stored. -/
theorem SwI.push (h : SwI w q2 q6 q7 q8 s x st v r rr W) {xs : List InsQ} (he : xs.map InsQ.k = st.left) (ha : ∀ y ∈ xs, IntsIn W y.A y.k.args) {y : InsQ} (hy : IntsIn W y.A y.k.args) {v' : Value} {rr' : Option Nat}
    (hR : RowAt W' 48 8 v' rr' (xs.length + 1) (insRowC xs ++ insQ y)) (hC : Chg (fun k => some k = rr) W W') (hN : NewOr W rr rr') :
    SwI w q2 q6 q7 q8 s x { st with left := st.left ++ [y.k] } v' r rr' (W'.setCell ⟨q7, 0, none⟩ v') := by
  obtain ⟨ws, hb, hw⟩ := h.set
  have hne : ∀ {c t k f}, W.heap[k]? = some (.cells c t f) → t ≠ 48 → ¬ some k = rr := fun hk ht e => h.rowne hk ht e.symm
  have h7 : W'.heap[q7]? = some (.cells #[v] 43 (0, 0)) := hC.heap h.b7 (hne h.b7 (by decide))
  have hS := Chg.store W' q7 0 v'
  have hc2 : Chg (fun k => some k = rr ∨ k = q7) W (W'.setCell ⟨q7, 0, none⟩ v') := (hC.mono fun _ _ e => .inl e).trans hS fun _ _ e => .inr e
  have hn7 : ∀ {c t k f}, W.heap[k]? = some (.cells c t f) → t ≠ 48 → t ≠ 43 → ¬ (some k = rr ∨ k = q7) := fun hk ht ht2 e => by
    rcases e with e | e
    · exact hne hk ht e
    · have := h.b7; unfold Boxed at this; rw [e, this] at hk; cases hk; exact ht2 rfl
  have hki : KI W (W'.setCell ⟨q7, 0, none⟩ v') := fun k c f hk => hc2.heap hk (hn7 hk (by decide) (by decide))
  obtain ⟨u, g1, g2⟩ := hb.ex
  refine ⟨h.below.trans (hc2.below h.below.size fun k e => ?_), hc2.heap h.b2 (hn7 h.b2 (by decide) (by decide)), hc2.heap h.b4 (hn7 h.b4 (by decide) (by decide)), hc2.heap h.b6 (hn7 h.b6 (by decide) (by decide)), heap_setCell_same W' q7 0 #[v] 43 v' h7, hc2.heap h.b8 (hn7 h.b8 (by decide) (by decide)),
    ⟨ws, hb.kept hc2 (hn7 g1 (by decide) (by decide)) (fun k hk => ?_), hw⟩, ⟨xs ++ [y], by simp [he], ?_, fun z hz => ?_⟩, ⟨h.low.1, h.low.2.1, fun k hk => hN.ge h.below.size h.low.2.2 k hk⟩⟩
  · rcases e with e | e
    · exact h.low.2.2 k e.symm
    · rw [e]; exact h.low.1.2.2.1
  · rcases g2.2 with ⟨_, e2, _⟩ | ⟨g', off, cap, cur, _, e2, hg', _⟩
    · rw [e2] at hk; cases hk
    · rw [e2] at hk; cases hk; exact hn7 hg' (by decide) (by decide)
  · rw [insRowC_snoc, List.length_append]
    exact hR.kept hS fun k hk e => row_ne_of_type hR h7 (by decide) (by rw [hk, e])
  · rcases List.mem_append.1 hz with hz | hz
    · exact (ha z hz).ki hki
    · rw [List.mem_singleton.1 hz]; exact hy.ki hki
end
end Go.Proofs.Ytlniohgnkihefaa
