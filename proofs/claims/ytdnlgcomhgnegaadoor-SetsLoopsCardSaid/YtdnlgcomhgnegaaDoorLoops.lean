/- SetsLoops: the walk. -/
import Derived.Test.YtdnlgcomhgnegaaDoorAll
import Derived.Test.YtdnlgcomhgnegaaDoorJoins0
import Derived.Test.YtdnlgcomhgnegaaDoorLives
import Derived.Test.YtdnlgcomhgnegaaDoorPlays
import Derived.Deep.RegionHeld3
namespace Go.Proofs.YtdnlgcomhgnegaaDoor
open Go.RowKit Go.Shelf
attribute [local go_sem] Oper.semAt_some

section
variable {F : Fence} {m : Nat} {P : Program}
theorem run_min2 (w : World) (ts : Array TypeId) (ty : TypeId) (k : IntKind) (p q : Int) : (Builtin.min_ ts ty #[.int k p, .int k q]).run P w = .ok (.int k (min p q)) w := by
  simp only [Builtin.min_, Builtin.min2, List.foldlM_cons, List.foldlM_nil, bind_pure]
  by_cases h : q < p
  · simp [h]; omega
  · simp [h]; omega
theorem run_max2 (w : World) (ts : Array TypeId) (ty : TypeId) (k : IntKind) (p q : Int) : (Builtin.max_ ts ty #[.int k p, .int k q]).run P w = .ok (.int k (max p q)) w := by
  simp only [Builtin.max_, Builtin.max2, List.foldlM_cons, List.foldlM_nil, bind_pure]
  by_cases h : p < q
  · simp [h]; omega
  · simp [h]; omega
theorem wpListIn_min (w : World) {ops : Array Oper} {rest : List Oper} {o : Oper} {a : Act} {Q : Exit → Act → World → Prop}
    (hg : o.guard = none) (s x : Operand) (ts : Array TypeId) (hop : o.op = Op.call { callee := Callee.builtin Builtin.min, args := #[s, x], argTypes := ts })
    (k : IntKind) (p q : Int) (hs : a.eval s = .int k p) (hx : a.eval x = .int k q) (hK : wpListIn F m P ops Q rest (a.put o.dst (.int k (min p q))) w) : wpListIn F m P ops Q (o :: rest) a w := by
  refine wpListIn_plain hg fun K hK' => ?_
  have hrun := run_min2 (P := P) w ts o.type k p q
  unfold Oper.wpIn
  refine ⟨?_, ?_⟩
  · simp [Oper.about, hop, resolve, Target.leads, Sem.run_pure]
  · rw [Oper.semAt_plain F _ _ (by rw [hop]; intro c hc'; cases hc')]
    simp [execOp, hop, resolve, invoke, builtin, hs, hx, hrun, Result.andThen]
    exact hK' _ _ hK
theorem wpListIn_max (w : World) {ops : Array Oper} {rest : List Oper} {o : Oper} {a : Act} {Q : Exit → Act → World → Prop}
    (hg : o.guard = none) (s x : Operand) (ts : Array TypeId) (hop : o.op = Op.call { callee := Callee.builtin Builtin.max, args := #[s, x], argTypes := ts })
    (k : IntKind) (p q : Int) (hs : a.eval s = .int k p) (hx : a.eval x = .int k q) (hK : wpListIn F m P ops Q rest (a.put o.dst (.int k (max p q))) w) : wpListIn F m P ops Q (o :: rest) a w := by
  refine wpListIn_plain hg fun K hK' => ?_
  have hrun := run_max2 (P := P) w ts o.type k p q
  unfold Oper.wpIn
  refine ⟨?_, ?_⟩
  · simp [Oper.about, hop, resolve, Target.leads, Sem.run_pure]
  · rw [Oper.semAt_plain F _ _ (by rw [hop]; intro c hc'; cases hc')]
    simp [execOp, hop, resolve, invoke, builtin, hs, hx, hrun, Result.andThen]
    exact hK' _ _ hK
end

theorem KpB.grow {W W' : World} {b : Nat} {r r' : Option Nat} {ws ws' : List Nat} (g : GrowAt W b r ws W' r' ws') (h : BitsAt W b r ws) (hb0 : 0 < b) (h0 : 0 < W.heap.size) : KpB b W W' := by
  intro k hk hr
  rw [rowOf_bits h] at hr
  have hlt : k < W.heap.size := by
    rcases hk with ⟨c, hc⟩ | rfl
    · exact lt_of_heap hc
    · exact h0
  refine ⟨g.chg.block k hlt ?_, ?_⟩
  · rintro (rfl | e)
    · rcases hk with ⟨c, hc⟩ | e0
      · obtain ⟨v, h1, _⟩ := h.ex
        rw [h1] at hc
        injection hc with hc
        injection hc with _ ht _
        exact absurd ht (by decide)
      · omega
    · exact hr e.symm
  · rw [rowOf_bits g.at_]
    rcases g.new with e | ⟨j, e, hj⟩
    · rw [e]; exact hr
    · rw [e]; intro e2; cases e2; omega
theorem BitsAt.appended {W w1 : World} {b B n₀ k : Nat} {r : Option Nat} {ws : List Nat} {v : Value} {xs : List Value} {tmp : Obj} (h : BitsAt W b r ws) (hv : Boxed W B 22 v) (hrow : W.ownsRow n₀ 3 1 v k xs) (hgrow : (W.alloc tmp).grownBy w1 v.ownBlock) (hne : b ≠ B) (u : Value) : BitsAt (w1.setCell ⟨B, 0, none⟩ u) b r ws := by
  have hc : Chg (fun i => i = B ∨ some i = v.ownBlock) W (w1.setCell ⟨B, 0, none⟩ u) :=
    (((Chg.refl (fun i => i = B ∨ some i = v.ownBlock) W).alloc tmp).trans (Chg.of_grownBy hgrow) fun i _ e => .inr e).trans (Chg.store w1 B 0 u) fun i _ e => .inl e
  obtain ⟨v0, h1, h2⟩ := h.ex
  refine h.kept hc ?_ ?_
  · rintro (e | e)
    · exact hne e
    · exact (show Boxed W b 49 v0 from h1).not_row (by decide) hrow e
  · intro k' hk' hS
    rcases hS with rfl | e
    · exact row_ne_of_type h2 hv (by decide) hk'
    · rcases hrow.2 with ⟨rfl, _⟩ | ⟨g, cap, cur, rfl, _, hgb, _⟩
      · cases e
      · obtain rfl : k' = g := by simpa [Value.ownBlock] using e
        exact row_ne_of_type h2 hgb (by decide) hk'
theorem lt_of_heap' {W : World} {k : Nat} {o : Obj} (h : W.heap[k]? = some o) : k < W.heap.size := (Array.getElem?_eq_some_iff.1 h).1
theorem owns_chg {W W' : World} {n₀ e size k : Nat} {v : Value} {xs : List Value} {S : Nat → Prop} (h : W.ownsRow n₀ e size v k xs) (hc : Chg S W W') (hS : ∀ j, v.ownBlock = some j → ¬ S j) : W'.ownsRow n₀ e size v k xs := by
  refine ⟨h.1, ?_⟩
  rcases h.2 with h1 | ⟨g, cap, cur, rfl, h2, hgb, h3⟩
  · exact .inl h1
  · exact .inr ⟨g, cap, cur, rfl, h2, hc.heap hgb (hS g rfl), h3⟩
/-- append onto a row of ints keeps another set's words. -/
theorem kp_append2 {W w1 : World} {b n₀ B k : Nat} {r : Option Nat} {ws : List Nat} {v : Value} {xs : List Value} {tmp : Obj} (h : BitsAt W b r ws) (hv : Boxed W B 22 v) (hrow : W.ownsRow n₀ 3 1 v k xs) (hgrow : (W.alloc tmp).grownBy w1 v.ownBlock) (hne : b ≠ B) (hB : 0 < B) (hn : 0 < n₀) (h0 : 0 < W.heap.size) (u : Value) : KpB b W (w1.setCell ⟨B, 0, none⟩ u) := by
  have hc : Chg (fun i => i = B ∨ some i = v.ownBlock) W (w1.setCell ⟨B, 0, none⟩ u) :=
    (((Chg.refl (fun i => i = B ∨ some i = v.ownBlock) W).alloc tmp).trans (Chg.of_grownBy hgrow) fun i _ e => .inr e).trans (Chg.store w1 B 0 u) fun i _ e => .inl e
  intro j hj hr
  rw [rowOf_bits (h.appended hv hrow hgrow hne u)]
  rw [rowOf_bits h] at hr
  refine ⟨?_, hr⟩
  have hlt : j < W.heap.size := by
    rcases hj with ⟨c, hc⟩ | rfl
    · exact lt_of_heap hc
    · exact h0
  refine hc.block j hlt ?_
  rintro (rfl | e)
  · rcases hj with ⟨c, hc⟩ | e0
    · rw [show W.heap[j]? = _ from hv] at hc
      injection hc with hc
      injection hc with _ ht _
      exact absurd ht (by decide)
    · omega
  · rcases hrow.2 with ⟨rfl, _⟩ | ⟨g, cap, cur, rfl, hg, hgb, _⟩
    · cases e
    · obtain rfl : j = g := by simpa [Value.ownBlock] using e
      rcases hj with ⟨c, hc⟩ | e0
      · rw [hgb] at hc
        injection hc with hc
        injection hc with _ ht _
        exact absurd ht (by decide)
      · omega
/-- A number that may be in a set. -/
abbrev Num := { x : Int // 0 ≤ x ∧ x < 65536 }
def vals (q : List Num) : List Int := q.map (·.1)
theorem vals_snoc (q : List Num) (x : Num) : vals (q ++ [x]) = vals q ++ [x.1] := by simp [vals]
theorem vals_len (q : List Num) : (vals q).length = q.length := by simp [vals]
theorem vals_drop (q : List Num) : vals q.dropLast = (vals q).dropLast := by unfold vals; rw [List.map_dropLast]
theorem each_stopsS (n : Nat) (hn : 1 ≤ n) (Bn b : Nat) (r : Option Nat) (ws : List Nat) (w : World) (hBn : w.cell? ⟨Bn, 0, none⟩ = some (.pointer (some ⟨b, 0, none⟩))) (hb : BitsAt w b r ws) (hr0 : r ≠ some 0) (hT : TabAt w) :
    SeqStopsK Fence.wide n Tryd.prog 34 #[.pointer (some ⟨Bn, 0, none⟩)] (fun x : Num => #[Value.int .i64 x.1]) (KpB b) (fun ys => vals ys = listW ws) (fun pre => vals pre <+: listW ws) (listW ws).length w := fun l J Jx W hW hJ _ hY h0 => by
  have hl := hb.len
  refine (each1_in n hn l Bn b r ws (fun pre W => ∃ q : List Num, vals q = pre ∧ J q W) (fun pre W => ∃ q : List Num, vals q = pre ∧ Jx q W) ?_ W ?_ ((hW.cell (p := ⟨Bn, 0, none⟩) (World.block_lt_of_cell? w ⟨Bn, 0, none⟩ hBn)).trans hBn) (hb.below hW) hr0 (hT.below hW) ⟨[], rfl, h0⟩).mono ?_
  · rintro pre x W ⟨q, rfl, hq⟩ hp
    have hx : x ∈ listW ws := hp.subset (by simp)
    obtain ⟨k, hk, hm⟩ := (mem_listW ws x).1 hx
    have hk2 := memW_lt hl hm
    refine (hY q ⟨x, by omega, by omega⟩ W hq (by have := hp.length_le; rw [List.length_append, vals_len] at this; simp at this; omega)).mono ?_
    rintro e W' (⟨he, h1, h2⟩ | ⟨he, h1⟩)
    · exact .inl ⟨he, ⟨_, vals_snoc q _, h1⟩, h2⟩
    · exact .inr ⟨he, ⟨_, vals_snoc q _, h1⟩⟩
  · rintro s W W' row ⟨q, hq, h⟩ hg hr
    exact ⟨q, hq, hJ q W W' row h hg hr⟩
  · rintro e W' ⟨hv, ⟨ys, rfl, q, hq, h⟩ | ⟨pre, hp, q, rfl, h⟩⟩
    · exact ⟨hv, .inl ⟨q, hq, h⟩⟩
    · exact ⟨hv, .inr ⟨q, hp, h⟩⟩
/-- Between two rounds of the first loop. -/
structure InL (w : World) (n₀ ps pm pb pa ba : Nat) (ra : Option Nat) (mv : Int) (Ax : Option Addr) (xs pre : List Int) (W : World) : Prop where
  some_ : ∃ v, Boxed W ps 22 v ∧ W.ownsRow n₀ 3 1 v pre.length (pre.map (Value.int .i64)) ∧ True
  bits : ∃ r ws, BitsAt W ba r ws ∧ (r = ra ∨ ∃ k, r = some k ∧ n₀ ≤ k)
  most : Boxed W pm 3 (.int .i64 mv)
  set_ : Boxed W pb 23 (.pointer (some ⟨ba, 0, none⟩))
  again : Boxed W pa 22 (.slice none 0 0)
  row : ReadsAt W Ax (ints xs)
  size : n₀ ≤ W.heap.size
theorem boxed_grown {W W' : World} {B b : Nat} {t : TypeId} {u : Value} {r r' : Option Nat} {ws ws' : List Nat} (h : Boxed W B t u) (g : GrowAt W b r ws W' r' ws') (hb : BitsAt W b r ws) (h1 : t ≠ 50) (h2 : t ≠ 49) : Boxed W' B t u := by
  obtain ⟨v0, h3, h4⟩ := hb.ex
  refine g.chg.heap h ?_
  rintro (rfl | e)
  · rw [show W.heap[B]? = _ from h] at h3
    injection h3 with h3
    injection h3 with _ ht _
    exact h2 ht
  · exact row_ne_of_type h4 h h1 e.symm
theorem owns_grown {W W' : World} {n₀ k b : Nat} {v : Value} {xs : List Value} {r r' : Option Nat} {ws ws' : List Nat} (h : W.ownsRow n₀ 3 1 v k xs) (g : GrowAt W b r ws W' r' ws') (hb : BitsAt W b r ws) : W'.ownsRow n₀ 3 1 v k xs := by
  obtain ⟨v0, h3, h4⟩ := hb.ex
  refine owns_chg h g.chg fun j hj hS => ?_
  rcases h.2 with ⟨rfl, _⟩ | ⟨g', cap, cur, rfl, _, hgb, _⟩
  · cases hj
  · obtain rfl : g' = j := by simpa [Value.ownBlock] using hj
    rcases hS with rfl | e
    · rw [hgb] at h3
      injection h3 with h3
      injection h3 with _ ht _
      exact absurd ht (by decide)
    · exact row_ne_of_type h4 hgb (by decide) e.symm
theorem keeps_grown {B : Nat} {W W' : World} {b : Nat} {r r' : Option Nat} {ws ws' : List Nat} (g : GrowAt W b r ws W' r' ws') (hb : BitsAt W b r ws) : KeepsFrom B W W' := by
  obtain ⟨v0, h3, h4⟩ := hb.ex
  refine ⟨g.chg.size, fun k o _ hk ho => g.chg.heap hk ?_⟩
  rintro (rfl | e)
  · rw [h3] at hk; cases hk; cases ho
  · rcases h4.2 with ⟨_, h0, _⟩ | ⟨g', off, cap, cur, _, h0, hh, _⟩
    · rw [h0] at e; cases e
    · rw [h0] at e; cases e
      rw [hh] at hk; cases hk; cases ho
/-- Where things lie. -/
structure Geo (w : World) (n₀ pm pb ba : Nat) (ra : Option Nat) (Ax : Option Addr) : Prop where
  n0 : w.heap.size ≤ n₀
  w0 : 0 < w.heap.size
  gpm : pm < n₀
  gpb : pb < n₀
  gba : ba < n₀ ∧ w.heap.size ≤ ba
  gra : ∀ k, ra = some k → w.heap.size ≤ k
  ax : ∀ g off, Ax = some ⟨g, off, none⟩ → g < n₀ ∧ g ≠ ba ∧ ra ≠ some g
/-- A set that is turned keeps what stands between two rounds. -/
theorem InL.grow {w W W' : World} {n₀ pm pb pa ba : Nat} {ra r r' : Option Nat} {ws ws' : List Nat} {mv : Int} {Ax : Option Addr} {xs pre : List Int} (G : Geo w n₀ pm pb ba ra Ax) (h : InL w n₀ n₀ pm pb pa ba ra mv Ax xs pre W) (hB : Below w.heap.size w W) (hb : BitsAt W ba r ws) (hr : r = ra ∨ ∃ k, r = some k ∧ n₀ ≤ k) (g : GrowAt W ba r ws W' r' ws') :
    KpB ba W W' ∧ InL w n₀ n₀ pm pb pa ba ra mv Ax xs pre W' ∧ Below w.heap.size w W' ∧ BitsAt W' ba r' ws' ∧ (r' = ra ∨ ∃ k, r' = some k ∧ n₀ ≤ k) := by
  have hr' : r' = ra ∨ ∃ k, r' = some k ∧ n₀ ≤ k := by
    rcases g.new with e | ⟨k, e, hk⟩
    · rw [e]; exact hr
    · exact .inr ⟨k, e, Nat.le_trans h.size hk⟩
  have hge : ∀ k, FootB ba r k → w.heap.size ≤ k := by
    rintro k (rfl | e)
    · exact G.gba.2
    · rcases hr with e2 | ⟨j, e2, hj⟩
      · exact G.gra k (by rw [← e2]; exact e.symm)
      · rw [e2] at e; cases e; exact Nat.le_trans G.n0 hj
  obtain ⟨v, h1, h2, _⟩ := h.some_
  refine ⟨KpB.grow g hb (by have := G.w0; have := G.gba.2; omega) (by have := G.w0; have := G.n0; have := h.size; omega), ⟨⟨v, boxed_grown h1 g hb (by decide) (by decide), owns_grown h2 g hb, trivial⟩, ⟨r', ws', g.at_, hr'⟩, boxed_grown h.most g hb (by decide) (by decide), boxed_grown h.set_ g hb (by decide) (by decide), boxed_grown h.again g hb (by decide) (by decide), h.row.kept g.chg fun q off e _ => ?_, Nat.le_trans h.size g.chg.size⟩, hB.trans (g.chg.below hB.size hge), g.at_, hr'⟩
  rintro (e1 | e1)
  · exact (G.ax q off e).2.1 e1
  · rcases hr with e2 | ⟨j, e2, hj⟩
    · exact (G.ax q off e).2.2 (by rw [← e2]; exact e1.symm)
    · rw [e2] at e1; cases e1
      have := (G.ax q off e).1; omega
/-- A number more behind 'some'. -/
theorem InL.add {w W w1 : World} {n₀ pm pb pa ba : Nat} {ra r : Option Nat} {ws : List Nat} {mv z : Int} {Ax : Option Addr} {xs pre : List Int} {v v' : Value} {tmp : Obj} (G : Geo w n₀ pm pb ba ra Ax) (hpa : n₀ < pa) (h : InL w n₀ n₀ pm pb pa ba ra mv Ax xs pre W) (hb : BitsAt W ba r ws) (hr : r = ra ∨ ∃ k, r = some k ∧ n₀ ≤ k)
    (hv : Boxed W n₀ 22 v) (hrow : W.ownsRow n₀ 3 1 v pre.length (pre.map (Value.int .i64))) (hgrow : (W.alloc tmp).grownBy w1 v.ownBlock) (hv2 : Boxed (w1.setCell ⟨n₀, 0, none⟩ v') n₀ 22 v') (hr2 : (w1.setCell ⟨n₀, 0, none⟩ v').ownsRow n₀ 3 1 v' (pre.length + 1) (pre.map (Value.int .i64) ++ [.int .i64 z])) :
    InL w n₀ n₀ pm pb pa ba ra mv Ax xs (pre ++ [z]) (w1.setCell ⟨n₀, 0, none⟩ v') ∧ BitsAt (w1.setCell ⟨n₀, 0, none⟩ v') ba r ws ∧ KpB ba W (w1.setCell ⟨n₀, 0, none⟩ v') := by
  have hc : Chg (fun i => i = n₀ ∨ some i = v.ownBlock) W (w1.setCell ⟨n₀, 0, none⟩ v') :=
    (((Chg.refl (fun i => i = n₀ ∨ some i = v.ownBlock) W).alloc tmp).trans (Chg.of_grownBy hgrow) fun i _ e => .inr e).trans (Chg.store w1 n₀ 0 v') fun i _ e => .inl e
  have hS : ∀ i, (i = n₀ ∨ some i = v.ownBlock) → n₀ ≤ i := by
    rintro i (rfl | e)
    · exact Nat.le_refl _
    · rcases hrow.2 with ⟨rfl, _⟩ | ⟨g, cap, cur, rfl, hg, _⟩
      · cases e
      · obtain rfl : i = g := by simpa [Value.ownBlock] using e
        exact hg
  have hlow : ∀ (B : Nat) (t : TypeId) (u : Value), B < n₀ → Boxed W B t u → Boxed (w1.setCell ⟨n₀, 0, none⟩ v') B t u := fun B t u hB hx => hc.heap hx fun e => by have := hS B e; omega
  have hbits := hb.appended hv hrow hgrow (by have := G.gba.1; omega) v'
  have hagain : Boxed (w1.setCell ⟨n₀, 0, none⟩ v') pa 22 (.slice none 0 0) := hc.heap h.again (by
    rintro (e | e)
    · omega
    · exact h.again.not_row (by decide) hrow e)
  refine ⟨⟨⟨v', hv2, by simpa using hr2, trivial⟩, ⟨r, ws, hbits, hr⟩, hlow pm _ _ G.gpm h.most, hlow pb _ _ G.gpb h.set_, hagain, h.row.kept hc fun q off e _ hs => ?_, Nat.le_trans h.size hc.size⟩, hbits, kp_append hv hrow hgrow G.gba.1 (by have := G.w0; have := G.n0; omega) h.size (Nat.le_refl _) _⟩
  have h1 := hS q hs
  have h2 := (G.ax q off e).1
  omega
theorem bits_own {β : Type} (b : Nat) (q : Option Nat → Prop) : Own (fun (_ : β) W => ∃ r ws, BitsAt W b r ws ∧ q r) := by
  rintro s X Y row ⟨r, ws, h, hq⟩ hg hrow
  refine ⟨r, ws, h.kept (Chg.of_grownBy hg) ?_ ?_, hq⟩
  · intro e
    obtain ⟨o, ho, hc⟩ := hrow b e.symm
    obtain ⟨v, h1, _⟩ := h.ex
    rw [h1] at ho; cases ho; cases hc
  · intro k hk e
    obtain ⟨o, ho, hc⟩ := hrow k e.symm
    obtain ⟨v, _, h2⟩ := h.ex
    rcases h2.2 with ⟨_, h0, _⟩ | ⟨g, off, cap, cur, _, h0, hh, _⟩
    · rw [h0] at hk; cases hk
    · rw [h0] at hk; cases hk
      rw [hh] at ho; cases ho; cases hc
theorem reads_own {β : Type} (A : Option Addr) (xs : List Value) : Own (fun (_ : β) W => ReadsAt W A xs) := by
  intro s X Y row h hg hrow hp
  obtain ⟨g, off, hA, hgl, hc⟩ := h hp
  refine ⟨g, off, hA, Nat.lt_of_lt_of_le hgl hg.size, fun j u hu => ?_⟩
  refine (World.cell?_of_block (a := ⟨g, off + j, none⟩) (hg.block g hgl ?_)).trans (hc j u hu)
  intro e
  obtain ⟨o, ho, hco⟩ := hrow g e.symm
  have h1 := hc j u hu
  unfold World.cell? at h1
  simp only [ho] at h1
  cases o <;> simp_all [Obj.isCells]
theorem inL_own (w : World) (n₀ ps pm pb pa ba : Nat) (ra : Option Nat) (mv : Int) (Ax : Option Addr) (xs : List Int) : Own (fun pre W => InL w n₀ ps pm pb pa ba ra mv Ax xs pre W) := by
  intro s X Y row h hg hrow
  exact ⟨holdsRow_own n₀ ps 22 3 1 (fun pre : List Int => pre.length) (fun pre : List Int => pre.map (Value.int .i64)) (fun _ _ => True) s X Y row h.some_ hg hrow,
    bits_own ba (fun r => r = ra ∨ ∃ k, r = some k ∧ n₀ ≤ k) s X Y row h.bits hg hrow,
    boxed_own pm 3 (fun _ => .int .i64 mv) s X Y row h.most hg hrow, boxed_own pb 23 (fun _ => .pointer (some ⟨ba, 0, none⟩)) s X Y row h.set_ hg hrow, boxed_own pa 22 (fun _ => .slice none 0 0) s X Y row h.again hg hrow,
    reads_own Ax (ints xs) s X Y row h.row hg hrow, Nat.le_trans h.size hg.size⟩

theorem ownFrom_chg {β : Type} {S : Nat → Prop} {w₀ : World} {B : Nat} (hB : w₀.heap.size ≤ B) : OwnFrom B (fun (_ : β) W => Chg S w₀ W) :=
  fun _ _ _ _ hs hg hr => hs.trans (Chg.of_grownBy hg) fun i hi e => absurd (hr i e.symm).1 (by omega)
/-- append behind a box that lies below the rows' ground. -/
theorem appended2 {W w1 : World} {n₀ B : Nat} {t e : TypeId} {size : Nat} {v v' : Value} {k m : Nat} {xs ys : List Value} {tmp : Obj}
    (hv : Boxed W B t v) (hte : t ≠ e) (hrow : W.ownsRow n₀ e size v k xs) (hown' : w1.ownsRow n₀ e size v' m ys) (hgrow : (W.alloc tmp).grownBy w1 v.ownBlock) :
    Boxed w1 B t v ∧ Boxed (w1.setCell ⟨B, 0, none⟩ v') B t v' ∧ (w1.setCell ⟨B, 0, none⟩ v').ownsRow n₀ e size v' m ys ∧ KeepsOthers W (w1.setCell ⟨B, 0, none⟩ v') ∧ Chg (fun i => i = B ∨ n₀ ≤ i) W (w1.setCell ⟨B, 0, none⟩ v') := by
  have hv1 : Boxed w1 B t v := (hv.alloc tmp).kept hgrow (hv.not_row hte hrow)
  refine ⟨hv1, hv1.set v', hown'.kept (grownBy_setCell' w1 B v') (.inr (hv1.not_row hte hown').symm), ?_, ?_⟩
  · refine ((KeepsOthers.alloc W tmp).trans (KeepsOthers.of_grownBy hgrow fun j o ej hj => ?_)).trans (KeepsOthers.setCell _ _ _)
    rcases (hrow.alloc tmp).2 with ⟨rfl, _⟩ | ⟨g, cap, cur, rfl, _, hgb, _⟩
    · simp [Value.ownBlock] at ej
    · obtain rfl : g = j := by simpa [Value.ownBlock] using ej
      rw [hgb] at hj; cases hj; rfl
  · refine (((Chg.refl (fun i => i = B ∨ n₀ ≤ i) W).alloc tmp).trans (Chg.of_grownBy hgrow) fun i _ ej => .inr ?_).trans (Chg.store w1 B 0 v') fun i _ e => .inl e
    rcases hrow.2 with ⟨rfl, _⟩ | ⟨g, cap, cur, rfl, hb, _, _⟩
    · simp [Value.ownBlock] at ej
    · obtain rfl : i = g := by simpa [Value.ownBlock] using ej
      exact hb
/-- What stands behind the second loop. -/
structure FinL (w : World) (pa ps pm D D2 : Nat) (Av As Ax : Option Addr) (lx mo cv cs cx : Nat) (xs : List Int) (Y : World) : Prop where
  lx_ : lx = xs.length
  len : lx ≤ 100000
  mo_ : mo ≤ lx
  ca : Y.cell? ⟨pa, 0, none⟩ = some (.slice Av lx cv)
  cs_ : Y.cell? ⟨ps, 0, none⟩ = some (.slice As mo cs)
  cm : Y.cell? ⟨pm, 0, none⟩ = some (.int .i64 (mo : Int))
  ra : ReadsAt Y Av (ints xs)
  rs : ReadsAt Y As (ints (xs.take mo))
  rx : ReadsAt Y Ax (ints xs)
  d1 : Y.heap[D]? = some (.deferred (some []))
  d2 : Y.heap[D2]? = some (.deferred (some []))
  below : Below w.heap.size w Y
section
variable {w Y Y' : World} {pa ps pm D D2 : Nat} {Av As Ax : Option Addr} {lx mo cv cs cx : Nat} {xs : List Int}
theorem FinL.next (h : FinL w pa ps pm D D2 Av As Ax lx mo cv cs cx xs Y) (hY : Below Y.heap.size Y Y') : FinL w pa ps pm D D2 Av As Ax lx mo cv cs cx xs Y' :=
  ⟨h.lx_, h.len, h.mo_, (hY.cell (p := ⟨pa, 0, none⟩) (World.block_lt_of_cell? Y _ h.ca)).trans h.ca, (hY.cell (p := ⟨ps, 0, none⟩) (World.block_lt_of_cell? Y _ h.cs_)).trans h.cs_, (hY.cell (p := ⟨pm, 0, none⟩) (World.block_lt_of_cell? Y _ h.cm)).trans h.cm,
    reads_below h.ra hY, reads_below h.rs hY, reads_below h.rx hY, (hY.block D (lt_of_heap' h.d1)).trans h.d1, (hY.block D2 (lt_of_heap' h.d2)).trans h.d2, h.below.trans (hY.mono h.below.size)⟩
theorem FinL.drew (h : FinL w pa ps pm D D2 Av As Ax lx mo cv cs cx xs Y) : FinL w pa ps pm D D2 Av As Ax lx mo cv cs cx xs Y.drew :=
  h.next (Below.refl _ Y).drew
theorem FinL.d1' (h : FinL w pa ps pm D D2 Av As Ax lx mo cv cs cx xs Y) (hne : D ≠ D2) : (Y.putObj D2 (.deferred none)).heap[D]? = some (.deferred (some [])) := (World.putObj_heap_other hne).trans h.d1
theorem FinL.ends (h : FinL w pa ps pm D D2 Av As Ax lx mo cv cs cx xs Y) (hne : D ≠ D2) (h1 : w.heap.size ≤ D) (h2 : w.heap.size ≤ D2) : Below w.heap.size w ((Y.putObj D2 (.deferred none)).putObj D (.deferred none)) :=
  (h.below.trans (belowK_b (w := w) (Nat.le_refl _) Y D2 _ _ h2 h.d2 rfl rfl)).trans (belowK_b (w := w) (Nat.le_refl _) _ D _ _ h1 (h.d1' hne) rfl rfl)
theorem FinL.same1 (h : FinL w pa ps pm D D2 Av As Ax lx mo cv cs cx xs Y) : Calls Tryd.prog 14 #[.slice As mo cs, .slice Ax mo cx] Y fun e w' => e = .returned (.bool true) ∧ FinL w pa ps pm D D2 Av As Ax lx mo cv cs cx xs w' := by
  have hl : (xs.take mo).length = mo := by have := h.lx_; have := h.mo_; rw [List.length_take]; omega
  have hx : ReadsAt Y Ax (ints (xs.take mo)) := reads_take h.rx mo
  have hS := same03_any (xs.take mo) (xs.take mo) As Ax cs cx Y (by have := h.len; have := h.mo_; omega) (by have := h.len; have := h.mo_; omega) h.rs hx
  rw [hl, show sameL (xs.take mo) (xs.take mo) = true from decide_eq_true rfl] at hS
  exact hS.mono fun _ _ hw => ⟨hw.1, h.next hw.2⟩
theorem FinL.same2 (h : FinL w pa ps pm D D2 Av As Ax lx mo cv cs cx xs Y) : Calls Tryd.prog 14 #[.slice Av lx cv, .slice Ax lx cx] Y fun e w' => e = .returned (.bool true) ∧ FinL w pa ps pm D D2 Av As Ax lx mo cv cs cx xs w' := by
  have hS := same03_any xs xs Av Ax cv cx Y (by have := h.len; have := h.lx_; omega) (by have := h.len; have := h.lx_; omega) h.ra h.rx
  rw [← h.lx_, show sameL xs xs = true from decide_eq_true rfl] at hS
  exact hS.mono fun _ _ hw => ⟨hw.1, h.next hw.2⟩
theorem FinL.lives (h : FinL w pa ps pm D D2 Av As Ax lx mo cv cs cx xs Y) : Calls Tryd.prog 18 #[] Y fun e w' => e = .returned (.bool true) ∧ FinL w pa ps pm D D2 Av As Ax lx mo cv cs cx xs w' :=
  (lives_any Y).mono fun _ _ hw => ⟨hw.1, h.next hw.2⟩
end

set_option maxRecDepth 100000 in
set_option maxHeartbeats 8000000 in
theorem loops_any (A : Option Addr) (c : Nat) (l : List Int) (n : Int) (w : World) (hl : l.length ≤ c) (hc : c ≤ maxLen) (hz : ∀ z ∈ l, I64 z) (hn : I64 n) (hr : ReadsAt w A (ints l)) (hT : TabAt w) :
    Calls Tryd.prog 4 #[.slice A l.length c, .int .i64 n] w fun e w' => e = .returned (.bool true) ∧ Below w.heap.size w w' := by
  have HRL := Lib.hid (reads_take hr 100)
  have HZL : Hid (∀ z ∈ l.take 100, I64 z) := Lib.hid fun z h => hz z (List.mem_of_mem_take h)
  have HLL : Hid ((l.take 100).length ≤ 100) := Lib.hid (by rw [List.length_take]; omega)
  have CUTL := Lib.hid (cut_any l A c · hl hc)
  generalize l.take 100 = lc at CUTL HRL HZL HLL
  have HT := Lib.hid hT
  have HN63 := Lib.hid hn
  clear hl hc hz hr hT hn
  refine (callsIn_wide (n := 5)).1 ?_
  refine callsIn_of_wp_marks Tryd.func4 rfl trivial ?_ rfl
  simp only [Tryd.ntmps4, List.size_toArray, List.length_cons, List.length_nil, Nat.reduceAdd, Nat.reduceSub, Array.replicate_succ, Array.replicate_zero, List.push_toArray, List.append_toArray, List.nil_append, List.cons_append]
  have hn1 : 1 ≤ 5 - 1 := by omega
  have hnil : ∀ (w : World) (p : Value), (binOp .eql 35 (.func (.func 34) #[] #[p]) .nilFunc).run Tryd.prog w = .ok (.bool false) w := fun w p => by rfl
  gi_wp2_with fail
  refine ⟨trivial, ?_⟩
  gi_at_call 8
  refine (callsIn_wide.2 (CUTL.out _)).mono ?_
  rintro e w0 ⟨rfl, rfl⟩
  gi_wp2_with fail
  refine ⟨trivial, ?_⟩
  gi_at_call 7
  have hb0 : Below w.heap.size w (w.alloc (.cells #[.int .i64 n] 3)) := (Below.refl _ w).alloc (Nat.le_refl _) _
  refine (callsIn_wide.2 (of_any A c lc _ (by have := HLL.out; omega) HZL.out (reads_below HRL.out hb0))).mono ?_
  rintro e w1 ⟨ba, ra, wa, rfl, hNa, hma⟩
  have HNA := Lib.hid hNa
  have HMA := Lib.hid hma
  have HB1 := Lib.hid (hb0.trans (hNa.below.mono hb0.size))
  have bM : Boxed w1 w.heap.size 3 (.int .i64 n) := (hNa.below.block w.heap.size (by simp)).trans (Boxed.new w _ _)
  have BM := Lib.hid bM
  clear hNa hma hb0 bM
  gi_wp2_with fail
  obtain ⟨pb, hpb⟩ : ∃ pb, pb = w1.heap.size := ⟨_, rfl⟩
  obtain ⟨w2, hw2⟩ : ∃ w2, w2 = w1.alloc (.cells #[.pointer (some ⟨ba, 0, none⟩)] 23) := ⟨_, rfl⟩
  obtain ⟨pm, hpm⟩ : ∃ pm, pm = w.heap.size := ⟨_, rfl⟩
  rw [← hw2, ← hpb, ← hpm]
  have BB2 : Hid (Boxed w2 pb 23 (.pointer (some ⟨ba, 0, none⟩))) := Lib.hid (by rw [hw2, hpb]; exact Boxed.new w1 _ _)
  have BM2 : Hid (Boxed w2 pm 3 (.int .i64 n)) := Lib.hid (by rw [hw2, hpm]; exact BM.out.alloc _)
  have HBE12 : Hid (Below w1.heap.size w1 w2) := Lib.hid (by rw [hw2]; exact (Below.refl _ _).alloc (Nat.le_refl _) _)
  have HA2 : Hid (BitsAt w2 ba ra wa) := Lib.hid (HNA.out.at_.below HBE12.out)
  have HB2 : Hid (Below w.heap.size w w2) := Lib.hid (HB1.out.trans (HBE12.out.mono HB1.out.size))
  have HPM : Hid (pm = w.heap.size) := Lib.hid hpm
  have HPB : Hid (pb = w1.heap.size ∧ pb < w2.heap.size) := Lib.hid ⟨hpb, by rw [hw2, hpb]; simp⟩
  clear hpb hw2 hpm BM
  refine ⟨trivial, ?_⟩
  gi_at_call 8
  refine (callsIn_wide.2 (CUTL.out _)).mono ?_
  rintro e w0 ⟨rfl, rfl⟩
  gi_wp2_with fail
  refine ⟨trivial, ?_⟩
  gi_at_call 19
  have hO := of03_anyC lc A c w2 (by have := HLL.out; omega) (reads_below HRL.out HB2.out)
  rw [ofL_listW lc wa HMA.out] at hO
  refine (callsIn_wide.2 hO).mono ?_
  clear hO
  rintro e w3 ⟨Ax, cx, rfl, hB, hR, hA, hcx⟩
  obtain ⟨lx, hlx⟩ : ∃ lx, lx = (listW wa).length := ⟨_, rfl⟩
  rw [← hlx] at hcx ⊢
  have HLX := Lib.hid hlx
  have HCX := Lib.hid (hcx trivial)
  clear hcx
  have HX := Lib.hid (Fz.give hR hA)
  have HB23 := Lib.hid hB
  have HB3 := Lib.hid (HB2.out.trans (hB.mono HB2.out.size))
  have bM3 : Boxed w3 pm 3 (.int .i64 n) := (hB.block pm BM2.out.lt).trans BM2.out
  have hcM := bM3.cell
  have hfM := bM3.frozen
  have BM3 := Lib.hid bM3
  have BB3 : Hid (Boxed w3 pb 23 (.pointer (some ⟨ba, 0, none⟩))) := Lib.hid ((hB.block pb BB2.out.lt).trans BB2.out)
  clear hB hR hA hlx bM3
  have hcB := BB3.out.cell
  have hne1 : pb ≠ pm := by have h1 := HPM.out; have h2 := HPB.out.1; have h3 := HB1.out.size; have h4 := HNA.out.below.size; simp at h4; omega
  have hne2 : pm ≠ pb := fun e => hne1 e.symm
  have hltB : pb < w3.heap.size := BB3.out.lt
  have hltM : pm < w3.heap.size := BM3.out.lt
  have hcBv : ∀ v, ((w3.setCell ⟨pm, 0, none⟩ v).cell? ⟨pb, 0, none⟩) = some (.pointer (some ⟨ba, 0, none⟩)) := fun v => (BB3.out.other hne1 v).cell
  obtain ⟨mo, mv, hmv, hmx, hmn, hcs⟩ : ∃ (mo : Nat) (mv : Int), mv = (mo : Int) ∧ mo ≤ lx ∧ mo = (max (0 : Int) (min n (lx : Int))).toNat ∧ ((n ≤ 0 ∧ mv = 0) ∨ (0 < n ∧ n ≤ (lx : Int) ∧ mv = n) ∨ ((lx : Int) < n ∧ 0 < lx ∧ mv = lx) ∨ (0 < n ∧ lx = 0 ∧ mv = 0)) :=
    ⟨(max (0 : Int) (min n (lx : Int))).toNat, max (0 : Int) (min n (lx : Int)), by omega, by omega, rfl, by omega⟩
  have HMV := Lib.hid hmv
  have HMN := Lib.hid hmn
  clear hmv hmn
  have hba : ba < w3.heap.size := Nat.lt_of_lt_of_le HA2.out.blt HB23.out.size
  have hba0 : 0 < ba := by have h1 := HNA.out.nb; simp at h1; omega
  have hw0 : 0 < w.heap.size := World.block_lt_of_cell? w ⟨0, 0, none⟩ (HT.out 0 (by decide))
  have hra0 : ra ≠ some 0 := fun e => by have h1 := HNA.out.nr 0 e; simp at h1
  have HG : Hid (Geo w w3.heap.size pm pb ba ra Ax) := Lib.hid ⟨HB3.out.size, hw0, hltM, hltB, ⟨hba, by have h1 := HNA.out.nb; simp at h1; omega⟩, fun k e => by have h1 := HNA.out.nr k e; simp at h1; omega, fun g off e => by
    have h1 := HX.out.2 g ⟨off, e⟩
    have h2 := HX.out.1.lt g ⟨off, e⟩
    have h3 := HA2.out.blt
    refine ⟨h2, by omega, fun e2 => ?_⟩
    have h4 := HA2.out.rlt g e2
    omega⟩
  have HFS : Hid (∀ v : Int, v = (mo : Int) → (InL w w3.heap.size w3.heap.size pm pb (w3.heap.size + 1) ba ra (mo : Int) Ax (listW wa) [] ((((w3.setCell ⟨pm, 0, none⟩ (.int .i64 v)).alloc (.cells #[.slice none 0 0] 22)).alloc (.cells #[.slice none 0 0] 22)).alloc (.cells #[.pointer (some ⟨ba, 0, none⟩)] 23)) ∧
      Below w.heap.size w ((((w3.setCell ⟨pm, 0, none⟩ (.int .i64 v)).alloc (.cells #[.slice none 0 0] 22)).alloc (.cells #[.slice none 0 0] 22)).alloc (.cells #[.pointer (some ⟨ba, 0, none⟩)] 23))) ∧
      BitsAt ((((w3.setCell ⟨pm, 0, none⟩ (.int .i64 v)).alloc (.cells #[.slice none 0 0] 22)).alloc (.cells #[.slice none 0 0] 22)).alloc (.cells #[.pointer (some ⟨ba, 0, none⟩)] 23)) ba ra wa ∧
      Boxed ((((w3.setCell ⟨pm, 0, none⟩ (.int .i64 v)).alloc (.cells #[.slice none 0 0] 22)).alloc (.cells #[.slice none 0 0] 22)).alloc (.cells #[.pointer (some ⟨ba, 0, none⟩)] 23)) (w3.heap.size + 1 + 1) 23 (.pointer (some ⟨ba, 0, none⟩))) := Lib.hid (by
    intro v hv
    subst hv
    obtain ⟨X, hX⟩ : ∃ X, X = w3.setCell ⟨pm, 0, none⟩ (.int .i64 (mo : Int)) := ⟨_, rfl⟩
    have hXs : X.heap.size = w3.heap.size := by rw [hX]; simp
    have hXc : Chg (fun k => k = pm) w3 X := by rw [hX]; exact Chg.store w3 pm 0 _
    have hXm : Boxed X pm 3 (.int .i64 (mo : Int)) := by rw [hX]; exact BM3.out.set _
    have hXb : Boxed X pb 23 (.pointer (some ⟨ba, 0, none⟩)) := by rw [hX]; exact BB3.out.other hne1 _
    have hbm : ba ≠ pm := fun e => by have h1 := HNA.out.nb; have h2 := HPM.out; simp at h1; omega
    have hrm : ∀ k, ra = some k → k ≠ pm := fun k e e2 => by have h1 := HNA.out.nr k e; have h2 := HPM.out; simp at h1; omega
    have hXa : BitsAt X ba ra wa := (HA2.out.below HB23.out).kept hXc hbm hrm
    have hXr : ReadsAt X Ax (ints (listW wa)) := HX.out.1.holds.kept hXc fun g off e _ e2 => by
      have h1 := HX.out.2 g ⟨off, e⟩
      have h2 := BM2.out.lt
      omega
    have hXB : Below w.heap.size w X := HB3.out.trans (hXc.below HB3.out.size fun k e => by have h2 := HPM.out; omega)
    rw [← hX]
    have b1 := Boxed.new X 22 (.slice none 0 0)
    have b2 := Boxed.new (X.alloc (.cells #[.slice none 0 0] 22)) 22 (.slice none 0 0)
    have b3 := Boxed.new ((X.alloc (.cells #[.slice none 0 0] 22)).alloc (.cells #[.slice none 0 0] 22)) 23 (.pointer (some ⟨ba, 0, none⟩))
    rw [World.size_alloc] at b2
    rw [World.size_alloc, World.size_alloc] at b3
    rw [hXs] at b1 b2 b3
    have hbe : Below X.heap.size X (((X.alloc (.cells #[.slice none 0 0] 22)).alloc (.cells #[.slice none 0 0] 22)).alloc (.cells #[.pointer (some ⟨ba, 0, none⟩)] 23)) := (((Below.refl _ X).alloc (Nat.le_refl _) _).alloc (by simp) _).alloc (by simp; omega) _
    refine ⟨⟨⟨⟨_, (b1.alloc _).alloc _, World.ownsRow_nil _ _ _ _, trivial⟩, ⟨ra, wa, hXa.below hbe, .inl rfl⟩, ((hXm.alloc _).alloc _).alloc _, ((hXb.alloc _).alloc _).alloc _, b2.alloc _, reads_below hXr hbe, by simp; omega⟩, hXB.trans (hbe.mono (by have := HB3.out.size; omega))⟩, hXa.below hbe, b3⟩)
  rcases hcs with ⟨hq, rfl⟩ | ⟨hq, hq2, rfl⟩ | ⟨hq, hq2, rfl⟩ | ⟨hq, rfl, rfl⟩
  all_goals
    gi_wp2_with (refine ⟨trivial, ?_⟩; gi_at_call 20; refine (callsIn_wide.2 (each_any _ _)).mono ?_; rintro e w' ⟨rfl, rfl⟩)
    obtain ⟨⟨hI0, hB0⟩, hbits0, hE0⟩ := HFS.out _ HMV.out
    refine wpIn_rangeFunc_ownG rfl (by omega) (gf := 34) (lb := #[.pointer (some ⟨w3.heap.size + 1 + 1, 0, none⟩)]) rfl trivial (enters_of Tryd.func34 (by kernel_rfl) rfl)
      (each_stopsS (5 - 1) hn1 (w3.heap.size + 1 + 1) ba ra wa _ hE0.cell hbits0 hra0 (HT.out.below hB0)) KpB.trans (fun W l o o' hl hh hc _ => KpB.put (n := w3.heap.size) hba (Nat.le_trans (by simp; omega) hl) hh hc) (Below.refl _ _) (fun _ => rfl)
      (fun (pre : List Num) W => (InL w w3.heap.size w3.heap.size pm pb (w3.heap.size + 1) ba ra (mo : Int) Ax (listW wa) (vals pre) W ∧ Below w.heap.size w W) ∧ pre.length ≤ mo)
      (fun c (pre : List Num) W => (InL w w3.heap.size w3.heap.size pm pb (w3.heap.size + 1) ba ra (mo : Int) Ax (listW wa) (vals pre).dropLast W ∧ Below w.heap.size w W) ∧ c = .exit 0 ∧ pre.length = mo + 1)
      (OwnFrom.and (OwnFrom.and (Own.from (fun s X Y row h hg hr => inL_own w _ _ pm pb _ ba ra _ Ax _ (vals s) X Y row h hg hr) _) (ownFrom_below (Nat.le_refl _) (by have := HB3.out.size; simp; omega))) (ownFrom_pure _ _))
      (fun c => OwnFrom.and (OwnFrom.and (Own.from (fun s X Y row h hg hr => inL_own w _ _ pm pb _ ba ra _ Ax _ (vals s).dropLast X Y row h hg hr) _) (ownFrom_below (Nat.le_refl _) (by have := HB3.out.size; simp; omega))) (ownFrom_pure _ _))
      ⟨⟨hI0, hB0⟩, Nat.zero_le _⟩ ?_ ?_ ?_ ?_ ?_
    rotate_left 1
    · intro l x W K hK
      gi_wp2
      exact hK
    · rintro l pre x W ⟨⟨hI, hB⟩, hmo⟩ hlt
      obtain ⟨v, hv, hrow, _⟩ := hI.some_
      obtain ⟨r, ws, hbits, hr⟩ := hI.bits
      have hcm := hI.most.cell
      have hcb := hI.set_.cell
      obtain ⟨Av, cv, rfl, _⟩ := owns_reads hrow
      rw [vals_len] at hv hrow
      have hcs := hv.cell
      by_cases hb : pre.length = mo
      · rw [hb] at hcs
        gi_wp2_with fail
        exact ⟨KeepsFrom.refl _ _, ⟨by rw [vals_snoc, List.dropLast_concat]; exact hI, hB⟩, rfl, by simp [hb]⟩
      · clear hmx
        have hne3 : ((pre.length : Int) == (mo : Int)) = false := beq_eq_false_iff_ne.2 (by omega)
        have hne4 : (pre.length == mo) = false := beq_eq_false_iff_ne.2 hb
        obtain ⟨z, hz0, hz1⟩ := x
        obtain ⟨i0, hi, hzz, hz2, hz3⟩ := info_parts info_int'
        have hpl : pre.length ≤ 65536 := by have := listW_len wa hbits0.len; omega
        gi_wp2_with (gi_at_builtin; refine wpListIn_append_own _ rfl _ _ 22 rfl w3.heap.size 3 i0 (.int .i64 0) 1 8 Tryd.underlying22 hi hzz hz2 hz3 rfl (by decide) _ _ _ rfl (hrow.alloc _) ⟨W.heap.size, 0, none⟩ 1 1 [.int .i64 z] rfl rfl (cell_one_new _ _ _) (by simp [Value.oneCell']) (by unfold maxLen; omega) (by omega) (by have := hI.size; simp; omega) ?_; intro v' w1 hown' hgrow _; obtain ⟨g', cap', rfl⟩ := ownsRow_succ hown'; obtain ⟨hv1, hv2, hr2, hk2, hb2⟩ := hv.appended (by decide) hrow hI.size (Nat.le_refl _) hown' hgrow; have hc1 := hv1.cell; have hf1 := hv1.frozen; have hcb1 := ((hI.set_.alloc _).kept hgrow (hI.set_.not_row (by decide) hrow)).cell)
        obtain ⟨hI1, hbX, hk1⟩ := hI.add (z := z) HG.out (by omega) hbits hr hv (by rw [vals_len]; exact hrow) hgrow hv2 (by rw [vals_len]; exact hr2)
        have hcb2 := hI1.set_.cell
        refine ⟨trivial, ?_⟩
        gi_at_call 10
        refine (CallsIn.inRound l (callsIn_wide.2 (put_any hbX (z - 1) ⟨by omega, by omega⟩))).mono ?_
        rintro e Y ⟨rfl, r1, ws1, hP, _⟩
        obtain ⟨hk3, hI3, hB3, hbY, hr3⟩ := hI1.grow HG.out (hB.trans (hb2.mono (by have := HB3.out.size; omega))) hbX hr hP
        have hcb3 := hI3.set_.cell
        gi_wp2_with fail
        refine ⟨trivial, ?_⟩
        gi_at_call 12
        refine (CallsIn.inRound l (callsIn_wide.2 (drop_any hbY z (by omega)))).mono ?_
        rintro e Z ⟨rfl, ws2, hD, _⟩
        obtain ⟨hk4, hI4, hB4, _, _⟩ := hI3.grow HG.out hB3 hbY hr3 hD
        gi_wp2
        exact ⟨(hk2.from _).trans ((keeps_grown hP hbX).trans (keeps_grown hD hbY)), (hk1.trans hk3).trans hk4, ⟨by rw [vals_snoc]; exact hI4, hB4⟩, by simp; omega⟩
    rotate_left 1
    all_goals
      first
      | (intro D c0 pre W hD hp h hK
         obtain ⟨⟨hI, hB⟩, rfl, hmo⟩ := h
         have hsome : (vals pre).dropLast = (listW wa).take mo := by
           have h1 := vals_len pre
           rw [List.dropLast_eq_take, h1, hmo]
           obtain ⟨t, ht⟩ := hp
           rw [← ht, List.take_append_of_le_length (by omega)]
           rfl
         rw [hsome] at hI
         have HI := Lib.hid hI
         have HB := Lib.hid hB
         have HK := Lib.hid hK
         clear hI hB hK hsome hmo hp)
      | (intro D ys W hD hys h hK
         obtain ⟨⟨hI, hB⟩, hmo⟩ := h
         have hsome : vals ys = (listW wa).take mo := by
           have h1 := vals_len ys
           rw [hys] at h1 ⊢
           have h2 := HLX.out
           rw [List.take_of_length_le (by omega)]
         rw [hsome] at hI
         have HI := Lib.hid hI
         have HB := Lib.hid hB
         have HK := Lib.hid hK
         clear hI hB hK hsome hmo hys)
      gi_wp2_with fail
      refine ⟨trivial, ?_⟩
      gi_at_call 8
      refine (callsIn_wide.2 (CUTL.out _)).mono ?_
      rintro e w0 ⟨rfl, rfl⟩
      gi_wp2_with fail
      refine ⟨trivial, ?_⟩
      gi_at_call 7
      refine (callsIn_wide.2 (of_any A c lc W (by have := HLL.out; omega) HZL.out (reads_below HRL.out HB.out))).mono ?_
      rintro e w5 ⟨bc, rc, wc, rfl, hNc, hmc⟩
      have HNC := Lib.hid hNc
      have HWC := Lib.hid ((listW_ext wc wa).2 fun m => (hmc m).trans (HMA.out m).symm)
      clear hNc hmc
      gi_wp2_with fail
      refine ⟨trivial, ?_⟩
      gi_at_call 20
      refine (callsIn_wide.2 (each_any _ _)).mono ?_
      rintro e w6 ⟨rfl, rfl⟩
      gi_wp2_with fail
      have hbel := HNC.out.below
      have hlen : ((listW wa).take mo).length = mo := by have h2 := HLX.out; rw [List.length_take]; omega
      have hP : ∃ v1, Boxed w5 w3.heap.size 22 v1 ∧ w5.ownsRow w3.heap.size 3 1 v1 mo (((listW wa).take mo).map (Value.int .i64)) := by
        obtain ⟨v1, h1, h2, _⟩ := HI.out.some_
        rw [hlen] at h2
        exact ⟨v1, (hbel.block _ h1.lt).trans h1, owns_chg h2 (Chg.of_below hbel (fun _ => False)) fun _ _ h => h⟩
      obtain ⟨vs, hvs, hrs⟩ := hP
      have hM5 : Boxed w5 pm 3 (.int .i64 (mo : Int)) := (hbel.block _ HI.out.most.lt).trans HI.out.most
      have hA5 : Boxed w5 (w3.heap.size + 1) 22 (.slice none 0 0) := (hbel.block _ HI.out.again.lt).trans HI.out.again
      have hX5 : ReadsAt w5 Ax (ints (listW wa)) := reads_below HI.out.row hbel
      have hD5 : w5.heap[D]? = some (.deferred (some [])) := (hbel.block D (lt_of_heap' HK.out)).trans HK.out
      have hB5 : Below w.heap.size w w5 := HB.out.trans (hbel.mono HB.out.size)
      have hT5 : TabAt w5 := HT.out.below hB5
      have hbits5 := HNC.out.at_
      have hrc0 : rc ≠ some 0 := fun e => by have h1 := HNC.out.nr 0 e; have h2 := HI.out.size; have h3 := HB3.out.size; omega
      have hwc := HWC.out
      have hs35 : w3.heap.size ≤ w5.heap.size := Nat.le_trans HI.out.size hbel.size
      clear HNC HWC HI HB HK hbel
      have bN := Boxed.new w5 23 (.pointer (some ⟨bc, 0, none⟩))
      have hB6 : Below w5.heap.size w5 (w5.alloc (.cells #[.pointer (some ⟨bc, 0, none⟩)] 23)) := (Below.refl _ _).alloc (Nat.le_refl _) _
      obtain ⟨i0, hi, hzz, hz2, hz3⟩ := info_parts info_int'
      have hltA := hA5.lt
      have hbc5 := hbits5.blt
      have hwl : (listW wc).length ≤ 65536 := by have := listW_len wc hbits5.len; omega
      refine wpIn_rangeFunc_ownG rfl (by omega) (gf := 34) (lb := #[.pointer (some ⟨w5.heap.size, 0, none⟩)]) rfl trivial (enters_of Tryd.func34 (by kernel_rfl) rfl)
        (each_stops (5 - 1) hn1 w5.heap.size bc rc wc _ bN.cell (hbits5.below hB6) hrc0 (hT5.below hB6)) KpB.trans (fun W l o o' hl hh hc _ => KpB.put (n := w5.heap.size) hbc5 (Nat.le_trans hB6.size hl) hh hc) (Below.refl _ _) (fun _ => rfl)
        (fun (pre : List Int) Z => (∃ v, Boxed Z (w3.heap.size + 1) 22 v ∧ Z.ownsRow w5.heap.size 3 1 v pre.length (pre.map (Value.int .i64)) ∧ True) ∧ Chg (fun k => k = w3.heap.size + 1) w5 Z)
        (fun _ _ _ => False)
        (OwnFrom.and (Own.from (holdsRow_own w5.heap.size (w3.heap.size + 1) 22 3 1 (fun pre : List Int => pre.length) (fun pre : List Int => pre.map (Value.int .i64)) (fun _ _ => True)) _) (ownFrom_chg (by simp)))
        (fun _ _ _ _ _ hs _ _ => hs)
        ⟨⟨_, hA5.alloc _, World.ownsRow_nil _ _ _ _, trivial⟩, (Chg.refl _ _).alloc _⟩ ?_ ?_ ?_ ?_ ?_
      rotate_left 1
      · intro l x Z K hK
        gi_wp2
        exact hK
      · rintro l pre x Z ⟨⟨v, hv, hrow, _⟩, hC⟩ hlt
        have hc := hv.cell
        have hbZ : BitsAt Z bc rc wc := hbits5.kept hC (fun e => by
          obtain ⟨v0, h3, _⟩ := hbits5.ex
          rw [e, show w5.heap[w3.heap.size + 1]? = _ from hA5] at h3
          injection h3 with h3
          injection h3 with _ ht _
          exact absurd ht (by decide)) (fun k hk e => by
          obtain ⟨v0, _, h4⟩ := hbits5.ex
          exact row_ne_of_type h4 hA5 (by decide) (hk.trans (by rw [e])))
        have hneb : bc ≠ w3.heap.size + 1 := fun e => by
          obtain ⟨v0, h3, _⟩ := hbits5.ex
          rw [e, show w5.heap[w3.heap.size + 1]? = _ from hA5] at h3
          injection h3 with h3
          injection h3 with _ ht _
          exact absurd ht (by decide)
        gi_wp2_with (gi_at_builtin; refine wpListIn_append_own _ rfl _ _ 22 rfl w5.heap.size 3 i0 (.int .i64 0) 1 8 Tryd.underlying22 hi hzz hz2 hz3 rfl (by decide) _ _ _ rfl (hrow.alloc _) ⟨Z.heap.size, 0, none⟩ 1 1 [.int .i64 x] rfl rfl (cell_one_new _ _ _) (by simp [Value.oneCell']) (by unfold maxLen; omega) (by omega) (by have := hC.size; simp; omega) ?_; intro v' w1 hown' hgrow _; obtain ⟨g', cap', rfl⟩ := ownsRow_succ hown'; obtain ⟨hv1, hv2, hr2, hk2, hC2⟩ := appended2 hv (by decide) hrow hown' hgrow; have hc1 := hv1.cell; have hf1 := hv1.frozen)
        exact ⟨hk2.from _, kp_append2 hbZ hv hrow hgrow hneb (by omega) (by omega) (by have := hC.size; omega) _, ⟨⟨_, hv2, by simpa using hr2, trivial⟩, hC.trans hC2 fun i hi e => by omega⟩⟩
      rotate_left 1
      · rintro D2 cc pre Z _ _ h _
        exact h.elim
      rintro D2 ys Z hD2 hys ⟨⟨v, hv, hrow, _⟩, hC⟩ hK2
      rw [hys, hwc] at hrow
      rw [← HLX.out] at hrow
      obtain ⟨Av, cv, rfl, hra⟩ := owns_reads hrow
      have hvsZ : Boxed Z w3.heap.size 22 vs := hC.heap hvs (by omega)
      have hrsZ := owns_chg hrs hC fun j hj e => hA5.not_row (by decide) hrs (by rw [hj, e])
      obtain ⟨As, cs, rfl, hras⟩ := owns_reads hrsZ
      have hMZ : Boxed Z pm 3 (.int .i64 (mo : Int)) := hC.heap hM5 (by omega)
      have hXZ : ReadsAt Z Ax (ints (listW wa)) := hX5.kept hC fun q off e _ hs => by have := (HG.out.ax q off e).1; omega
      have hneD : D ≠ w3.heap.size + 1 := fun e => by
        rw [e, show w5.heap[w3.heap.size + 1]? = _ from hA5] at hD5
        cases hD5
      have hDZ : Z.heap[D]? = some (.deferred (some [])) := hC.heap hD5 hneD
      have hne12 : D ≠ D2 := fun e => by
        have h1 := lt_of_heap' hD5
        simp at hD2
        omega
      have hBZ : Below w.heap.size w Z := hB5.trans (hC.below hB5.size fun i hi => by have := HB3.out.size; omega)
      have hF : FinL w (w3.heap.size + 1) w3.heap.size pm D D2 Av As Ax _ mo cv cs cx (listW wa) Z :=
        ⟨HLX.out, by have h1 := HLX.out; rw [hwc] at hwl; omega, hmx, hv.cell, hvsZ.cell, hMZ.cell, hra, hras, hXZ, hDZ, hK2, hBZ⟩
      have hD3 : w.heap.size ≤ D2 := by have := hB5.size; simp at hD2; omega
      have hD1 : w.heap.size ≤ D := by have := HB3.out.size; simp at hD; omega
      have SS := Lib.hid hF
      have hcA := hF.ca
      have hcS := hF.cs_
      have hcM := hF.cm
      have HC1 := Lib.hid hmx
      have hm1 : mo ≤ cx := Nat.le_trans hmx HCX.out
      have HNE := Lib.hid hne12
      have HD1 := Lib.hid hD1
      have HD3 := Lib.hid hD3
      have HHD := Lib.hid hD
      clear hF hv hrow hC hK2 hys hra hvsZ hrsZ hras hMZ hXZ hneD hDZ hne12 hBZ hvs hrs hM5 hA5 hX5 hD5 hB5 hT5 hbits5 hB6 bN hwc hwl hD1 hD3 hltA hbc5 hrc0 hs35 hlen hmx hD hD2
      clear HFS hI0 hB0 hbits0 hE0
      gi_wp2_with fail
      refine wpIn_wide.2 ?_
      have hFd := SS.out.drew
      have SS := Lib.hid hFd
      have hcA := hFd.ca
      have hcS := hFd.cs_
      have hcM := hFd.cm
      clear hFd
      first
      | (go_region_held3 (fun Y => Y.cell? ⟨w3.heap.size + 1, 0, none⟩ = some (.slice Av lx cv) ∧ Y.cell? ⟨w3.heap.size, 0, none⟩ = some (.slice As mo cs) ∧ Y.cell? ⟨pm, 0, none⟩ = some (.int .i64 (mo : Int))) (first | exact ⟨hcA, hcS, hcM⟩ | go_keep) (first | (go_at_call 14; with_reducible refine (SS.out.same1).mono ?_; rintro e Y ⟨rfl, hF⟩; have SS := Lib.hid hF; have hcA := hF.ca; have hcS := hF.cs_; have hcM := hF.cm; clear hF) | (go_at_call 14; with_reducible refine (SS.out.same2).mono ?_; rintro e Y ⟨rfl, hF⟩; have SS := Lib.hid hF; have hcA := hF.ca; have hcS := hF.cs_; have hcM := hF.cm; clear hF) | (go_at_call 18; with_reducible refine (SS.out.lives).mono ?_; rintro e Y ⟨rfl, hF⟩; have SS := Lib.hid hF; have hcA := hF.ca; have hcS := hF.cs_; have hcM := hF.cm; clear hF)))
      | (go_region_held3 (fun Y => Y.cell? ⟨w3.heap.size + 1, 0, none⟩ = some (.slice Av 0 cv) ∧ Y.cell? ⟨w3.heap.size, 0, none⟩ = some (.slice As mo cs) ∧ Y.cell? ⟨pm, 0, none⟩ = some (.int .i64 (mo : Int))) (first | exact ⟨hcA, hcS, hcM⟩ | go_keep) (first | (go_at_call 14; with_reducible refine (SS.out.same1).mono ?_; rintro e Y ⟨rfl, hF⟩; have SS := Lib.hid hF; have hcA := hF.ca; have hcS := hF.cs_; have hcM := hF.cm; clear hF) | (go_at_call 14; with_reducible refine (SS.out.same2).mono ?_; rintro e Y ⟨rfl, hF⟩; have SS := Lib.hid hF; have hcA := hF.ca; have hcS := hF.cs_; have hcM := hF.cm; clear hF) | (go_at_call 18; with_reducible refine (SS.out.lives).mono ?_; rintro e Y ⟨rfl, hF⟩; have SS := Lib.hid hF; have hcA := hF.ca; have hcS := hF.cs_; have hcM := hF.cm; clear hF)))
      all_goals
        gi_wp2
        refine ⟨by simp, .inl ⟨_, _, rfl, run_takeDeferred SS.out.d2, ⟨by simp, .inl ⟨_, _, rfl, run_takeDeferred (SS.out.d1' HNE.out), ?_⟩⟩⟩⟩
        exact ⟨_, by simp [results, Tryd.results4, go_sem], rfl, SS.out.ends HNE.out HD1.out HD3.out⟩
end Go.Proofs.YtdnlgcomhgnegaaDoor
