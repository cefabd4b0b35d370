/- Many sets in memory, no two in one block; what may turn; deferred marks. -/
import Derived.Test.YtlniohgnkihefaaLiveM
import Derived.RangeFuncNested
namespace Go.Proofs.Ytlniohgnkihefaa
open Go.RowKit

structure BM where
  b : Nat
  r : Option Nat
  ws : List Nat
def BM.ptr (p : BM) : Value := .pointer (some ⟨p.b, 0, none⟩)
def BM.foot (p : BM) (k : Nat) : Prop := FootB p.b p.r k
/-- A block that a set's step may turn. -/
def Turns (o : Obj) : Prop := ∃ c f, o = .cells c 81 f ∨ o = .cells c 101 f ∨ o = .cells c 4 f
structure KT (W W' : World) : Prop where
  size : W.heap.size ≤ W'.heap.size
  blk : ∀ (k : Nat) (o : Obj), W.heap[k]? = some o → ¬ Turns o → W'.heap[k]? = some o
theorem KT.refl (W : World) : KT W W := ⟨Nat.le_refl _, fun _ _ h _ => h⟩
theorem KT.trans {A B C : World} (h : KT A B) (k : KT B C) : KT A C := ⟨Nat.le_trans h.size k.size, fun i o hi ho => k.blk i o (h.blk i o hi ho) ho⟩
theorem KT.of_chg {S : Nat → Prop} {W W' : World} (h : Chg S W W') (hS : ∀ k, S k → ∀ o : Obj, W.heap[k]? = some o → Turns o) : KT W W' :=
  ⟨h.size, fun k o hk ho => (h.block k (lt_of_heap hk) fun hs => ho (hS k hs o hk)).trans hk⟩
theorem KT.of_below {W W' : World} (h : Below W.heap.size W W') : KT W W' := KT.of_chg (S := fun _ => False) (Chg.of_below h _) fun _ h => h.elim
theorem foot_turns {W : World} {b : Nat} {r : Option Nat} {ws : List Nat} (h : BitsAt W b r ws) : ∀ k, FootB b r k → ∀ o : Obj, W.heap[k]? = some o → Turns o := by
  obtain ⟨v, h1, h2⟩ := h.ex
  rintro k (rfl | hk) o ho
  · rw [h1] at ho; cases ho; exact ⟨_, _, .inl rfl⟩
  · rcases h2.2 with ⟨_, h0, _⟩ | ⟨g, off, cap, cur, _, h0, hg, _⟩
    · rw [h0] at hk; cases hk
    · rw [h0] at hk; cases hk
      rw [hg] at ho; cases ho; exact ⟨_, _, .inr (.inl rfl)⟩
theorem KT.of_grow {W W' : World} {b : Nat} {r r' : Option Nat} {ws ws' : List Nat} (h : BitsAt W b r ws) (g : GrowAt W b r ws W' r' ws') : KT W W' := KT.of_chg g.chg (foot_turns h)
theorem KT.store_bool {W : World} {b : Nat} {v : Value} {f : Nat × Nat} (h : W.heap[b]? = some (.cells #[v] 4 f)) (u : Value) : KT W (W.setCell ⟨b, 0, none⟩ u) :=
  KT.of_chg (Chg.store W b 0 u) fun k e o ho => by rw [e, h] at ho; cases ho; exact ⟨_, _, .inr (.inr rfl)⟩
theorem RowAt.kt {W W' : World} {e size n : Nat} {v : Value} {r : Option Nat} {xs : List Value} (h : RowAt W e size v r n xs) (k : KT W W') (he : e ≠ 81 ∧ e ≠ 101 ∧ e ≠ 4) : RowAt W' e size v r n xs := by
  refine ⟨h.1, ?_⟩
  rcases h.2 with h2 | ⟨g, off, cap, cur, hv, hr, hg, rest⟩
  · exact .inl h2
  · refine .inr ⟨g, off, cap, cur, hv, hr, k.blk g _ hg ?_, rest⟩
    rintro ⟨c, f, h | h | h⟩ <;> cases h <;> simp at he
theorem Boxed.kt {W W' : World} {b t : Nat} {v : Value} (h : Boxed W b t v) (k : KT W W') (he : t ≠ 81 ∧ t ≠ 101 ∧ t ≠ 4) : Boxed W' b t v :=
  k.blk b _ h (by rintro ⟨c, f, h | h | h⟩ <;> cases h <;> simp at he)
theorem KT.from {W W' : World} (h : KT W W') (B : Nat) : KeepsFrom B W W' := ⟨h.size, fun k o _ hk ho => h.blk k o hk (by rintro ⟨c, f, h | h | h⟩ <;> subst h <;> cases ho)⟩

/-- Sets, no two in one block. -/
structure Sets (W : World) (ps : List BM) : Prop where
  at_ : ∀ p ∈ ps, BitsAt W p.b p.r p.ws
  apart : ∀ i j (hi : i < ps.length) (hj : j < ps.length), i ≠ j → ps[i].b ≠ ps[j].b ∧ ∀ k, ps[i].r = some k → ps[j].r ≠ some k
theorem bits_ne {W : World} {b b' : Nat} {r r' : Option Nat} {ws ws' : List Nat} (h : BitsAt W b r ws) (h' : BitsAt W b' r' ws') : r ≠ some b' := by
  obtain ⟨v, _, h2⟩ := h.ex
  obtain ⟨v', h1', _⟩ := h'.ex
  exact row_ne_of_type h2 h1' (by decide)
/-- One grows: the others stay. -/
theorem Sets.grow {W W' : World} {ps : List BM} (h : Sets W ps) (i : Nat) (hi : i < ps.length) {r' : Option Nat} {ws' : List Nat} (g : GrowAt W ps[i].b ps[i].r ps[i].ws W' r' ws') : Sets W' (ps.set i ⟨ps[i].b, r', ws'⟩) := by
  have hl : ∀ j (hj : j < (ps.set i ⟨ps[i].b, r', ws'⟩).length), j < ps.length := fun j hj => by rw [List.length_set] at hj; exact hj
  refine ⟨fun p hp => ?_, fun a c ha hc hne => ?_⟩
  · obtain ⟨j, hj, rfl⟩ := List.getElem_of_mem hp
    have hj' := hl j hj
    by_cases e : i = j
    · subst e
      rw [List.getElem_set_self]; exact g.at_
    · rw [List.getElem_set_ne e]
      have h1 := h.at_ _ (List.getElem_mem hj')
      have h2 := h.apart i j hi hj' e
      have h3 := h.at_ _ (List.getElem_mem hi)
      refine h1.kept g.chg ?_ ?_
      · rintro (e2 | e2)
        · exact h2.1 e2.symm
        · exact bits_ne h3 h1 e2.symm
      · rintro k hk (e2 | e2)
        · exact bits_ne h1 h3 (by rw [hk, e2])
        · exact h2.2 k e2.symm hk
  · have ha' := hl a ha
    have hc' := hl c hc
    have key : ∀ j (hj : j < ps.length), j ≠ i → ∀ k, r' = some k → ps[j].r ≠ some k := fun j hj hji k hk e2 => by
      rcases g.new with h1 | ⟨q, h1, h2⟩
      · exact (h.apart i j hi hj (Ne.symm hji)).2 k (by rw [← h1]; exact hk) e2
      · have := (h.at_ _ (List.getElem_mem hj)).rlt k e2
        rw [hk] at h1; cases h1; omega
    by_cases e : i = a
    · subst e
      rw [List.getElem_set_self, List.getElem_set_ne hne]
      exact ⟨(h.apart i c hi hc' hne).1, fun k hk => key c hc' (Ne.symm hne) k hk⟩
    · by_cases e2 : i = c
      · subst e2
        rw [List.getElem_set_self, List.getElem_set_ne e]
        exact ⟨(h.apart a i ha' hi hne).1, fun k hk e3 => key a ha' hne k e3 hk⟩
      · rw [List.getElem_set_ne e, List.getElem_set_ne e2]
        exact h.apart a c ha' hc' hne
theorem Sets.below {W W' : World} {ps : List BM} (h : Sets W ps) (hb : Below W.heap.size W W') : Sets W' ps :=
  ⟨fun p hp => (h.at_ p hp).kept (Chg.of_below hb (fun _ => False)) (fun h => h) (fun _ _ h => h), h.apart⟩
theorem Sets.chg {W W' : World} {ps : List BM} (h : Sets W ps) {S : Nat → Prop} (hc : Chg S W W') (hS : ∀ p ∈ ps, ¬ S p.b ∧ ∀ k, p.r = some k → ¬ S k) : Sets W' ps :=
  ⟨fun p hp => (h.at_ p hp).kept hc (hS p hp).1 (hS p hp).2, h.apart⟩
theorem Sets.nil (W : World) : Sets W [] := ⟨fun _ h => (by cases h), fun _ _ h => (by simp at h)⟩
/-- One more, new. -/
theorem Sets.push {W W' : World} {ps : List BM} (h : Sets W ps) {b : Nat} {r : Option Nat} {ws : List Nat} (g : NewBits W W' b r ws) : Sets W' (ps ++ [⟨b, r, ws⟩]) := by
  have h' := h.below g.below
  refine ⟨fun p hp => ?_, fun i j hi hj hne => ?_⟩
  · rcases List.mem_append.1 hp with hp | hp
    · exact h'.at_ p hp
    · rw [List.mem_singleton.1 hp]; exact g.at_
  · have key : ∀ j (hj : j < ps.length), ps[j].b ≠ b ∧ ∀ k, ps[j].r = some k → r ≠ some k := fun j hj => by
      have h1 := h.at_ _ (List.getElem_mem hj)
      refine ⟨fun e => ?_, fun k hk e => ?_⟩
      · have := h1.blt; have := g.nb; omega
      · have := h1.rlt k hk; have := g.nr k e; omega
    rw [List.length_append, List.length_singleton] at hi hj
    by_cases a : i < ps.length
    · rw [List.getElem_append_left a]
      by_cases c : j < ps.length
      · rw [List.getElem_append_left c]; exact h.apart i j a c hne
      · obtain rfl : j = ps.length := by omega
        rw [List.getElem_append_right (by omega)]; simp only [Nat.sub_self, List.getElem_cons_zero]
        exact key i a
    · obtain rfl : i = ps.length := by omega
      have c : j < ps.length := by omega
      rw [List.getElem_append_left c, List.getElem_append_right (by omega)]; simp only [Nat.sub_self, List.getElem_cons_zero]
      exact ⟨fun e => (key j c).1 e.symm, fun k hk e => (key j c).2 k e hk⟩
theorem Sets.pop {W : World} {ps qs : List BM} (h : Sets W (ps ++ qs)) : Sets W ps := by
  refine ⟨fun p hp => h.at_ p (List.mem_append_left _ hp), fun i j hi hj hne => ?_⟩
  have := h.apart i j (by rw [List.length_append]; omega) (by rw [List.length_append]; omega) hne
  rw [List.getElem_append_left hi, List.getElem_append_left hj] at this
  exact this
/-- Deferred marks of loops that are done. -/
inductive Marks (W : World) : List Deferred → Prop
  | nil : Marks W []
  | cons (D : Nat) (ds : List Deferred) (h : W.heap[D]? = some (.deferred (some []))) (hn : ∀ d ∈ ds, ∀ E, d.target = .collected E → E < D) (hs : Marks W ds) : Marks W ({ target := .collected D, args := #[] } :: ds)
theorem Marks.kt {W W' : World} {ds : List Deferred} (h : Marks W ds) (k : KT W W') : Marks W' ds := by
  induction h with
  | nil => exact .nil
  | cons D ds hD hn _ ih => exact .cons D ds (k.blk D _ hD (by rintro ⟨c, f, h | h | h⟩ <;> cases h)) hn ih
theorem Marks.lt {W : World} {ds : List Deferred} (h : Marks W ds) : ∀ d ∈ ds, ∀ E, d.target = .collected E → E < W.heap.size := by
  induction h with
  | nil => intro d hd; cases hd
  | cons D ds hD _ _ ih =>
    intro d hd E hE
    rcases List.mem_cons.1 hd with rfl | hd
    · cases hE; exact lt_of_heap hD
    · exact ih d hd E hE
theorem Marks.grown {W W' : World} {ds : List Deferred} {row : Option Nat} (h : Marks W ds) (hg : W.grownBy W' row) (hr : ∀ r, row = some r → ∀ d ∈ ds, ∀ E, d.target = .collected E → E ≠ r) : Marks W' ds := by
  induction h with
  | nil => exact .nil
  | cons D ds hD hn _ ih =>
    refine .cons D ds ((hg.block D (lt_of_heap hD) fun e => ?_).trans hD) hn (ih fun r e d hd => hr r e d (by simp [hd]))
    exact hr D e.symm { target := .collected D, args := #[] } (by simp) D rfl rfl
/-- What cells show: what an 'own' step leaves. -/
theorem own_chg {X Y : World} {row : Option Nat} (hg : X.grownBy Y row) : Chg (fun k => some k = row) X Y := Chg.of_grownBy hg
theorem own_ne {X : World} {row : Option Nat} {k : Nat} {c : Array Value} {t : Nat} {f : Nat × Nat} (hr : ∀ r, row = some r → ∃ o : Obj, X.heap[r]? = some o ∧ o.isCells = false) (hk : X.heap[k]? = some (.cells c t f)) : ¬ some k = row := by
  intro e
  obtain ⟨o, ho, hc⟩ := hr k e.symm
  rw [hk] at ho; cases ho; cases hc
theorem BitsAt.own {X Y : World} {b : Nat} {r : Option Nat} {ws : List Nat} {row : Option Nat} (h : BitsAt X b r ws) (hg : X.grownBy Y row) (hr : ∀ r, row = some r → ∃ o : Obj, X.heap[r]? = some o ∧ o.isCells = false) : BitsAt Y b r ws := by
  obtain ⟨v, h1, h2⟩ := h.ex
  refine h.kept (own_chg hg) (own_ne hr h1) fun k hk => ?_
  rcases h2.2 with ⟨_, h0, _⟩ | ⟨g, off, cap, cur, _, h0, hgc, _⟩
  · rw [h0] at hk; cases hk
  · rw [h0] at hk; cases hk
    exact own_ne hr hgc
theorem RowAt.own {X Y : World} {e size n : Nat} {v : Value} {r : Option Nat} {xs : List Value} {row : Option Nat} (h : RowAt X e size v r n xs) (hg : X.grownBy Y row) (hr : ∀ r, row = some r → ∃ o : Obj, X.heap[r]? = some o ∧ o.isCells = false) : RowAt Y e size v r n xs := by
  refine h.kept (own_chg hg) fun k hk => ?_
  rcases h.2 with ⟨_, h0, _⟩ | ⟨g, off, cap, cur, _, h0, hgc, _⟩
  · rw [h0] at hk; cases hk
  · rw [h0] at hk; cases hk
    exact own_ne hr hgc
theorem Sets.own {X Y : World} {ps : List BM} {row : Option Nat} (h : Sets X ps) (hg : X.grownBy Y row) (hr : ∀ r, row = some r → ∃ o : Obj, X.heap[r]? = some o ∧ o.isCells = false) : Sets Y ps :=
  ⟨fun p hp => (h.at_ p hp).own hg hr, h.apart⟩

/-- dead's flow in memory: the struct at bl, the two rows of sets, other sets ex beside them. -/
structure FlowM (W0 : World) (bl n : Nat) (vI vO : Value) (ps ex : List BM) (W : World) : Prop where
  below : Below W0.heap.size W0 W
  box : W.heap[bl]? = some (.cells #[vI, vO] 61 (0, 0))
  rI : ∃ r, RowAt W 65 1 vI r n ((ps.take n).map BM.ptr)
  rO : ∃ r, RowAt W 65 1 vO r n ((ps.drop n).map BM.ptr)
  sets : Sets W (ps ++ ex)
  low : ∀ p ∈ ps ++ ex, W0.heap.size ≤ p.b ∧ ∀ k, p.r = some k → W0.heap.size ≤ k
  len : ps.length = n + n
section
variable {W0 W W' : World} {bl n : Nat} {vI vO : Value} {ps ex : List BM}
theorem FlowM.at_ (h : FlowM W0 bl n vI vO ps ex W) (i : Nat) (hi : i < ps.length) : BitsAt W ps[i].b ps[i].r ps[i].ws := h.sets.at_ _ (List.mem_append_left _ (List.getElem_mem hi))
theorem map_set_ptr (ps : List BM) (i : Nat) (hi : i < ps.length) (r : Option Nat) (ws : List Nat) : (ps.set i ⟨ps[i].b, r, ws⟩).map BM.ptr = ps.map BM.ptr := by
  rw [List.map_set]
  apply List.ext_getElem (by simp)
  intro j h1 h2
  by_cases e : i = j
  · subst e; rw [List.getElem_set_self, List.getElem_map]; rfl
  · rw [List.getElem_set_ne e]
theorem FlowM.grow (h : FlowM W0 bl n vI vO ps ex W) (i : Nat) (hi : i < ps.length) {r' : Option Nat} {ws' : List Nat} (g : GrowAt W ps[i].b ps[i].r ps[i].ws W' r' ws') :
    FlowM W0 bl n vI vO (ps.set i ⟨ps[i].b, r', ws'⟩) ex W' ∧ KT W W' := by
  have hk := KT.of_grow (h.at_ i hi) g
  have hm := map_set_ptr ps i hi r' ws'
  have hl := h.low _ (List.mem_append_left _ (List.getElem_mem hi))
  have e1 : ((ps.set i ⟨ps[i].b, r', ws'⟩).take n).map BM.ptr = (ps.take n).map BM.ptr := by rw [List.map_take, hm, List.map_take]
  have e2 : ((ps.set i ⟨ps[i].b, r', ws'⟩).drop n).map BM.ptr = (ps.drop n).map BM.ptr := by rw [List.map_drop, hm, List.map_drop]
  have hs := h.sets.grow i (by rw [List.length_append]; omega) (r' := r') (ws' := ws') (by rw [List.getElem_append_left hi]; exact g)
  rw [List.getElem_append_left hi, List.set_append_left _ _ hi] at hs
  refine ⟨⟨h.below.trans (g.chg.below h.below.size ?_), hk.blk bl _ h.box (by rintro ⟨c, f, h | h | h⟩ <;> cases h), ?_, ?_, hs, fun p hp => ?_, by rw [List.length_set]; exact h.len⟩, hk⟩
  · rintro k (rfl | e)
    · exact hl.1
    · exact hl.2 k e.symm
  · obtain ⟨r, hr⟩ := h.rI; rw [e1]; exact ⟨r, hr.kt hk (by decide)⟩
  · obtain ⟨r, hr⟩ := h.rO; rw [e2]; exact ⟨r, hr.kt hk (by decide)⟩
  · rcases List.mem_append.1 hp with hp | hp
    · rcases List.mem_or_eq_of_mem_set hp with hp | rfl
      · exact h.low p (List.mem_append_left _ hp)
      · exact ⟨hl.1, fun k e => by
          rcases g.new with e1 | ⟨q, e1, hq⟩
          · exact hl.2 k (by rw [← e1]; exact e)
          · have := h.below.size
            have e' : r' = some k := e
            rw [e'] at e1; cases e1; omega⟩
    · exact h.low p (List.mem_append_right _ hp)
theorem FlowM.kt_ (h : FlowM W0 bl n vI vO ps ex W) (hk : KT W W') (hb : Below W0.heap.size W0 W') (hs : Sets W' (ps ++ ex)) : FlowM W0 bl n vI vO ps ex W' := by
  obtain ⟨r, hr⟩ := h.rI
  obtain ⟨r2, hr2⟩ := h.rO
  exact ⟨hb, hk.blk bl _ h.box (by rintro ⟨c, f, h | h | h⟩ <;> cases h), ⟨r, hr.kt hk (by decide)⟩, ⟨r2, hr2.kt hk (by decide)⟩, hs, h.low, h.len⟩
theorem FlowM.below_ (h : FlowM W0 bl n vI vO ps ex W) (hb : Below W.heap.size W W') : FlowM W0 bl n vI vO ps ex W' :=
  h.kt_ (KT.of_below hb) (h.below.trans (hb.mono h.below.size)) (h.sets.below hb)
theorem FlowM.bool (h : FlowM W0 bl n vI vO ps ex W) {b : Nat} {v : Value} {f : Nat × Nat} (hb : W.heap[b]? = some (.cells #[v] 4 f)) (hN : W0.heap.size ≤ b) (u : Value) : FlowM W0 bl n vI vO ps ex (W.setCell ⟨b, 0, none⟩ u) := by
  have hc := Chg.store W b 0 u
  refine h.kt_ (KT.store_bool hb u) (h.below.trans (hc.below h.below.size fun k e => by rw [e]; exact hN)) (h.sets.chg hc fun p hp => ?_)
  obtain ⟨v', h1, h2⟩ := (h.sets.at_ p hp).ex
  refine ⟨fun e => ?_, fun k hk e => ?_⟩
  · have e' : p.b = b := e
    rw [e', hb] at h1; cases h1
  · have e' : k = b := e
    exact row_ne_of_type h2 hb (by decide) (by rw [hk, e'])
theorem FlowM.own (h : FlowM W0 bl n vI vO ps ex W) {row : Option Nat} (hg : W.grownBy W' row) (hr : ∀ r, row = some r → W0.heap.size ≤ r ∧ ∃ o : Obj, W.heap[r]? = some o ∧ o.isCells = false) : FlowM W0 bl n vI vO ps ex W' := by
  have hr2 : ∀ r, row = some r → ∃ o : Obj, W.heap[r]? = some o ∧ o.isCells = false := fun r e => (hr r e).2
  obtain ⟨r, hri⟩ := h.rI
  obtain ⟨r2, hro⟩ := h.rO
  exact ⟨h.below.grown hg h.below.size fun k e => (hr k e).1, ((own_chg hg).block bl (lt_of_heap h.box) (own_ne hr2 h.box)).trans h.box, ⟨r, hri.own hg hr2⟩, ⟨r2, hro.own hg hr2⟩, h.sets.own hg hr2, h.low, h.len⟩
theorem FlowM.push (h : FlowM W0 bl n vI vO ps [] W) {b : Nat} {r : Option Nat} {ws : List Nat} (g : NewBits W W' b r ws) : FlowM W0 bl n vI vO ps [⟨b, r, ws⟩] W' := by
  have h1 := h.below_ g.below
  refine ⟨h1.below, h1.box, h1.rI, h1.rO, ?_, fun p hp => ?_, h1.len⟩
  · have := h.sets.push g
    rw [List.append_nil] at this
    exact this
  · rcases List.mem_append.1 hp with hp | hp
    · exact h.low p (List.mem_append_left _ hp)
    · rw [List.mem_singleton.1 hp]
      have hz := h.below.size
      exact ⟨by have := g.nb; show _ ≤ b; omega, fun k e => by have := g.nr k e; omega⟩
theorem FlowM.growX {p : BM} (h : FlowM W0 bl n vI vO ps [p] W) {r' : Option Nat} {ws' : List Nat} (g : GrowAt W p.b p.r p.ws W' r' ws') :
    FlowM W0 bl n vI vO ps [⟨p.b, r', ws'⟩] W' ∧ KT W W' := by
  have hp : BitsAt W p.b p.r p.ws := h.sets.at_ p (by simp)
  have hk := KT.of_grow hp g
  have hl := h.low p (by simp)
  have hs := h.sets.grow ps.length (by rw [List.length_append]; simp) (r' := r') (ws' := ws') (by rw [List.getElem_append_right (Nat.le_refl _)]; simpa using g)
  rw [List.getElem_append_right (Nat.le_refl _)] at hs
  simp only [Nat.sub_self, List.getElem_cons_zero] at hs
  rw [List.set_append_right _ _ (Nat.le_refl _)] at hs
  simp only [Nat.sub_self, List.set_cons_zero] at hs
  obtain ⟨r, hr⟩ := h.rI
  obtain ⟨r2, hr2⟩ := h.rO
  refine ⟨⟨h.below.trans (g.chg.below h.below.size ?_), hk.blk bl _ h.box (by rintro ⟨c, f, h | h | h⟩ <;> cases h), ⟨r, hr.kt hk (by decide)⟩, ⟨r2, hr2.kt hk (by decide)⟩, hs, fun q hq => ?_, h.len⟩, hk⟩
  · rintro k (rfl | e)
    · exact hl.1
    · exact hl.2 k e.symm
  · rcases List.mem_append.1 hq with hq | hq
    · exact h.low q (List.mem_append_left _ hq)
    · rw [List.mem_singleton.1 hq]
      exact ⟨hl.1, fun k e => by
          rcases g.new with e1 | ⟨q, e1, hq⟩
          · exact hl.2 k (by rw [← e1]; exact e)
          · have := h.below.size
            have e' : r' = some k := e
            rw [e'] at e1; cases e1; omega⟩
theorem FlowM.pop (h : FlowM W0 bl n vI vO ps ex W) : FlowM W0 bl n vI vO ps [] W :=
  ⟨h.below, h.box, h.rI, h.rO, by rw [List.append_nil]; exact h.sets.pop, fun p hp => h.low p (by rw [List.append_nil] at hp; exact List.mem_append_left _ hp), h.len⟩
end
end Go.Proofs.Ytlniohgnkihefaa
