/- brazierref14.Live: what stands between its steps. -/
import Derived.OwnWalk
import Derived.Test.YtlniohgnkihefaaLk6
import Derived.RangeFuncNested
import Derived.Deep.RegionHeld
import Derived.Test.YtlniohgnkihefaaLk1
namespace Go.Proofs.Ytlniohgnkihefaa
open Go.RowKit

theorem ret_ints0 : (Try.prog.info? 46).map (fun i => (i.zero, i.size, i.bytes)) = some (some (.slice none 0 0), 1, 24) := by kernel_rfl
theorem made_ints (n : Nat) : (madeCells #[Value.slice none 0 0] n).toList = List.replicate n (.slice none 0 0) := by
  unfold madeCells
  apply List.ext_getElem (by simp)
  intro j h1 h2
  simp [Nat.mod_one]
/-- What a row that is made shows. -/
theorem LL.made {w' : World} {base n g : Nat} {no : Nat → Prop} (h : w'.ownsRow base 46 1 (.slice (some ⟨g, 0, none⟩) n n) n (madeCells #[Value.slice none 0 0] n).toList) :
    LL w' g no (List.replicate n ⟨[], none, 0⟩) := by
  refine ⟨?_, fun m hm => ?_, fun m hm => ?_⟩
  · rw [made_ints] at h
    rcases h.2 with ⟨h0, _⟩ | ⟨g', cap, cur, hv, _, hg, h1, h2, h3, h4⟩
    · cases h0
    · injection hv with ha _ hc
      injection ha with ha
      injection ha with ha _
      subst ha; subst hc
      refine ⟨by simp, .inr ⟨g, 0, n, cur, by simp, rfl, hg, by simp, h2, by simp; omega, ?_⟩⟩
      rw [List.map_replicate, List.length_replicate]
      exact h4
  · rw [(List.mem_replicate.1 hm).2]; intro h; simp [ints] at h
  · rw [(List.mem_replicate.1 hm).2]; intro h off e; cases e
theorem below_grown {w w' : World} (h : w.grownBy w' none) : Below w.heap.size w w' := ⟨h.os, h.tape, h.output, h.size, fun k hk => h.block k hk (by simp)⟩

structure Live1 (W0 : World) (ks : List Blk) (gi go : Nat) (is os : List LM) (wr : World) : Prop where
  below : Below W0.heap.size W0 wr
  I : LL wr gi (fun k => k = gi ∨ k = go) is
  O : LL wr go (fun k => k = gi ∨ k = go) os
  il : is.length = ks.length
  ol : os.length = ks.length
  bi : ∀ m ∈ is, Bnd m.l
  bo : ∀ m ∈ os, Bnd m.l
  way : Way ks (stOf is) (stOf os)

def Closed (ks : List Blk) (is os : List LM) (i : Nat) : Prop := ∀ h : i < ks.length, Sub (succP ks[i] (stOf is)) (stOf os i) ∧ Sub (blkP ks[i] (stOf os i)) (stOf is i)
/-- What stands between two blocks of a pass that began at T0. -/
structure Pass (ks : List Blk) (is os : List LM) (T0 k : Nat) (b : Bool) : Prop where
  ge : T0 ≤ totL is + totL os
  gt : b = true → T0 < totL is + totL os
  cl : b = false → ∀ j, j < k → Closed ks is os j
def boolN : Value → Nat
  | .bool true => 1
  | _ => 0
theorem Live1.start {W0 W : World} {ks : List Blk} {gi go n : Nat} (hn : n = ks.length) (hb : Below W0.heap.size W0 W) (hi : LL W gi (fun k => k = gi ∨ k = go) (List.replicate n ⟨[], none, 0⟩)) (ho : LL W go (fun k => k = gi ∨ k = go) (List.replicate n ⟨[], none, 0⟩)) :
    Live1 W0 ks gi go (List.replicate n ⟨[], none, 0⟩) (List.replicate n ⟨[], none, 0⟩) W := by
  have hs : stOf (List.replicate n ⟨[], none, 0⟩) = fun _ _ => false := by
    funext i
    by_cases h : i < n
    · rw [stOf_at _ _ (by simpa using h)]; funext m; simp [listP, hasL]
    · rw [stOf_out _ _ (by simpa using h)]
  refine ⟨hb, hi, ho, by simp [hn], by simp [hn], fun m hm => ?_, fun m hm => ?_, ?_⟩
  · rw [(List.mem_replicate.1 hm).2]; exact Bnd.nil
  · rw [(List.mem_replicate.1 hm).2]; exact Bnd.nil
  · rw [hs]; exact Way.start ks

theorem Live1.setO {W0 wr : World} {ks : List Blk} {gi go k : Nat} {is os : List LM} (h : Live1 W0 ks gi go is os wr) (hk : k < ks.length) (hg : W0.heap.size ≤ go) (hne : gi ≠ go) (m : LM) (hb : Bnd m.l)
    (hs : ∀ x, listP m.l x = true ↔ stOf os k x = true ∨ succP ks[k] (stOf is) x = true) (hr : ReadsAt wr m.A (ints m.l)) (ha : ∀ h off, m.A = some ⟨h, off, none⟩ → ¬ (h = gi ∨ h = go)) :
    Live1 W0 ks gi go is (os.set k m) (wr.setCell ⟨go, k, none⟩ m.enc) := by
  have hko : k < os.length := by rw [h.ol]; exact hk
  refine ⟨?_, h.I.other k _ (fun e => hne e.symm) (.inr rfl), h.O.set k hko m hr ha (.inr rfl), h.il, by rw [List.length_set]; exact h.ol, h.bi, fun x hx => ?_, ?_⟩
  · exact h.below.trans ((Chg.store wr go k m.enc).below (B := W0.heap.size) h.below.size fun i e => by rw [e]; exact hg)
  · rcases List.mem_or_eq_of_mem_set hx with hx | rfl
    · exact h.bo x hx
    · exact hb
  · rw [stOf_set _ _ hko]
    refine h.way.growOut hk (fun x hx => (hs x).2 (.inl hx)) fun x hx => ?_
    rcases (hs x).1 hx with h1 | h1
    · exact h.way.ofs k hk x h1
    · exact h1
theorem Live1.setI {W0 wr : World} {ks : List Blk} {gi go k : Nat} {is os : List LM} (h : Live1 W0 ks gi go is os wr) (hk : k < ks.length) (hg : W0.heap.size ≤ gi) (hne : gi ≠ go) (m : LM) (hb : Bnd m.l)
    (hs : listP m.l = blkP ks[k] (stOf os k)) (hr : ReadsAt wr m.A (ints m.l)) (ha : ∀ h off, m.A = some ⟨h, off, none⟩ → ¬ (h = gi ∨ h = go)) :
    Live1 W0 ks gi go (is.set k m) os (wr.setCell ⟨gi, k, none⟩ m.enc) := by
  have hko : k < is.length := by rw [h.il]; exact hk
  refine ⟨?_, h.I.set k hko m hr ha (.inl rfl), h.O.other k _ hne (.inl rfl), by rw [List.length_set]; exact h.il, h.ol, fun x hx => ?_, h.bo, ?_⟩
  · exact h.below.trans ((Chg.store wr gi k m.enc).below (B := W0.heap.size) h.below.size fun i e => by rw [e]; exact hg)
  · rcases List.mem_or_eq_of_mem_set hx with hx | rfl
    · exact h.bi x hx
    · exact hb
  · rw [stOf_set _ _ hko]
    refine h.way.growIn hk ?_ ?_
    · rw [hs]; exact h.way.inb k hk
    · rw [hs]; exact Sub.refl _
theorem Live1.lift {w W0 wr : World} {ks : List Blk} {gi go : Nat} {is os : List LM} (h : Live1 W0 ks gi go is os wr) (hb : Below w.heap.size w W0) : Live1 w ks gi go is os wr :=
  ⟨hb.trans (h.below.mono hb.size), h.I, h.O, h.il, h.ol, h.bi, h.bo, h.way⟩
theorem Live1.below1 {W0 wr w' : World} {ks : List Blk} {gi go : Nat} {is os : List LM} (h : Live1 W0 ks gi go is os wr) (hb : Below wr.heap.size wr w') : Live1 W0 ks gi go is os w' :=
  ⟨h.below.trans (hb.mono h.below.size), h.I.below hb, h.O.below hb, h.il, h.ol, h.bi, h.bo, h.way⟩
/-- One block of a pass. -/
theorem Pass.step {W0 wr : World} {ks : List Blk} {gi go k T0 : Nat} {b : Bool} {is os : List LM} (h : Live1 W0 ks gi go is os wr) (hp : Pass ks is os T0 k b) (hk : k < ks.length) (hki : k < is.length) (hko : k < os.length) (m m2 : LM) (hb : Bnd m.l) (hb2 : Bnd m2.l)
    (hs : ∀ x, listP m.l x = true ↔ stOf os k x = true ∨ succP ks[k] (stOf is) x = true) (hs2 : listP m2.l = blkP ks[k] (listP m.l)) :
    Pass ks (is.set k m2) (os.set k m) T0 (k + 1) ((b || decide (os[k].l.length < m.l.length)) || decide (is[k].l.length < m2.l.length)) := by
  have hO : Sub (listP os[k].l) (listP m.l) := fun x hx => (hs x).2 (.inl (by rw [stOf_at os k hko]; exact hx))
  have hI : Sub (listP is[k].l) (listP m2.l) := by
    rw [hs2, ← stOf_at is k hki]
    refine (h.way.inb k hk).trans (blkP_mono _ ?_)
    rw [stOf_at os k hko]; exact hO
  have h1 := rise_len (h.bo _ (List.getElem_mem hko)).1 hb.1 hO
  have h2 := rise_len (h.bi _ (List.getElem_mem hki)).1 hb2.1 hI
  have t1 := totL_set os k hko m
  have t2 := totL_set is k hki m2
  have hge := hp.ge
  refine ⟨by omega, fun hq => ?_, fun hq => ?_⟩
  · rcases Bool.or_eq_true_iff.1 hq with hq | hq
    · rcases Bool.or_eq_true_iff.1 hq with hq | hq
      · have := hp.gt hq; omega
      · have := of_decide_eq_true hq; omega
    · have := of_decide_eq_true hq; omega
  · obtain ⟨hq1, hq2⟩ := Bool.or_eq_false_iff.1 hq
    obtain ⟨hq0, hq1⟩ := Bool.or_eq_false_iff.1 hq1
    have e1 := h1.2 (by have := of_decide_eq_false hq1; omega)
    have e2 := h2.2 (by have := of_decide_eq_false hq2; omega)
    have s1 : stOf (os.set k m) = stOf os := by rw [stOf_set _ _ hko, ← e1, ← stOf_at os k hko, setS_eq]
    have s2 : stOf (is.set k m2) = stOf is := by rw [stOf_set _ _ hki, ← e2, ← stOf_at is k hki, setS_eq]
    intro j hj
    unfold Closed
    rw [s1, s2]
    rcases Nat.lt_succ_iff_lt_or_eq.1 hj with hj | rfl
    · exact hp.cl hq0 j hj
    · intro h'
      refine ⟨fun x hx => ?_, ?_⟩
      · rw [stOf_at os j hko, e1]; exact (hs x).2 (.inr hx)
      · rw [stOf_at os j hko, stOf_at is j hki, e1, e2, hs2]; exact Sub.refl _
/-- Does the block go on to k? -/
def goesB (b : Blk) (k : Nat) : Bool := (decide (b.kind ≠ 3) && decide ((k : Int) = b.to)) || (decide (b.kind = 2) && decide ((k : Int) = b.els))
theorem goesB_iff {n : Nat} {b : Blk} (h : BlkF n b) (k : Nat) : goesB b k = true ↔ ∃ t ∈ nextP b, t.toNat = k := by
  have ht := h.to
  have he := h.els
  unfold goesB nextP
  rcases h.kind with e | e | e <;> rw [e] at ht he ⊢ <;> simp at ht he ⊢ <;> omega
/-- What has been gathered behind a block, with what the blocks below k have. -/
def behK (b : Blk) (O : Nat → Bool) (I : St) (k x : Nat) : Prop := O x = true ∨ ∃ t ∈ nextP b, t.toNat < k ∧ I t.toNat x = true
theorem behK_zero {b : Blk} {O : Nat → Bool} {I : St} {x : Nat} : behK b O I 0 x ↔ O x = true := ⟨fun h => by rcases h with h | ⟨t, _, h, _⟩; exact h; omega, .inl⟩
theorem behK_skip {n : Nat} {b : Blk} (hb : BlkF n b) {O : Nat → Bool} {I : St} {k x : Nat} (h : goesB b k = false) : behK b O I (k + 1) x ↔ behK b O I k x := by
  constructor
  · rintro (h1 | ⟨t, ht, h1, h2⟩)
    · exact .inl h1
    · refine .inr ⟨t, ht, ?_, h2⟩
      rcases Nat.lt_succ_iff_lt_or_eq.1 h1 with h1 | h1
      · exact h1
      · rw [(goesB_iff hb k).2 ⟨t, ht, h1⟩] at h; cases h
  · rintro (h1 | ⟨t, ht, h1, h2⟩)
    · exact .inl h1
    · exact .inr ⟨t, ht, by omega, h2⟩
theorem behK_take {n : Nat} {b : Blk} (hb : BlkF n b) {O : Nat → Bool} {I : St} {k x : Nat} (h : goesB b k = true) : behK b O I (k + 1) x ↔ behK b O I k x ∨ I k x = true := by
  constructor
  · rintro (h1 | ⟨t, ht, h1, h2⟩)
    · exact .inl (.inl h1)
    · rcases Nat.lt_succ_iff_lt_or_eq.1 h1 with h1 | h1
      · exact .inl (.inr ⟨t, ht, h1, h2⟩)
      · rw [h1] at h2; exact .inr h2
  · rintro ((h1 | ⟨t, ht, h1, h2⟩) | h2)
    · exact .inl h1
    · exact .inr ⟨t, ht, by omega, h2⟩
    · obtain ⟨t, ht, h1⟩ := (goesB_iff hb k).1 h
      exact .inr ⟨t, ht, by omega, by rw [h1]; exact h2⟩
theorem behK_all {n : Nat} {b : Blk} (hb : BlkF n b) {O : Nat → Bool} {I : St} {x : Nat} : behK b O I n x ↔ O x = true ∨ succP b I x = true := by
  have hlt : ∀ t ∈ nextP b, t.toNat < n := by
    intro t ht
    have h1 := hb.to
    have h2 := hb.els
    unfold nextP at ht
    rcases hb.kind with e | e | e <;> rw [e] at ht h1 h2 <;> simp at ht h1 h2
    · omega
    · rcases ht with rfl | rfl <;> omega
  unfold behK succP
  rw [List.any_eq_true]
  constructor
  · rintro (h | ⟨t, ht, _, h⟩)
    · exact .inl h
    · exact .inr ⟨t, ht, h⟩
  · rintro (h | ⟨t, ht, h⟩)
    · exact .inl h
    · exact .inr ⟨t, ht, hlt t ht, h⟩
/-- A list on its way. -/
structure LoopT (gi go : Nat) (W wr : World) (A : Option Addr) (l : List Int) : Prop where
  below : Below W.heap.size W wr
  row : ReadsAt wr A (ints l)
  apart : ∀ h off, A = some ⟨h, off, none⟩ → ¬ (h = gi ∨ h = go)
  bnd : Bnd l
theorem LoopT.give {gi go : Nat} {W wr w1 : World} {A A1 : Option Addr} {l l1 : List Int} (h : LoopT gi go W wr A l) (hgi : gi < W.heap.size) (hgo : go < W.heap.size) (hB : Below wr.heap.size wr w1) (hR : ReadsAt w1 A1 (ints l1))
    (hA : ∀ g off, A1 = some ⟨g, off, none⟩ → (wr.heap.size ≤ g ∧ g < w1.heap.size) ∨ A = some ⟨g, off, none⟩) (hb : Bnd l1) : LoopT gi go W w1 A1 l1 := by
  refine ⟨h.below.trans (hB.mono h.below.size), hR, fun g off e => ?_, hb⟩
  have h1 := h.below.size
  rcases hA g off e with h3 | h3
  · omega
  · exact h.apart g off h3

end Go.Proofs.Ytlniohgnkihefaa
namespace Go.Proofs.Ytlniohgnkihefaa
open Go.RowKit

structure BM where
  b : Nat
  r : Option Nat
  ws : List Nat
def BM.ptr (p : BM) : Value := .pointer (some ⟨p.b, 0, none⟩)
def BM.foot (p : BM) (k : Nat) : Prop := FootB p.b p.r k
/-- A block that a set's step may turn. -/
def Turns (o : Obj) : Prop := ∃ c f, o = .cells c 81 f ∨ o = .cells c 101 f ∨ o = .cells c 4 f
structure KT (W W' : World) : Prop where
  size : W.heap.size ≤ W'.heap.size
  blk : ∀ (k : Nat) (o : Obj), W.heap[k]? = some o → ¬ Turns o → W'.heap[k]? = some o
theorem KT.refl (W : World) : KT W W := ⟨Nat.le_refl _, fun _ _ h _ => h⟩
theorem KT.trans {A B C : World} (h : KT A B) (k : KT B C) : KT A C := ⟨Nat.le_trans h.size k.size, fun i o hi ho => k.blk i o (h.blk i o hi ho) ho⟩
theorem KT.of_chg {S : Nat → Prop} {W W' : World} (h : Chg S W W') (hS : ∀ k, S k → ∀ o : Obj, W.heap[k]? = some o → Turns o) : KT W W' :=
  ⟨h.size, fun k o hk ho => (h.block k (lt_of_heap hk) fun hs => ho (hS k hs o hk)).trans hk⟩
theorem KT.of_below {W W' : World} (h : Below W.heap.size W W') : KT W W' := KT.of_chg (S := fun _ => False) (Chg.of_below h _) fun _ h => h.elim
theorem foot_turns {W : World} {b : Nat} {r : Option Nat} {ws : List Nat} (h : BitsAt W b r ws) : ∀ k, FootB b r k → ∀ o : Obj, W.heap[k]? = some o → Turns o := by
  obtain ⟨v, h1, h2⟩ := h.ex
  rintro k (rfl | hk) o ho
  · rw [h1] at ho; cases ho; exact ⟨_, _, .inl rfl⟩
  · rcases h2.2 with ⟨_, h0, _⟩ | ⟨g, off, cap, cur, _, h0, hg, _⟩
    · rw [h0] at hk; cases hk
    · rw [h0] at hk; cases hk
      rw [hg] at ho; cases ho; exact ⟨_, _, .inr (.inl rfl)⟩
theorem KT.of_grow {W W' : World} {b : Nat} {r r' : Option Nat} {ws ws' : List Nat} (h : BitsAt W b r ws) (g : GrowAt W b r ws W' r' ws') : KT W W' := KT.of_chg g.chg (foot_turns h)
theorem KT.store_bool {W : World} {b : Nat} {v : Value} {f : Nat × Nat} (h : W.heap[b]? = some (.cells #[v] 4 f)) (u : Value) : KT W (W.setCell ⟨b, 0, none⟩ u) :=
  KT.of_chg (Chg.store W b 0 u) fun k e o ho => by rw [e, h] at ho; cases ho; exact ⟨_, _, .inr (.inr rfl)⟩
theorem RowAt.kt {W W' : World} {e size n : Nat} {v : Value} {r : Option Nat} {xs : List Value} (h : RowAt W e size v r n xs) (k : KT W W') (he : e ≠ 81 ∧ e ≠ 101 ∧ e ≠ 4) : RowAt W' e size v r n xs := by
  refine ⟨h.1, ?_⟩
  rcases h.2 with h2 | ⟨g, off, cap, cur, hv, hr, hg, rest⟩
  · exact .inl h2
  · refine .inr ⟨g, off, cap, cur, hv, hr, k.blk g _ hg ?_, rest⟩
    rintro ⟨c, f, h | h | h⟩ <;> cases h <;> simp at he
theorem Boxed.kt {W W' : World} {b t : Nat} {v : Value} (h : Boxed W b t v) (k : KT W W') (he : t ≠ 81 ∧ t ≠ 101 ∧ t ≠ 4) : Boxed W' b t v :=
  k.blk b _ h (by rintro ⟨c, f, h | h | h⟩ <;> cases h <;> simp at he)
theorem KT.from {W W' : World} (h : KT W W') (B : Nat) : KeepsFrom B W W' := ⟨h.size, fun k o _ hk ho => h.blk k o hk (by rintro ⟨c, f, h | h | h⟩ <;> subst h <;> cases ho)⟩

/-- Sets, no two in one block. -/
structure Sets (W : World) (ps : List BM) : Prop where
  at_ : ∀ p ∈ ps, BitsAt W p.b p.r p.ws
  apart : ∀ i j (hi : i < ps.length) (hj : j < ps.length), i ≠ j → ps[i].b ≠ ps[j].b ∧ ∀ k, ps[i].r = some k → ps[j].r ≠ some k
theorem bits_ne {W : World} {b b' : Nat} {r r' : Option Nat} {ws ws' : List Nat} (h : BitsAt W b r ws) (h' : BitsAt W b' r' ws') : r ≠ some b' := by
  obtain ⟨v, _, h2⟩ := h.ex
  obtain ⟨v', h1', _⟩ := h'.ex
  exact row_ne_of_type h2 h1' (by decide)
/-- One grows: the others stay. -/
theorem Sets.grow {W W' : World} {ps : List BM} (h : Sets W ps) (i : Nat) (hi : i < ps.length) {r' : Option Nat} {ws' : List Nat} (g : GrowAt W ps[i].b ps[i].r ps[i].ws W' r' ws') : Sets W' (ps.set i ⟨ps[i].b, r', ws'⟩) := by
  have hl : ∀ j (hj : j < (ps.set i ⟨ps[i].b, r', ws'⟩).length), j < ps.length := fun j hj => by rw [List.length_set] at hj; exact hj
  refine ⟨fun p hp => ?_, fun a c ha hc hne => ?_⟩
  · obtain ⟨j, hj, rfl⟩ := List.getElem_of_mem hp
    have hj' := hl j hj
    by_cases e : i = j
    · subst e
      rw [List.getElem_set_self]; exact g.at_
    · rw [List.getElem_set_ne e]
      have h1 := h.at_ _ (List.getElem_mem hj')
      have h2 := h.apart i j hi hj' e
      have h3 := h.at_ _ (List.getElem_mem hi)
      refine h1.kept g.chg ?_ ?_
      · rintro (e2 | e2)
        · exact h2.1 e2.symm
        · exact bits_ne h3 h1 e2.symm
      · rintro k hk (e2 | e2)
        · exact bits_ne h1 h3 (by rw [hk, e2])
        · exact h2.2 k e2.symm hk
  · have ha' := hl a ha
    have hc' := hl c hc
    have key : ∀ j (hj : j < ps.length), j ≠ i → ∀ k, r' = some k → ps[j].r ≠ some k := fun j hj hji k hk e2 => by
      rcases g.new with h1 | ⟨q, h1, h2⟩
      · exact (h.apart i j hi hj (Ne.symm hji)).2 k (by rw [← h1]; exact hk) e2
      · have := (h.at_ _ (List.getElem_mem hj)).rlt k e2
        rw [hk] at h1; cases h1; omega
    by_cases e : i = a
    · subst e
      rw [List.getElem_set_self, List.getElem_set_ne hne]
      exact ⟨(h.apart i c hi hc' hne).1, fun k hk => key c hc' (Ne.symm hne) k hk⟩
    · by_cases e2 : i = c
      · subst e2
        rw [List.getElem_set_self, List.getElem_set_ne e]
        exact ⟨(h.apart a i ha' hi hne).1, fun k hk e3 => key a ha' hne k e3 hk⟩
      · rw [List.getElem_set_ne e, List.getElem_set_ne e2]
        exact h.apart a c ha' hc' hne
theorem Sets.below {W W' : World} {ps : List BM} (h : Sets W ps) (hb : Below W.heap.size W W') : Sets W' ps :=
  ⟨fun p hp => (h.at_ p hp).kept (Chg.of_below hb (fun _ => False)) (fun h => h) (fun _ _ h => h), h.apart⟩
theorem Sets.chg {W W' : World} {ps : List BM} (h : Sets W ps) {S : Nat → Prop} (hc : Chg S W W') (hS : ∀ p ∈ ps, ¬ S p.b ∧ ∀ k, p.r = some k → ¬ S k) : Sets W' ps :=
  ⟨fun p hp => (h.at_ p hp).kept hc (hS p hp).1 (hS p hp).2, h.apart⟩
theorem Sets.nil (W : World) : Sets W [] := ⟨fun _ h => (by cases h), fun _ _ h => (by simp at h)⟩
/-- One more, new. -/
theorem Sets.push {W W' : World} {ps : List BM} (h : Sets W ps) {b : Nat} {r : Option Nat} {ws : List Nat} (g : NewBits W W' b r ws) : Sets W' (ps ++ [⟨b, r, ws⟩]) := by
  have h' := h.below g.below
  refine ⟨fun p hp => ?_, fun i j hi hj hne => ?_⟩
  · rcases List.mem_append.1 hp with hp | hp
    · exact h'.at_ p hp
    · rw [List.mem_singleton.1 hp]; exact g.at_
  · have key : ∀ j (hj : j < ps.length), ps[j].b ≠ b ∧ ∀ k, ps[j].r = some k → r ≠ some k := fun j hj => by
      have h1 := h.at_ _ (List.getElem_mem hj)
      refine ⟨fun e => ?_, fun k hk e => ?_⟩
      · have := h1.blt; have := g.nb; omega
      · have := h1.rlt k hk; have := g.nr k e; omega
    rw [List.length_append, List.length_singleton] at hi hj
    by_cases a : i < ps.length
    · rw [List.getElem_append_left a]
      by_cases c : j < ps.length
      · rw [List.getElem_append_left c]; exact h.apart i j a c hne
      · obtain rfl : j = ps.length := by omega
        rw [List.getElem_append_right (by omega)]; simp only [Nat.sub_self, List.getElem_cons_zero]
        exact key i a
    · obtain rfl : i = ps.length := by omega
      have c : j < ps.length := by omega
      rw [List.getElem_append_left c, List.getElem_append_right (by omega)]; simp only [Nat.sub_self, List.getElem_cons_zero]
      exact ⟨fun e => (key j c).1 e.symm, fun k hk e => (key j c).2 k e hk⟩
theorem Sets.pop {W : World} {ps qs : List BM} (h : Sets W (ps ++ qs)) : Sets W ps := by
  refine ⟨fun p hp => h.at_ p (List.mem_append_left _ hp), fun i j hi hj hne => ?_⟩
  have := h.apart i j (by rw [List.length_append]; omega) (by rw [List.length_append]; omega) hne
  rw [List.getElem_append_left hi, List.getElem_append_left hj] at this
  exact this
/-- Deferred marks of loops that are done. -/
inductive Marks (W : World) : List Deferred → Prop
  | nil : Marks W []
  | cons (D : Nat) (ds : List Deferred) (h : W.heap[D]? = some (.deferred (some []))) (hn : ∀ d ∈ ds, ∀ E, d.target = .collected E → E < D) (hs : Marks W ds) : Marks W ({ target := .collected D, args := #[] } :: ds)
theorem Marks.kt {W W' : World} {ds : List Deferred} (h : Marks W ds) (k : KT W W') : Marks W' ds := by
  induction h with
  | nil => exact .nil
  | cons D ds hD hn _ ih => exact .cons D ds (k.blk D _ hD (by rintro ⟨c, f, h | h | h⟩ <;> cases h)) hn ih
theorem Marks.lt {W : World} {ds : List Deferred} (h : Marks W ds) : ∀ d ∈ ds, ∀ E, d.target = .collected E → E < W.heap.size := by
  induction h with
  | nil => intro d hd; cases hd
  | cons D ds hD _ _ ih =>
    intro d hd E hE
    rcases List.mem_cons.1 hd with rfl | hd
    · cases hE; exact lt_of_heap hD
    · exact ih d hd E hE
theorem Marks.grown {W W' : World} {ds : List Deferred} {row : Option Nat} (h : Marks W ds) (hg : W.grownBy W' row) (hr : ∀ r, row = some r → ∀ d ∈ ds, ∀ E, d.target = .collected E → E ≠ r) : Marks W' ds := by
  induction h with
  | nil => exact .nil
  | cons D ds hD hn _ ih =>
    refine .cons D ds ((hg.block D (lt_of_heap hD) fun e => ?_).trans hD) hn (ih fun r e d hd => hr r e d (by simp [hd]))
    exact hr D e.symm { target := .collected D, args := #[] } (by simp) D rfl rfl
/-- What cells show: what an 'own' step leaves. -/
theorem own_chg {X Y : World} {row : Option Nat} (hg : X.grownBy Y row) : Chg (fun k => some k = row) X Y := Chg.of_grownBy hg
theorem own_ne {X : World} {row : Option Nat} {k : Nat} {c : Array Value} {t : Nat} {f : Nat × Nat} (hr : ∀ r, row = some r → ∃ o : Obj, X.heap[r]? = some o ∧ o.isCells = false) (hk : X.heap[k]? = some (.cells c t f)) : ¬ some k = row := by
  intro e
  obtain ⟨o, ho, hc⟩ := hr k e.symm
  rw [hk] at ho; cases ho; cases hc
theorem BitsAt.own {X Y : World} {b : Nat} {r : Option Nat} {ws : List Nat} {row : Option Nat} (h : BitsAt X b r ws) (hg : X.grownBy Y row) (hr : ∀ r, row = some r → ∃ o : Obj, X.heap[r]? = some o ∧ o.isCells = false) : BitsAt Y b r ws := by
  obtain ⟨v, h1, h2⟩ := h.ex
  refine h.kept (own_chg hg) (own_ne hr h1) fun k hk => ?_
  rcases h2.2 with ⟨_, h0, _⟩ | ⟨g, off, cap, cur, _, h0, hgc, _⟩
  · rw [h0] at hk; cases hk
  · rw [h0] at hk; cases hk
    exact own_ne hr hgc
theorem RowAt.own {X Y : World} {e size n : Nat} {v : Value} {r : Option Nat} {xs : List Value} {row : Option Nat} (h : RowAt X e size v r n xs) (hg : X.grownBy Y row) (hr : ∀ r, row = some r → ∃ o : Obj, X.heap[r]? = some o ∧ o.isCells = false) : RowAt Y e size v r n xs := by
  refine h.kept (own_chg hg) fun k hk => ?_
  rcases h.2 with ⟨_, h0, _⟩ | ⟨g, off, cap, cur, _, h0, hgc, _⟩
  · rw [h0] at hk; cases hk
  · rw [h0] at hk; cases hk
    exact own_ne hr hgc
theorem Sets.own {X Y : World} {ps : List BM} {row : Option Nat} (h : Sets X ps) (hg : X.grownBy Y row) (hr : ∀ r, row = some r → ∃ o : Obj, X.heap[r]? = some o ∧ o.isCells = false) : Sets Y ps :=
  ⟨fun p hp => (h.at_ p hp).own hg hr, h.apart⟩

/-- dead's flow in memory: the struct at bl, the two rows of sets, other sets ex beside them. -/
structure FlowM (W0 : World) (bl n : Nat) (vI vO : Value) (ps ex : List BM) (W : World) : Prop where
  below : Below W0.heap.size W0 W
  box : W.heap[bl]? = some (.cells #[vI, vO] 61 (0, 0))
  rI : ∃ r, RowAt W 65 1 vI r n ((ps.take n).map BM.ptr)
  rO : ∃ r, RowAt W 65 1 vO r n ((ps.drop n).map BM.ptr)
  sets : Sets W (ps ++ ex)
  low : ∀ p ∈ ps ++ ex, W0.heap.size ≤ p.b ∧ ∀ k, p.r = some k → W0.heap.size ≤ k
  len : ps.length = n + n
section
variable {W0 W W' : World} {bl n : Nat} {vI vO : Value} {ps ex : List BM}
theorem FlowM.at_ (h : FlowM W0 bl n vI vO ps ex W) (i : Nat) (hi : i < ps.length) : BitsAt W ps[i].b ps[i].r ps[i].ws := h.sets.at_ _ (List.mem_append_left _ (List.getElem_mem hi))
theorem map_set_ptr (ps : List BM) (i : Nat) (hi : i < ps.length) (r : Option Nat) (ws : List Nat) : (ps.set i ⟨ps[i].b, r, ws⟩).map BM.ptr = ps.map BM.ptr := by
  rw [List.map_set]
  apply List.ext_getElem (by simp)
  intro j h1 h2
  by_cases e : i = j
  · subst e; rw [List.getElem_set_self, List.getElem_map]; rfl
  · rw [List.getElem_set_ne e]
theorem FlowM.grow (h : FlowM W0 bl n vI vO ps ex W) (i : Nat) (hi : i < ps.length) {r' : Option Nat} {ws' : List Nat} (g : GrowAt W ps[i].b ps[i].r ps[i].ws W' r' ws') :
    FlowM W0 bl n vI vO (ps.set i ⟨ps[i].b, r', ws'⟩) ex W' ∧ KT W W' := by
  have hk := KT.of_grow (h.at_ i hi) g
  have hm := map_set_ptr ps i hi r' ws'
  have hl := h.low _ (List.mem_append_left _ (List.getElem_mem hi))
  have e1 : ((ps.set i ⟨ps[i].b, r', ws'⟩).take n).map BM.ptr = (ps.take n).map BM.ptr := by rw [List.map_take, hm, List.map_take]
  have e2 : ((ps.set i ⟨ps[i].b, r', ws'⟩).drop n).map BM.ptr = (ps.drop n).map BM.ptr := by rw [List.map_drop, hm, List.map_drop]
  have hs := h.sets.grow i (by rw [List.length_append]; omega) (r' := r') (ws' := ws') (by rw [List.getElem_append_left hi]; exact g)
  rw [List.getElem_append_left hi, List.set_append_left _ _ hi] at hs
  refine ⟨⟨h.below.trans (g.chg.below h.below.size ?_), hk.blk bl _ h.box (by rintro ⟨c, f, h | h | h⟩ <;> cases h), ?_, ?_, hs, fun p hp => ?_, by rw [List.length_set]; exact h.len⟩, hk⟩
  · rintro k (rfl | e)
    · exact hl.1
    · exact hl.2 k e.symm
  · obtain ⟨r, hr⟩ := h.rI; rw [e1]; exact ⟨r, hr.kt hk (by decide)⟩
  · obtain ⟨r, hr⟩ := h.rO; rw [e2]; exact ⟨r, hr.kt hk (by decide)⟩
  · rcases List.mem_append.1 hp with hp | hp
    · rcases List.mem_or_eq_of_mem_set hp with hp | rfl
      · exact h.low p (List.mem_append_left _ hp)
      · exact ⟨hl.1, fun k e => by
          rcases g.new with e1 | ⟨q, e1, hq⟩
          · exact hl.2 k (by rw [← e1]; exact e)
          · have := h.below.size
            have e' : r' = some k := e
            rw [e'] at e1; cases e1; omega⟩
    · exact h.low p (List.mem_append_right _ hp)
theorem FlowM.kt_ (h : FlowM W0 bl n vI vO ps ex W) (hk : KT W W') (hb : Below W0.heap.size W0 W') (hs : Sets W' (ps ++ ex)) : FlowM W0 bl n vI vO ps ex W' := by
  obtain ⟨r, hr⟩ := h.rI
  obtain ⟨r2, hr2⟩ := h.rO
  exact ⟨hb, hk.blk bl _ h.box (by rintro ⟨c, f, h | h | h⟩ <;> cases h), ⟨r, hr.kt hk (by decide)⟩, ⟨r2, hr2.kt hk (by decide)⟩, hs, h.low, h.len⟩
theorem FlowM.below_ (h : FlowM W0 bl n vI vO ps ex W) (hb : Below W.heap.size W W') : FlowM W0 bl n vI vO ps ex W' :=
  h.kt_ (KT.of_below hb) (h.below.trans (hb.mono h.below.size)) (h.sets.below hb)
theorem FlowM.bool (h : FlowM W0 bl n vI vO ps ex W) {b : Nat} {v : Value} {f : Nat × Nat} (hb : W.heap[b]? = some (.cells #[v] 4 f)) (hN : W0.heap.size ≤ b) (u : Value) : FlowM W0 bl n vI vO ps ex (W.setCell ⟨b, 0, none⟩ u) := by
  have hc := Chg.store W b 0 u
  refine h.kt_ (KT.store_bool hb u) (h.below.trans (hc.below h.below.size fun k e => by rw [e]; exact hN)) (h.sets.chg hc fun p hp => ?_)
  obtain ⟨v', h1, h2⟩ := (h.sets.at_ p hp).ex
  refine ⟨fun e => ?_, fun k hk e => ?_⟩
  · have e' : p.b = b := e
    rw [e', hb] at h1; cases h1
  · have e' : k = b := e
    exact row_ne_of_type h2 hb (by decide) (by rw [hk, e'])
theorem FlowM.own (h : FlowM W0 bl n vI vO ps ex W) {row : Option Nat} (hg : W.grownBy W' row) (hr : ∀ r, row = some r → W0.heap.size ≤ r ∧ ∃ o : Obj, W.heap[r]? = some o ∧ o.isCells = false) : FlowM W0 bl n vI vO ps ex W' := by
  have hr2 : ∀ r, row = some r → ∃ o : Obj, W.heap[r]? = some o ∧ o.isCells = false := fun r e => (hr r e).2
  obtain ⟨r, hri⟩ := h.rI
  obtain ⟨r2, hro⟩ := h.rO
  exact ⟨h.below.grown hg h.below.size fun k e => (hr k e).1, ((own_chg hg).block bl (lt_of_heap h.box) (own_ne hr2 h.box)).trans h.box, ⟨r, hri.own hg hr2⟩, ⟨r2, hro.own hg hr2⟩, h.sets.own hg hr2, h.low, h.len⟩
theorem FlowM.push (h : FlowM W0 bl n vI vO ps [] W) {b : Nat} {r : Option Nat} {ws : List Nat} (g : NewBits W W' b r ws) : FlowM W0 bl n vI vO ps [⟨b, r, ws⟩] W' := by
  have h1 := h.below_ g.below
  refine ⟨h1.below, h1.box, h1.rI, h1.rO, ?_, fun p hp => ?_, h1.len⟩
  · have := h.sets.push g
    rw [List.append_nil] at this
    exact this
  · rcases List.mem_append.1 hp with hp | hp
    · exact h.low p (List.mem_append_left _ hp)
    · rw [List.mem_singleton.1 hp]
      have hz := h.below.size
      exact ⟨by have := g.nb; show _ ≤ b; omega, fun k e => by have := g.nr k e; omega⟩
theorem FlowM.growX {p : BM} (h : FlowM W0 bl n vI vO ps [p] W) {r' : Option Nat} {ws' : List Nat} (g : GrowAt W p.b p.r p.ws W' r' ws') :
    FlowM W0 bl n vI vO ps [⟨p.b, r', ws'⟩] W' ∧ KT W W' := by
  have hp : BitsAt W p.b p.r p.ws := h.sets.at_ p (by simp)
  have hk := KT.of_grow hp g
  have hl := h.low p (by simp)
  have hs := h.sets.grow ps.length (by rw [List.length_append]; simp) (r' := r') (ws' := ws') (by rw [List.getElem_append_right (Nat.le_refl _)]; simpa using g)
  rw [List.getElem_append_right (Nat.le_refl _)] at hs
  simp only [Nat.sub_self, List.getElem_cons_zero] at hs
  rw [List.set_append_right _ _ (Nat.le_refl _)] at hs
  simp only [Nat.sub_self, List.set_cons_zero] at hs
  obtain ⟨r, hr⟩ := h.rI
  obtain ⟨r2, hr2⟩ := h.rO
  refine ⟨⟨h.below.trans (g.chg.below h.below.size ?_), hk.blk bl _ h.box (by rintro ⟨c, f, h | h | h⟩ <;> cases h), ⟨r, hr.kt hk (by decide)⟩, ⟨r2, hr2.kt hk (by decide)⟩, hs, fun q hq => ?_, h.len⟩, hk⟩
  · rintro k (rfl | e)
    · exact hl.1
    · exact hl.2 k e.symm
  · rcases List.mem_append.1 hq with hq | hq
    · exact h.low q (List.mem_append_left _ hq)
    · rw [List.mem_singleton.1 hq]
      exact ⟨hl.1, fun k e => by
          rcases g.new with e1 | ⟨q, e1, hq⟩
          · exact hl.2 k (by rw [← e1]; exact e)
          · have := h.below.size
            have e' : r' = some k := e
            rw [e'] at e1; cases e1; omega⟩
theorem FlowM.pop (h : FlowM W0 bl n vI vO ps ex W) : FlowM W0 bl n vI vO ps [] W :=
  ⟨h.below, h.box, h.rI, h.rO, by rw [List.append_nil]; exact h.sets.pop, fun p hp => h.low p (by rw [List.append_nil] at hp; exact List.mem_append_left _ hp), h.len⟩
end
end Go.Proofs.Ytlniohgnkihefaa
namespace Go.Proofs.Ytlniohgnkihefaa
open Go.RowKit

def ElR {β : Type} (bs : List β) : Type := {q : Nat × β // q ∈ revI bs}
def valsR {β : Type} {bs : List β} (l : List (ElR bs)) : List (Nat × β) := l.map (·.1)
theorem valsR_snoc {β : Type} {bs : List β} (l : List (ElR bs)) (x : ElR bs) : valsR (l ++ [x]) = valsR l ++ [x.1] := by simp [valsR]
theorem revI_mem {β : Type} {bs : List β} {q : Nat × β} (h : q ∈ revI bs) : ∃ hl : q.1 < bs.length, bs[q.1] = q.2 := by
  unfold revI at h
  rw [List.mem_reverse] at h
  obtain ⟨j, hj, e⟩ := List.getElem_of_mem h
  rw [List.length_zip, List.length_range] at hj
  simp only [List.getElem_zip, List.getElem_range] at e
  subst e
  exact ⟨by omega, rfl⟩
theorem revI_has {β : Type} (bs : List β) (i : Nat) (h : i < bs.length) : (i, bs[i]) ∈ revI bs := by
  unfold revI
  rw [List.mem_reverse]
  have : ((List.range bs.length).zip bs)[i]'(by simp; omega) = (i, bs[i]) := by simp
  rw [← this]; exact List.getElem_mem _
def encB (x : Nat × BlkQ) : Array Value := #[.int .i64 (x.1 : Nat), blkAgg x.2.k x.2.A x.2.c]
def encI (x : Nat × InsQ) : Array Value := #[.int .i64 (x.1 : Nat), insAgg x.2.k x.2.A x.2.c]
theorem backB_stops (n : Nat) (hn : 1 ≤ n) (Bn : Nat) (A : Option Addr) (c : Nat) (bs : List BlkQ) (hl : bs.length ≤ 9223372036854775807) (w : World) (hBn : w.cell? ⟨Bn, 0, none⟩ = some (.slice A bs.length c)) (hR : BlkRow w A bs) :
    SeqStopsK Fence.wide n Try.prog 54 #[.pointer (some ⟨Bn, 0, none⟩)] (fun x : ElR bs => encB x.1) (KpW Bn A) (fun ys => valsR ys = revI bs) (fun pre => valsR pre <+: revI bs) bs.length w := fun l J Jx W hW hJ _ hY h0 => by
  refine (backB_in n hn l Bn A c bs hl (fun pre W => ∃ q : List (ElR bs), valsR q = pre ∧ J q W) (fun pre W => ∃ q : List (ElR bs), valsR q = pre ∧ Jx q W) ?_ W ((hW.cell (p := ⟨Bn, 0, none⟩) (World.block_lt_of_cell? w ⟨Bn, 0, none⟩ hBn)).trans hBn) (hR.below hW) ⟨[], rfl, h0⟩).mono ?_
  · rintro pre x W ⟨q, rfl, hq⟩ hp
    have hx : x ∈ revI bs := hp.subset (by simp)
    refine (hY q ⟨x, hx⟩ W hq (by have := hp.length_le; rw [revI_len] at this; simp [valsR] at this; omega)).mono ?_
    rintro e W' (⟨he, h1, h2⟩ | ⟨he, h1⟩)
    · exact .inl ⟨he, ⟨_, valsR_snoc q _, h1⟩, h2⟩
    · exact .inr ⟨he, ⟨_, valsR_snoc q _, h1⟩⟩
  · rintro e W' ⟨hv, ⟨ys, rfl, q, hq, h⟩ | ⟨pre, hp, q, rfl, h⟩⟩
    · exact ⟨hv, .inl ⟨q, hq, h⟩⟩
    · exact ⟨hv, .inr ⟨q, hp, h⟩⟩
theorem backI_stops (n : Nat) (hn : 1 ≤ n) (Bn : Nat) (A : Option Addr) (c : Nat) (bs : List InsQ) (hl : bs.length ≤ 9223372036854775807) (w : World) (hBn : w.cell? ⟨Bn, 0, none⟩ = some (.slice A bs.length c)) (hR : InsRow w A bs) :
    SeqStopsK Fence.wide n Try.prog 58 #[.pointer (some ⟨Bn, 0, none⟩)] (fun x : ElR bs => encI x.1) (KpW Bn A) (fun ys => valsR ys = revI bs) (fun pre => valsR pre <+: revI bs) bs.length w := fun l J Jx W hW hJ _ hY h0 => by
  refine (backI_in n hn l Bn A c bs hl (fun pre W => ∃ q : List (ElR bs), valsR q = pre ∧ J q W) (fun pre W => ∃ q : List (ElR bs), valsR q = pre ∧ Jx q W) ?_ W ((hW.cell (p := ⟨Bn, 0, none⟩) (World.block_lt_of_cell? w ⟨Bn, 0, none⟩ hBn)).trans hBn) (hR.below hW) ⟨[], rfl, h0⟩).mono ?_
  · rintro pre x W ⟨q, rfl, hq⟩ hp
    have hx : x ∈ revI bs := hp.subset (by simp)
    refine (hY q ⟨x, hx⟩ W hq (by have := hp.length_le; rw [revI_len] at this; simp [valsR] at this; omega)).mono ?_
    rintro e W' (⟨he, h1, h2⟩ | ⟨he, h1⟩)
    · exact .inl ⟨he, ⟨_, valsR_snoc q _, h1⟩, h2⟩
    · exact .inr ⟨he, ⟨_, valsR_snoc q _, h1⟩⟩
  · rintro e W' ⟨hv, ⟨ys, rfl, q, hq, h⟩ | ⟨pre, hp, q, rfl, h⟩⟩
    · exact ⟨hv, .inl ⟨q, hq, h⟩⟩
    · exact ⟨hv, .inr ⟨q, hp, h⟩⟩
end Go.Proofs.Ytlniohgnkihefaa
namespace Go.Proofs.Ytlniohgnkihefaa

/-- How many numbers below N are in a set. -/
def cntP : Nat → (Nat → Bool) → Nat
  | 0, _ => 0
  | N + 1, S => cntP N S + (if S N = true then 1 else 0)
theorem cntP_le : ∀ (N : Nat) (S : Nat → Bool), cntP N S ≤ N
  | 0, _ => Nat.le_refl _
  | N + 1, S => by have := cntP_le N S; unfold cntP; split <;> omega
theorem cntP_mono : ∀ (N : Nat) {S T : Nat → Bool}, Sub S T → cntP N S ≤ cntP N T
  | 0, _, _, _ => Nat.le_refl _
  | N + 1, S, T, h => by
    have h1 := cntP_mono N h
    have h2 := h N
    unfold cntP
    by_cases a : S N = true
    · rw [if_pos a, if_pos (h2 a)]; omega
    · rw [if_neg a]; split <;> omega
theorem cntP_lt : ∀ (N : Nat) {S T : Nat → Bool}, Sub S T → (∃ x, x < N ∧ T x = true ∧ S x = false) → cntP N S < cntP N T
  | 0, _, _, _, ⟨x, hx, _⟩ => by omega
  | N + 1, S, T, h, ⟨x, hx, h1, h2⟩ => by
    unfold cntP
    rcases Nat.lt_succ_iff_lt_or_eq.1 hx with hx | rfl
    · have h3 := cntP_lt N h ⟨x, hx, h1, h2⟩
      have h4 := h N
      by_cases a : S N = true
      · rw [if_pos a, if_pos (h4 a)]; omega
      · rw [if_neg a]; split <;> omega
    · have h3 := cntP_mono x h
      rw [if_pos h1, if_neg (by rw [h2]; simp)]
      omega
def wsAt (ps : List BM) (i : Nat) : List Nat := match ps[i]? with
  | some p => p.ws
  | none => []
theorem wsAt_eq (ps : List BM) (i : Nat) (h : i < ps.length) : wsAt ps i = ps[i].ws := by unfold wsAt; rw [List.getElem?_eq_getElem h]
theorem wsAt_set (ps : List BM) (i j : Nat) (h : i < ps.length) (p : BM) : wsAt (ps.set i p) j = if j = i then p.ws else wsAt ps j := by
  by_cases e : j = i
  · subst e; rw [if_pos rfl]; unfold wsAt; rw [List.getElem?_set_self h]
  · rw [if_neg e]; unfold wsAt; rw [List.getElem?_set_ne (fun h => e h.symm)]
def inS (n : Nat) (ps : List BM) : St := fun i => if i < n then memW (wsAt ps i) else fun _ => false
def outS (n : Nat) (ps : List BM) : St := fun i => if i < n then memW (wsAt ps (n + i)) else fun _ => false
theorem inS_at {n i : Nat} (ps : List BM) (h : i < n) : inS n ps i = memW (wsAt ps i) := by unfold inS; rw [if_pos h]
theorem outS_at {n i : Nat} (ps : List BM) (h : i < n) : outS n ps i = memW (wsAt ps (n + i)) := by unfold outS; rw [if_pos h]
theorem inS_set {n i : Nat} {ps : List BM} (h : i < n) (hl : ps.length = n + n) (p : BM) : inS n (ps.set i p) = setS (inS n ps) i (memW p.ws) ∧ outS n (ps.set i p) = outS n ps := by
  constructor
  · funext j
    by_cases e : j = i
    · subst e; rw [setS_same, inS_at _ h, wsAt_set _ _ _ (by omega), if_pos rfl]
    · rw [setS_other _ _ e]; unfold inS; rw [wsAt_set _ _ _ (by omega), if_neg e]
  · funext j
    unfold outS
    by_cases hj : j < n
    · rw [if_pos hj, if_pos hj, wsAt_set _ _ _ (by omega), if_neg (by omega)]
    · rw [if_neg hj, if_neg hj]
theorem outS_set {n i : Nat} {ps : List BM} (h : i < n) (hl : ps.length = n + n) (p : BM) : outS n (ps.set (n + i) p) = setS (outS n ps) i (memW p.ws) ∧ inS n (ps.set (n + i) p) = inS n ps := by
  constructor
  · funext j
    by_cases e : j = i
    · subst e; rw [setS_same, outS_at _ h, wsAt_set _ _ _ (by omega), if_pos rfl]
    · rw [setS_other _ _ e]; unfold outS
      by_cases hj : j < n
      · rw [if_pos hj, if_pos hj, wsAt_set _ _ _ (by omega), if_neg (by omega)]
      · rw [if_neg hj, if_neg hj]
  · funext j
    unfold inS
    by_cases hj : j < n
    · rw [if_pos hj, if_pos hj, wsAt_set _ _ _ (by omega), if_neg (by omega)]
    · rw [if_neg hj, if_neg hj]
def totB (N : Nat) (ps : List BM) : Nat := (ps.map fun p => cntP N (memW p.ws)).sum
theorem totB_le (N : Nat) (ps : List BM) : totB N ps ≤ ps.length * N := by
  unfold totB
  induction ps with
  | nil => simp
  | cons a ps ih =>
    have h1 := cntP_le N (memW a.ws)
    rw [List.map_cons, List.sum_cons, List.length_cons, Nat.add_mul]; omega
theorem totB_set (N : Nat) : ∀ (ps : List BM) (i : Nat) (h : i < ps.length) (p : BM), totB N (ps.set i p) + cntP N (memW ps[i].ws) = totB N ps + cntP N (memW p.ws) := by
  intro ps
  induction ps with
  | nil => intro i h; simp at h
  | cons a ps ih =>
    intro i h p
    cases i with
    | zero => simp [totB]; omega
    | succ i =>
      have := ih i (by simpa using h) p
      simp [totB] at this ⊢; omega
theorem mem_lt64 {ws : List Nat} {x : Nat} (h : memW ws x = true) : x < 64 * ws.length := by
  refine Decidable.byContradiction fun hn => ?_
  rw [memW_none ws x (by omega)] at h; cases h
theorem newTo_iff (ws wc : List Nat) : newTo ws wc wc.length = true ↔ ∃ x, memW wc x = true ∧ memW ws x = false := by
  unfold newTo
  rw [List.any_eq_true]
  constructor
  · rintro ⟨x, _, h⟩
    have := Bool.and_eq_true_iff.1 h
    exact ⟨x, this.1, by simpa using this.2⟩
  · rintro ⟨x, h1, h2⟩
    exact ⟨x, List.mem_range.2 (mem_lt64 h1), by rw [h1, h2]; rfl⟩
theorem newTo_not {ws wc : List Nat} (h : newTo ws wc wc.length = false) : Sub (memW wc) (memW ws) := by
  intro x hx
  cases e : memW ws x with
  | true => rfl
  | false => rw [(newTo_iff ws wc).2 ⟨x, hx, e⟩] at h; cases h
theorem join_not {ws wc ws' : List Nat} (h : newTo ws wc wc.length = false) (hm : ∀ x, memW ws' x = (memW ws x || memW wc x)) : memW ws' = memW ws := by
  funext x
  rw [hm x]
  cases e : memW wc x with
  | false => rw [Bool.or_false]
  | true => rw [newTo_not h x e]; rfl
theorem join_cnt {N : Nat} {ws wc ws' : List Nat} (hc : wc.length * 64 ≤ N) (hm : ∀ x, memW ws' x = (memW ws x || memW wc x)) : cntP N (memW ws) ≤ cntP N (memW ws') ∧ (newTo ws wc wc.length = true → cntP N (memW ws) < cntP N (memW ws')) := by
  have hs : Sub (memW ws) (memW ws') := fun x hx => by rw [hm x, hx]; rfl
  refine ⟨cntP_mono N hs, fun h => ?_⟩
  obtain ⟨x, h1, h2⟩ := (newTo_iff ws wc).1 h
  refine cntP_lt N hs ⟨x, ?_, by rw [hm x, h1, Bool.or_true], h2⟩
  have := mem_lt64 h1; omega

/-- A block that asks for nothing more. -/
def Shut1 (ks : List Blk) (I O : St) (j : Nat) : Prop := ∀ h : j < ks.length, Sub (succP ks[j] I) (O j) ∧ Sub (blkP ks[j] (O j)) (I j)
/-- What stands on a pass that began at T0; C: the blocks that were met. -/
structure PassB (N : Nat) (ks : List Blk) (n : Nat) (ps : List BM) (T0 : Nat) (b : Bool) (C : Nat → Prop) : Prop where
  way : Way ks (inS n ps) (outS n ps)
  ge : T0 ≤ totB N ps
  gt : b = true → T0 < totB N ps
  cl : b = false → ∀ j, C j → Shut1 ks (inS n ps) (outS n ps) j
section
variable {N n T0 : Nat} {ks : List Blk} {ps : List BM} {b : Bool} {C : Nat → Prop}
/-- A set behind block i takes in what its follower t has. -/
theorem PassB.joinO (h : PassB N ks n ps T0 b C) (hn : n = ks.length) (hl : ps.length = n + n) {i : Nat} (hi : i < ks.length) {t : Int} (ht : t ∈ nextP ks[i]) (htn : t.toNat < n) {r : Option Nat} {ws' : List Nat} (hio : n + i < ps.length) (hit : t.toNat < ps.length)
    (hw : ps[t.toNat].ws.length * 64 ≤ N) (hm : ∀ x, memW ws' x = (memW ps[n + i].ws x || memW ps[t.toNat].ws x)) :
    PassB N ks n (ps.set (n + i) ⟨ps[n + i].b, r, ws'⟩) T0 (newTo ps[n + i].ws ps[t.toNat].ws ps[t.toNat].ws.length || b) C ∧
      Sub (inS n (ps.set (n + i) ⟨ps[n + i].b, r, ws'⟩) t.toNat) (outS n (ps.set (n + i) ⟨ps[n + i].b, r, ws'⟩) i) ∧ Sub (outS n ps i) (outS n (ps.set (n + i) ⟨ps[n + i].b, r, ws'⟩) i) ∧ inS n (ps.set (n + i) ⟨ps[n + i].b, r, ws'⟩) = inS n ps := by
  have hin : i < n := by omega
  obtain ⟨e1, e2⟩ := outS_set hin hl ⟨ps[n + i].b, r, ws'⟩
  have eO : outS n ps i = memW ps[n + i].ws := by rw [outS_at _ hin, wsAt_eq _ _ hio]
  have eI : inS n ps t.toNat = memW ps[t.toNat].ws := by rw [inS_at _ htn, wsAt_eq _ _ hit]
  have hsO : Sub (outS n ps i) (memW ws') := fun x hx => by rw [eO] at hx; rw [hm x, hx]; rfl
  have hsI : Sub (inS n ps t.toNat) (memW ws') := fun x hx => by rw [eI] at hx; rw [hm x, hx, Bool.or_true]
  have hcnt := join_cnt (N := N) hw hm
  have htot := totB_set N ps (n + i) hio ⟨ps[n + i].b, r, ws'⟩
  have hge := h.ge
  refine ⟨⟨?_, ?_, fun hq => ?_, fun hq => ?_⟩, ?_, ?_, e2⟩
  · rw [e1, e2]
    refine h.way.growOut hi hsO fun x hx => ?_
    rw [hm x] at hx
    rcases Bool.or_eq_true_iff.1 hx with hx | hx
    · exact h.way.ofs i hi x (by rw [eO]; exact hx)
    · unfold succP
      exact List.any_eq_true.2 ⟨t, ht, by rw [eI]; exact hx⟩
  · have := hcnt.1; dsimp only at htot; omega
  · dsimp only at htot
    rcases Bool.or_eq_true_iff.1 hq with hq | hq
    · have := hcnt.2 hq; omega
    · have := hcnt.1; have := h.gt hq; omega
  · obtain ⟨q1, q2⟩ := Bool.or_eq_false_iff.1 hq
    have e3 : setS (outS n ps) i (memW ws') = outS n ps := by rw [join_not q1 hm, ← eO, setS_eq]
    rw [e1, e2, e3]
    exact h.cl q2
  · rw [e1, e2, setS_same]; exact hsI
  · rw [e1, setS_same]; exact hsO
/-- The set at block i's beginning takes in what its end asks. -/
theorem PassB.joinI (h : PassB N ks n ps T0 b C) (hn : n = ks.length) (hl : ps.length = n + n) {i : Nat} (hi : i < ks.length) {r : Option Nat} {ws' wc : List Nat} (hii : i < ps.length) (hw : wc.length * 64 ≤ N)
    (hc : memW wc = blkP ks[i] (outS n ps i)) (hm : ∀ x, memW ws' x = (memW ps[i].ws x || memW wc x)) (hs : ∀ t ∈ nextP ks[i], Sub (inS n ps t.toNat) (outS n ps i)) :
    PassB N ks n (ps.set i ⟨ps[i].b, r, ws'⟩) T0 (newTo ps[i].ws wc wc.length || b) (fun j => C j ∨ j = i) := by
  have hin : i < n := by omega
  obtain ⟨e1, e2⟩ := inS_set hin hl ⟨ps[i].b, r, ws'⟩
  have eI : inS n ps i = memW ps[i].ws := by rw [inS_at _ hin, wsAt_eq _ _ hii]
  have hsI : Sub (inS n ps i) (memW ws') := fun x hx => by rw [eI] at hx; rw [hm x, hx]; rfl
  have hcnt := join_cnt (N := N) hw hm
  have htot := totB_set N ps i hii ⟨ps[i].b, r, ws'⟩
  have hge := h.ge
  refine ⟨?_, ?_, fun hq => ?_, fun hq => ?_⟩
  · rw [e1, e2]
    refine h.way.growIn hi hsI fun x hx => ?_
    rw [hm x] at hx
    rcases Bool.or_eq_true_iff.1 hx with hx | hx
    · exact h.way.inb i hi x (by rw [eI]; exact hx)
    · rw [← hc]; exact hx
  · have := hcnt.1; dsimp only at htot; omega
  · dsimp only at htot
    rcases Bool.or_eq_true_iff.1 hq with hq | hq
    · have := hcnt.2 hq; omega
    · have := hcnt.1; have := h.gt hq; omega
  · obtain ⟨q1, q2⟩ := Bool.or_eq_false_iff.1 hq
    have e3 : setS (inS n ps) i (memW ws') = inS n ps := by rw [join_not q1 hm, ← eI, setS_eq]
    rw [e1, e2, e3]
    rintro j (hj | rfl)
    · exact h.cl q2 j hj
    · intro h'
      refine ⟨fun x hx => ?_, ?_⟩
      · unfold succP at hx
        obtain ⟨t, ht, hx⟩ := List.any_eq_true.1 hx
        exact hs t ht x hx
      · rw [← hc, eI]; exact newTo_not q1
end
/-- What a walk over the instructions from the last one on leaves. -/
theorem rev_fold {β : Type} (g : β → Ins) (xs : List β) (S : Nat → Bool) : (revI xs).foldl (fun S q => aheadP (g q.2) S) S = (xs.map g).foldr aheadP S := by
  unfold revI
  rw [List.foldl_reverse]
  have : ∀ (xs : List β) (ns : List Nat), ns.length = xs.length → (ns.zip xs).foldr (fun q S => aheadP (g q.2) S) S = (xs.map g).foldr aheadP S := by
    intro xs
    induction xs with
    | nil => intro ns _; simp
    | cons x xs ih =>
      intro ns h
      cases ns with
      | nil => simp at h
      | cons m ns => simp at h; simp [ih ns h]
  exact this xs _ (by simp)
end Go.Proofs.Ytlniohgnkihefaa
namespace Go.Proofs.Ytlniohgnkihefaa
open Go.RowKit
theorem step_append_row {P : Program} (w : World) {ops : Array Oper} {o : Oper} {a : Act} {K : Act → World → Prop} {Q : Exit → Act → World → Prop} {E : Prop} (hgd : o.guard = none) (s x : Operand) (t e : Nat) (z : Value) (size bytes : Nat)
    (ho : o.op = .call { callee := .builtin .append, args := #[s, x], argTypes := #[t, t] })
    (ht : P.underlying t = some (.slice e)) (hinfo : (P.info? e).map (fun i => (i.zero, i.size, i.bytes)) = some (some z, size, bytes)) (hz : z.cells.size = size)
    {v : Value} {r : Option Nat} {n : Nat} {xs : List Value} (HO : RowAt w e size v r n xs) (ad : Addr) (m c : Nat) (news : List Value) (hln : news.length = m * size) (hnews : ∀ j u, news[j]? = some u → w.cell? (ad.add j) = some u)
    (h1 : ∀ u ∈ news, u.oneCell' = true) (hs : a.eval s = v) (hx : a.eval x = .slice (some ad) m c)
    (hl : (n + m) * bytes ≤ 140737488355328) (hn : n + m ≤ maxLen) (hm : 0 < m)
    (h : ∀ v' r' w', RowAt w' e size v' r' (n + m) (xs ++ news) → Chg (fun k => some k = r) w w' → NewOr w r r' → K (a.put o.dst v') w') :
    if Region.wanted o (yielded ops a.tmps) = true then Oper.wp P o a w K Q else E := by
  have hw : Region.wanted o (yielded ops a.tmps) = true := by simp [Region.wanted, hgd]
  rw [if_pos hw]
  obtain ⟨i0, hi, hz0, hz1, hz2⟩ := info_parts hinfo
  obtain ⟨v', r', w', hrun, hR, hC, hN⟩ := run_append_row (P := P) w t o.type e i0 z size bytes ht hi hz0 hz1 hz2 hz v r n xs HO ad m c news hln hnews h1 hn hl hm
  unfold Oper.wp execOp
  simp only [ho, resolve, invoke, builtin, Sem.run_bind, Sem.run_pure, Result.andThen_ok, List.map_toArray, List.map_cons, List.map_nil, hs, hx, hrun]
  exact h v' r' w' hR hC hN
end Go.Proofs.Ytlniohgnkihefaa
