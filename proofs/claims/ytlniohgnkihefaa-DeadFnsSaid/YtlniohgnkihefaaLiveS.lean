/- brazierref14.Live: what stands between its steps. -/
import Derived.Test.YtlniohgnkihefaaLiveM
import Derived.OwnWalk
namespace Go.Proofs.Ytlniohgnkihefaa
open Go.RowKit

theorem ret_ints0 : (Try.prog.info? 46).map (fun i => (i.zero, i.size, i.bytes)) = some (some (.slice none 0 0), 1, 24) := by kernel_rfl
theorem made_ints (n : Nat) : (madeCells #[Value.slice none 0 0] n).toList = List.replicate n (.slice none 0 0) := by
  unfold madeCells
  apply List.ext_getElem (by simp)
  intro j h1 h2
  simp [Nat.mod_one]
/-- What a row that is made shows. -/
theorem LL.made {w' : World} {base n g : Nat} {no : Nat → Prop} (h : w'.ownsRow base 46 1 (.slice (some ⟨g, 0, none⟩) n n) n (madeCells #[Value.slice none 0 0] n).toList) :
    LL w' g no (List.replicate n ⟨[], none, 0⟩) := by
  refine ⟨?_, fun m hm => ?_, fun m hm => ?_⟩
  · rw [made_ints] at h
    rcases h.2 with ⟨h0, _⟩ | ⟨g', cap, cur, hv, _, hg, h1, h2, h3, h4⟩
    · cases h0
    · injection hv with ha _ hc
      injection ha with ha
      injection ha with ha _
      subst ha; subst hc
      refine ⟨by simp, .inr ⟨g, 0, n, cur, by simp, rfl, hg, by simp, h2, by simp; omega, ?_⟩⟩
      rw [List.map_replicate, List.length_replicate]
      exact h4
  · rw [(List.mem_replicate.1 hm).2]; intro h; simp [ints] at h
  · rw [(List.mem_replicate.1 hm).2]; intro h off e; cases e
theorem below_grown {w w' : World} (h : w.grownBy w' none) : Below w.heap.size w w' := ⟨h.os, h.tape, h.output, h.size, fun k hk => h.block k hk (by simp)⟩

structure Live1 (W0 : World) (ks : List Blk) (gi go : Nat) (is os : List LM) (wr : World) : Prop where
  below : Below W0.heap.size W0 wr
  I : LL wr gi (fun k => k = gi ∨ k = go) is
  O : LL wr go (fun k => k = gi ∨ k = go) os
  il : is.length = ks.length
  ol : os.length = ks.length
  bi : ∀ m ∈ is, Bnd m.l
  bo : ∀ m ∈ os, Bnd m.l
  way : Way ks (stOf is) (stOf os)

def Closed (ks : List Blk) (is os : List LM) (i : Nat) : Prop := ∀ h : i < ks.length, Sub (succP ks[i] (stOf is)) (stOf os i) ∧ Sub (blkP ks[i] (stOf os i)) (stOf is i)
/-- What stands between two blocks of a pass that began at T0. -/
structure Pass (ks : List Blk) (is os : List LM) (T0 k : Nat) (b : Bool) : Prop where
  ge : T0 ≤ totL is + totL os
  gt : b = true → T0 < totL is + totL os
  cl : b = false → ∀ j, j < k → Closed ks is os j
def boolN : Value → Nat
  | .bool true => 1
  | _ => 0
theorem Live1.start {W0 W : World} {ks : List Blk} {gi go n : Nat} (hn : n = ks.length) (hb : Below W0.heap.size W0 W) (hi : LL W gi (fun k => k = gi ∨ k = go) (List.replicate n ⟨[], none, 0⟩)) (ho : LL W go (fun k => k = gi ∨ k = go) (List.replicate n ⟨[], none, 0⟩)) :
    Live1 W0 ks gi go (List.replicate n ⟨[], none, 0⟩) (List.replicate n ⟨[], none, 0⟩) W := by
  have hs : stOf (List.replicate n ⟨[], none, 0⟩) = fun _ _ => false := by
    funext i
    by_cases h : i < n
    · rw [stOf_at _ _ (by simpa using h)]; funext m; simp [listP, hasL]
    · rw [stOf_out _ _ (by simpa using h)]
  refine ⟨hb, hi, ho, by simp [hn], by simp [hn], fun m hm => ?_, fun m hm => ?_, ?_⟩
  · rw [(List.mem_replicate.1 hm).2]; exact Bnd.nil
  · rw [(List.mem_replicate.1 hm).2]; exact Bnd.nil
  · rw [hs]; exact Way.start ks

theorem Live1.setO {W0 wr : World} {ks : List Blk} {gi go k : Nat} {is os : List LM} (h : Live1 W0 ks gi go is os wr) (hk : k < ks.length) (hg : W0.heap.size ≤ go) (hne : gi ≠ go) (m : LM) (hb : Bnd m.l)
    (hs : ∀ x, listP m.l x = true ↔ stOf os k x = true ∨ succP ks[k] (stOf is) x = true) (hr : ReadsAt wr m.A (ints m.l)) (ha : ∀ h off, m.A = some ⟨h, off, none⟩ → ¬ (h = gi ∨ h = go)) :
    Live1 W0 ks gi go is (os.set k m) (wr.setCell ⟨go, k, none⟩ m.enc) := by
  have hko : k < os.length := by rw [h.ol]; exact hk
  refine ⟨?_, h.I.other k _ (fun e => hne e.symm) (.inr rfl), h.O.set k hko m hr ha (.inr rfl), h.il, by rw [List.length_set]; exact h.ol, h.bi, fun x hx => ?_, ?_⟩
  · exact h.below.trans ((Chg.store wr go k m.enc).below (B := W0.heap.size) h.below.size fun i e => by rw [e]; exact hg)
  · rcases List.mem_or_eq_of_mem_set hx with hx | rfl
    · exact h.bo x hx
    · exact hb
  · rw [stOf_set _ _ hko]
    refine h.way.growOut hk (fun x hx => (hs x).2 (.inl hx)) fun x hx => ?_
    rcases (hs x).1 hx with h1 | h1
    · exact h.way.ofs k hk x h1
    · exact h1
theorem Live1.setI {W0 wr : World} {ks : List Blk} {gi go k : Nat} {is os : List LM} (h : Live1 W0 ks gi go is os wr) (hk : k < ks.length) (hg : W0.heap.size ≤ gi) (hne : gi ≠ go) (m : LM) (hb : Bnd m.l)
    (hs : listP m.l = blkP ks[k] (stOf os k)) (hr : ReadsAt wr m.A (ints m.l)) (ha : ∀ h off, m.A = some ⟨h, off, none⟩ → ¬ (h = gi ∨ h = go)) :
    Live1 W0 ks gi go (is.set k m) os (wr.setCell ⟨gi, k, none⟩ m.enc) := by
  have hko : k < is.length := by rw [h.il]; exact hk
  refine ⟨?_, h.I.set k hko m hr ha (.inl rfl), h.O.other k _ hne (.inl rfl), by rw [List.length_set]; exact h.il, h.ol, fun x hx => ?_, h.bo, ?_⟩
  · exact h.below.trans ((Chg.store wr gi k m.enc).below (B := W0.heap.size) h.below.size fun i e => by rw [e]; exact hg)
  · rcases List.mem_or_eq_of_mem_set hx with hx | rfl
    · exact h.bi x hx
    · exact hb
  · rw [stOf_set _ _ hko]
    refine h.way.growIn hk ?_ ?_
    · rw [hs]; exact h.way.inb k hk
    · rw [hs]; exact Sub.refl _
theorem Live1.lift {w W0 wr : World} {ks : List Blk} {gi go : Nat} {is os : List LM} (h : Live1 W0 ks gi go is os wr) (hb : Below w.heap.size w W0) : Live1 w ks gi go is os wr :=
  ⟨hb.trans (h.below.mono hb.size), h.I, h.O, h.il, h.ol, h.bi, h.bo, h.way⟩
theorem Live1.below1 {W0 wr w' : World} {ks : List Blk} {gi go : Nat} {is os : List LM} (h : Live1 W0 ks gi go is os wr) (hb : Below wr.heap.size wr w') : Live1 W0 ks gi go is os w' :=
  ⟨h.below.trans (hb.mono h.below.size), h.I.below hb, h.O.below hb, h.il, h.ol, h.bi, h.bo, h.way⟩
/-- One block of a pass. -/
theorem Pass.step {W0 wr : World} {ks : List Blk} {gi go k T0 : Nat} {b : Bool} {is os : List LM} (h : Live1 W0 ks gi go is os wr) (hp : Pass ks is os T0 k b) (hk : k < ks.length) (hki : k < is.length) (hko : k < os.length) (m m2 : LM) (hb : Bnd m.l) (hb2 : Bnd m2.l)
    (hs : ∀ x, listP m.l x = true ↔ stOf os k x = true ∨ succP ks[k] (stOf is) x = true) (hs2 : listP m2.l = blkP ks[k] (listP m.l)) :
    Pass ks (is.set k m2) (os.set k m) T0 (k + 1) ((b || decide (os[k].l.length < m.l.length)) || decide (is[k].l.length < m2.l.length)) := by
  have hO : Sub (listP os[k].l) (listP m.l) := fun x hx => (hs x).2 (.inl (by rw [stOf_at os k hko]; exact hx))
  have hI : Sub (listP is[k].l) (listP m2.l) := by
    rw [hs2, ← stOf_at is k hki]
    refine (h.way.inb k hk).trans (blkP_mono _ ?_)
    rw [stOf_at os k hko]; exact hO
  have h1 := rise_len (h.bo _ (List.getElem_mem hko)).1 hb.1 hO
  have h2 := rise_len (h.bi _ (List.getElem_mem hki)).1 hb2.1 hI
  have t1 := totL_set os k hko m
  have t2 := totL_set is k hki m2
  have hge := hp.ge
  refine ⟨by omega, fun hq => ?_, fun hq => ?_⟩
  · rcases Bool.or_eq_true_iff.1 hq with hq | hq
    · rcases Bool.or_eq_true_iff.1 hq with hq | hq
      · have := hp.gt hq; omega
      · have := of_decide_eq_true hq; omega
    · have := of_decide_eq_true hq; omega
  · obtain ⟨hq1, hq2⟩ := Bool.or_eq_false_iff.1 hq
    obtain ⟨hq0, hq1⟩ := Bool.or_eq_false_iff.1 hq1
    have e1 := h1.2 (by have := of_decide_eq_false hq1; omega)
    have e2 := h2.2 (by have := of_decide_eq_false hq2; omega)
    have s1 : stOf (os.set k m) = stOf os := by rw [stOf_set _ _ hko, ← e1, ← stOf_at os k hko, setS_eq]
    have s2 : stOf (is.set k m2) = stOf is := by rw [stOf_set _ _ hki, ← e2, ← stOf_at is k hki, setS_eq]
    intro j hj
    unfold Closed
    rw [s1, s2]
    rcases Nat.lt_succ_iff_lt_or_eq.1 hj with hj | rfl
    · exact hp.cl hq0 j hj
    · intro h'
      refine ⟨fun x hx => ?_, ?_⟩
      · rw [stOf_at os j hko, e1]; exact (hs x).2 (.inr hx)
      · rw [stOf_at os j hko, stOf_at is j hki, e1, e2, hs2]; exact Sub.refl _
/-- Does the block go on to k? -/
def goesB (b : Blk) (k : Nat) : Bool := (decide (b.kind ≠ 3) && decide ((k : Int) = b.to)) || (decide (b.kind = 2) && decide ((k : Int) = b.els))
theorem goesB_iff {n : Nat} {b : Blk} (h : BlkF n b) (k : Nat) : goesB b k = true ↔ ∃ t ∈ nextP b, t.toNat = k := by
  have ht := h.to
  have he := h.els
  unfold goesB nextP
  rcases h.kind with e | e | e <;> rw [e] at ht he ⊢ <;> simp at ht he ⊢ <;> omega
/-- What has been gathered behind a block, with what the blocks below k have. -/
def behK (b : Blk) (O : Nat → Bool) (I : St) (k x : Nat) : Prop := O x = true ∨ ∃ t ∈ nextP b, t.toNat < k ∧ I t.toNat x = true
theorem behK_zero {b : Blk} {O : Nat → Bool} {I : St} {x : Nat} : behK b O I 0 x ↔ O x = true := ⟨fun h => by rcases h with h | ⟨t, _, h, _⟩; exact h; omega, .inl⟩
theorem behK_skip {n : Nat} {b : Blk} (hb : BlkF n b) {O : Nat → Bool} {I : St} {k x : Nat} (h : goesB b k = false) : behK b O I (k + 1) x ↔ behK b O I k x := by
  constructor
  · rintro (h1 | ⟨t, ht, h1, h2⟩)
    · exact .inl h1
    · refine .inr ⟨t, ht, ?_, h2⟩
      rcases Nat.lt_succ_iff_lt_or_eq.1 h1 with h1 | h1
      · exact h1
      · rw [(goesB_iff hb k).2 ⟨t, ht, h1⟩] at h; cases h
  · rintro (h1 | ⟨t, ht, h1, h2⟩)
    · exact .inl h1
    · exact .inr ⟨t, ht, by omega, h2⟩
theorem behK_take {n : Nat} {b : Blk} (hb : BlkF n b) {O : Nat → Bool} {I : St} {k x : Nat} (h : goesB b k = true) : behK b O I (k + 1) x ↔ behK b O I k x ∨ I k x = true := by
  constructor
  · rintro (h1 | ⟨t, ht, h1, h2⟩)
    · exact .inl (.inl h1)
    · rcases Nat.lt_succ_iff_lt_or_eq.1 h1 with h1 | h1
      · exact .inl (.inr ⟨t, ht, h1, h2⟩)
      · rw [h1] at h2; exact .inr h2
  · rintro ((h1 | ⟨t, ht, h1, h2⟩) | h2)
    · exact .inl h1
    · exact .inr ⟨t, ht, by omega, h2⟩
    · obtain ⟨t, ht, h1⟩ := (goesB_iff hb k).1 h
      exact .inr ⟨t, ht, by omega, by rw [h1]; exact h2⟩
theorem behK_all {n : Nat} {b : Blk} (hb : BlkF n b) {O : Nat → Bool} {I : St} {x : Nat} : behK b O I n x ↔ O x = true ∨ succP b I x = true := by
  have hlt : ∀ t ∈ nextP b, t.toNat < n := by
    intro t ht
    have h1 := hb.to
    have h2 := hb.els
    unfold nextP at ht
    rcases hb.kind with e | e | e <;> rw [e] at ht h1 h2 <;> simp at ht h1 h2
    · omega
    · rcases ht with rfl | rfl <;> omega
  unfold behK succP
  rw [List.any_eq_true]
  constructor
  · rintro (h | ⟨t, ht, _, h⟩)
    · exact .inl h
    · exact .inr ⟨t, ht, h⟩
  · rintro (h | ⟨t, ht, h⟩)
    · exact .inl h
    · exact .inr ⟨t, ht, hlt t ht, h⟩
/-- A list on its way. -/
structure LoopT (gi go : Nat) (W wr : World) (A : Option Addr) (l : List Int) : Prop where
  below : Below W.heap.size W wr
  row : ReadsAt wr A (ints l)
  apart : ∀ h off, A = some ⟨h, off, none⟩ → ¬ (h = gi ∨ h = go)
  bnd : Bnd l
theorem LoopT.give {gi go : Nat} {W wr w1 : World} {A A1 : Option Addr} {l l1 : List Int} (h : LoopT gi go W wr A l) (hgi : gi < W.heap.size) (hgo : go < W.heap.size) (hB : Below wr.heap.size wr w1) (hR : ReadsAt w1 A1 (ints l1))
    (hA : ∀ g off, A1 = some ⟨g, off, none⟩ → (wr.heap.size ≤ g ∧ g < w1.heap.size) ∨ A = some ⟨g, off, none⟩) (hb : Bnd l1) : LoopT gi go W w1 A1 l1 := by
  refine ⟨h.below.trans (hB.mono h.below.size), hR, fun g off e => ?_, hb⟩
  have h1 := h.below.size
  rcases hA g off e with h3 | h3
  · omega
  · exact h.apart g off h3

end Go.Proofs.Ytlniohgnkihefaa
