/- A program without what nobody asks for: each pass is such a one. -/
import Derived.Test.YtlniohgnkihefaaLk30
import Derived.Test.YtlniohgnkihefaaLk25
import Derived.Test.YtlniohgnkihefaaLk24
namespace Go.Proofs.Ytlniohgnkihefaa
open Classical in
/-- The least solution: what every pre-solution has. -/
def PreS (ks : List Blk) (I O : St) : Prop := ∀ i (h : i < ks.length), Sub (succP ks[i] I) (O i) ∧ Sub (blkP ks[i] (O i)) (I i)
open Classical in
noncomputable def minI (ks : List Blk) : St := fun i n => decide (∀ I O, PreS ks I O → I i n = true)
open Classical in
noncomputable def minO (ks : List Blk) : St := fun i n => decide (∀ I O, PreS ks I O → O i n = true)
section
variable {ks : List Blk}
open Classical in
theorem minI_iff {i n : Nat} : minI ks i n = true ↔ ∀ I O, PreS ks I O → I i n = true := by unfold minI; exact decide_eq_true_iff
open Classical in
theorem minO_iff {i n : Nat} : minO ks i n = true ↔ ∀ I O, PreS ks I O → O i n = true := by unfold minO; exact decide_eq_true_iff
theorem min_sub {I O : St} (h : PreS ks I O) : (∀ i, Sub (minI ks i) (I i)) ∧ ∀ i, Sub (minO ks i) (O i) := ⟨fun _ _ hn => minI_iff.1 hn _ _ h, fun _ _ hn => minO_iff.1 hn _ _ h⟩
theorem min_pre (ks : List Blk) : PreS ks (minI ks) (minO ks) := fun i hi => ⟨fun n hn => minO_iff.2 fun _ _ h => (h i hi).1 n (succP_mono _ (min_sub h).1 n hn), fun n hn => minI_iff.2 fun _ _ h => (h i hi).2 n (blkP_mono _ ((min_sub h).2 i) n hn)⟩
theorem min_sol (ks : List Blk) : Sol ks (minI ks) (minO ks) := by
  have hp := min_pre ks
  have hpre : PreS ks (fun i n => match ks[i]? with | some k => blkP k (minO ks i) n | none => minI ks i n) (fun i n => match ks[i]? with | some k => succP k (minI ks) n | none => minO ks i n) := by
    have hsub : ∀ i, Sub ((fun i n => match ks[i]? with | some k => blkP k (minO ks i) n | none => minI ks i n) i) (minI ks i) := fun i n hn => by
      dsimp only at hn
      by_cases hi : i < ks.length
      · rw [List.getElem?_eq_getElem hi] at hn
        exact (hp i hi).2 n hn
      · rw [List.getElem?_eq_none (by omega)] at hn; exact hn
    intro i hi
    refine ⟨fun n hn => ?_, fun n hn => ?_⟩
    · dsimp only
      rw [List.getElem?_eq_getElem hi]
      exact succP_mono _ hsub n hn
    · dsimp only
      rw [List.getElem?_eq_getElem hi]
      refine blkP_mono _ (fun q hq => ?_) n hn
      dsimp only at hq
      rw [List.getElem?_eq_getElem hi] at hq
      exact (hp i hi).1 q hq
  have hm := min_sub hpre
  intro i hi
  refine ⟨Sub.antisymm (fun n hn => ?_) (hp i hi).1, Sub.antisymm (fun n hn => ?_) (hp i hi).2⟩
  · have := hm.2 i n hn
    dsimp only at this
    rw [List.getElem?_eq_getElem hi] at this
    exact this
  · have := hm.1 i n hn
    dsimp only at this
    rw [List.getElem?_eq_getElem hi] at this
    exact this
open Classical in
theorem outOf_eq (ks : List Blk) (i : Nat) (_ : i < ks.length) : outOf ks i = minO ks i := by
  funext n
  unfold outOf
  rw [Bool.eq_iff_iff, decide_eq_true_iff]
  constructor
  · intro h; exact h _ _ (min_sol ks)
  · intro h I O hs
    have : PreS ks I O := fun j hj => ⟨fun q hq => by rw [(hs j hj).1]; exact hq, fun q hq => by rw [(hs j hj).2]; exact hq⟩
    exact minO_iff.1 h I O this
/-- What is of use ahead of the k-th instruction, as the sweep goes. -/
noncomputable def useG (ks : List Blk) (i k n : Nat) : Prop := (swRun (ks.getD i noBlk) (outOf ks i) ((ks.getD i noBlk).ins.drop k).reverse).S n = true
theorem swRun_cons (b : Blk) (O : Nat → Bool) (x : Ins) (xs : List Ins) : swRun b O (x :: xs).reverse = swStep (swRun b O xs.reverse) x := by rw [List.reverse_cons, swRun_snoc]
theorem hasP_no {S : Nat → Bool} {d : Int} (h0 : 0 ≤ d) (h : hasP S d = false) : S d.toNat = false := by
  unfold hasP at h
  simp only [Bool.and_eq_false_iff, decide_eq_false_iff_not] at h
  rcases h with h | h
  · omega
  · exact h
theorem ahead_ask {x : Ins} {S : Nat → Bool} {n : Nat} (h : askP x n = true) : aheadP x S n = true := by unfold aheadP; rw [h]; simp
theorem ahead_pass {x : Ins} {S : Nat → Bool} {n : Nat} (h : S n = true) (hd : x.d < 0 ∨ n ≠ x.d.toNat) : aheadP x S n = true := by
  unfold aheadP
  rw [h]
  rcases hd with hd | hd
  · have : decide (0 ≤ x.d) = false := by simp; omega
    rw [this]; simp
  · have : (n == x.d.toNat) = false := by simpa using hd
    rw [this]; simp
/-- A sweep is a simulation. -/
theorem sweep_sim (b : Blk) (O : Nat → Bool) (hd : ∀ x ∈ b.ins, pureP x = true → 0 ≤ x.d) : ∀ (k : Nat) (xs : List Ins), b.ins.drop k = xs → InsSim (fun k n => (swRun b O (b.ins.drop k).reverse).S n = true) k xs (swRun b O xs.reverse).left.reverse := by
  intro k xs
  induction xs generalizing k with
  | nil => intro _; exact .nil k
  | cons x xs ih =>
    intro hk
    obtain ⟨e1, e2, e3⟩ := drop_cons hk
    have ih2 := ih (k + 1) e2
    have hmem : x ∈ b.ins := List.mem_of_getElem? e1
    have hG1 : ∀ n, (swRun b O (b.ins.drop (k + 1)).reverse).S n = (swRun b O xs.reverse).S n := fun n => by rw [e2]
    have hG0 : ∀ n, (swRun b O (b.ins.drop k).reverse).S n = (swStep (swRun b O xs.reverse) x).S n := fun n => by rw [hk, swRun_cons]
    rw [swRun_cons]
    generalize hs : swRun b O xs.reverse = s at ih2 hG1 hG0 ⊢
    by_cases hg : goesP x s.S = true
    · have e4 : swStep s x = ⟨s.S, s.left, true⟩ := by unfold swStep; rw [if_pos hg]
      rw [e4] at hG0 ⊢
      unfold goesP at hg
      simp only [Bool.and_eq_true, Bool.or_eq_true, Bool.not_eq_true', decide_eq_true_eq] at hg
      refine .drop k x xs _ hg.1 ?_ (fun n hn => ?_) ih2
      · rcases hg.2 with h | h
        · refine .inl ?_
          rw [hG1, hasP_no (hd x hmem hg.1) h]
          simp
        · exact .inr h
      · rw [hG0]; rw [hG1] at hn; exact hn
    · have e4 : swStep s x = ⟨aheadP (cutP x s.S) s.S, s.left ++ [cutP x s.S], s.t || lessP x s.S⟩ := by unfold swStep; rw [if_neg hg]
      rw [e4] at hG0 ⊢
      dsimp only at hG0 ⊢
      rw [List.reverse_append]
      simp only [List.reverse_cons, List.reverse_nil, List.nil_append, List.singleton_append]
      by_cases hl : lessP x s.S = true
      · have hl2 := less_iff hl
        have ec : cutP x s.S = { x with d := -1 } := by unfold cutP; rw [if_pos hl]
        rw [ec] at hG0 ⊢
        have hno : s.S x.d.toNat = false := by
          unfold lessP at hl
          simp only [Bool.and_eq_true, Bool.not_eq_true'] at hl
          exact hasP_no hl2.2 hl.2
        refine .cut k x xs _ hl2.1 hl2.2 ?_ (fun n hn => ?_) (fun n hn => ?_) ih2
        · rw [hG1, hno]; simp
        · rw [hG0]; exact ahead_ask (x := { x with d := -1 }) hn
        · rw [hG0]; rw [hG1] at hn
          exact ahead_pass (x := { x with d := -1 }) hn (.inl (by show (-1 : Int) < 0; decide))
      · have ec := cut_not (x := x) (S := s.S) (by simpa using hl)
        rw [ec] at hG0 ⊢
        refine .keep k x xs _ (fun n hn => ?_) (fun n hn hne => ?_) ih2
        · rw [hG0]; exact ahead_ask hn
        · rw [hG0]; rw [hG1] at hn; exact ahead_pass hn hne
theorem ahead_cases {x : Ins} {S : Nat → Bool} {n : Nat} (h : aheadP x S n = true) : askP x n = true ∨ (S n = true ∧ (x.d < 0 ∨ n ≠ x.d.toNat)) := by
  unfold aheadP at h
  simp only [Bool.or_eq_true, Bool.and_eq_true, Bool.not_eq_true', Bool.and_eq_false_iff, decide_eq_false_iff_not, beq_eq_false_iff_ne] at h
  rcases h with ⟨h1, h2⟩ | h
  · refine .inr ⟨h1, ?_⟩
    rcases h2 with h2 | h2
    · exact .inr h2
    · exact .inl (by omega)
  · exact .inl h
theorem sweep_sub (b : Blk) (O : Nat → Bool) : ∀ xs : List Ins, (∀ x ∈ xs, x.a < 65536 ∧ (pureP x = true → 0 ≤ x.d)) → Sub (swRun b O xs.reverse).S (tailP b xs O)
  | [], _ => fun n h => h
  | x :: xs, hx => by
    have ih := sweep_sub b O xs fun y hy => hx y (by simp [hy])
    obtain ⟨hxa, hxd⟩ := hx x (by simp)
    rw [swRun_cons]
    generalize swRun b O xs.reverse = s at ih
    show Sub _ (aheadP x (tailP b xs O))
    by_cases hg : goesP x s.S = true
    · have e4 : swStep s x = ⟨s.S, s.left, true⟩ := by unfold swStep; rw [if_pos hg]
      rw [e4]
      intro n hn
      dsimp only at hn
      unfold goesP at hg
      simp only [Bool.and_eq_true, Bool.or_eq_true, Bool.not_eq_true', decide_eq_true_eq] at hg
      have h0 := hxd hg.1
      by_cases e : n = x.d.toNat
      · rcases hg.2 with h | h
        · rw [e, hasP_no h0 h] at hn; cases hn
        · refine ahead_ask ?_
          rw [e, ← h.2]
          exact askA (by rw [h.2]; exact h0) hxa (.inl rfl)
      · exact ahead_pass (ih n hn) (.inr e)
    · have e4 : swStep s x = ⟨aheadP (cutP x s.S) s.S, s.left ++ [cutP x s.S], s.t || lessP x s.S⟩ := by unfold swStep; rw [if_neg hg]
      rw [e4]
      intro n hn
      dsimp only at hn
      by_cases hl : lessP x s.S = true
      · have hl2 := less_iff hl
        have ec : cutP x s.S = { x with d := -1 } := by unfold cutP; rw [if_pos hl]
        rw [ec] at hn
        have hno : s.S x.d.toNat = false := by
          unfold lessP at hl
          simp only [Bool.and_eq_true, Bool.not_eq_true'] at hl
          exact hasP_no hl2.2 hl.2
        rcases ahead_cases hn with h | ⟨h, _⟩
        · exact ahead_ask (x := x) h
        · exact ahead_pass (ih n h) (.inr fun e => by rw [e, hno] at h; cases h)
      · rw [cut_not (by simpa using hl)] at hn
        rcases ahead_cases hn with h | ⟨h, h2⟩
        · exact ahead_ask h
        · exact ahead_pass (ih n h) h2
theorem sweep_ins (k : Blk) (O : Nat → Bool) : (swBlk k O).ins = (swRun k O k.ins.reverse).left.reverse := rfl
theorem sw_end (k : Blk) (O : Nat → Bool) : (swRun k O ([] : List Ins).reverse).S = endP k O := rfl
theorem insV_bd {n : Int} {x : Ins} (h : InsV n x) (hn : n ≤ 4096) : x.a < 65536 ∧ (pureP x = true → 0 ≤ x.d) := by
  have hr : ∀ {r : Int} {b : Bool}, regB r n b = true → r < 65536 := fun {r b} h => by
    unfold regB at h
    simp only [Bool.or_eq_true, Bool.and_eq_true, decide_eq_true_eq] at h
    omega
  cases h with
  | num d z hd => exact ⟨by show (-1 : Int) < 65536; decide, fun _ => (regB_in hd).1⟩
  | copy d a hd ha => exact ⟨hr ha, fun _ => (regB_in hd).1⟩
  | un op d a ho hd ha => exact ⟨hr ha, fun _ => (regB_in hd).1⟩
  | bin op d a b ho hd ha hb => exact ⟨hr ha, fun _ => (regB_in hd).1⟩
  | load d a name hd ha hnm => exact ⟨hr ha, fun _ => (regB_in hd).1⟩
  | store a b name ha hb hnm => exact ⟨hr ha, fun h => by simp [pureP] at h⟩
  | call d name args hd hnm hl ha => exact ⟨by show (-1 : Int) < 65536; decide, fun h => by simp [pureP] at h⟩
  | read d hd => exact ⟨by show (-1 : Int) < 65536; decide, fun h => by simp [pureP] at h⟩
  | print a ha => exact ⟨hr ha, fun h => by simp [pureP] at h⟩
/-- One pass over a function. -/
theorem nxt_sim (f : Fn) (hv : FnV f) : SimF (useG f.blocks) f { f with blocks := nxt f.blocks } := by
  have hlen : (nxt f.blocks).length = f.blocks.length := nxtO_len _ _
  have hget : ∀ i, i < f.blocks.length → (nxt f.blocks).getD i noBlk = swBlk (f.blocks.getD i noBlk) (outOf f.blocks i) := fun i hi => by
    have hi' : i < (nxtO (outOf f.blocks) f.blocks).length := by rw [nxtO_len]; exact hi
    unfold nxt
    rw [List.getD_eq_getElem?_getD, List.getElem?_eq_getElem hi', List.getD_eq_getElem?_getD, List.getElem?_eq_getElem hi]
    exact nxtO_at _ _ i hi hi'
  have hbd : ∀ i, i < f.blocks.length → ∀ x ∈ (f.blocks.getD i noBlk).ins, x.a < 65536 ∧ (pureP x = true → 0 ≤ x.d) := fun i hi x hx =>
    insV_bd (blkV_ins (hv.blocks _ (getD_mem hi)) x hx) hv.regs.2
  refine ⟨rfl, rfl, rfl, hlen, fun i hi => ?_, fun i hi hk h0 h1 => ?_, fun i hi t ht n hn => ?_⟩
  · have e := hget i hi
    show BlkSim (useG f.blocks i) (f.blocks.getD i noBlk) ((nxt f.blocks).getD i noBlk)
    rw [e]
    refine ⟨rfl, rfl, rfl, rfl, ?_⟩
    rw [sweep_ins]
    exact sweep_sim (f.blocks.getD i noBlk) (outOf f.blocks i) (fun x hx => (hbd i hi x hx).2) 0 _ rfl
  · unfold useG
    rw [List.drop_length]
    rw [sw_end]
    unfold endP
    generalize f.blocks.getD i noBlk = b at hk h0 h1 ⊢
    have h2 : inR b.a = true := by unfold inR; simp [h0, h1]
    simp [hk, h2]
  · unfold useG at hn ⊢
    rw [List.drop_length, sw_end]
    rw [List.drop_zero] at hn
    have hbv := hv.blocks _ (getD_mem hi)
    have ht2 : t.toNat < f.blocks.length := by
      generalize f.blocks.getD i noBlk = b at hbv ht
      cases hbv with
      | jump ins tt hx hh => simp [nextP] at ht; subst ht; omega
      | branch ins a tt els hx ha hh he =>
        simp [nextP] at ht
        rcases ht with rfl | rfl <;> omega
      | leave ins a hx ha => simp [nextP] at ht
    have h1 := sweep_sub (f.blocks.getD t.toNat noBlk) (outOf f.blocks t.toNat) _ (hbd t.toNat ht2) n hn
    have hsol := min_sol f.blocks
    have e1 : f.blocks.getD t.toNat noBlk = f.blocks[t.toNat] := by rw [List.getD_eq_getElem?_getD, List.getElem?_eq_getElem ht2]; rfl
    have e2 : f.blocks.getD i noBlk = f.blocks[i] := by rw [List.getD_eq_getElem?_getD, List.getElem?_eq_getElem hi]; rfl
    have h2 : minI f.blocks t.toNat n = true := by
      rw [(hsol t.toNat ht2).2, ← outOf_eq f.blocks t.toNat ht2, ← e1]
      exact h1
    have h3 : outOf f.blocks i n = true := by
      rw [outOf_eq f.blocks i hi, (hsol i hi).1]
      unfold succP
      rw [List.any_eq_true]
      exact ⟨t, by rw [← e2]; exact ht, h2⟩
    unfold endP
    rw [h3]; simp
theorem same_sim (f : Fn) : SimF (fun _ _ _ => True) f f := by
  have hs : ∀ (k : Nat) (l : List Ins), InsSim (fun _ _ => True) k l l := fun k l => by
    induction l generalizing k with
    | nil => exact .nil k
    | cons x l ih => exact .keep k x l l (fun _ _ => trivial) (fun _ _ _ => trivial) (ih (k + 1))
  exact ⟨rfl, rfl, rfl, rfl, fun i hi => ⟨rfl, rfl, rfl, rfl, hs 0 _⟩, fun _ _ _ _ _ => trivial, fun _ _ _ _ _ _ => trivial⟩
theorem insSim_mem {G : Nat → Nat → Prop} {k : Nat} {l l' : List Ins} (h : InsSim G k l l') : ∀ y ∈ l', ∃ x ∈ l, y = x ∨ (x.kind = 7 ∧ y = { x with d := -1 }) := by
  induction h with
  | nil => intro y hy; cases hy
  | keep k x xs ys _ _ _ ih =>
    intro y hy
    rcases List.mem_cons.1 hy with rfl | hy
    · exact ⟨y, by simp, .inl rfl⟩
    · obtain ⟨z, hz, e⟩ := ih y hy
      exact ⟨z, by simp [hz], e⟩
  | cut k x xs ys hk _ _ _ _ _ ih =>
    intro y hy
    rcases List.mem_cons.1 hy with rfl | hy
    · exact ⟨x, by simp, .inr ⟨hk, rfl⟩⟩
    · obtain ⟨z, hz, e⟩ := ih y hy
      exact ⟨z, by simp [hz], e⟩
  | drop k x xs ys _ _ _ _ ih =>
    intro y hy
    obtain ⟨z, hz, e⟩ := ih y hy
    exact ⟨z, by simp [hz], e⟩
theorem insV_less {n : Int} {x : Ins} (h : InsV n x) (hk : x.kind = 7) : InsV n { x with d := -1 } := by
  cases h with
  | call d name args hd hnm hl ha => exact .call (-1) name args (by unfold regB; simp) hnm hl ha
  | _ => simp at hk
/-- What is left may be. -/
theorem SimM.may {m m' : Mid} (hm : MayV m) (hs : SimM m m') : MayV m' := by
  have hpar : ∀ i (h : i < m.fns.length) (h' : i < m'.fns.length), m'.fns[i].params = m.fns[i].params ∧ m'.fns[i].name = m.fns[i].name := fun i h h' => by
    obtain ⟨G, hG⟩ := hs.fns i h h'
    exact ⟨hG.params, hG.name⟩
  obtain ⟨i, hi, h1, h2⟩ := hm.main
  have hi' : i < m'.fns.length := by rw [hs.nf]; exact hi
  refine ⟨by rw [hs.globals]; exact hm.ng, by rw [hs.globals]; exact hm.words, fun j hj => ?_, ⟨i, hi', by rw [hs.at_]; exact h1, by rw [(hpar i hi hi').1]; exact h2⟩, fun j hj => ?_⟩
  · have hj' : j < m.globals.length := by rw [← hs.globals]; exact hj
    have h := hm.globs j hj'
    have e : m'.globals[j] = m.globals[j] := by simp only [hs.globals]
    rw [e]
    exact ⟨h.name, h.size, by rw [hs.globals]; exact h.at_⟩
  · have hj' : j < m.fns.length := by rw [← hs.nf]; exact hj
    obtain ⟨G, hG⟩ := hs.fns j hj' hj
    have h := hm.fns j hj'
    have hblk : ∀ b' ∈ m'.fns[j].blocks, ∃ b ∈ m.fns[j].blocks, ∃ i, BlkSim (G i) b b' := fun b' hb' => by
      obtain ⟨q, hq, e⟩ := List.getElem_of_mem hb'
      have hq' : q < m.fns[j].blocks.length := by rw [← hG.nb]; exact hq
      have := hG.blk q hq'
      rw [show m'.fns[j].blocks.getD q noBlk = b' from by rw [List.getD_eq_getElem?_getD, List.getElem?_eq_getElem hq, ← e]; rfl] at this
      exact ⟨_, getD_mem hq', q, this⟩
    refine ⟨⟨by rw [hG.name]; exact h.fn.name, by rw [hG.params]; exact h.fn.params, by rw [hG.params, hG.regs]; exact h.fn.regs, by rw [hG.nb]; exact h.fn.some, fun b' hb' => ?_⟩, by rw [hG.name, hs.at_]; exact h.at_, by rw [hG.name, hs.globals]; exact h.noGlob, fun b' hb' y hy => ?_⟩
    · obtain ⟨b, hb, i, hB⟩ := hblk b' hb'
      have hbv := h.fn.blocks b hb
      rw [hG.nb, hG.regs]
      obtain ⟨hk, ha, ht, he, hi⟩ := hB
      have hx : ∀ y ∈ b'.ins, InsV m.fns[j].regs y := fun y hy => by
        obtain ⟨x, hx, e⟩ := insSim_mem hi y hy
        have hv := blkV_ins hbv x hx
        rcases e with rfl | ⟨hk7, rfl⟩
        · exact hv
        · exact insV_less hv hk7
      obtain ⟨ins', kind', a', to', els'⟩ := b'
      dsimp only at hk ha ht he hx
      subst hk ha ht he
      cases hbv with
      | jump ins tt hxx hh => exact .jump ins' tt hx hh
      | branch ins a tt els hxx hr hh hee => exact .branch ins' a tt els hx hr hh hee
      | leave ins a hxx hr => exact .leave ins' a hx hr
    · obtain ⟨b, hb, i, hB⟩ := hblk b' hb'
      obtain ⟨x, hx, e⟩ := insSim_mem hB.ins y hy
      have hM := h.ins b hb x hx
      have hM' : InsM m' x := by
        refine ⟨fun hk => ?_, fun hk => ?_⟩
        · obtain ⟨g, hg, h1, h2⟩ := hM.mem hk
          have hg' : g < m'.globals.length := by rw [hs.globals]; exact hg
          refine ⟨g, hg', by rw [hs.globals]; exact h1, ?_⟩
          have e : m'.globals[g] = m.globals[g] := by simp only [hs.globals]
          rw [e]; exact h2
        · obtain ⟨c, hc, h1, h2⟩ := hM.call hk
          have hc' : c < m'.fns.length := by rw [hs.nf]; exact hc
          exact ⟨c, hc', by rw [hs.at_]; exact h1, by rw [(hpar c hc hc').1]; exact h2⟩
      rcases e with rfl | ⟨hk7, rfl⟩
      · exact hM'
      · exact ⟨fun hk => by dsimp only at hk; omega, hM'.call⟩
/-- Any run ends. -/
theorem runs_end (m : Mid) (inp : List Int) (fuel : Int) : ∀ (n : Nat) (s : MS) (fr : Fr) (K : List Fr), (fuel - (s.steps : Int)).toNat ≤ n → ∃ r : Cfg, Reach m inp fuel (s, fr :: K) r ∧ r.1.fin ≠ 0 := by
  intro n
  induction n with
  | zero =>
    intro s fr K hn
    by_cases h0 : s.fin = 0
    · exact ⟨_, Reach.one _, by rw [stepC_open h0 (by omega)]; simp [MS.ended]⟩
    · exact ⟨_, Reach.refl _, h0⟩
  | succ n ih =>
    intro s fr K hn
    by_cases h0 : s.fin = 0
    · by_cases hf : fuel ≤ (s.steps : Int)
      · exact ⟨_, Reach.one _, by rw [stepC_open h0 hf]; simp [MS.ended]⟩
      · have e := stepC_go (m := m) (inp := inp) (fr := fr) (K := K) h0 hf
        have hst : (stepF m inp s.step fr K).1.steps = s.steps + 1 := by
          unfold stepF
          split
          · rw [exS_steps]; rfl
          · rw [exE_steps]; rfl
        generalize hc : stepF m inp s.step fr K = c at e hst
        obtain ⟨s1, K1⟩ := c
        by_cases h1 : s1.fin = 0
        · cases K1 with
          | nil =>
            exfalso
            have key : ∀ c : Cfg, c = stepF m inp s.step fr K → c.2 = [] → c.1.fin ≠ 0 := by
              intro c hcc hnil
              rw [hcc] at hnil ⊢
              unfold stepF at hnil ⊢
              split at hnil
              · exfalso
                rename_i x _
                have : (exS m inp x s.step { fr with i := fr.i + 1 } K).2 ≠ [] := by
                  unfold exS
                  have P := fun (a b : Cfg) (c : Prop) [Decidable c] (ha : a.2 ≠ []) (hb : b.2 ≠ []) => ite_P (P := fun c : Cfg => c.2 ≠ []) (c := c) ha hb
                  refine P _ _ _ (by simp) (P _ _ _ (by simp) (P _ _ _ (by simp) (P _ _ _ (by split <;> simp) (P _ _ _ (P _ _ _ (by simp) (by simp)) (P _ _ _ (P _ _ _ (by simp) (by simp)) (P _ _ _ (P _ _ _ (by simp) (by simp)) (P _ _ _ (P _ _ _ (by simp) (by simp)) (P _ _ _ (by simp) (by simp)))))))))
                exact this hnil
              ·
                unfold exE at hnil ⊢
                split at hnil
                · cases hnil
                · rename_i hk1
                  rw [if_neg hk1]
                  split at hnil
                  · cases hnil
                  · rename_i hk2
                    rw [if_neg hk2]
                    cases K with
                    | nil => simp [retC]
                    | cons f K => cases hnil
            exact key (s1, []) hc.symm rfl h1
          | cons f1 K1 =>
            obtain ⟨r, hr, hr0⟩ := ih s1 f1 K1 (by dsimp only at hst; omega)
            exact ⟨r, (show Reach m inp fuel (s, fr :: K) (s1, f1 :: K1) from e ▸ Reach.one _).trans hr, hr0⟩
        · exact ⟨_, e ▸ Reach.one _, h1⟩
    · exact ⟨_, Reach.refl _, h0⟩
theorem run_exists (m : Mid) (inp : List Int) (fuel : Int) : ∃ r, RunsTo m inp fuel r := by
  obtain ⟨r, h1, h2⟩ := runs_end m inp fuel _ ⟨data0 m, 0, 0, [], 0, 0⟩ (entry (fnNamed m mainN) [] (-1)) [] (Nat.le_refl _)
  exact ⟨r.1, h2, r.2, h1⟩
/-- After k passes. -/
noncomputable def passM (k : Nat) (m : Mid) : Mid := { m with fns := m.fns.map fun f => { f with blocks := iterK (min k (costK f.blocks)) f.blocks } }
theorem iterK_succ : ∀ (n : Nat) (ks : List Blk), iterK (n + 1) ks = nxt (iterK n ks)
  | 0, _ => rfl
  | n + 1, ks => iterK_succ n (nxt ks)
theorem passM_zero (m : Mid) : passM 0 m = m := by
  unfold passM
  have : (fun f : Fn => { f with blocks := iterK (min 0 (costK f.blocks)) f.blocks }) = id := by
    funext f
    simp [iterK]
  rw [this, List.map_id]
theorem pass_sim (k : Nat) (m : Mid) (hm : MayV (passM k m)) : SimM (passM k m) (passM (k + 1) m) := by
  refine ⟨rfl, by simp [passM], fun i h h' => ?_⟩
  have hi : i < m.fns.length := by simpa [passM] using h
  have e1 : (passM k m).fns[i] = { m.fns[i] with blocks := iterK (min k (costK m.fns[i].blocks)) m.fns[i].blocks } := by simp [passM]
  have e2 : (passM (k + 1) m).fns[i] = { m.fns[i] with blocks := iterK (min (k + 1) (costK m.fns[i].blocks)) m.fns[i].blocks } := by simp [passM]
  by_cases hk : k < costK m.fns[i].blocks
  · have hv := (hm.fns i h).fn
    rw [e1] at hv
    have := nxt_sim _ hv
    dsimp only at this
    rw [e1, e2, show min (k + 1) (costK m.fns[i].blocks) = min k (costK m.fns[i].blocks) + 1 from by omega, iterK_succ]
    exact ⟨_, this⟩
  · rw [e1, e2, show min (k + 1) (costK m.fns[i].blocks) = min k (costK m.fns[i].blocks) from by omega]
    exact ⟨_, same_sim _⟩
theorem pass_may (m : Mid) (hm : MayV m) : ∀ k, MayV (passM k m)
  | 0 => by rw [passM_zero]; exact hm
  | k + 1 => (pass_sim k m (pass_may m hm k)).may (pass_may m hm k)
theorem pass_keeps (m : Mid) (hm : MayV m) (inp : List Int) (fuel : Int) {r : MS} (h : RunsTo m inp fuel r) : ∀ (k : Nat) (r' : MS), RunsTo (passM k m) inp fuel r' → KeepsR r r'
  | 0, r', h' => by
    rw [passM_zero] at h'
    rw [h.unique h']; exact KeepsR.refl _
  | k + 1, r', h' => by
    obtain ⟨r1, h1⟩ := run_exists (passM k m) inp fuel
    exact (pass_keeps m hm inp fuel h k r1 h1).trans (sim_keeps (pass_may m hm k) (pass_sim k m (pass_may m hm k)) h1 h')
theorem le_sum_mem : ∀ {l : List Nat} {a : Nat}, a ∈ l → a ≤ l.sum
  | b :: l, a, h => by
    rw [List.sum_cons]
    rcases List.mem_cons.1 h with rfl | h
    · omega
    · have := le_sum_mem h; omega
/-- All passes. -/
noncomputable def sweptM (m : Mid) : Mid := { m with fns := m.fns.map fun f => { f with blocks := finK f.blocks } }
theorem swept_pass (m : Mid) : ∃ k, passM k m = sweptM m := by
  refine ⟨(m.fns.map fun f => costK f.blocks).sum, ?_⟩
  unfold passM sweptM
  congr 1
  refine List.map_congr_left fun f hf => ?_
  have : costK f.blocks ≤ (m.fns.map fun f => costK f.blocks).sum := le_sum_mem (List.mem_map.2 ⟨f, hf, rfl⟩)
  rw [Nat.min_eq_right this]
  rfl
theorem swept_may (m : Mid) (hm : MayV m) : MayV (sweptM m) := by
  obtain ⟨k, e⟩ := swept_pass m
  rw [← e]; exact pass_may m hm k
theorem swept_keeps (m : Mid) (hm : MayV m) (inp : List Int) (fuel : Int) {r r' : MS} (h : RunsTo m inp fuel r) (h' : RunsTo (sweptM m) inp fuel r') : KeepsR r r' := by
  obtain ⟨k, e⟩ := swept_pass m
  rw [← e] at h'
  exact pass_keeps m hm inp fuel h k r' h'
end
end Go.Proofs.Ytlniohgnkihefaa
namespace Go.Proofs.Ytlniohgnkihefaa
open Go.RowKit
variable {w : World}
abbrev AnyT : Nat → Prop := fun _ => True
theorem rdT_of_mem {A : Option Addr} {xs : List Value} (h : ReadsAt w A xs) : RdT w AnyT A xs := fun hp => by
  obtain ⟨g, off, hA, hg, hx⟩ := h hp
  exact ⟨g, off, hA, trivial, hg, hx⟩
theorem rd_of_insMem {A : Option Addr} {l : List Ins} (h : InsMem w A l) (hd : ∀ x ∈ l, InsOk x) : RdSl 8 (RdIns w AnyT) w AnyT A l := by
  obtain ⟨xs, rfl, hr, ha⟩ := h
  intro hp
  obtain ⟨g, off, hA, hg, hc⟩ := hr (by simpa using hp)
  refine ⟨g, off, hA, trivial, hg, fun i x hx => ?_⟩
  rw [List.getElem?_map] at hx
  obtain ⟨y, hy, rfl⟩ := Option.map_eq_some_iff.1 hx
  obtain ⟨hi, rfl⟩ := List.getElem?_eq_some_iff.1 hy
  exact ⟨_, rfl, ⟨hd _ (List.mem_map.2 ⟨_, List.getElem_mem hi, rfl⟩), xs[i].A, xs[i].c, rfl, rdT_of_mem (ha _ (List.getElem_mem hi))⟩, fun j u hu => hc i hi j u hu⟩
theorem rd_of_blkMem {A : Option Addr} {l : List Blk} (h : BlkMem w A l) (hd : DataF l) : RdSl 5 (RdBlk w AnyT) w AnyT A l := by
  obtain ⟨xs, rfl, hr, ha⟩ := h
  intro hp
  obtain ⟨g, off, hA, hg, hc⟩ := hr (by simpa using hp)
  refine ⟨g, off, hA, trivial, hg, fun i x hx => ?_⟩
  rw [List.getElem?_map] at hx
  obtain ⟨y, hy, rfl⟩ := Option.map_eq_some_iff.1 hx
  obtain ⟨hi, rfl⟩ := List.getElem?_eq_some_iff.1 hy
  have hb := hd _ (List.mem_map.2 ⟨_, List.getElem_mem hi, rfl⟩)
  exact ⟨_, rfl, ⟨hb.1, xs[i].A, xs[i].c, rfl, rd_of_insMem (ha _ (List.getElem_mem hi)) hb.2⟩, fun j u hu => hc i hi j u hu⟩
theorem iterK_flow' : ∀ (n : Nat) (ks : List Blk), FlowF ks → FlowF (iterK n ks)
  | 0, _, h => h
  | n + 1, _, h => iterK_flow' n _ (nxtO_flow h)
theorem iterK_data' : ∀ (n : Nat) (ks : List Blk), FlowF ks → DataF ks → DataF (iterK n ks)
  | 0, _, _, h => h
  | n + 1, _, hf, h => iterK_data' n _ (nxtO_flow hf) (nxtO_data h hf)
theorem rd_of_fnsMem {A : Option Addr} {l : List Fn} (h : FnsMem w A (l.map finF)) (hd : ∀ f ∈ l, FnOk f ∧ FlowF f.blocks ∧ DataF f.blocks) : RdSl 4 (RdFn w AnyT) w AnyT A (l.map finF) := by
  obtain ⟨xs, hx, hr, ha⟩ := h
  rw [← hx]
  intro hp
  obtain ⟨g, off, hA, hg, hc⟩ := hr (by simpa using hp)
  refine ⟨g, off, hA, trivial, hg, fun i x he => ?_⟩
  have he' := he
  rw [List.getElem?_map] at he
  obtain ⟨y, hy, rfl⟩ := Option.map_eq_some_iff.1 he
  obtain ⟨hi, rfl⟩ := List.getElem?_eq_some_iff.1 hy
  rw [hx, List.getElem?_map] at he'
  obtain ⟨f, hf, hfe⟩ := Option.map_eq_some_iff.1 he'
  obtain ⟨h1, h2, h3⟩ := hd f (List.mem_of_getElem? hf)
  have hF := iterK_flow' (costK f.blocks) _ h2
  have hD := iterK_data' (costK f.blocks) _ h2 h3
  have hok : FnOk (FnQ.f xs[i]) := by
    rw [← hfe]
    exact ⟨h1.name, h1.params, h1.regs, by show (finK f.blocks).length ≤ maxLen; have := hF.nb; unfold maxLen; unfold finK; omega⟩
  have hD' : DataF (FnQ.f xs[i]).blocks := by rw [← hfe]; exact hD
  exact ⟨_, rfl, ⟨hok, xs[i].A, xs[i].c, rfl, rd_of_blkMem (ha _ (List.getElem_mem hi)) hD'⟩, fun j u hu => hc i hi j u hu⟩
theorem rd_of_globs {T : Nat → Prop} {w0 : World} {A : Option Addr} {B : Option Addr} {l : List Glob} (h : ReadsAt w A (globC l)) (h0 : RdSl 2 RdGlob w0 T B l) : RdSl 2 RdGlob w AnyT A l := by
  intro hp
  obtain ⟨g, off, hA, hg, hc⟩ := h (by rw [globC_len]; omega)
  obtain ⟨_, _, _, _, _, h0'⟩ := h0 hp
  refine ⟨g, off, hA, trivial, hg, fun i x hx => ?_⟩
  obtain ⟨hi, rfl⟩ := List.getElem?_eq_some_iff.1 hx
  obtain ⟨cs, _, hr, _⟩ := h0' i _ hx
  refine ⟨[.string l[i].name, .int .i64 l[i].size], rfl, ⟨hr.1, rfl⟩, fun j u hu => ?_⟩
  rw [Nat.add_assoc]
  refine hc (i * 2 + j) u ?_
  have hj : j < 2 := (List.getElem?_eq_some_iff.1 hu).1
  unfold globC
  rw [flat_at (globC_all l) i j hj, List.getElem?_map, List.getElem?_eq_getElem hi]
  exact hu
/-- What dead.Mid makes is the swept program. -/
theorem rd_swept {T : Nat → Prop} {w0 : World} {m : Mid} (hv : SmallV m) {A B A0 B0 : Option Addr} {c d c0 d0 : Nat} (h0 : RdMid w0 T m A0 c0 B0 d0) (hf : FnsMem w B (m.fns.map finF)) (hg : ReadsAt w A (globC m.globals)) : RdMid w AnyT (sweptM m) A c B d := by
  refine ⟨rd_of_globs hg h0.globals, rd_of_fnsMem hf fun f hm => ?_, h0.nglobals, ?_⟩
  · obtain ⟨k, hk, rfl⟩ := List.getElem_of_mem hm
    obtain ⟨_, _, _, _, _, _, hok, hsub, _⟩ := fn_at h0.fns k hk _ rfl
    exact ⟨hok, flow_of (hv.may.fns k hk).fn (hv.light.fns _ hm), data_of hsub⟩
  · show (m.fns.map _).length ≤ maxLen
    rw [List.length_map]; exact h0.nfns
theorem swept_len (m : Mid) : (sweptM m).fns.length = m.fns.length := by show (m.fns.map _).length = _; rw [List.length_map]
end Go.Proofs.Ytlniohgnkihefaa
