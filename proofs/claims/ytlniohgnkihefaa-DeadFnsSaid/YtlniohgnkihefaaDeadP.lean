/- What is left without what nobody asks for; plain. -/
import Derived.Test.YtlniohgnkihefaaLiveJ
namespace Go.Proofs.Ytlniohgnkihefaa

def hasP (S : Nat → Bool) (d : Int) : Bool := decide (0 ≤ d) && S d.toNat
/-- Does the instruction go? -/
def goesP (x : Ins) (S : Nat → Bool) : Bool := pureP x && (!hasP S x.d || (decide (x.kind = 2) && decide (x.a = x.d)))
/-- Does a call lose its result? -/
def lessP (x : Ins) (S : Nat → Bool) : Bool := (decide (x.kind = 7) && decide (0 ≤ x.d)) && !hasP S x.d
def cutP (x : Ins) (S : Nat → Bool) : Ins := if lessP x S = true then { x with d := -1 } else x
structure Sw where
  S : Nat → Bool
  left : List Ins
  t : Bool
def swStep (s : Sw) (x : Ins) : Sw := if goesP x s.S = true then ⟨s.S, s.left, true⟩ else ⟨aheadP (cutP x s.S) s.S, s.left ++ [cutP x s.S], s.t || lessP x s.S⟩
def swRun (k : Blk) (O : Nat → Bool) (xs : List Ins) : Sw := xs.foldl swStep ⟨endP k O, [], false⟩
theorem swRun_snoc (k : Blk) (O : Nat → Bool) (xs : List Ins) (x : Ins) : swRun k O (xs ++ [x]) = swStep (swRun k O xs) x := by simp [swRun]
def swBlk (k : Blk) (O : Nat → Bool) : Blk := { k with ins := (swRun k O k.ins.reverse).left.reverse }
def swT (k : Blk) (O : Nat → Bool) : Bool := (swRun k O k.ins.reverse).t

def costI (x : Ins) : Nat := if x.kind = 7 ∧ 0 ≤ x.d then 2 else 1
def costL (xs : List Ins) : Nat := (xs.map costI).sum
theorem costL_append (a b : List Ins) : costL (a ++ b) = costL a + costL b := by simp [costL]
theorem costL_reverse (a : List Ins) : costL a.reverse = costL a := by simp [costL, List.sum_reverse]
theorem costI_pos (x : Ins) : 0 < costI x := by unfold costI; split <;> omega
theorem less_iff {x : Ins} {S : Nat → Bool} (h : lessP x S = true) : x.kind = 7 ∧ 0 ≤ x.d := by
  unfold lessP at h
  simp only [Bool.and_eq_true, decide_eq_true_eq] at h
  exact h.1
theorem cut_not {x : Ins} {S : Nat → Bool} (h : lessP x S = false) : cutP x S = x := by unfold cutP; rw [if_neg (by rw [h]; simp)]
theorem cost_cut (x : Ins) (S : Nat → Bool) : costI (cutP x S) ≤ costI x ∧ (lessP x S = true → costI (cutP x S) < costI x) := by
  by_cases h : lessP x S = true
  · have h2 := less_iff h
    unfold cutP
    rw [if_pos h]
    unfold costI
    rw [if_pos h2, if_neg (by simp)]
    exact ⟨by omega, fun _ => by omega⟩
  · rw [cut_not (by simpa using h)]
    exact ⟨Nat.le_refl _, fun h' => absurd h' h⟩
/-- What a walk over the instructions leaves. -/
theorem sw_cost (k : Blk) (O : Nat → Bool) (xs : List Ins) : costL (swRun k O xs).left ≤ costL xs ∧ ((swRun k O xs).t = true → costL (swRun k O xs).left < costL xs) ∧ ((swRun k O xs).t = false → (swRun k O xs).left = xs) ∧ (swRun k O xs).left.length ≤ xs.length ∧
    ∀ y ∈ (swRun k O xs).left, ∃ x ∈ xs, y = x ∨ (y = { x with d := -1 }) := by
  have key : ∀ (ys : List Ins), costL (swRun k O ys.reverse).left ≤ costL ys.reverse ∧ ((swRun k O ys.reverse).t = true → costL (swRun k O ys.reverse).left < costL ys.reverse) ∧ ((swRun k O ys.reverse).t = false → (swRun k O ys.reverse).left = ys.reverse) ∧ (swRun k O ys.reverse).left.length ≤ ys.reverse.length ∧
      ∀ y ∈ (swRun k O ys.reverse).left, ∃ x ∈ ys.reverse, y = x ∨ (y = { x with d := -1 }) := by
    intro ys
    induction ys with
    | nil => exact ⟨Nat.le_refl _, fun h => by simp [swRun] at h, fun _ => rfl, Nat.le_refl _, fun y hy => by simp [swRun] at hy⟩
    | cons x ys ih =>
      obtain ⟨h1, h2, h3, h4, h5⟩ := ih
      rw [List.reverse_cons, swRun_snoc]
      generalize swRun k O ys.reverse = s at h1 h2 h3 h4 h5
      have hc : costL [x] = costI x := by simp [costL]
      have hp := costI_pos x
      unfold swStep
      by_cases hg : goesP x s.S = true
      · rw [if_pos hg, costL_append, hc]
        refine ⟨by dsimp only; omega, fun _ => by dsimp only; omega, fun h => by simp at h, ?_, fun y hy => ?_⟩
        · simp only [List.length_append, List.length_singleton]; omega
        · obtain ⟨z, hz, e⟩ := h5 y hy
          exact ⟨z, List.mem_append_left _ hz, e⟩
      · rw [if_neg hg]
        have hcut := cost_cut x s.S
        have hc2 : costL [cutP x s.S] = costI (cutP x s.S) := by simp [costL]
        simp only [costL_append, hc, hc2]
        refine ⟨by omega, fun h => ?_, fun h => ?_, ?_, fun y hy => ?_⟩
        · rcases Bool.or_eq_true_iff.1 h with h | h
          · have := h2 h; omega
          · have := hcut.2 h; omega
        · obtain ⟨ha, hb⟩ := Bool.or_eq_false_iff.1 h
          rw [h3 ha, cut_not hb]
        · simp only [List.length_append, List.length_singleton]; omega
        · rcases List.mem_append.1 hy with hy | hy
          · obtain ⟨z, hz, e⟩ := h5 y hy
            exact ⟨z, List.mem_append_left _ hz, e⟩
          · rw [List.mem_singleton.1 hy]
            refine ⟨x, by simp, ?_⟩
            unfold cutP
            split
            · exact .inr rfl
            · exact .inl rfl
  have := key xs.reverse
  rw [List.reverse_reverse] at this
  exact this
/-! ### all blocks -/
open Classical in
noncomputable def outOf (ks : List Blk) : St := fun i n => decide (LiveOut ks i n)
def nxtO (O : St) (ks : List Blk) : List Blk := ks.mapIdx fun i k => swBlk k (O i)
def trnO (O : St) (ks : List Blk) (m : Nat) : Bool := ((ks.mapIdx fun i k => swT k (O i)).take m).any id
noncomputable def nxt (ks : List Blk) : List Blk := nxtO (outOf ks) ks
noncomputable def trn (ks : List Blk) : Bool := trnO (outOf ks) ks ks.length
def costK (ks : List Blk) : Nat := (ks.map fun k => costL k.ins).sum
theorem nxtO_len (O : St) (ks : List Blk) : (nxtO O ks).length = ks.length := by simp [nxtO]
theorem nxtO_at (O : St) (ks : List Blk) (i : Nat) (h : i < ks.length) (h' : i < (nxtO O ks).length) : (nxtO O ks)[i] = swBlk ks[i] (O i) := by simp [nxtO]
theorem trnO_zero (O : St) (ks : List Blk) : trnO O ks 0 = false := by simp [trnO]
theorem trnO_succ (O : St) (ks : List Blk) (m : Nat) (h : m < ks.length) : trnO O ks (m + 1) = (trnO O ks m || swT ks[m] (O m)) := by
  unfold trnO
  rw [List.take_succ_eq_append_getElem (by simpa using h), List.any_append]
  simp
theorem trnO_iff (O : St) (ks : List Blk) : trnO O ks ks.length = true ↔ ∃ i, ∃ h : i < ks.length, swT ks[i] (O i) = true := by
  unfold trnO
  rw [List.take_of_length_le (by simp), List.any_eq_true]
  constructor
  · rintro ⟨b, hb, h⟩
    obtain ⟨i, hi, e⟩ := List.getElem_of_mem hb
    simp only [List.length_mapIdx] at hi
    exact ⟨i, hi, by simp at e; rw [e]; exact h⟩
  · rintro ⟨i, hi, h⟩
    exact ⟨_, List.getElem_mem (by simpa using hi : i < (ks.mapIdx fun i k => swT k (O i)).length), by simpa using h⟩
theorem swBlk_same {k : Blk} {O : Nat → Bool} (h : swT k O = false) : swBlk k O = k := by
  unfold swBlk
  rw [(sw_cost k O k.ins.reverse).2.2.1 h, List.reverse_reverse]
theorem swBlk_cost (k : Blk) (O : Nat → Bool) : costL (swBlk k O).ins ≤ costL k.ins ∧ (swT k O = true → costL (swBlk k O).ins < costL k.ins) := by
  obtain ⟨h1, h2, _⟩ := sw_cost k O k.ins.reverse
  rw [costL_reverse] at h1 h2
  exact ⟨by show costL (List.reverse _) ≤ _; rw [costL_reverse]; exact h1, fun h => by show costL (List.reverse _) < _; rw [costL_reverse]; exact h2 h⟩
theorem nxtO_same {O : St} {ks : List Blk} (h : trnO O ks ks.length = false) : nxtO O ks = ks := by
  apply List.ext_getElem (nxtO_len _ _)
  intro i h1 h2
  rw [nxtO_at O ks i h2 h1]
  refine swBlk_same ?_
  cases e : swT ks[i] (O i) with
  | false => rfl
  | true => rw [(trnO_iff O ks).2 ⟨i, h2, e⟩] at h; cases h
theorem sum_mapIdx_le {f : Nat → Blk → Nat} {g : Blk → Nat} : ∀ (ks : List Blk) (i : Nat), (∀ j (h : j < ks.length), f (i + j) ks[j] ≤ g ks[j]) → (ks.mapIdx fun j => f (i + j)).sum ≤ (ks.map g).sum ∧ ((∃ j, ∃ h : j < ks.length, f (i + j) ks[j] < g ks[j]) → (ks.mapIdx fun j => f (i + j)).sum < (ks.map g).sum)
  | [], _, _ => ⟨Nat.le_refl _, fun ⟨j, h, _⟩ => by simp at h⟩
  | k :: ks, i, h => by
    have h0 := h 0 (by simp)
    have ih := sum_mapIdx_le ks (i + 1) (fun j hj => by have := h (j + 1) (by simp; omega); rwa [show i + (j + 1) = i + 1 + j from by omega] at this)
    have e : (fun j => f (i + 1 + j)) = fun j => f (i + (j + 1)) := by funext j; rw [show i + (j + 1) = i + 1 + j from by omega]
    rw [e] at ih
    simp only [List.mapIdx_cons, List.map_cons, List.sum_cons]
    simp only [List.getElem_cons_zero] at h0
    refine ⟨by have := ih.1; omega, ?_⟩
    rintro ⟨j, hj, hlt⟩
    cases j with
    | zero => have := ih.1; simp only [List.getElem_cons_zero] at hlt; omega
    | succ j =>
      have := ih.2 ⟨j, by simpa using hj, by rw [show i + 1 + j = i + (j + 1) from by omega]; simpa using hlt⟩
      omega
theorem nxtO_cost (O : St) (ks : List Blk) : costK (nxtO O ks) ≤ costK ks ∧ (trnO O ks ks.length = true → costK (nxtO O ks) < costK ks) := by
  have e : costK (nxtO O ks) = (ks.mapIdx fun j => (fun j k => costL (swBlk k (O j)).ins) (0 + j)).sum := by
    unfold costK nxtO
    congr 1
    apply List.ext_getElem (by simp)
    intro i h1 h2
    simp
  have h := sum_mapIdx_le (f := fun j k => costL (swBlk k (O j)).ins) (g := fun k => costL k.ins) ks 0 fun j hj => (swBlk_cost _ _).1
  rw [e]
  refine ⟨h.1, fun ht => h.2 ?_⟩
  obtain ⟨i, hi, h2⟩ := (trnO_iff O ks).1 ht
  exact ⟨i, hi, by simp only [Nat.zero_add]; exact (swBlk_cost _ _).2 h2⟩
/-! ### again and again -/
noncomputable def iterK : Nat → List Blk → List Blk
  | 0, ks => ks
  | n + 1, ks => iterK n (nxt ks)
noncomputable def finK (ks : List Blk) : List Blk := iterK (costK ks) ks
theorem iterK_same {ks : List Blk} (h : nxt ks = ks) : ∀ n, iterK n ks = ks
  | 0 => rfl
  | n + 1 => by unfold iterK; rw [h]; exact iterK_same h n
theorem iterK_more : ∀ (n m : Nat) (ks : List Blk), costK ks ≤ n → n ≤ m → iterK m ks = iterK n ks
  | 0, m, ks, h, _ => by
    cases e : trn ks with
    | true => have := (nxtO_cost (outOf ks) ks).2 e; omega
    | false => rw [iterK_same (nxtO_same e) m]; rfl
  | n + 1, 0, _, _, hm => by omega
  | n + 1, m + 1, ks, h, hm => by
    cases e : trn ks with
    | true =>
      have := (nxtO_cost (outOf ks) ks).2 e
      exact iterK_more n m (nxt ks) (by unfold nxt; omega) (by omega)
    | false => rw [iterK_same (nxtO_same e), iterK_same (nxtO_same e)]
theorem finK_nxt (ks : List Blk) : finK (nxt ks) = finK ks := by
  have h1 := (nxtO_cost (outOf ks) ks).1
  have e1 : iterK (costK ks + 1) ks = finK ks := iterK_more _ _ ks (Nat.le_refl _) (by omega)
  rw [← e1]
  exact (iterK_more _ (costK ks) (nxt ks) (Nat.le_refl _) h1).symm
theorem finK_same {ks : List Blk} (h : nxt ks = ks) : finK ks = ks := iterK_same h _
theorem finK_done (ks : List Blk) : nxt (finK ks) = finK ks := by
  have key : ∀ (n : Nat) (ks : List Blk), costK ks ≤ n → nxt (iterK n ks) = iterK n ks := by
    intro n
    induction n with
    | zero =>
      intro ks h
      cases e : trn ks with
      | true => have := (nxtO_cost (outOf ks) ks).2 e; omega
      | false => exact nxtO_same e
    | succ n ih =>
      intro ks h
      cases e : trn ks with
      | true =>
        have := (nxtO_cost (outOf ks) ks).2 e
        exact ih (nxt ks) (by unfold nxt; omega)
      | false => rw [iterK_same (nxtO_same e)]; exact nxtO_same e
  exact key _ ks (Nat.le_refl _)
theorem finK_idem (ks : List Blk) : finK (finK ks) = finK ks := finK_same (finK_done ks)
/-! ### what may be stays what may be -/
theorem swBlk_mem {k : Blk} {O : Nat → Bool} {y : Ins} (h : y ∈ (swBlk k O).ins) : ∃ x ∈ k.ins, y = x ∨ y = { x with d := -1 } := by
  have h' : y ∈ (swRun k O k.ins.reverse).left := by simpa [swBlk] using h
  obtain ⟨x, hx, e⟩ := (sw_cost k O k.ins.reverse).2.2.2.2 y h'
  exact ⟨x, by simpa using hx, e⟩
theorem nxtO_flow {O : St} {ks : List Blk} (h : FlowF ks) : FlowF (nxtO O ks) := by
  refine ⟨by rw [nxtO_len]; exact h.nb, fun k hk => ?_⟩
  obtain ⟨i, hi, rfl⟩ := List.getElem_of_mem hk
  have hi' := hi
  rw [nxtO_len] at hi'
  have hb := h.blk _ (List.getElem_mem hi')
  rw [nxtO_at O ks i hi' hi, nxtO_len]
  have hl := (sw_cost ks[i] (O i) ks[i].ins.reverse).2.2.2.1
  refine ⟨?_, hb.kind, hb.a, hb.to, hb.els, fun y hy => ?_⟩
  · show (List.reverse _).length ≤ 1000
    rw [List.length_reverse]
    rw [List.length_reverse] at hl
    have := hb.nins; omega
  · obtain ⟨x, hx, e⟩ := swBlk_mem hy
    have h1 := hb.regs x hx
    rcases e with rfl | rfl
    · exact h1
    · exact h1
theorem nxtO_data {O : St} {ks : List Blk} (h : DataF ks) (hf : FlowF ks) : DataF (nxtO O ks) := by
  intro k hk
  obtain ⟨i, hi, rfl⟩ := List.getElem_of_mem hk
  have hi' := hi
  rw [nxtO_len] at hi'
  have hb := h _ (List.getElem_mem hi')
  rw [nxtO_at O ks i hi' hi]
  have hl := (sw_cost ks[i] (O i) ks[i].ins.reverse).2.2.2.1
  refine ⟨⟨hb.1.kind, hb.1.a, hb.1.to, hb.1.els, ?_⟩, fun y hy => ?_⟩
  · show (List.reverse _).length ≤ maxLen
    rw [List.length_reverse]
    rw [List.length_reverse] at hl
    have := (hf.blk _ (List.getElem_mem hi')).nins
    unfold maxLen; omega
  · obtain ⟨x, hx, e⟩ := swBlk_mem hy
    have h1 := hb.2 x hx
    rcases e with rfl | rfl
    · exact h1
    · exact ⟨h1.kind, h1.op, by unfold I64; simp, h1.a, h1.b, h1.num, h1.name, h1.nargs, h1.args⟩
end Go.Proofs.Ytlniohgnkihefaa
