/- What is left without what nobody asks for; plain. -/
import Derived.Test.YtlniohgnkihefaaLk8
import Derived.Lib.SliceRun
import Derived.OwnWalkIn
namespace Go.Proofs.Ytlniohgnkihefaa

def hasP (S : Nat → Bool) (d : Int) : Bool := decide (0 ≤ d) && S d.toNat
/-- Does the instruction go? -/
def goesP (x : Ins) (S : Nat → Bool) : Bool := pureP x && (!hasP S x.d || (decide (x.kind = 2) && decide (x.a = x.d)))
/-- Does a call lose its result? -/
def lessP (x : Ins) (S : Nat → Bool) : Bool := (decide (x.kind = 7) && decide (0 ≤ x.d)) && !hasP S x.d
def cutP (x : Ins) (S : Nat → Bool) : Ins := if lessP x S = true then { x with d := -1 } else x
structure Sw where
  S : Nat → Bool
  left : List Ins
  t : Bool
def swStep (s : Sw) (x : Ins) : Sw := if goesP x s.S = true then ⟨s.S, s.left, true⟩ else ⟨aheadP (cutP x s.S) s.S, s.left ++ [cutP x s.S], s.t || lessP x s.S⟩
def swRun (k : Blk) (O : Nat → Bool) (xs : List Ins) : Sw := xs.foldl swStep ⟨endP k O, [], false⟩
theorem swRun_snoc (k : Blk) (O : Nat → Bool) (xs : List Ins) (x : Ins) : swRun k O (xs ++ [x]) = swStep (swRun k O xs) x := by simp [swRun]
def swBlk (k : Blk) (O : Nat → Bool) : Blk := { k with ins := (swRun k O k.ins.reverse).left.reverse }
def swT (k : Blk) (O : Nat → Bool) : Bool := (swRun k O k.ins.reverse).t

def costI (x : Ins) : Nat := if x.kind = 7 ∧ 0 ≤ x.d then 2 else 1
def costL (xs : List Ins) : Nat := (xs.map costI).sum
theorem costL_append (a b : List Ins) : costL (a ++ b) = costL a + costL b := by simp [costL]
theorem costL_reverse (a : List Ins) : costL a.reverse = costL a := by simp [costL, List.sum_reverse]
theorem costI_pos (x : Ins) : 0 < costI x := by unfold costI; split <;> omega
theorem less_iff {x : Ins} {S : Nat → Bool} (h : lessP x S = true) : x.kind = 7 ∧ 0 ≤ x.d := by
  unfold lessP at h
  simp only [Bool.and_eq_true, decide_eq_true_eq] at h
  exact h.1
theorem cut_not {x : Ins} {S : Nat → Bool} (h : lessP x S = false) : cutP x S = x := by unfold cutP; rw [if_neg (by rw [h]; simp)]
theorem cost_cut (x : Ins) (S : Nat → Bool) : costI (cutP x S) ≤ costI x ∧ (lessP x S = true → costI (cutP x S) < costI x) := by
  by_cases h : lessP x S = true
  · have h2 := less_iff h
    unfold cutP
    rw [if_pos h]
    unfold costI
    rw [if_pos h2, if_neg (by simp)]
    exact ⟨by omega, fun _ => by omega⟩
  · rw [cut_not (by simpa using h)]
    exact ⟨Nat.le_refl _, fun h' => absurd h' h⟩
/-- What a walk over the instructions leaves. -/
theorem sw_cost (k : Blk) (O : Nat → Bool) (xs : List Ins) : costL (swRun k O xs).left ≤ costL xs ∧ ((swRun k O xs).t = true → costL (swRun k O xs).left < costL xs) ∧ ((swRun k O xs).t = false → (swRun k O xs).left = xs) ∧ (swRun k O xs).left.length ≤ xs.length ∧
    ∀ y ∈ (swRun k O xs).left, ∃ x ∈ xs, y = x ∨ (y = { x with d := -1 }) := by
  have key : ∀ (ys : List Ins), costL (swRun k O ys.reverse).left ≤ costL ys.reverse ∧ ((swRun k O ys.reverse).t = true → costL (swRun k O ys.reverse).left < costL ys.reverse) ∧ ((swRun k O ys.reverse).t = false → (swRun k O ys.reverse).left = ys.reverse) ∧ (swRun k O ys.reverse).left.length ≤ ys.reverse.length ∧
      ∀ y ∈ (swRun k O ys.reverse).left, ∃ x ∈ ys.reverse, y = x ∨ (y = { x with d := -1 }) := by
    intro ys
    induction ys with
    | nil => exact ⟨Nat.le_refl _, fun h => by simp [swRun] at h, fun _ => rfl, Nat.le_refl _, fun y hy => by simp [swRun] at hy⟩
    | cons x ys ih =>
      obtain ⟨h1, h2, h3, h4, h5⟩ := ih
      rw [List.reverse_cons, swRun_snoc]
      generalize swRun k O ys.reverse = s at h1 h2 h3 h4 h5
      have hc : costL [x] = costI x := by simp [costL]
      have hp := costI_pos x
      unfold swStep
      by_cases hg : goesP x s.S = true
      · rw [if_pos hg, costL_append, hc]
        refine ⟨by dsimp only; omega, fun _ => by dsimp only; omega, fun h => by simp at h, ?_, fun y hy => ?_⟩
        · simp only [List.length_append, List.length_singleton]; omega
        · obtain ⟨z, hz, e⟩ := h5 y hy
          exact ⟨z, List.mem_append_left _ hz, e⟩
      · rw [if_neg hg]
        have hcut := cost_cut x s.S
        have hc2 : costL [cutP x s.S] = costI (cutP x s.S) := by simp [costL]
        simp only [costL_append, hc, hc2]
        refine ⟨by omega, fun h => ?_, fun h => ?_, ?_, fun y hy => ?_⟩
        · rcases Bool.or_eq_true_iff.1 h with h | h
          · have := h2 h; omega
          · have := hcut.2 h; omega
        · obtain ⟨ha, hb⟩ := Bool.or_eq_false_iff.1 h
          rw [h3 ha, cut_not hb]
        · simp only [List.length_append, List.length_singleton]; omega
        · rcases List.mem_append.1 hy with hy | hy
          · obtain ⟨z, hz, e⟩ := h5 y hy
            exact ⟨z, List.mem_append_left _ hz, e⟩
          · rw [List.mem_singleton.1 hy]
            refine ⟨x, by simp, ?_⟩
            unfold cutP
            split
            · exact .inr rfl
            · exact .inl rfl
  have := key xs.reverse
  rw [List.reverse_reverse] at this
  exact this
/-! ### all blocks -/
open Classical in
noncomputable def outOf (ks : List Blk) : St := fun i n => decide (LiveOut ks i n)
def nxtO (O : St) (ks : List Blk) : List Blk := ks.mapIdx fun i k => swBlk k (O i)
def trnO (O : St) (ks : List Blk) (m : Nat) : Bool := ((ks.mapIdx fun i k => swT k (O i)).take m).any id
noncomputable def nxt (ks : List Blk) : List Blk := nxtO (outOf ks) ks
noncomputable def trn (ks : List Blk) : Bool := trnO (outOf ks) ks ks.length
def costK (ks : List Blk) : Nat := (ks.map fun k => costL k.ins).sum
theorem nxtO_len (O : St) (ks : List Blk) : (nxtO O ks).length = ks.length := by simp [nxtO]
theorem nxtO_at (O : St) (ks : List Blk) (i : Nat) (h : i < ks.length) (h' : i < (nxtO O ks).length) : (nxtO O ks)[i] = swBlk ks[i] (O i) := by simp [nxtO]
theorem trnO_zero (O : St) (ks : List Blk) : trnO O ks 0 = false := by simp [trnO]
theorem trnO_succ (O : St) (ks : List Blk) (m : Nat) (h : m < ks.length) : trnO O ks (m + 1) = (trnO O ks m || swT ks[m] (O m)) := by
  unfold trnO
  rw [List.take_succ_eq_append_getElem (by simpa using h), List.any_append]
  simp
theorem trnO_iff (O : St) (ks : List Blk) : trnO O ks ks.length = true ↔ ∃ i, ∃ h : i < ks.length, swT ks[i] (O i) = true := by
  unfold trnO
  rw [List.take_of_length_le (by simp), List.any_eq_true]
  constructor
  · rintro ⟨b, hb, h⟩
    obtain ⟨i, hi, e⟩ := List.getElem_of_mem hb
    simp only [List.length_mapIdx] at hi
    exact ⟨i, hi, by simp at e; rw [e]; exact h⟩
  · rintro ⟨i, hi, h⟩
    exact ⟨_, List.getElem_mem (by simpa using hi : i < (ks.mapIdx fun i k => swT k (O i)).length), by simpa using h⟩
theorem swBlk_same {k : Blk} {O : Nat → Bool} (h : swT k O = false) : swBlk k O = k := by
  unfold swBlk
  rw [(sw_cost k O k.ins.reverse).2.2.1 h, List.reverse_reverse]
theorem swBlk_cost (k : Blk) (O : Nat → Bool) : costL (swBlk k O).ins ≤ costL k.ins ∧ (swT k O = true → costL (swBlk k O).ins < costL k.ins) := by
  obtain ⟨h1, h2, _⟩ := sw_cost k O k.ins.reverse
  rw [costL_reverse] at h1 h2
  exact ⟨by show costL (List.reverse _) ≤ _; rw [costL_reverse]; exact h1, fun h => by show costL (List.reverse _) < _; rw [costL_reverse]; exact h2 h⟩
theorem nxtO_same {O : St} {ks : List Blk} (h : trnO O ks ks.length = false) : nxtO O ks = ks := by
  apply List.ext_getElem (nxtO_len _ _)
  intro i h1 h2
  rw [nxtO_at O ks i h2 h1]
  refine swBlk_same ?_
  cases e : swT ks[i] (O i) with
  | false => rfl
  | true => rw [(trnO_iff O ks).2 ⟨i, h2, e⟩] at h; cases h
theorem sum_mapIdx_le {f : Nat → Blk → Nat} {g : Blk → Nat} : ∀ (ks : List Blk) (i : Nat), (∀ j (h : j < ks.length), f (i + j) ks[j] ≤ g ks[j]) → (ks.mapIdx fun j => f (i + j)).sum ≤ (ks.map g).sum ∧ ((∃ j, ∃ h : j < ks.length, f (i + j) ks[j] < g ks[j]) → (ks.mapIdx fun j => f (i + j)).sum < (ks.map g).sum)
  | [], _, _ => ⟨Nat.le_refl _, fun ⟨j, h, _⟩ => by simp at h⟩
  | k :: ks, i, h => by
    have h0 := h 0 (by simp)
    have ih := sum_mapIdx_le ks (i + 1) (fun j hj => by have := h (j + 1) (by simp; omega); rwa [show i + (j + 1) = i + 1 + j from by omega] at this)
    have e : (fun j => f (i + 1 + j)) = fun j => f (i + (j + 1)) := by funext j; rw [show i + (j + 1) = i + 1 + j from by omega]
    rw [e] at ih
    simp only [List.mapIdx_cons, List.map_cons, List.sum_cons]
    simp only [List.getElem_cons_zero] at h0
    refine ⟨by have := ih.1; omega, ?_⟩
    rintro ⟨j, hj, hlt⟩
    cases j with
    | zero => have := ih.1; simp only [List.getElem_cons_zero] at hlt; omega
    | succ j =>
      have := ih.2 ⟨j, by simpa using hj, by rw [show i + 1 + j = i + (j + 1) from by omega]; simpa using hlt⟩
      omega
theorem nxtO_cost (O : St) (ks : List Blk) : costK (nxtO O ks) ≤ costK ks ∧ (trnO O ks ks.length = true → costK (nxtO O ks) < costK ks) := by
  have e : costK (nxtO O ks) = (ks.mapIdx fun j => (fun j k => costL (swBlk k (O j)).ins) (0 + j)).sum := by
    unfold costK nxtO
    congr 1
    apply List.ext_getElem (by simp)
    intro i h1 h2
    simp
  have h := sum_mapIdx_le (f := fun j k => costL (swBlk k (O j)).ins) (g := fun k => costL k.ins) ks 0 fun j hj => (swBlk_cost _ _).1
  rw [e]
  refine ⟨h.1, fun ht => h.2 ?_⟩
  obtain ⟨i, hi, h2⟩ := (trnO_iff O ks).1 ht
  exact ⟨i, hi, by simp only [Nat.zero_add]; exact (swBlk_cost _ _).2 h2⟩
/-! ### again and again -/
noncomputable def iterK : Nat → List Blk → List Blk
  | 0, ks => ks
  | n + 1, ks => iterK n (nxt ks)
noncomputable def finK (ks : List Blk) : List Blk := iterK (costK ks) ks
theorem iterK_same {ks : List Blk} (h : nxt ks = ks) : ∀ n, iterK n ks = ks
  | 0 => rfl
  | n + 1 => by unfold iterK; rw [h]; exact iterK_same h n
theorem iterK_more : ∀ (n m : Nat) (ks : List Blk), costK ks ≤ n → n ≤ m → iterK m ks = iterK n ks
  | 0, m, ks, h, _ => by
    cases e : trn ks with
    | true => have := (nxtO_cost (outOf ks) ks).2 e; omega
    | false => rw [iterK_same (nxtO_same e) m]; rfl
  | n + 1, 0, _, _, hm => by omega
  | n + 1, m + 1, ks, h, hm => by
    cases e : trn ks with
    | true =>
      have := (nxtO_cost (outOf ks) ks).2 e
      exact iterK_more n m (nxt ks) (by unfold nxt; omega) (by omega)
    | false => rw [iterK_same (nxtO_same e), iterK_same (nxtO_same e)]
theorem finK_nxt (ks : List Blk) : finK (nxt ks) = finK ks := by
  have h1 := (nxtO_cost (outOf ks) ks).1
  have e1 : iterK (costK ks + 1) ks = finK ks := iterK_more _ _ ks (Nat.le_refl _) (by omega)
  rw [← e1]
  exact (iterK_more _ (costK ks) (nxt ks) (Nat.le_refl _) h1).symm
theorem finK_same {ks : List Blk} (h : nxt ks = ks) : finK ks = ks := iterK_same h _
theorem finK_done (ks : List Blk) : nxt (finK ks) = finK ks := by
  have key : ∀ (n : Nat) (ks : List Blk), costK ks ≤ n → nxt (iterK n ks) = iterK n ks := by
    intro n
    induction n with
    | zero =>
      intro ks h
      cases e : trn ks with
      | true => have := (nxtO_cost (outOf ks) ks).2 e; omega
      | false => exact nxtO_same e
    | succ n ih =>
      intro ks h
      cases e : trn ks with
      | true =>
        have := (nxtO_cost (outOf ks) ks).2 e
        exact ih (nxt ks) (by unfold nxt; omega)
      | false => rw [iterK_same (nxtO_same e)]; exact nxtO_same e
  exact key _ ks (Nat.le_refl _)
theorem finK_idem (ks : List Blk) : finK (finK ks) = finK ks := finK_same (finK_done ks)
/-! ### what may be stays what may be -/
theorem swBlk_mem {k : Blk} {O : Nat → Bool} {y : Ins} (h : y ∈ (swBlk k O).ins) : ∃ x ∈ k.ins, y = x ∨ y = { x with d := -1 } := by
  have h' : y ∈ (swRun k O k.ins.reverse).left := by simpa [swBlk] using h
  obtain ⟨x, hx, e⟩ := (sw_cost k O k.ins.reverse).2.2.2.2 y h'
  exact ⟨x, by simpa using hx, e⟩
theorem nxtO_flow {O : St} {ks : List Blk} (h : FlowF ks) : FlowF (nxtO O ks) := by
  refine ⟨by rw [nxtO_len]; exact h.nb, fun k hk => ?_⟩
  obtain ⟨i, hi, rfl⟩ := List.getElem_of_mem hk
  have hi' := hi
  rw [nxtO_len] at hi'
  have hb := h.blk _ (List.getElem_mem hi')
  rw [nxtO_at O ks i hi' hi, nxtO_len]
  have hl := (sw_cost ks[i] (O i) ks[i].ins.reverse).2.2.2.1
  refine ⟨?_, hb.kind, hb.a, hb.to, hb.els, fun y hy => ?_⟩
  · show (List.reverse _).length ≤ 1000
    rw [List.length_reverse]
    rw [List.length_reverse] at hl
    have := hb.nins; omega
  · obtain ⟨x, hx, e⟩ := swBlk_mem hy
    have h1 := hb.regs x hx
    rcases e with rfl | rfl
    · exact h1
    · exact h1
theorem nxtO_data {O : St} {ks : List Blk} (h : DataF ks) (hf : FlowF ks) : DataF (nxtO O ks) := by
  intro k hk
  obtain ⟨i, hi, rfl⟩ := List.getElem_of_mem hk
  have hi' := hi
  rw [nxtO_len] at hi'
  have hb := h _ (List.getElem_mem hi')
  rw [nxtO_at O ks i hi' hi]
  have hl := (sw_cost ks[i] (O i) ks[i].ins.reverse).2.2.2.1
  refine ⟨⟨hb.1.kind, hb.1.a, hb.1.to, hb.1.els, ?_⟩, fun y hy => ?_⟩
  · show (List.reverse _).length ≤ maxLen
    rw [List.length_reverse]
    rw [List.length_reverse] at hl
    have := (hf.blk _ (List.getElem_mem hi')).nins
    unfold maxLen; omega
  · obtain ⟨x, hx, e⟩ := swBlk_mem hy
    have h1 := hb.2 x hx
    rcases e with rfl | rfl
    · exact h1
    · exact ⟨h1.kind, h1.op, by unfold I64; simp, h1.a, h1.b, h1.num, h1.name, h1.nargs, h1.args⟩
end Go.Proofs.Ytlniohgnkihefaa
namespace Go.Proofs.Ytlniohgnkihefaa
open Go.RowKit

/-- append onto a row, behind 'gi_at_builtin'. -/
theorem wpListIn_append_row {F : Fence} {nn : Nat} {P : Program} (w : World) {ops : Array Oper} {rest : List Oper} {o : Oper} {a : Act} {Q : Exit → Act → World → Prop} (hgd : o.guard = none) (s x : Operand) (t e : Nat) (z : Value) (size bytes : Nat)
    (ho : o.op = .call { callee := .builtin .append, args := #[s, x], argTypes := #[t, t] })
    (ht : P.underlying t = some (.slice e)) (hinfo : (P.info? e).map (fun i => (i.zero, i.size, i.bytes)) = some (some z, size, bytes)) (hz : z.cells.size = size)
    {v : Value} {r : Option Nat} {n : Nat} {xs : List Value} (HO : RowAt w e size v r n xs) (ad : Addr) (m c : Nat) (news : List Value) (hln : news.length = m * size) (hnews : ∀ j u, news[j]? = some u → w.cell? (ad.add j) = some u)
    (h1 : ∀ u ∈ news, u.oneCell' = true) (hs : a.eval s = v) (hx : a.eval x = .slice (some ad) m c)
    (hl : (n + m) * bytes ≤ 140737488355328) (hn : n + m ≤ maxLen) (hm : 0 < m)
    (h : ∀ v' r' w', RowAt w' e size v' r' (n + m) (xs ++ news) → Chg (fun k => some k = r) w w' → NewOr w r r' → wpListIn F nn P ops Q rest (a.put o.dst v') w') :
    wpListIn F nn P ops Q (o :: rest) a w := by
  obtain ⟨i0, hi, hz0, hz1, hz2⟩ := info_parts hinfo
  obtain ⟨v', r', w', hrun, hR, hC, hN⟩ := run_append_row (P := P) w t o.type e i0 z size bytes ht hi hz0 hz1 hz2 hz v r n xs HO ad m c news hln hnews h1 hn hl hm
  refine wpListIn_plain hgd fun K hK' => ?_
  unfold Oper.wpIn
  refine ⟨?_, ?_⟩
  · simp [Oper.about, ho, resolve, Target.leads, Sem.run_pure]
  · rw [Oper.semAt_plain F _ _ (by rw [ho]; intro c hc'; cases hc')]
    simp [execOp, ho, resolve, invoke, builtin, hs, hx, hrun, Result.andThen]
    exact hK' _ _ (h v' r' w' hR hC hN)
theorem flat_len {L : List (List Value)} {m : Nat} (h : ∀ c ∈ L, c.length = m) : L.flatten.length = L.length * m := by
  induction L with
  | nil => simp
  | cons c L ih =>
    rw [List.flatten_cons, List.length_append, ih fun x hx => h x (by simp [hx]), h c (by simp), List.length_cons, Nat.add_mul]; omega
theorem flat_at {L : List (List Value)} {m : Nat} (h : ∀ c ∈ L, c.length = m) (i j : Nat) (hj : j < m) : L.flatten[i * m + j]? = (L[i]?).bind fun c => c[j]? := by
  induction L generalizing i with
  | nil => simp
  | cons c L ih =>
    have hc := h c (by simp)
    cases i with
    | zero => rw [List.flatten_cons, List.getElem?_append_left (by omega)]; simp
    | succ i =>
      rw [List.flatten_cons, List.getElem?_append_right (by rw [hc, Nat.add_mul]; omega), hc, show (i + 1) * m + j - m = i * m + j from by rw [Nat.add_mul]; omega, ih fun x hx => h x (by simp [hx])]
      simp
def insQ (x : InsQ) : List Value := insCells x.k (.slice x.A x.k.args.length x.c)
def insRowC (xs : List InsQ) : List Value := (xs.map insQ).flatten
theorem insQ_len (x : InsQ) : (insQ x).length = 8 := rfl
theorem insRow_all (xs : List InsQ) : ∀ c ∈ xs.map insQ, c.length = 8 := fun c hc => by obtain ⟨x, _, rfl⟩ := List.mem_map.1 hc; rfl
theorem insRowC_len (xs : List InsQ) : (insRowC xs).length = xs.length * 8 := by unfold insRowC; rw [flat_len (insRow_all xs), List.length_map]
theorem insRowC_at (xs : List InsQ) (i : Nat) (h : i < xs.length) (j : Nat) (u : Value) (hu : (insQ xs[i])[j]? = some u) : (insRowC xs)[i * 8 + j]? = some u := by
  have hj : j < 8 := (List.getElem?_eq_some_iff.1 hu).1
  unfold insRowC
  rw [flat_at (insRow_all xs) i j hj, List.getElem?_map, List.getElem?_eq_getElem h]
  exact hu
theorem insRowC_snoc (xs : List InsQ) (x : InsQ) : insRowC (xs ++ [x]) = insRowC xs ++ insQ x := by simp [insRowC]
theorem insQ_plain (x : InsQ) : ∀ u ∈ insQ x, u.oneCell' = true := by
  intro u hu
  simp [insQ, insCells] at hu
  rcases hu with rfl | rfl | rfl | rfl | rfl | rfl | rfl | rfl <;> rfl
/-- Numbers that lie in a block of numbers. -/
def IntsIn (W : World) (A : Option Addr) (zs : List Int) : Prop := 0 < zs.length → ∃ g off c f, A = some ⟨g, off, none⟩ ∧ W.heap[g]? = some (.cells c 3 f) ∧ ∀ j u, (ints zs)[j]? = some u → c[off + j]? = some u
theorem IntsIn.reads {W : World} {A : Option Addr} {zs : List Int} (h : IntsIn W A zs) : ReadsAt W A (ints zs) := fun hp => by
  obtain ⟨g, off, c, f, hA, hg, hc⟩ := h (by simpa [ints] using hp)
  exact ⟨g, off, hA, lt_of_heap hg, fun j u hu => by rw [cell_of_row _ _ _ _ _ _ hg]; exact hc j u hu⟩
/-- Blocks of numbers stay. -/
def KI (W W' : World) : Prop := ∀ (k : Nat) (c : Array Value) (f : Nat × Nat), W.heap[k]? = some (.cells c 3 f) → W'.heap[k]? = some (.cells c 3 f)
theorem IntsIn.ki {W W' : World} {A : Option Addr} {zs : List Int} (h : IntsIn W A zs) (k : KI W W') : IntsIn W' A zs := fun hp => by
  obtain ⟨g, off, c, f, hA, hg, hc⟩ := h hp
  exact ⟨g, off, c, f, hA, k g c f hg, hc⟩
theorem KI.refl (W : World) : KI W W := fun _ _ _ h => h
theorem KI.trans {A B C : World} (h : KI A B) (k : KI B C) : KI A C := fun i c f hi => k i c f (h i c f hi)
theorem KI.of_chg {S : Nat → Prop} {W W' : World} (h : Chg S W W') (hS : ∀ k, S k → ∀ c f, W.heap[k]? ≠ some (.cells c 3 f)) : KI W W' := fun k c f hk => h.heap hk fun hs => hS k hs c f hk
theorem KI.of_below {W W' : World} (h : Below W.heap.size W W') : KI W W' := KI.of_chg (S := fun _ => False) (Chg.of_below h _) fun _ h => h.elim
theorem KI.of_kt {W W' : World} (h : KT W W') : KI W W' := fun k c f hk => h.blk k _ hk (by rintro ⟨c, f, h | h | h⟩ <;> cases h)
def zeroQ : BlkQ := ⟨⟨[], 0, 0, 0, 0⟩, none, 0⟩
/-- Between two rounds of a sweep. -/
structure SwI (w : World) (q2 q6 q7 q8 s : Nat) (x : BlkQ) (st : Sw) (v : Value) (r rr : Option Nat) (W : World) : Prop where
  below : Below w.heap.size w W
  b2 : BlkBox W q2 x
  b4 : BlkBox W (q2 + 1) zeroQ
  b6 : Boxed W q6 65 (.pointer (some ⟨s, 0, none⟩))
  b7 : Boxed W q7 43 v
  b8 : Boxed W q8 4 (.bool st.t)
  set : ∃ ws, BitsAt W s r ws ∧ memW ws = st.S
  row : ∃ xs : List InsQ, xs.map InsQ.k = st.left ∧ RowAt W 48 8 v rr xs.length (insRowC xs) ∧ ∀ y ∈ xs, IntsIn W y.A y.k.args
  low : (w.heap.size ≤ q2 ∧ w.heap.size ≤ q6 ∧ w.heap.size ≤ q7 ∧ w.heap.size ≤ q8 ∧ w.heap.size ≤ s) ∧ (∀ k, r = some k → w.heap.size ≤ k) ∧ ∀ k, rr = some k → w.heap.size ≤ k
section
variable {w W W' : World} {q2 q6 q7 q8 s : Nat} {x : BlkQ} {st : Sw} {v : Value} {r rr : Option Nat}
theorem SwI.bits (h : SwI w q2 q6 q7 q8 s x st v r rr W) {c : Array Value} {t k : Nat} {f : Nat × Nat} (hk : W.heap[k]? = some (.cells c t f)) (h1 : t ≠ 81) (h2 : t ≠ 101) : ¬ FootB s r k := by
  obtain ⟨ws, hb, _⟩ := h.set
  obtain ⟨u, g1, g2⟩ := hb.ex
  rintro (e | e)
  · rw [e, g1] at hk; cases hk; exact h1 rfl
  · exact row_ne_of_type g2 hk h2 e.symm
theorem SwI.rowne (h : SwI w q2 q6 q7 q8 s x st v r rr W) {c : Array Value} {t k : Nat} {f : Nat × Nat} (hk : W.heap[k]? = some (.cells c t f)) (h1 : t ≠ 48) : rr ≠ some k := by
  obtain ⟨xs, _, hr, _⟩ := h.row
  exact row_ne_of_type hr hk h1
/-- A step that turns none of it. -/
theorem SwI.chg (h : SwI w q2 q6 q7 q8 s x st v r rr W) {S : Nat → Prop} (hc : Chg S W W') (hS : ∀ k, S k → w.heap.size ≤ k ∧ k ≠ q2 ∧ k ≠ q2 + 1 ∧ k ≠ q6 ∧ k ≠ q7 ∧ k ≠ q8 ∧ ¬ FootB s r k ∧ rr ≠ some k ∧ ∀ c f, W.heap[k]? ≠ some (.cells c 3 f)) : SwI w q2 q6 q7 q8 s x st v r rr W' := by
  obtain ⟨ws, hb, hw⟩ := h.set
  obtain ⟨xs, e, hr, ha⟩ := h.row
  have hki : KI W W' := KI.of_chg hc fun k hk => (hS k hk).2.2.2.2.2.2.2.2
  exact ⟨h.below.trans (hc.below h.below.size fun k hk => (hS k hk).1), hc.heap h.b2 fun hs => (hS _ hs).2.1 rfl, hc.heap h.b4 fun hs => (hS _ hs).2.2.1 rfl, hc.heap h.b6 fun hs => (hS _ hs).2.2.2.1 rfl, hc.heap h.b7 fun hs => (hS _ hs).2.2.2.2.1 rfl, hc.heap h.b8 fun hs => (hS _ hs).2.2.2.2.2.1 rfl,
    ⟨ws, hb.kept hc (fun hs => (hS _ hs).2.2.2.2.2.2.1 (.inl rfl)) (fun k hk hs => (hS _ hs).2.2.2.2.2.2.1 (.inr hk.symm)), hw⟩, ⟨xs, e, hr.kept hc fun k hk hs => (hS _ hs).2.2.2.2.2.2.2.1 hk, fun y hy => (ha y hy).ki hki⟩, h.low⟩
theorem SwI.below_ (h : SwI w q2 q6 q7 q8 s x st v r rr W) (hb : Below W.heap.size W W') : SwI w q2 q6 q7 q8 s x st v r rr W' := h.chg (S := fun _ => False) (Chg.of_below hb _) fun _ h => h.elim
theorem SwI.own (h : SwI w q2 q6 q7 q8 s x st v r rr W) {row : Option Nat} (hg : W.grownBy W' row) (hr : ∀ r, row = some r → w.heap.size ≤ r ∧ ∃ o : Obj, W.heap[r]? = some o ∧ o.isCells = false) : SwI w q2 q6 q7 q8 s x st v r rr W' := by
  refine h.chg (own_chg hg) fun k hk => ?_
  obtain ⟨h1, o, ho, hc⟩ := hr k hk.symm
  have hne : ∀ {c t f}, W.heap[k]? ≠ some (.cells c t f) := fun e => by rw [ho] at e; cases e; cases hc
  obtain ⟨ws, hb, _⟩ := h.set
  obtain ⟨xs, _, hrw, _⟩ := h.row
  refine ⟨h1, fun e => hne (by rw [e]; exact h.b2), fun e => hne (by rw [e]; exact h.b4), fun e => hne (by rw [e]; exact h.b6), fun e => hne (by rw [e]; exact h.b7), fun e => hne (by rw [e]; exact h.b8), ?_, fun e => ?_, fun c f => hne⟩
  · obtain ⟨u, g1, g2⟩ := hb.ex
    rintro (e | e)
    · exact hne (by rw [e]; exact g1)
    · rcases g2.2 with ⟨_, e2, _⟩ | ⟨g, off, cap, cur, _, e2, hg', _⟩
      · rw [e2] at e; cases e
      · rw [e2] at e; cases e; exact hne hg'
  · rcases hrw.2 with ⟨_, e2, _⟩ | ⟨g, off, cap, cur, _, e2, hg', _⟩
    · rw [e2] at e; cases e
    · rw [e2] at e; cases e; exact hne hg'
/-- The box of the round's own instruction turns. -/
theorem SwI.inbox (h : SwI w q2 q6 q7 q8 s x st v r rr W) {q : Nat} {c : Array Value} {f : Nat × Nat} (hq : W.heap[q]? = some (.cells c 48 f)) (hN : w.heap.size ≤ q) (hrr : rr ≠ some q) (j : Nat) (u : Value) : SwI w q2 q6 q7 q8 s x st v r rr (W.setCell ⟨q, j, none⟩ u) := by
  refine h.chg (Chg.store W q j u) fun k e => ?_
  rw [e]
  refine ⟨hN, fun e => ?_, fun e => ?_, fun e => ?_, fun e => ?_, fun e => ?_, h.bits hq (by decide) (by decide), hrr, fun c f e => by rw [hq] at e; cases e⟩
  · have := h.b2; unfold BlkBox at this; rw [← e, hq] at this; cases this
  · have := h.b4; unfold BlkBox at this; rw [← e, hq] at this; cases this
  · have := h.b6; unfold Boxed at this; rw [← e, hq] at this; cases this
  · have := h.b7; unfold Boxed at this; rw [← e, hq] at this; cases this
  · have := h.b8; unfold Boxed at this; rw [← e, hq] at this; cases this
/-- 'turned' is stored. -/
theorem SwI.turned (h : SwI w q2 q6 q7 q8 s x st v r rr W) (t : Bool) : SwI w q2 q6 q7 q8 s x { st with t := t } v r rr (W.setCell ⟨q8, 0, none⟩ (.bool t)) := by
  have hc := Chg.store W q8 0 (.bool t)
  obtain ⟨ws, hb, hw⟩ := h.set
  obtain ⟨xs, e, hr, ha⟩ := h.row
  have h8 := h.b8
  unfold Boxed at h8
  have hki : KI W (W.setCell ⟨q8, 0, none⟩ (.bool t)) := KI.of_chg hc fun k hk c f e => by rw [hk, h8] at e; cases e
  refine ⟨h.below.trans (hc.below h.below.size fun k hk => by rw [hk]; exact h.low.1.2.2.2.1), hc.heap h.b2 fun e => ?_, hc.heap h.b4 fun e => ?_, hc.heap h.b6 fun e => ?_, hc.heap h.b7 fun e => ?_, heap_setCell_same W q8 0 #[.bool st.t] 4 (.bool t) h8,
    ⟨ws, hb.kept hc (fun e => h.bits h8 (by decide) (by decide) (.inl e.symm)) (fun k hk e => h.bits h8 (by decide) (by decide) (.inr (by rw [hk, e]))), hw⟩, ⟨xs, e, hr.kept hc fun k hk e => h.rowne h8 (by decide) (by rw [hk, e]), fun y hy => (ha y hy).ki hki⟩, h.low⟩
  · have := h.b2; unfold BlkBox at this; rw [e, h8] at this; cases this
  · have := h.b4; unfold BlkBox at this; rw [e, h8] at this; cases this
  · have := h.b6; unfold Boxed at this; rw [e, h8] at this; cases this
  · have := h.b7; unfold Boxed at this; rw [e, h8] at this; cases this
/-- The set is turned. -/
theorem SwI.grow (h : SwI w q2 q6 q7 q8 s x st v r rr W) {ws ws' : List Nat} {r' : Option Nat} (g : GrowAt W s r ws W' r' ws') {S : Nat → Bool} (hm : memW ws' = S) : SwI w q2 q6 q7 q8 s x { st with S := S } v r' rr W' := by
  obtain ⟨xs, e, hr, ha⟩ := h.row
  have hki : KI W W' := KI.of_chg g.chg fun k hk c f e => h.bits e (by decide) (by decide) hk
  refine ⟨h.below.trans (g.chg.below h.below.size fun k hk => ?_), g.chg.heap h.b2 (h.bits h.b2 (by decide) (by decide)), g.chg.heap h.b4 (h.bits h.b4 (by decide) (by decide)), g.chg.heap h.b6 (h.bits h.b6 (by decide) (by decide)), g.chg.heap h.b7 (h.bits h.b7 (by decide) (by decide)), g.chg.heap h.b8 (h.bits h.b8 (by decide) (by decide)),
    ⟨ws', g.at_, hm⟩, ⟨xs, e, hr.kept g.chg fun k hk hf => ?_, fun y hy => (ha y hy).ki hki⟩, ⟨h.low.1, fun k hk => g.new.ge h.below.size h.low.2.1 k hk, h.low.2.2⟩⟩
  · rcases hk with rfl | hk
    · exact h.low.1.2.2.2.2
    · exact h.low.2.1 k hk.symm
  · rcases hr.2 with ⟨_, e2, _⟩ | ⟨g', off, cap, cur, _, e2, hg', _⟩
    · rw [e2] at hk; cases hk
    · rw [e2] at hk; cases hk; exact h.bits hg' (by decide) (by decide) hf
/-- One more is left: its cells appended, the slice stored. -/
theorem SwI.push (h : SwI w q2 q6 q7 q8 s x st v r rr W) {xs : List InsQ} (he : xs.map InsQ.k = st.left) (ha : ∀ y ∈ xs, IntsIn W y.A y.k.args) {y : InsQ} (hy : IntsIn W y.A y.k.args) {v' : Value} {rr' : Option Nat}
    (hR : RowAt W' 48 8 v' rr' (xs.length + 1) (insRowC xs ++ insQ y)) (hC : Chg (fun k => some k = rr) W W') (hN : NewOr W rr rr') :
    SwI w q2 q6 q7 q8 s x { st with left := st.left ++ [y.k] } v' r rr' (W'.setCell ⟨q7, 0, none⟩ v') := by
  obtain ⟨ws, hb, hw⟩ := h.set
  have hne : ∀ {c t k f}, W.heap[k]? = some (.cells c t f) → t ≠ 48 → ¬ some k = rr := fun hk ht e => h.rowne hk ht e.symm
  have h7 : W'.heap[q7]? = some (.cells #[v] 43 (0, 0)) := hC.heap h.b7 (hne h.b7 (by decide))
  have hS := Chg.store W' q7 0 v'
  have hc2 : Chg (fun k => some k = rr ∨ k = q7) W (W'.setCell ⟨q7, 0, none⟩ v') := (hC.mono fun _ _ e => .inl e).trans hS fun _ _ e => .inr e
  have hn7 : ∀ {c t k f}, W.heap[k]? = some (.cells c t f) → t ≠ 48 → t ≠ 43 → ¬ (some k = rr ∨ k = q7) := fun hk ht ht2 e => by
    rcases e with e | e
    · exact hne hk ht e
    · have := h.b7; unfold Boxed at this; rw [e, this] at hk; cases hk; exact ht2 rfl
  have hki : KI W (W'.setCell ⟨q7, 0, none⟩ v') := fun k c f hk => hc2.heap hk (hn7 hk (by decide) (by decide))
  obtain ⟨u, g1, g2⟩ := hb.ex
  refine ⟨h.below.trans (hc2.below h.below.size fun k e => ?_), hc2.heap h.b2 (hn7 h.b2 (by decide) (by decide)), hc2.heap h.b4 (hn7 h.b4 (by decide) (by decide)), hc2.heap h.b6 (hn7 h.b6 (by decide) (by decide)), heap_setCell_same W' q7 0 #[v] 43 v' h7, hc2.heap h.b8 (hn7 h.b8 (by decide) (by decide)),
    ⟨ws, hb.kept hc2 (hn7 g1 (by decide) (by decide)) (fun k hk => ?_), hw⟩, ⟨xs ++ [y], by simp [he], ?_, fun z hz => ?_⟩, ⟨h.low.1, h.low.2.1, fun k hk => hN.ge h.below.size h.low.2.2 k hk⟩⟩
  · rcases e with e | e
    · exact h.low.2.2 k e.symm
    · rw [e]; exact h.low.1.2.2.1
  · rcases g2.2 with ⟨_, e2, _⟩ | ⟨g', off, cap, cur, _, e2, hg', _⟩
    · rw [e2] at hk; cases hk
    · rw [e2] at hk; cases hk; exact hn7 hg' (by decide) (by decide)
  · rw [insRowC_snoc, List.length_append]
    exact hR.kept hS fun k hk e => row_ne_of_type hR h7 (by decide) (by rw [hk, e])
  · rcases List.mem_append.1 hz with hz | hz
    · exact (ha z hz).ki hki
    · rw [List.mem_singleton.1 hz]; exact hy.ki hki
end
end Go.Proofs.Ytlniohgnkihefaa
namespace Go.Proofs.Ytlniohgnkihefaa
open Go.RowKit
theorem info_int14 : (Try.prog.info? 3).map (fun i => (i.zero, i.size, i.bytes)) = some (some (.int .i64 0), 1, 8) := by kernel_rfl
theorem ints_plain14 (zs : List Int) : ∀ u ∈ ints zs, u.oneCell' = true := by
  intro u hu
  obtain ⟨z, _, rfl⟩ := List.mem_map.1 hu
  rfl
theorem wpList_append_row14 {P : Program} (w : World) {ops : Array Oper} {rest : List Oper} {o : Oper} {a : Act} {Q : Exit → Act → World → Prop} (hgd : o.guard = none) (s x : Operand) (t e : Nat) (z : Value) (size bytes : Nat)
    (ho : o.op = .call { callee := .builtin .append, args := #[s, x], argTypes := #[t, t] })
    (ht : P.underlying t = some (.slice e)) (hinfo : (P.info? e).map (fun i => (i.zero, i.size, i.bytes)) = some (some z, size, bytes)) (hz : z.cells.size = size)
    {v : Value} {r : Option Nat} {n : Nat} {xs : List Value} (HO : RowAt w e size v r n xs) (ad : Addr) (m c : Nat) (news : List Value) (hln : news.length = m * size) (hnews : ∀ j u, news[j]? = some u → w.cell? (ad.add j) = some u)
    (h1 : ∀ u ∈ news, u.oneCell' = true) (hs : a.eval s = v) (hx : a.eval x = .slice (some ad) m c)
    (hl : (n + m) * bytes ≤ 140737488355328) (hn : n + m ≤ maxLen) (hm : 0 < m)
    (h : ∀ v' r' w', RowAt w' e size v' r' (n + m) (xs ++ news) → Chg (fun k => some k = r) w w' → NewOr w r r' → wpList P ops Q rest (a.put o.dst v') w') :
    wpList P ops Q (o :: rest) a w := by
  obtain ⟨i0, hi, hz0, hz1, hz2⟩ := info_parts hinfo
  obtain ⟨v', r', w', hrun, hR, hC, hN⟩ := run_append_row (P := P) w t o.type e i0 z size bytes ht hi hz0 hz1 hz2 hz v r n xs HO ad m c news hln hnews h1 hn hl hm
  refine wpList_plain hgd fun K hK' => ?_
  unfold Oper.wp execOp
  simp only [ho, resolve, invoke, builtin, Sem.run_bind, Sem.run_pure, Result.andThen_ok, List.map_toArray, List.map_cons, List.map_nil, hs, hx, hrun]
  exact hK' _ _ (h v' r' w' hR hC hN)
theorem intsIn_of_row {W : World} {A : Option Addr} {c n : Nat} {r : Option Nat} {zs : List Int} (h : RowAt W 3 1 (.slice A n c) r n (ints zs)) : IntsIn W A zs := fun hp => by
  have hn : zs.length = n := by have := h.1; simpa [ints] using this
  rcases h.2 with ⟨_, _, h0⟩ | ⟨g, off, cap, cur, hv, _, hg, h1, h2, h3, h4⟩
  · omega
  · injection hv with hA _ _
    refine ⟨g, off, cur, (0, 0), hA, hg, fun j u hu => ?_⟩
    rw [← h4, List.getElem?_take] at hu
    split at hu
    · rw [List.getElem?_drop] at hu; rw [← Array.getElem?_toList]; exact hu
    · cases hu
set_option maxHeartbeats 1000000 in
set_option maxRecDepth 100000 in
theorem clone14_any (A : Option Addr) (c : Nat) (zs : List Int) (w : World) (hl : zs.length ≤ 1000) (h : ReadsAt w A (ints zs)) :
    Calls Try.prog 45 #[.slice A zs.length c] w fun e w' => ∃ A' c', e = .returned (.slice A' zs.length c') ∧ Below w.heap.size w w' ∧ IntsIn w' A' zs := by
  have qS : ∀ (w : World) (a : Option Addr) (n c n' c' : Nat), (binOp .eql 46 (.slice a n c) (.slice none n' c')).run Try.prog w = .ok (.bool a.isNone) w := fun w a n c n' c' => Go.Lib.run_eql_slice_nil (P := Try.prog) w 46 3 a n c n' c' Try.underlying46
  cases A with
  | none =>
    have h0 : zs = [] := by
      cases zs with
      | nil => rfl
      | cons z zs => obtain ⟨g, off, hA, _⟩ := h (by simp [ints]); cases hA
    subst h0
    clear h
    go_enter Try.func45, Try.ntmps45
    go_wp2_with fail
    go_ret
    exact ⟨none, 0, rfl, Below.refl _ _, fun h => by simp at h⟩
  | some ad =>
    cases zs with
    | nil =>
      clear h
      go_enter Try.func45, Try.ntmps45
      go_wp2_with fail
      go_ret
      exact ⟨_, _, rfl, (Below.refl _ _).alloc (Nat.le_refl _) _, fun h => by simp at h⟩
    | cons z zs =>
      obtain ⟨g, off, hA, hg, hx⟩ := h (by simp [ints])
      cases hA
      have HX := Lib.hid hx
      clear hx h
      have hrow : RowAt (w.alloc (.cells #[] 3)) 3 1 (.slice (some ⟨w.heap.size, 0, none⟩) 0 0) (some w.heap.size) 0 [] := ⟨rfl, .inr ⟨w.heap.size, 0, 0, #[], rfl, rfl, heap_alloc_new w _, Nat.le_refl _, Nat.zero_le _, by simp, by simp⟩⟩
      have HROW := Lib.hid hrow
      clear hrow
      go_enter Try.func45, Try.ntmps45
      go_wp2_with (at_builtin; go_must (refine wpList_append_row14 _ rfl _ _ 46 3 _ 1 8 rfl Try.underlying46 info_int14 rfl HROW.out ⟨g, off, none⟩ (zs.length + 1) c (ints (z :: zs)) (by simp [ints]) (fun j u hu => by rw [Addr.add_lit]; exact ((Below.refl w.heap.size w).alloc (Nat.le_refl _) _).cell (p := ⟨g, off + j, none⟩) hg |>.trans (HX.out j u hu)) (ints_plain14 _) rfl rfl (by simp at hl; omega) (by simp at hl; unfold maxLen; omega) (by omega) ?_); intro v' r' w2 hR hC hN; obtain ⟨A', c', rfl, _⟩ := hR.shape; have HR := Lib.hid hR; have HC := Lib.hid hC; have HN := Lib.hid hN; clear hR hC hN)
      go_ret
      have hb : Below w.heap.size w w2 := ((Below.refl w.heap.size w).alloc (Nat.le_refl _) _).trans (HC.out.below (by simp) fun k e => by injection e with e; omega)
      have hR := HR.out
      rw [List.nil_append] at hR
      exact ⟨A', c', by simp, hb, intsIn_of_row hR⟩
end Go.Proofs.Ytlniohgnkihefaa
namespace Go.Proofs.Ytlniohgnkihefaa
open Go.RowKit
def Elt (W : World) (g o : Nat) (x : InsQ) : Prop := W.cell? ⟨g, o, none⟩ = some (.int .i64 x.k.kind) ∧ W.cell? ⟨g, o + 1, none⟩ = some (.int .i64 x.k.op) ∧ W.cell? ⟨g, o + 2, none⟩ = some (.int .i64 x.k.d) ∧ W.cell? ⟨g, o + 3, none⟩ = some (.int .i64 x.k.a) ∧
  W.cell? ⟨g, o + 4, none⟩ = some (.int .i64 x.k.b) ∧ W.cell? ⟨g, o + 5, none⟩ = some (.int .i32 x.k.num) ∧ W.cell? ⟨g, o + 6, none⟩ = some (.string x.k.name) ∧ W.cell? ⟨g, o + 7, none⟩ = some (.slice x.A x.k.args.length x.c)
theorem elt_of_row {W : World} {g off c n : Nat} {r : Option Nat} {ys : List InsQ} (h : RowAt W 48 8 (.slice (some ⟨g, off, none⟩) n c) r n (insRowC ys)) (hp : 0 < n) (i : Nat) (x : InsQ) (hi : ys[i]? = some x) : Elt W g (off + i * 8) x := by
  obtain ⟨g', off', cap, hv, _, _, _, _, hc, _⟩ := h.form hp
  cases hv
  obtain ⟨hi', rfl⟩ := List.getElem?_eq_some_iff.1 hi
  have k : ∀ j u, (insQ ys[i])[j]? = some u → W.cell? ⟨g, off + i * 8 + j, none⟩ = some u := fun j u hu => by rw [Nat.add_assoc]; exact hc _ _ (insRowC_at ys i hi' j u hu)
  exact ⟨k 0 _ rfl, k 1 _ rfl, k 2 _ rfl, k 3 _ rfl, k 4 _ rfl, k 5 _ rfl, k 6 _ rfl, k 7 _ rfl⟩
/-- One element's cells in a list of cells. -/
def putE (cs : List Value) (o : Nat) (x : InsQ) : List Value := (((((((cs.set o (.int .i64 x.k.kind)).set (o + 1) (.int .i64 x.k.op)).set (o + 2) (.int .i64 x.k.d)).set (o + 3) (.int .i64 x.k.a)).set (o + 4) (.int .i64 x.k.b)).set (o + 5) (.int .i32 x.k.num)).set (o + 6) (.string x.k.name)).set (o + 7) (.slice x.A x.k.args.length x.c)
theorem putE_row (ys : List InsQ) (i : Nat) (h : i < ys.length) (x : InsQ) : putE (insRowC ys) (i * 8) x = insRowC (ys.set i x) := by
  have hl : (insRowC ys).length = ys.length * 8 := insRowC_len ys
  apply List.ext_getElem?
  intro p
  have hdiv := Nat.div_add_mod p 8
  have hlt := Nat.mod_lt p (show 0 < 8 by omega)
  obtain ⟨q, hq⟩ : ∃ q, q = p / 8 := ⟨_, rfl⟩
  obtain ⟨j, hj⟩ : ∃ j, j = p % 8 := ⟨_, rfl⟩
  rw [← hq, ← hj] at hdiv
  rw [← hj] at hlt
  obtain rfl : p = q * 8 + j := by omega
  have hR : ∀ (zs : List InsQ), (insRowC zs)[q * 8 + j]? = (zs[q]?).bind fun x => (insQ x)[j]? := fun zs => by
    unfold insRowC
    rw [flat_at (insRow_all zs) q j hlt, List.getElem?_map]
    cases zs[q]? <;> rfl
  rw [hR]
  unfold putE
  simp only [List.getElem?_set, List.length_set, hl]
  by_cases e : i = q
  · subst e
    rw [if_pos h, if_pos rfl, Option.bind_some]
    have h8 : j = 0 ∨ j = 1 ∨ j = 2 ∨ j = 3 ∨ j = 4 ∨ j = 5 ∨ j = 6 ∨ j = 7 := by omega
    rcases h8 with rfl | rfl | rfl | rfl | rfl | rfl | rfl | rfl <;> simp [insQ, insCells] <;> omega
  · rw [if_neg e, ← hR ys]
    repeat rw [if_neg (by omega)]
section
variable {W : World} {g off c n : Nat} {r : Option Nat}
/-- One element is stored. -/
theorem RowAt.putE {cs : List Value} (h : RowAt W 48 8 (.slice (some ⟨g, off, none⟩) n c) r n cs) (i : Nat) (hi : i < n) (x : InsQ) :
    RowAt ((((((((W.setCell ⟨g, off + i * 8, none⟩ (.int .i64 x.k.kind)).setCell ⟨g, off + i * 8 + 1, none⟩ (.int .i64 x.k.op)).setCell ⟨g, off + i * 8 + 2, none⟩ (.int .i64 x.k.d)).setCell ⟨g, off + i * 8 + 3, none⟩ (.int .i64 x.k.a)).setCell ⟨g, off + i * 8 + 4, none⟩ (.int .i64 x.k.b)).setCell ⟨g, off + i * 8 + 5, none⟩ (.int .i32 x.k.num)).setCell ⟨g, off + i * 8 + 6, none⟩ (.string x.k.name)).setCell ⟨g, off + i * 8 + 7, none⟩ (.slice x.A x.k.args.length x.c))
      48 8 (.slice (some ⟨g, off, none⟩) n c) r n (Go.Proofs.Ytlniohgnkihefaa.putE cs (i * 8) x) := by
  have h0 := h.stored (i * 8) (.int .i64 x.k.kind) (by omega)
  have h1 := h0.stored (i * 8 + 1) (.int .i64 x.k.op) (by omega)
  have h2 := h1.stored (i * 8 + 2) (.int .i64 x.k.d) (by omega)
  have h3 := h2.stored (i * 8 + 3) (.int .i64 x.k.a) (by omega)
  have h4 := h3.stored (i * 8 + 4) (.int .i64 x.k.b) (by omega)
  have h5 := h4.stored (i * 8 + 5) (.int .i32 x.k.num) (by omega)
  have h6 := h5.stored (i * 8 + 6) (.string x.k.name) (by omega)
  have h7 := h6.stored (i * 8 + 7) (.slice x.A x.k.args.length x.c) (by omega)
  simp only [← Nat.add_assoc] at h1 h2 h3 h4 h5 h6 h7
  exact h7
theorem chg_put8 (o : Nat) (u0 u1 u2 u3 u4 u5 u6 u7 : Value) : Chg (fun k => some k = some g) W ((((((((W.setCell ⟨g, o, none⟩ u0).setCell ⟨g, o + 1, none⟩ u1).setCell ⟨g, o + 2, none⟩ u2).setCell ⟨g, o + 3, none⟩ u3).setCell ⟨g, o + 4, none⟩ u4).setCell ⟨g, o + 5, none⟩ u5).setCell ⟨g, o + 6, none⟩ u6).setCell ⟨g, o + 7, none⟩ u7) := by
  have h := Chg.refl (fun k => some k = some g) W
  replace h := h.setCell ⟨g, o, none⟩ (fun _ => rfl) u0
  replace h := h.setCell ⟨g, o + 1, none⟩ (fun _ => rfl) u1
  replace h := h.setCell ⟨g, o + 2, none⟩ (fun _ => rfl) u2
  replace h := h.setCell ⟨g, o + 3, none⟩ (fun _ => rfl) u3
  replace h := h.setCell ⟨g, o + 4, none⟩ (fun _ => rfl) u4
  replace h := h.setCell ⟨g, o + 5, none⟩ (fun _ => rfl) u5
  replace h := h.setCell ⟨g, o + 6, none⟩ (fun _ => rfl) u6
  replace h := h.setCell ⟨g, o + 7, none⟩ (fun _ => rfl) u7
  exact h
end
end Go.Proofs.Ytlniohgnkihefaa
