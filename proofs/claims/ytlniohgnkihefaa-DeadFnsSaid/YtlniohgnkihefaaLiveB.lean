/- dead's live, plain: what a pass over the sets does. -/
import Derived.Test.YtlniohgnkihefaaSetsM
import Derived.Test.YtlniohgnkihefaaLiveP
namespace Go.Proofs.Ytlniohgnkihefaa

/-- How many numbers below N are in a set. -/
def cntP : Nat → (Nat → Bool) → Nat
  | 0, _ => 0
  | N + 1, S => cntP N S + (if S N = true then 1 else 0)
theorem cntP_le : ∀ (N : Nat) (S : Nat → Bool), cntP N S ≤ N
  | 0, _ => Nat.le_refl _
  | N + 1, S => by have := cntP_le N S; unfold cntP; split <;> omega
theorem cntP_mono : ∀ (N : Nat) {S T : Nat → Bool}, Sub S T → cntP N S ≤ cntP N T
  | 0, _, _, _ => Nat.le_refl _
  | N + 1, S, T, h => by
    have h1 := cntP_mono N h
    have h2 := h N
    unfold cntP
    by_cases a : S N = true
    · rw [if_pos a, if_pos (h2 a)]; omega
    · rw [if_neg a]; split <;> omega
theorem cntP_lt : ∀ (N : Nat) {S T : Nat → Bool}, Sub S T → (∃ x, x < N ∧ T x = true ∧ S x = false) → cntP N S < cntP N T
  | 0, _, _, _, ⟨x, hx, _⟩ => by omega
  | N + 1, S, T, h, ⟨x, hx, h1, h2⟩ => by
    unfold cntP
    rcases Nat.lt_succ_iff_lt_or_eq.1 hx with hx | rfl
    · have h3 := cntP_lt N h ⟨x, hx, h1, h2⟩
      have h4 := h N
      by_cases a : S N = true
      · rw [if_pos a, if_pos (h4 a)]; omega
      · rw [if_neg a]; split <;> omega
    · have h3 := cntP_mono x h
      rw [if_pos h1, if_neg (by rw [h2]; simp)]
      omega
def wsAt (ps : List BM) (i : Nat) : List Nat := match ps[i]? with
  | some p => p.ws
  | none => []
theorem wsAt_eq (ps : List BM) (i : Nat) (h : i < ps.length) : wsAt ps i = ps[i].ws := by unfold wsAt; rw [List.getElem?_eq_getElem h]
theorem wsAt_set (ps : List BM) (i j : Nat) (h : i < ps.length) (p : BM) : wsAt (ps.set i p) j = if j = i then p.ws else wsAt ps j := by
  by_cases e : j = i
  · subst e; rw [if_pos rfl]; unfold wsAt; rw [List.getElem?_set_self h]
  · rw [if_neg e]; unfold wsAt; rw [List.getElem?_set_ne (fun h => e h.symm)]
def inS (n : Nat) (ps : List BM) : St := fun i => if i < n then memW (wsAt ps i) else fun _ => false
def outS (n : Nat) (ps : List BM) : St := fun i => if i < n then memW (wsAt ps (n + i)) else fun _ => false
theorem inS_at {n i : Nat} (ps : List BM) (h : i < n) : inS n ps i = memW (wsAt ps i) := by unfold inS; rw [if_pos h]
theorem outS_at {n i : Nat} (ps : List BM) (h : i < n) : outS n ps i = memW (wsAt ps (n + i)) := by unfold outS; rw [if_pos h]
theorem inS_set {n i : Nat} {ps : List BM} (h : i < n) (hl : ps.length = n + n) (p : BM) : inS n (ps.set i p) = setS (inS n ps) i (memW p.ws) ∧ outS n (ps.set i p) = outS n ps := by
  constructor
  · funext j
    by_cases e : j = i
    · subst e; rw [setS_same, inS_at _ h, wsAt_set _ _ _ (by omega), if_pos rfl]
    · rw [setS_other _ _ e]; unfold inS; rw [wsAt_set _ _ _ (by omega), if_neg e]
  · funext j
    unfold outS
    by_cases hj : j < n
    · rw [if_pos hj, if_pos hj, wsAt_set _ _ _ (by omega), if_neg (by omega)]
    · rw [if_neg hj, if_neg hj]
theorem outS_set {n i : Nat} {ps : List BM} (h : i < n) (hl : ps.length = n + n) (p : BM) : outS n (ps.set (n + i) p) = setS (outS n ps) i (memW p.ws) ∧ inS n (ps.set (n + i) p) = inS n ps := by
  constructor
  · funext j
    by_cases e : j = i
    · subst e; rw [setS_same, outS_at _ h, wsAt_set _ _ _ (by omega), if_pos rfl]
    · rw [setS_other _ _ e]; unfold outS
      by_cases hj : j < n
      · rw [if_pos hj, if_pos hj, wsAt_set _ _ _ (by omega), if_neg (by omega)]
      · rw [if_neg hj, if_neg hj]
  · funext j
    unfold inS
    by_cases hj : j < n
    · rw [if_pos hj, if_pos hj, wsAt_set _ _ _ (by omega), if_neg (by omega)]
    · rw [if_neg hj, if_neg hj]
def totB (N : Nat) (ps : List BM) : Nat := (ps.map fun p => cntP N (memW p.ws)).sum
theorem totB_le (N : Nat) (ps : List BM) : totB N ps ≤ ps.length * N := by
  unfold totB
  induction ps with
  | nil => simp
  | cons a ps ih =>
    have h1 := cntP_le N (memW a.ws)
    rw [List.map_cons, List.sum_cons, List.length_cons, Nat.add_mul]; omega
theorem totB_set (N : Nat) : ∀ (ps : List BM) (i : Nat) (h : i < ps.length) (p : BM), totB N (ps.set i p) + cntP N (memW ps[i].ws) = totB N ps + cntP N (memW p.ws) := by
  intro ps
  induction ps with
  | nil => intro i h; simp at h
  | cons a ps ih =>
    intro i h p
    cases i with
    | zero => simp [totB]; omega
    | succ i =>
      have := ih i (by simpa using h) p
      simp [totB] at this ⊢; omega
theorem mem_lt64 {ws : List Nat} {x : Nat} (h : memW ws x = true) : x < 64 * ws.length := by
  refine Decidable.byContradiction fun hn => ?_
  rw [memW_none ws x (by omega)] at h; cases h
theorem newTo_iff (ws wc : List Nat) : newTo ws wc wc.length = true ↔ ∃ x, memW wc x = true ∧ memW ws x = false := by
  unfold newTo
  rw [List.any_eq_true]
  constructor
  · rintro ⟨x, _, h⟩
    have := Bool.and_eq_true_iff.1 h
    exact ⟨x, this.1, by simpa using this.2⟩
  · rintro ⟨x, h1, h2⟩
    exact ⟨x, List.mem_range.2 (mem_lt64 h1), by rw [h1, h2]; rfl⟩
theorem newTo_not {ws wc : List Nat} (h : newTo ws wc wc.length = false) : Sub (memW wc) (memW ws) := by
  intro x hx
  cases e : memW ws x with
  | true => rfl
  | false => rw [(newTo_iff ws wc).2 ⟨x, hx, e⟩] at h; cases h
theorem join_not {ws wc ws' : List Nat} (h : newTo ws wc wc.length = false) (hm : ∀ x, memW ws' x = (memW ws x || memW wc x)) : memW ws' = memW ws := by
  funext x
  rw [hm x]
  cases e : memW wc x with
  | false => rw [Bool.or_false]
  | true => rw [newTo_not h x e]; rfl
theorem join_cnt {N : Nat} {ws wc ws' : List Nat} (hc : wc.length * 64 ≤ N) (hm : ∀ x, memW ws' x = (memW ws x || memW wc x)) : cntP N (memW ws) ≤ cntP N (memW ws') ∧ (newTo ws wc wc.length = true → cntP N (memW ws) < cntP N (memW ws')) := by
  have hs : Sub (memW ws) (memW ws') := fun x hx => by rw [hm x, hx]; rfl
  refine ⟨cntP_mono N hs, fun h => ?_⟩
  obtain ⟨x, h1, h2⟩ := (newTo_iff ws wc).1 h
  refine cntP_lt N hs ⟨x, ?_, by rw [hm x, h1, Bool.or_true], h2⟩
  have := mem_lt64 h1; omega

/-- A block that asks for nothing more. -/
def Shut1 (ks : List Blk) (I O : St) (j : Nat) : Prop := ∀ h : j < ks.length, Sub (succP ks[j] I) (O j) ∧ Sub (blkP ks[j] (O j)) (I j)
/-- What stands on a pass that began at T0; C: the blocks that were met. -/
structure PassB (N : Nat) (ks : List Blk) (n : Nat) (ps : List BM) (T0 : Nat) (b : Bool) (C : Nat → Prop) : Prop where
  way : Way ks (inS n ps) (outS n ps)
  ge : T0 ≤ totB N ps
  gt : b = true → T0 < totB N ps
  cl : b = false → ∀ j, C j → Shut1 ks (inS n ps) (outS n ps) j
section
variable {N n T0 : Nat} {ks : List Blk} {ps : List BM} {b : Bool} {C : Nat → Prop}
/-- A set behind block i takes in what its follower t has. -/
theorem PassB.joinO (h : PassB N ks n ps T0 b C) (hn : n = ks.length) (hl : ps.length = n + n) {i : Nat} (hi : i < ks.length) {t : Int} (ht : t ∈ nextP ks[i]) (htn : t.toNat < n) {r : Option Nat} {ws' : List Nat} (hio : n + i < ps.length) (hit : t.toNat < ps.length)
    (hw : ps[t.toNat].ws.length * 64 ≤ N) (hm : ∀ x, memW ws' x = (memW ps[n + i].ws x || memW ps[t.toNat].ws x)) :
    PassB N ks n (ps.set (n + i) ⟨ps[n + i].b, r, ws'⟩) T0 (newTo ps[n + i].ws ps[t.toNat].ws ps[t.toNat].ws.length || b) C ∧
      Sub (inS n (ps.set (n + i) ⟨ps[n + i].b, r, ws'⟩) t.toNat) (outS n (ps.set (n + i) ⟨ps[n + i].b, r, ws'⟩) i) ∧ Sub (outS n ps i) (outS n (ps.set (n + i) ⟨ps[n + i].b, r, ws'⟩) i) ∧ inS n (ps.set (n + i) ⟨ps[n + i].b, r, ws'⟩) = inS n ps := by
  have hin : i < n := by omega
  obtain ⟨e1, e2⟩ := outS_set hin hl ⟨ps[n + i].b, r, ws'⟩
  have eO : outS n ps i = memW ps[n + i].ws := by rw [outS_at _ hin, wsAt_eq _ _ hio]
  have eI : inS n ps t.toNat = memW ps[t.toNat].ws := by rw [inS_at _ htn, wsAt_eq _ _ hit]
  have hsO : Sub (outS n ps i) (memW ws') := fun x hx => by rw [eO] at hx; rw [hm x, hx]; rfl
  have hsI : Sub (inS n ps t.toNat) (memW ws') := fun x hx => by rw [eI] at hx; rw [hm x, hx, Bool.or_true]
  have hcnt := join_cnt (N := N) hw hm
  have htot := totB_set N ps (n + i) hio ⟨ps[n + i].b, r, ws'⟩
  have hge := h.ge
  refine ⟨⟨?_, ?_, fun hq => ?_, fun hq => ?_⟩, ?_, ?_, e2⟩
  · rw [e1, e2]
    refine h.way.growOut hi hsO fun x hx => ?_
    rw [hm x] at hx
    rcases Bool.or_eq_true_iff.1 hx with hx | hx
    · exact h.way.ofs i hi x (by rw [eO]; exact hx)
    · unfold succP
      exact List.any_eq_true.2 ⟨t, ht, by rw [eI]; exact hx⟩
  · have := hcnt.1; dsimp only at htot; omega
  · dsimp only at htot
    rcases Bool.or_eq_true_iff.1 hq with hq | hq
    · have := hcnt.2 hq; omega
    · have := hcnt.1; have := h.gt hq; omega
  · obtain ⟨q1, q2⟩ := Bool.or_eq_false_iff.1 hq
    have e3 : setS (outS n ps) i (memW ws') = outS n ps := by rw [join_not q1 hm, ← eO, setS_eq]
    rw [e1, e2, e3]
    exact h.cl q2
  · rw [e1, e2, setS_same]; exact hsI
  · rw [e1, setS_same]; exact hsO
/-- The set at block i's beginning takes in what its end asks. -/
theorem PassB.joinI (h : PassB N ks n ps T0 b C) (hn : n = ks.length) (hl : ps.length = n + n) {i : Nat} (hi : i < ks.length) {r : Option Nat} {ws' wc : List Nat} (hii : i < ps.length) (hw : wc.length * 64 ≤ N)
    (hc : memW wc = blkP ks[i] (outS n ps i)) (hm : ∀ x, memW ws' x = (memW ps[i].ws x || memW wc x)) (hs : ∀ t ∈ nextP ks[i], Sub (inS n ps t.toNat) (outS n ps i)) :
    PassB N ks n (ps.set i ⟨ps[i].b, r, ws'⟩) T0 (newTo ps[i].ws wc wc.length || b) (fun j => C j ∨ j = i) := by
  have hin : i < n := by omega
  obtain ⟨e1, e2⟩ := inS_set hin hl ⟨ps[i].b, r, ws'⟩
  have eI : inS n ps i = memW ps[i].ws := by rw [inS_at _ hin, wsAt_eq _ _ hii]
  have hsI : Sub (inS n ps i) (memW ws') := fun x hx => by rw [eI] at hx; rw [hm x, hx]; rfl
  have hcnt := join_cnt (N := N) hw hm
  have htot := totB_set N ps i hii ⟨ps[i].b, r, ws'⟩
  have hge := h.ge
  refine ⟨?_, ?_, fun hq => ?_, fun hq => ?_⟩
  · rw [e1, e2]
    refine h.way.growIn hi hsI fun x hx => ?_
    rw [hm x] at hx
    rcases Bool.or_eq_true_iff.1 hx with hx | hx
    · exact h.way.inb i hi x (by rw [eI]; exact hx)
    · rw [← hc]; exact hx
  · have := hcnt.1; dsimp only at htot; omega
  · dsimp only at htot
    rcases Bool.or_eq_true_iff.1 hq with hq | hq
    · have := hcnt.2 hq; omega
    · have := hcnt.1; have := h.gt hq; omega
  · obtain ⟨q1, q2⟩ := Bool.or_eq_false_iff.1 hq
    have e3 : setS (inS n ps) i (memW ws') = inS n ps := by rw [join_not q1 hm, ← eI, setS_eq]
    rw [e1, e2, e3]
    rintro j (hj | rfl)
    · exact h.cl q2 j hj
    · intro h'
      refine ⟨fun x hx => ?_, ?_⟩
      · unfold succP at hx
        obtain ⟨t, ht, hx⟩ := List.any_eq_true.1 hx
        exact hs t ht x hx
      · rw [← hc, eI]; exact newTo_not q1
end
/-- What a walk over the instructions from the last one on leaves. -/
theorem rev_fold {β : Type} (g : β → Ins) (xs : List β) (S : Nat → Bool) : (revI xs).foldl (fun S q => aheadP (g q.2) S) S = (xs.map g).foldr aheadP S := by
  unfold revI
  rw [List.foldl_reverse]
  have : ∀ (xs : List β) (ns : List Nat), ns.length = xs.length → (ns.zip xs).foldr (fun q S => aheadP (g q.2) S) S = (xs.map g).foldr aheadP S := by
    intro xs
    induction xs with
    | nil => intro ns _; simp
    | cons x xs ih =>
      intro ns h
      cases ns with
      | nil => simp at h
      | cons m ns => simp at h; simp [ih ns h]
  exact this xs _ (by simp)
end Go.Proofs.Ytlniohgnkihefaa
