/- What is live: the least solution of the blocks' equations; plain. -/
import Derived.Test.YtlniohgnkihefaaRef14B
namespace Go.Proofs.Ytlniohgnkihefaa

abbrev St := Nat → Nat → Bool
def Sub (S T : Nat → Bool) : Prop := ∀ n, S n = true → T n = true
theorem Sub.refl (S : Nat → Bool) : Sub S S := fun _ h => h
theorem Sub.trans {S T U : Nat → Bool} (h : Sub S T) (k : Sub T U) : Sub S U := fun n hn => k n (h n hn)
theorem Sub.antisymm {S T : Nat → Bool} (h : Sub S T) (k : Sub T S) : S = T := by
  funext n
  rw [Bool.eq_iff_iff]
  exact ⟨h n, k n⟩
theorem endP_mono (k : Blk) {S T : Nat → Bool} (h : Sub S T) : Sub (endP k S) (endP k T) := by
  intro n hn
  unfold endP at hn ⊢
  rcases Bool.or_eq_true_iff.1 hn with h1 | h1
  · rw [h n h1]; rfl
  · rw [h1]; simp
theorem aheadP_mono (x : Ins) {S T : Nat → Bool} (h : Sub S T) : Sub (aheadP x S) (aheadP x T) := by
  intro n hn
  unfold aheadP at hn ⊢
  rcases Bool.or_eq_true_iff.1 hn with h1 | h1
  · obtain ⟨h2, h3⟩ := Bool.and_eq_true_iff.1 h1
    rw [h n h2, h3]; rfl
  · rw [h1]; simp
/-- What is live ahead of some of the last instructions. -/
def tailP (k : Blk) (xs : List Ins) (S : Nat → Bool) : Nat → Bool := xs.foldr aheadP (endP k S)
def blkP (k : Blk) (S : Nat → Bool) : Nat → Bool := tailP k k.ins S
theorem tailP_mono (k : Blk) (xs : List Ins) {S T : Nat → Bool} (h : Sub S T) : Sub (tailP k xs S) (tailP k xs T) := by
  induction xs with
  | nil => exact endP_mono k h
  | cons x xs ih => exact aheadP_mono x ih
theorem blkP_mono (k : Blk) {S T : Nat → Bool} (h : Sub S T) : Sub (blkP k S) (blkP k T) := tailP_mono k k.ins h
/-- What is live at the beginning of one of the blocks that a block goes on to. -/
def succP (k : Blk) (I : St) (n : Nat) : Bool := (nextP k).any fun t => I t.toNat n
theorem succP_mono (k : Blk) {I I' : St} (h : ∀ i, Sub (I i) (I' i)) : Sub (succP k I) (succP k I') := by
  intro n hn
  unfold succP at hn ⊢
  rw [List.any_eq_true] at hn ⊢
  obtain ⟨t, ht, h1⟩ := hn
  exact ⟨t, ht, h _ n h1⟩
/-- A solution of the equations. -/
def Sol (ks : List Blk) (I O : St) : Prop := ∀ i (h : i < ks.length), O i = succP ks[i] I ∧ I i = blkP ks[i] (O i)
def LiveIn (ks : List Blk) (i n : Nat) : Prop := ∀ I O, Sol ks I O → I i n = true
def LiveOut (ks : List Blk) (i n : Nat) : Prop := ∀ I O, Sol ks I O → O i n = true
/-- A state on the way. -/
structure Way (ks : List Blk) (I O : St) : Prop where
  least : ∀ I' O', Sol ks I' O' → ∀ i, i < ks.length → Sub (I i) (I' i) ∧ Sub (O i) (O' i)
  out : ∀ i, ks.length ≤ i → (∀ n, I i n = false) ∧ ∀ n, O i n = false
  inb : ∀ i (h : i < ks.length), Sub (I i) (blkP ks[i] (O i))
  ofs : ∀ i (h : i < ks.length), Sub (O i) (succP ks[i] I)
theorem Way.start (ks : List Blk) : Way ks (fun _ _ => false) (fun _ _ => false) :=
  ⟨fun _ _ _ _ _ => ⟨fun _ h => (Bool.noConfusion h), fun _ h => (Bool.noConfusion h)⟩, fun _ _ => ⟨fun _ => rfl, fun _ => rfl⟩, fun _ _ _ h => (Bool.noConfusion h), fun _ _ _ h => (Bool.noConfusion h)⟩
def setS (I : St) (i : Nat) (S : Nat → Bool) : St := fun j => if j = i then S else I j
theorem setS_same (I : St) (i : Nat) (S : Nat → Bool) : setS I i S i = S := by unfold setS; rw [if_pos rfl]
theorem setS_other (I : St) {i j : Nat} (S : Nat → Bool) (h : j ≠ i) : setS I i S j = I j := by unfold setS; rw [if_neg h]
/-- More behind a block: something of what its followers have. -/
theorem Way.growOut {ks : List Blk} {I O : St} (h : Way ks I O) {i : Nat} (hi : i < ks.length) {S : Nat → Bool} (h1 : Sub (O i) S) (h2 : Sub S (succP ks[i] I)) : Way ks I (setS O i S) := by
  refine ⟨fun I' O' hs j hj => ?_, fun j hj => ?_, fun j hj => ?_, fun j hj => ?_⟩
  · by_cases e : j = i
    · subst e
      refine ⟨(h.least I' O' hs j hj).1, ?_⟩
      rw [setS_same, (hs j hj).1]
      refine h2.trans (succP_mono _ fun m => ?_)
      by_cases hm : m < ks.length
      · exact (h.least I' O' hs m hm).1
      · intro n hn
        rw [(h.out m (by omega)).1 n] at hn; cases hn
    · rw [setS_other O S e]; exact h.least I' O' hs j hj
  · rw [setS_other O S (by omega)]; exact h.out j hj
  · by_cases e : j = i
    · subst e; rw [setS_same]; exact (h.inb j hj).trans (blkP_mono _ h1)
    · rw [setS_other O S e]; exact h.inb j hj
  · by_cases e : j = i
    · subst e; rw [setS_same]; exact h2
    · rw [setS_other O S e]; exact h.ofs j hj
/-- More at a block's beginning: something of what its end asks. -/
theorem Way.growIn {ks : List Blk} {I O : St} (h : Way ks I O) {i : Nat} (hi : i < ks.length) {S : Nat → Bool} (h1 : Sub (I i) S) (h2 : Sub S (blkP ks[i] (O i))) : Way ks (setS I i S) O := by
  have hup : ∀ m, Sub (I m) (setS I i S m) := fun m => by
    by_cases e : m = i
    · subst e; rw [setS_same]; exact h1
    · rw [setS_other I S e]; exact Sub.refl _
  refine ⟨fun I' O' hs j hj => ?_, fun j hj => ?_, fun j hj => ?_, fun j hj => ?_⟩
  · by_cases e : j = i
    · subst e
      refine ⟨?_, (h.least I' O' hs j hj).2⟩
      rw [setS_same, (hs j hj).2]
      exact h2.trans (blkP_mono _ (h.least I' O' hs j hj).2)
    · rw [setS_other I S e]; exact h.least I' O' hs j hj
  · rw [setS_other I S (by omega)]; exact h.out j hj
  · by_cases e : j = i
    · subst e; rw [setS_same]; exact h2
    · rw [setS_other I S e]; exact h.inb j hj
  · exact (h.ofs j hj).trans (succP_mono _ hup)
/-- Nothing more comes: it is the least solution. -/
theorem Way.done {ks : List Blk} {I O : St} (h : Way ks I O) (h1 : ∀ i (hi : i < ks.length), Sub (succP ks[i] I) (O i)) (h2 : ∀ i (hi : i < ks.length), Sub (blkP ks[i] (O i)) (I i)) :
    ∀ i, i < ks.length → (∀ n, I i n = true ↔ LiveIn ks i n) ∧ ∀ n, O i n = true ↔ LiveOut ks i n := by
  have hs : Sol ks I O := fun i hi => ⟨(h.ofs i hi).antisymm (h1 i hi), (h.inb i hi).antisymm (h2 i hi)⟩
  exact fun i hi => ⟨fun n => ⟨fun hn I' O' hs' => (h.least I' O' hs' i hi).1 n hn, fun hn => hn I O hs⟩, fun n => ⟨fun hn I' O' hs' => (h.least I' O' hs' i hi).2 n hn, fun hn => hn I O hs⟩⟩
end Go.Proofs.Ytlniohgnkihefaa
