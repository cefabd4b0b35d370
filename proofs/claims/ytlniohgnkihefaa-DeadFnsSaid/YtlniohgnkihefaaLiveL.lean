/- brazierref14's rows, as sets; plain. -/
import Derived.Test.YtlniohgnkihefaaLiveP
namespace Go.Proofs.Ytlniohgnkihefaa

/-- What is in a row of numbers. -/
def listP (l : List Int) (n : Nat) : Bool := hasL l (n : Int)
theorem listP_iff {l : List Int} {n : Nat} : listP l n = true ↔ (n : Int) ∈ l := by
  unfold listP hasL
  rw [List.any_eq_true]
  constructor
  · rintro ⟨x, hx, h⟩
    rw [← show x = (n : Int) from by simpa using h]; exact hx
  · intro h; exact ⟨_, h, by simp⟩
theorem mem_putL {l : List Int} {z y : Int} : y ∈ putL l z ↔ y ∈ l ∨ (0 ≤ z ∧ y = z) := by
  unfold putL
  split
  · rename_i h
    constructor
    · exact .inl
    · rintro (h1 | ⟨h1, rfl⟩)
      · exact h1
      · rcases h with h | h
        · omega
        · unfold hasL at h
          obtain ⟨x, hx, h2⟩ := List.any_eq_true.1 h
          rw [← show x = y from by simpa using h2]; exact hx
  · rename_i h
    have h0 : 0 ≤ z := by omega
    simp only [List.mem_append, List.mem_filter, List.mem_singleton, decide_eq_true_eq]
    constructor
    · rintro ((h1 | h1) | h1)
      · exact .inl h1.1
      · exact .inr ⟨h0, h1⟩
      · exact .inl h1.1
    · rintro (h1 | ⟨_, h1⟩)
      · rcases Int.lt_trichotomy y z with c | c | c
        · exact .inl (.inl ⟨h1, c⟩)
        · exact .inl (.inr c)
        · exact .inr ⟨h1, c⟩
      · exact .inl (.inr h1)
theorem mem_foldl_put {zs : List Int} {y : Int} : ∀ {l : List Int}, y ∈ zs.foldl putL l ↔ y ∈ l ∨ (0 ≤ y ∧ y ∈ zs) := by
  induction zs with
  | nil => intro l; simp
  | cons z zs ih =>
    intro l
    rw [List.foldl_cons, ih, mem_putL]
    constructor
    · rintro ((h | ⟨h1, rfl⟩) | ⟨h1, h2⟩)
      · exact .inl h
      · exact .inr ⟨h1, by simp⟩
      · exact .inr ⟨h1, by simp [h2]⟩
    · rintro (h | ⟨h1, h2⟩)
      · exact .inl (.inl h)
      · rcases List.mem_cons.1 h2 with rfl | h2
        · exact .inl (.inr ⟨h1, rfl⟩)
        · exact .inr ⟨h1, h2⟩
/-- A row that rises, of numbers from 0 on. -/
def RiseL (l : List Int) : Prop := l.Pairwise (· < ·) ∧ ∀ z ∈ l, 0 ≤ z
theorem RiseL.nil : RiseL [] := ⟨List.Pairwise.nil, fun _ h => by cases h⟩
theorem RiseL.filter {l : List Int} (h : RiseL l) (p : Int → Bool) : RiseL (l.filter p) := ⟨h.1.filter _, fun z hz => h.2 z (List.mem_filter.1 hz).1⟩
theorem RiseL.put {l : List Int} (h : RiseL l) (z : Int) : RiseL (putL l z) := by
  refine ⟨?_, fun y hy => ?_⟩
  · unfold putL
    split
    · exact h.1
    · rw [List.pairwise_append, List.pairwise_append]
      refine ⟨⟨h.1.filter _, List.pairwise_singleton _ _, ?_⟩, h.1.filter _, ?_⟩
      · intro a ha b hb
        rw [List.mem_filter] at ha
        rw [List.mem_singleton] at hb
        subst hb
        simpa using ha.2
      · intro a ha b hb
        rw [List.mem_filter] at hb
        rw [List.mem_append, List.mem_filter, List.mem_singleton] at ha
        have h2 : z < b := by simpa using hb.2
        rcases ha with ha | rfl
        · have h1 : a < z := by simpa using ha.2
          omega
        · exact h2
  · rcases mem_putL.1 hy with h1 | ⟨h1, rfl⟩
    · exact h.2 y h1
    · exact h1
theorem RiseL.foldl {zs : List Int} : ∀ {l : List Int}, RiseL l → RiseL (zs.foldl putL l) := by
  induction zs with
  | nil => intro l h; exact h
  | cons z zs ih => intro l h; exact ih (h.put z)
theorem RiseL.ahead {l : List Int} (h : RiseL l) (x : Ins) : RiseL (aheadL x l) := RiseL.foldl (h.filter _)
theorem RiseL.before {l : List Int} (h : RiseL l) (k : Blk) : RiseL (beforeL k l) := by
  unfold beforeL
  split
  · exact h
  · exact h.put _
theorem rise_listP {a b : List Int} (ha : RiseL a) (hb : RiseL b) (h : ∀ n, listP a n = listP b n) : a = b := by
  have hab : ∀ y, y ∈ a ↔ y ∈ b := fun y => by
    by_cases hy : 0 ≤ y
    · have h1 := h y.toNat
      have e : ((y.toNat : Nat) : Int) = y := by omega
      rw [← e, ← listP_iff, ← listP_iff, h1]
    · exact ⟨fun h1 => absurd (ha.2 y h1) hy, fun h1 => absurd (hb.2 y h1) hy⟩
  have hp : a.Perm b := (List.perm_ext_iff_of_nodup (ha.1.imp fun h => by omega) (hb.1.imp fun h => by omega)).2 hab
  exact hp.eq_of_pairwise (fun x y _ _ h1 h2 => by omega) ha.1 hb.1
/-- Within another one: as long, or shorter. -/
theorem rise_len {a b : List Int} (ha : RiseL a) (hb : RiseL b) (h : Sub (listP a) (listP b)) : a.length ≤ b.length ∧ (b.length ≤ a.length → a = b) := by
  have hsub : ∀ y, y ∈ a → y ∈ b := fun y hy => by
    have e : ((y.toNat : Nat) : Int) = y := by have := ha.2 y hy; omega
    rw [← e, ← listP_iff]
    refine h _ ?_
    rw [listP_iff, e]; exact hy
  have he : a = b.filter (fun y => decide (y ∈ a)) := rise_listP ha (hb.filter _) fun n => by
    rw [Bool.eq_iff_iff, listP_iff, listP_iff, List.mem_filter, decide_eq_true_eq]
    exact ⟨fun h1 => ⟨hsub _ h1, h1⟩, fun h1 => h1.2⟩
  have hl := List.length_filter_le (fun y => decide (y ∈ a)) b
  rw [← he] at hl
  refine ⟨hl, fun hle => ?_⟩
  have h2 : (b.filter (fun y => decide (y ∈ a))).length = b.length := by rw [← he]; omega
  rw [List.length_filter_eq_length_iff] at h2
  rw [he, List.filter_eq_self]
  exact h2
/-- Registers as they may be. -/
def RegsOk (x : Ins) : Prop := x.a < 65536 ∧ x.b < 65536 ∧ ∀ r ∈ x.args, r < 65536
theorem listP_uses (x : Ins) (h : RegsOk x) (n : Nat) : listP (usesL x) n = askP x n := by
  rw [Bool.eq_iff_iff, listP_iff]
  unfold usesL askP
  rw [mem_foldl_put, mem_putL, mem_putL]
  unfold ofSet inR
  simp only [Bool.or_eq_true, List.any_eq_true, Bool.and_eq_true, decide_eq_true_eq, beq_iff_eq]
  constructor
  · rintro (((h1 | ⟨h1, h2⟩) | ⟨h1, h2⟩) | ⟨h1, h2⟩)
    · cases h1
    · exact .inl (.inr ⟨⟨h1, h.1⟩, by omega⟩)
    · exact .inr ⟨⟨h1, h.2.1⟩, by omega⟩
    · exact .inl (.inl ⟨_, h2, ⟨by omega, h.2.2 _ h2⟩, by omega⟩)
  · rintro ((⟨z, hz, ⟨h1, _⟩, h2⟩ | ⟨⟨h1, _⟩, h2⟩) | ⟨⟨h1, _⟩, h2⟩)
    · have e : (n : Int) = z := by omega
      exact .inr ⟨by omega, by rw [e]; exact hz⟩
    · exact .inl (.inl (.inr ⟨h1, by omega⟩))
    · exact .inl (.inr ⟨h1, by omega⟩)
theorem listP_ahead (x : Ins) (h : RegsOk x) (l : List Int) (n : Nat) : listP (aheadL x l) n = aheadP x (listP l) n := by
  have hu := listP_uses x h n
  unfold aheadP
  rw [← hu, Bool.eq_iff_iff, listP_iff]
  unfold aheadL
  rw [mem_foldl_put, List.mem_filter]
  simp only [Bool.or_eq_true, Bool.and_eq_true, decide_eq_true_eq, Bool.not_eq_true', listP_iff, Bool.and_eq_false_iff, beq_eq_false_iff_ne, decide_eq_false_iff_not, ne_eq]
  constructor
  · rintro (⟨h1, h2⟩ | ⟨_, h1⟩)
    · refine .inl ⟨h1, ?_⟩
      by_cases hd : 0 ≤ x.d
      · left; omega
      · right; exact hd
    · exact .inr h1
  · rintro (⟨h1, h2⟩ | h1)
    · refine .inl ⟨h1, ?_⟩
      rcases h2 with h2 | h2 <;> omega
    · exact .inr ⟨by omega, h1⟩
theorem listP_before (k : Blk) (hk : k.a < 65536) (l : List Int) (n : Nat) : listP (beforeL k l) n = endP k (listP l) n := by
  unfold beforeL endP
  by_cases h1 : k.kind = 1
  · rw [if_pos h1]; simp [h1]
  · rw [if_neg h1, Bool.eq_iff_iff, listP_iff, mem_putL]
    unfold inR
    simp only [Bool.or_eq_true, Bool.and_eq_true, decide_eq_true_eq, listP_iff, beq_iff_eq]
    constructor
    · rintro (h2 | ⟨h2, h3⟩)
      · exact .inl h2
      · exact .inr ⟨h1, ⟨h2, hk⟩, by omega⟩
    · rintro (h2 | ⟨_, ⟨h2, _⟩, h3⟩)
      · exact .inl h2
      · exact .inr ⟨h2, by omega⟩
theorem listP_nil (n : Nat) : listP [] n = false := rfl
end Go.Proofs.Ytlniohgnkihefaa
