/- brazierref03's rows against a set's numbers: plain laws. -/
import Derived.Test.YtdnlgcomhgnegaaDoorSame03
import Derived.Test.YtdnlgcomhgnegaaDoorListW
import Derived.Test.YtdnlgcomhgnegaaDoorBitsF
namespace Go.Proofs.YtdnlgcomhgnegaaDoor
open Go Go.RowKit

theorem mem_putL (l : List Int) (n z : Int) : z ∈ putL l n ↔ z ∈ l ∨ (0 ≤ n ∧ n < 65536 ∧ z = n) := by
  unfold putL
  by_cases h : n < 0 ∨ 65535 < n ∨ hasL l n = true
  · rw [if_pos h]
    constructor
    · exact .inl
    · rintro (h' | ⟨h1, h2, rfl⟩)
      · exact h'
      · rcases h with h | h | h
        · omega
        · omega
        · unfold hasL at h
          rw [List.any_eq_true] at h
          obtain ⟨x, hx, he⟩ := h
          obtain rfl := of_decide_eq_true he
          exact hx
  · rw [if_neg h]
    simp only [List.mem_append, List.mem_filter, decide_eq_true_eq, List.mem_singleton]
    constructor
    · rintro ((⟨h1, _⟩ | h1) | ⟨h1, _⟩)
      · exact .inl h1
      · exact .inr ⟨by omega, by omega, h1⟩
      · exact .inl h1
    · rintro (h1 | ⟨_, _, rfl⟩)
      · rcases Int.lt_trichotomy z n with h2 | h2 | h2
        · exact .inl (.inl ⟨h1, h2⟩)
        · exact .inl (.inr h2)
        · exact .inr ⟨h1, h2⟩
      · exact .inl (.inr rfl)
theorem putL_rising (l : List Int) (n : Int) (h : l.Pairwise (· < ·)) : (putL l n).Pairwise (· < ·) := by
  unfold putL
  split
  · exact h
  · rw [List.pairwise_append, List.pairwise_append]
    refine ⟨⟨h.filter _, List.pairwise_singleton _ _, ?_⟩, h.filter _, ?_⟩
    · intro a ha b hb
      rw [List.mem_singleton] at hb
      simp at ha
      omega
    · intro a ha b hb
      simp at ha hb
      omega
theorem dropL_rising (l : List Int) (n : Int) (h : l.Pairwise (· < ·)) : (dropL l n).Pairwise (· < ·) := h.filter _
theorem mem_dropL (l : List Int) (n z : Int) : z ∈ dropL l n ↔ z ∈ l ∧ z ≠ n := by
  unfold dropL
  rw [List.mem_filter, decide_eq_true_eq]
theorem listW_len (ws : List Nat) (h : ws.length ≤ 1024) : (listW ws).length ≤ 65536 := by
  unfold listW upToL
  have h1 := List.length_filter_le (memW ws) (List.range (64 * ws.length))
  rw [List.length_range] at h1
  rw [List.length_map]
  omega
theorem lenW_listW (ws : List Nat) : lenW ws = (listW ws).length := by
  rw [lenW_count]; unfold listW upToL; rw [List.length_map]
theorem mem_listW' (ws : List Nat) (n : Int) : n ∈ listW ws ↔ hasW ws n = true := by
  rw [mem_listW]
  unfold hasW
  simp only [Bool.and_eq_true, decide_eq_true_eq]
  constructor
  · rintro ⟨k, rfl, h⟩; exact ⟨by omega, by simpa using h⟩
  · rintro ⟨h, h'⟩; exact ⟨n.toNat, by omega, h'⟩
theorem hasL_listW (ws : List Nat) (n : Int) : hasL (listW ws) n = hasW ws n := by
  rw [Bool.eq_iff_iff, ← mem_listW']
  unfold hasL
  rw [List.any_eq_true]
  constructor
  · rintro ⟨x, hx, he⟩
    obtain rfl := of_decide_eq_true he
    exact hx
  · intro h; exact ⟨n, h, by simp⟩
/-- What a number's Put makes of a set's row. -/
theorem putL_listW (ws ws' : List Nat) (n : Int) (h : ∀ m, memW ws' m = (memW ws m || (putOk ws n && m == n.toNat))) : putL (listW ws) n = listW ws' := by
  refine rising_eq (putL_rising _ _ (listW_rising _)) (listW_rising _) fun z => ?_
  rw [mem_putL, mem_listW, mem_listW]
  constructor
  · rintro (⟨k, rfl, hk⟩ | ⟨h0, h1, rfl⟩)
    · exact ⟨k, rfl, by rw [h, hk]; rfl⟩
    · refine ⟨z.toNat, by omega, ?_⟩
      rw [h, put_mem]
      simp [inR, h0, h1]
  · rintro ⟨k, rfl, hk⟩
    rw [h, put_mem] at hk
    rcases Bool.or_eq_true_iff.1 hk with hk | hk
    · exact .inl ⟨k, rfl, hk⟩
    · simp [inR] at hk
      exact .inr ⟨by omega, by omega, by omega⟩
theorem dropL_listW (ws ws' : List Nat) (n : Int) (h : ∀ m, memW ws' m = (memW ws m && !(hasW ws n && m == n.toNat))) : dropL (listW ws) n = listW ws' := by
  refine rising_eq (dropL_rising _ _ (listW_rising _)) (listW_rising _) fun z => ?_
  rw [mem_dropL, mem_listW, mem_listW]
  constructor
  · rintro ⟨⟨k, rfl, hk⟩, hne⟩
    refine ⟨k, rfl, ?_⟩
    rw [h, hk]
    simp only [Bool.true_and, Bool.not_eq_true', Bool.and_eq_false_iff]
    by_cases h0 : hasW ws n = true
    · refine .inr ?_
      have : 0 ≤ n := by unfold hasW at h0; simp at h0; exact h0.1
      simp; omega
    · exact .inl (by simpa using h0)
  · rintro ⟨k, rfl, hk⟩
    rw [h] at hk
    simp only [Bool.and_eq_true, Bool.not_eq_true', Bool.and_eq_false_iff] at hk
    refine ⟨⟨k, rfl, hk.1⟩, ?_⟩
    rintro rfl
    rcases hk.2 with h1 | h1
    · unfold hasW at h1
      simp [hk.1] at h1
    · simp at h1
theorem putL_len (l : List Int) (n : Int) : (putL l n).length = if n < 0 ∨ 65535 < n ∨ hasL l n = true then l.length else l.length + 1 := by
  unfold putL
  by_cases h : n < 0 ∨ 65535 < n ∨ hasL l n = true
  · rw [if_pos h, if_pos h]
  · rw [if_neg h, if_neg h]
    have hn : ∀ x ∈ l, x ≠ n := fun x hx e => h (.inr (.inr (by unfold hasL; rw [List.any_eq_true]; exact ⟨x, hx, by simpa using e⟩)))
    clear h
    rw [List.length_append, List.length_append, List.length_singleton]
    have : (l.filter fun x => decide (x < n)).length + (l.filter fun x => decide (n < x)).length = l.length := by
      induction l with
      | nil => rfl
      | cons y l ih =>
        have ih' := ih fun x hx => hn x (by simp [hx])
        have hy := hn y (by simp)
        rw [List.filter_cons, List.filter_cons, List.length_cons]
        rcases Int.lt_trichotomy y n with h2 | h2 | h2
        · rw [if_pos (by simpa using h2), if_neg (by simp; omega), List.length_cons]; omega
        · exact absurd h2 hy
        · rw [if_neg (by simp; omega), if_pos (by simpa using h2), List.length_cons]; omega
    omega
/-- Did Put put it? The row's length tells. -/
theorem put_gain (ws : List Nat) (n : Int) : putOk ws n = decide (((listW ws).length : Int) < ((putL (listW ws) n).length : Int)) := by
  rw [putL_len, hasL_listW, Bool.eq_iff_iff, decide_eq_true_eq]
  unfold putOk hasW
  by_cases h : n < 0 ∨ 65535 < n ∨ (decide (0 ≤ n) && memW ws n.toNat) = true
  · rw [if_pos h]
    simp only [Bool.and_eq_true, decide_eq_true_eq, Bool.not_eq_true'] at h ⊢
    constructor
    · rintro ⟨⟨h1, h2⟩, h3⟩
      rw [h3] at h
      rcases h with h | h | h
      · omega
      · omega
      · exact absurd h.2 (by decide)
    · omega
  · rw [if_neg h]
    simp only [Bool.and_eq_true, decide_eq_true_eq, Bool.not_eq_true', not_or] at h ⊢
    constructor
    · omega
    · intro _
      refine ⟨⟨by omega, by omega⟩, ?_⟩
      cases hm : memW ws n.toNat
      · rfl
      · exact absurd ⟨by omega, hm⟩ h.2.2
theorem filter_lt {α : Type} (p : α → Bool) (l : List α) (x : α) (hx : x ∈ l) (hp : p x = false) : (l.filter p).length < l.length := by
  induction l with
  | nil => cases hx
  | cons y l ih =>
    rw [List.filter_cons, List.length_cons]
    have := List.length_filter_le p l
    rcases List.mem_cons.1 hx with rfl | h
    · rw [if_neg (by simp [hp])]; omega
    · split
      · rw [List.length_cons]; have := ih h; omega
      · omega
theorem drop_loss (ws : List Nat) (n : Int) : hasW ws n = decide (((dropL (listW ws) n).length : Int) < ((listW ws).length : Int)) := by
  rw [Bool.eq_iff_iff, decide_eq_true_eq, ← mem_listW']
  constructor
  · intro h
    have := filter_lt (fun x => decide (x ≠ n)) (listW ws) n h (by simp)
    unfold dropL
    omega
  · intro h
    refine Decidable.byContradiction fun hn => ?_
    have : dropL (listW ws) n = listW ws := by
      unfold dropL
      rw [List.filter_eq_self]
      intro x hx
      refine decide_eq_true ?_
      rintro rfl
      exact hn hx
    rw [this] at h
    omega
theorem putL_length_le (l : List Int) (n : Int) : (putL l n).length ≤ l.length + 1 := by
  rw [putL_len]; split <;> omega
end Go.Proofs.YtdnlgcomhgnegaaDoor
