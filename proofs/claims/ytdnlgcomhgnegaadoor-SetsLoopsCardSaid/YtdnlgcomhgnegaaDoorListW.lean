/- The numbers of a set, rising; a word's lowest bit. -/
import Derived.Test.YtdnlgcomhgnegaaDoorBits0
import Derived.Lib.TrailingZeros
namespace Go.Proofs.YtdnlgcomhgnegaaDoor
open Go

/-- The numbers below n that are in the set, rising. -/
def upToL (ws : List Nat) (n : Nat) : List Int := ((List.range n).filter (memW ws)).map fun (k : Nat) => (k : Int)
def listW (ws : List Nat) : List Int := upToL ws (64 * ws.length)
theorem upToL_zero (ws : List Nat) : upToL ws 0 = [] := rfl
theorem upToL_hit (ws : List Nat) (k : Nat) (h : memW ws k = true) : upToL ws (k + 1) = upToL ws k ++ [(k : Int)] := by
  unfold upToL
  rw [List.range_succ, List.filter_append]
  simp [h]
theorem upToL_miss (ws : List Nat) (k : Nat) (h : memW ws k = false) : upToL ws (k + 1) = upToL ws k := by
  unfold upToL
  rw [List.range_succ, List.filter_append]
  simp [h]
theorem upToL_gap (ws : List Nat) (a d : Nat) (h : ∀ m, a ≤ m → m < a + d → memW ws m = false) : upToL ws (a + d) = upToL ws a := by
  induction d with
  | zero => rfl
  | succ d ih =>
    rw [← Nat.add_assoc, upToL_miss ws (a + d) (h _ (by omega) (by omega))]
    exact ih fun m h1 h2 => h m h1 (by omega)
theorem upToL_add (ws : List Nat) (a d : Nat) : ∃ l, upToL ws (a + d) = upToL ws a ++ l := by
  induction d with
  | zero => exact ⟨[], by simp⟩
  | succ d ih =>
    obtain ⟨l, hl⟩ := ih
    cases h : memW ws (a + d) with
    | true => exact ⟨l ++ [((a + d : Nat) : Int)], by rw [← Nat.add_assoc, upToL_hit ws _ h, hl, List.append_assoc]⟩
    | false => exact ⟨l, by rw [← Nat.add_assoc, upToL_miss ws _ h, hl]⟩
theorem upToL_prefix (ws : List Nat) {a b : Nat} (h : a ≤ b) : upToL ws a <+: upToL ws b := by
  obtain ⟨l, hl⟩ := upToL_add ws a (b - a)
  rw [Nat.add_sub_cancel' h] at hl
  exact ⟨l, hl.symm⟩
theorem upToL_lt (ws : List Nat) (k : Nat) (h : memW ws k = true) (hk : k < 64 * ws.length) : (upToL ws k).length < (listW ws).length := by
  have h1 := (upToL_prefix ws (show k + 1 ≤ 64 * ws.length from hk)).length_le
  rw [upToL_hit ws k h, List.length_append, List.length_singleton] at h1
  exact h1
theorem mem_upToL (ws : List Nat) (n : Nat) (z : Int) : z ∈ upToL ws n ↔ ∃ k : Nat, z = k ∧ k < n ∧ memW ws k = true := by
  unfold upToL
  simp only [List.mem_map, List.mem_filter, List.mem_range]
  constructor
  · rintro ⟨k, ⟨h1, h2⟩, rfl⟩; exact ⟨k, rfl, h1, h2⟩
  · rintro ⟨k, rfl, h1, h2⟩; exact ⟨k, ⟨h1, h2⟩, rfl⟩
theorem mem_listW (ws : List Nat) (z : Int) : z ∈ listW ws ↔ ∃ k : Nat, z = k ∧ memW ws k = true := by
  unfold listW
  rw [mem_upToL]
  constructor
  · rintro ⟨k, h1, _, h3⟩; exact ⟨k, h1, h3⟩
  · rintro ⟨k, h1, h3⟩
    refine ⟨k, h1, ?_, h3⟩
    rcases Nat.lt_or_ge k (64 * ws.length) with h | h
    · exact h
    · rw [memW_none ws k (by omega)] at h3; cases h3
theorem upToL_rising (ws : List Nat) (n : Nat) : (upToL ws n).Pairwise (· < ·) := by
  unfold upToL
  rw [List.pairwise_map]
  exact (List.pairwise_lt_range.filter _).imp fun h => by omega
theorem listW_rising (ws : List Nat) : (listW ws).Pairwise (· < ·) := upToL_rising _ _
/-- Two rising rows of the same numbers are one. -/
theorem rising_eq {a b : List Int} (ha : a.Pairwise (· < ·)) (hb : b.Pairwise (· < ·)) (h : ∀ z, z ∈ a ↔ z ∈ b) : a = b := by
  induction a generalizing b with
  | nil =>
    cases b with
    | nil => rfl
    | cons y b => exact absurd ((h y).2 (by simp)) (by simp)
  | cons x a ih =>
    cases b with
    | nil => exact absurd ((h x).1 (by simp)) (by simp)
    | cons y b =>
      have hx := List.pairwise_cons.1 ha
      have hy := List.pairwise_cons.1 hb
      have hxy : x = y := by
        rcases List.mem_cons.1 ((h x).1 (by simp)) with e | e
        · exact e
        · rcases List.mem_cons.1 ((h y).2 (by simp)) with e' | e'
          · exact e'.symm
          · have h1 := hy.1 x e
            have h2 := hx.1 y e'
            omega
      subst hxy
      congr 1
      refine ih hx.2 hy.2 fun z => ⟨fun hz => ?_, fun hz => ?_⟩
      · rcases List.mem_cons.1 ((h z).1 (by simp [hz])) with e | e
        · have := hx.1 z hz; omega
        · exact e
      · rcases List.mem_cons.1 ((h z).2 (by simp [hz])) with e | e
        · have := hy.1 z hz; omega
        · exact e

/-- A word's lowest bit, and the word without it. -/
theorem low_bit (x : Nat) (h0 : x ≠ 0) (h : x < 18446744073709551616) : Lib.ctz 64 x < 64 ∧ x.testBit (Lib.ctz 64 x) = true ∧ (∀ j, j < Lib.ctz 64 x → x.testBit j = false) ∧
    (x &&& (x - 1)) < x ∧ ∀ j, (x &&& (x - 1)).testBit j = (decide (Lib.ctz 64 x + 1 ≤ j) && x.testBit j) := by
  obtain ⟨hlow, hk⟩ := Lib.lowest_bit 64 x h0 h
  obtain ⟨m, hm, _⟩ := Lib.ctzFrom_spec 64 x (by omega) h
  have hc : Lib.ctz 64 x = Lib.ctzFrom 64 x := by unfold Lib.ctz; rw [if_neg h0]
  rw [hc] at hk ⊢
  generalize Lib.ctzFrom 64 x = k at hm hk ⊢
  have hp : 0 < 2 ^ k := Nat.pow_pos (by omega)
  have hx : x = 2 ^ (k + 1) * m + 2 ^ k := by rw [hm, Nat.mul_add, Nat.mul_one, ← Nat.mul_assoc, Nat.pow_succ]
  have hx1 : x - 1 = 2 ^ (k + 1) * m + (2 ^ k - 1) := by omega
  have hlt : 2 ^ k < 2 ^ (k + 1) := by rw [Nat.pow_succ]; omega
  have hb : ∀ j, x.testBit j = if j < k + 1 then decide (k = j) else m.testBit (j - (k + 1)) := fun j => by rw [hx, Nat.testBit_two_pow_mul_add m hlt, Nat.testBit_two_pow]
  have hb1 : ∀ j, (x - 1).testBit j = if j < k + 1 then decide (j < k) else m.testBit (j - (k + 1)) := fun j => by rw [hx1, Nat.testBit_two_pow_mul_add m (by omega), Nat.testBit_two_pow_sub_one]
  have hand : ∀ j, (x &&& (x - 1)).testBit j = (decide (k + 1 ≤ j) && x.testBit j) := by
    intro j
    rw [Nat.testBit_and, hb, hb1]
    by_cases hj : j < k + 1
    · rw [if_pos hj, if_pos hj]
      have : ¬ (k + 1 ≤ j) := by omega
      by_cases e : k = j
      · subst e; simp
      · simp [e, this]
    · rw [if_neg hj, if_neg hj]
      have : k + 1 ≤ j := by omega
      simp [this]
  refine ⟨hk, by rw [hb, if_pos (by omega)]; simp, fun j hj => by rw [hb, if_pos (by omega)]; simp; omega, ?_, hand⟩
  have := Nat.and_le_right (n := x) (m := x - 1)
  omega
end Go.Proofs.YtdnlgcomhgnegaaDoor
