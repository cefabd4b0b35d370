/- The words of a set of numbers: has, put, drop, join, minus in plain lists of words. -/
import Derived.Laws.BitsAllLaws
namespace Go.Proofs.Ytlniohgnkihefaa
open Go

/-- Is bit n set? -/
def memW (ws : List Nat) (n : Nat) : Bool := (ws.getD (n / 64) 0).testBit (n % 64)
def big64 : Nat := 18446744073709551616
theorem big64_eq : big64 = 2 ^ 64 := by decide

theorem memW_none (ws : List Nat) (n : Nat) (h : ws.length ≤ n / 64) : memW ws n = false := by
  unfold memW
  rw [List.getD_eq_getElem?_getD, List.getElem?_eq_none h]
  simp

theorem memW_zeros (ws : List Nat) (k n : Nat) : memW (ws ++ List.replicate k 0) n = memW ws n := by
  unfold memW
  by_cases h : n / 64 < ws.length
  · simp [List.getD_eq_getElem?_getD, List.getElem?_append_left h]
  · rw [List.getD_eq_getElem?_getD, List.getElem?_append_right (by omega), List.getD_eq_getElem?_getD, List.getElem?_eq_none (l := ws) (by omega)]
    simp only [List.getElem?_replicate]
    split <;> simp

theorem memW_snoc (ws : List Nat) (n : Nat) : memW (ws ++ [0]) n = memW ws n := memW_zeros ws 1 n

theorem memW_set (ws : List Nat) (i x n : Nat) (hi : i < ws.length) : memW (ws.set i x) n = if n / 64 = i then x.testBit (n % 64) else memW ws n := by
  unfold memW
  simp only [List.getD_eq_getElem?_getD]
  by_cases h : n / 64 = i
  · rw [if_pos h, h, List.getElem?_set_self hi]; rfl
  · rw [if_neg h, List.getElem?_set_ne (by omega)]

theorem memW_put (ws : List Nat) (k n : Nat) (hi : k / 64 < ws.length) : memW (ws.set (k / 64) (ws.getD (k / 64) 0 ||| 2 ^ (k % 64))) n = (memW ws n || n == k) := by
  rw [memW_set _ _ _ _ hi]
  by_cases h : n / 64 = k / 64
  · rw [if_pos h, Nat.testBit_or, Nat.testBit_two_pow]
    unfold memW
    rw [h]
    congr 1
    rw [Bool.eq_iff_iff]
    simp
    omega
  · rw [if_neg h]
    have : (n == k) = false := by simp; intro e; exact h (by rw [e])
    rw [this, Bool.or_false]

theorem testBit_not64 (x i : Nat) (hx : x < big64) (hi : i < 64) : (big64 - 1 - x).testBit i = !x.testBit i := by
  rw [big64_eq] at *
  rw [Nat.sub_sub, Nat.add_comm 1 x, Nat.testBit_two_pow_sub_succ hx]
  simp [hi]

theorem memW_drop (ws : List Nat) (k n : Nat) (hi : k / 64 < ws.length) : memW (ws.set (k / 64) (ws.getD (k / 64) 0 &&& (big64 - 1 - 2 ^ (k % 64)))) n = (memW ws n && !(n == k)) := by
  rw [memW_set _ _ _ _ hi]
  by_cases h : n / 64 = k / 64
  · rw [if_pos h, Nat.testBit_and, testBit_not64 _ _ (by rw [big64_eq]; exact Nat.pow_lt_pow_right (by omega) (by omega)) (by omega), Nat.testBit_two_pow]
    unfold memW
    rw [h]
    congr 1
    rw [Bool.eq_iff_iff]
    simp
    omega
  · rw [if_neg h]
    have : (n == k) = false := by simp; intro e; exact h (by rw [e])
    simp [this]

theorem or_lt64 {a b : Nat} (ha : a < big64) (hb : b < big64) : a ||| b < big64 := by rw [big64_eq] at *; exact Nat.or_lt_two_pow ha hb
theorem and_lt64 {a b : Nat} (ha : a < big64) : a &&& b < big64 := Nat.lt_of_le_of_lt Nat.and_le_left ha
theorem pow_lt64 {j : Nat} (hj : j < 64) : 2 ^ j < big64 := by rw [big64_eq]; exact Nat.pow_lt_pow_right (by omega) hj

/-- A word is 0 just where none of its bits is set. -/
theorem word_zero (x : Nat) (hx : x < big64) : x = 0 ↔ ∀ i, i < 64 → x.testBit i = false := by
  constructor
  · intro h i _; subst h; simp
  · intro h
    apply Nat.eq_of_testBit_eq
    intro i
    rw [Nat.zero_testBit]
    by_cases hi : i < 64
    · exact h i hi
    · rw [big64_eq] at hx
      exact Nat.testBit_lt_two_pow (Nat.lt_of_lt_of_le hx (Nat.pow_le_pow_right (by omega) (by omega)))
end Go.Proofs.Ytlniohgnkihefaa
