/- The makers of one instruction: three, with, to, short, plain, turns. -/
import Derived.Test.YtnfneinonkpmeaaPut
import Derived.Handy
namespace Go.Proofs.Ytnfneinonkpmeaa
open Go.RowKit

def vinsAgg (x : Vins) : Value := .agg #[.int .i64 x.op, .int .i64 x.d, .int .i64 x.a, .int .i64 x.b, .int .i32 x.num, .string x.name, .slice none 0 0]
def threeS (op d a b : Int) : Vins := ⟨op, d, a, b, 0, ⟨#[]⟩, []⟩
def withS (op d a n : Int) : Vins := ⟨op, d, a, -1, n, ⟨#[]⟩, []⟩

theorem three_any (op d a b : Int) (w : World) :
    Calls Try.prog 34 #[.int .i64 op, .int .i64 d, .int .i64 a, .int .i64 b] w fun e w' => e = .returned (.agg #[.int .i64 op, .int .i64 d, .int .i64 a, .int .i64 b, .int .i32 0, .string ⟨#[]⟩, .slice none 0 0]) ∧ Below w.heap.size w w' := by
  go_enter Try.func34, Try.ntmps34
  go_wp2
  go_returns
  exact ⟨rfl, (Below.refl _ _).alloc (Nat.le_refl _) _⟩
theorem with_any (op d a n : Int) (w : World) :
    Calls Try.prog 49 #[.int .i64 op, .int .i64 d, .int .i64 a, .int .i32 n] w fun e w' => e = .returned (.agg #[.int .i64 op, .int .i64 d, .int .i64 a, .int .i64 (-1), .int .i32 n, .string ⟨#[]⟩, .slice none 0 0]) ∧ Below w.heap.size w w' := by
  go_enter Try.func49, Try.ntmps49
  go_wp2
  go_returns
  exact ⟨rfl, (Below.refl _ _).alloc (Nat.le_refl _) _⟩
theorem to_any (op a n : Int) (hn : I32 n) (w : World) :
    Calls Try.prog 21 #[.int .i64 op, .int .i64 a, .int .i64 n] w fun e w' => e = .returned (.agg #[.int .i64 op, .int .i64 (-1), .int .i64 a, .int .i64 (-1), .int .i32 n, .string ⟨#[]⟩, .slice none 0 0]) ∧ Below w.heap.size w w' := by
  have h1 := hn.1
  have h2 := hn.2
  clear hn
  go_enter Try.func21, Try.ntmps21
  go_wp2
  go_returns
  exact ⟨rfl, (Below.refl _ _).alloc (Nat.le_refl _) _⟩
def plainS (op : Int) : Int := if op = 1 then 11 else if op = 2 then 12 else if op = 3 then 21 else if op = 4 then 22 else if op = 5 then 23 else if op = 6 then 13 else if op = 7 then 18 else if op = 8 then 20 else if op = 9 then 19 else if op = 10 then 16 else if op = 11 then 14 else 0
theorem op_cases {op : Int} (h : 1 ≤ op ∧ op ≤ 16) : op = 1 ∨ op = 2 ∨ op = 3 ∨ op = 4 ∨ op = 5 ∨ op = 6 ∨ op = 7 ∨ op = 8 ∨ op = 9 ∨ op = 10 ∨ op = 11 ∨ op = 12 ∨ op = 13 ∨ op = 14 ∨ op = 15 ∨ op = 16 := by omega
theorem plain_any (op : Int) (ho : 1 ≤ op ∧ op ≤ 16) (w : World) : Calls Try.prog 52 #[.int .i64 op] w fun e w' => e = .returned (.int .i64 (plainS op)) ∧ w = w' := by
  rcases op_cases ho with rfl | rfl | rfl | rfl | rfl | rfl | rfl | rfl | rfl | rfl | rfl | rfl | rfl | rfl | rfl | rfl <;>
  (go_enter Try.func52, Try.ntmps52
   go_wp2
   go_ret
   exact ⟨rfl, rfl⟩)
def turnsS (op : Int) : Bool := decide (op = 1) || decide (op = 8) || decide (op = 9) || decide (op = 10)
theorem turns_any (op : Int) (ho : 1 ≤ op ∧ op ≤ 16) (w : World) : Calls Try.prog 51 #[.int .i64 op] w fun e w' => e = .returned (.bool (turnsS op)) ∧ w = w' := by
  rcases op_cases ho with rfl | rfl | rfl | rfl | rfl | rfl | rfl | rfl | rfl | rfl | rfl | rfl | rfl | rfl | rfl | rfl <;>
  (go_enter Try.func51, Try.ntmps51
   go_wp2
   go_ret
   exact ⟨rfl, rfl⟩)
def fits12 (n : Int) : Bool := decide (-2048 ≤ n) && decide (n < 2048)
theorem Fits_any (n : Int) (hn : I32 n) (w : World) : Calls Try.prog 66 #[.int .i32 n, .int .i64 12] w fun e w' => e = .returned (.bool (fits12 n)) ∧ w = w' := by
  have h1 := hn.1
  have h2 := hn.2
  clear hn
  unfold fits12
  by_cases h3 : -2048 ≤ n <;> by_cases h4 : n < 2048 <;>
  (go_enter Try.func66, Try.ntmps66
   go_wp2
   go_ret
   refine ⟨ret_bool ?_, rfl⟩
   refine Bool.eq_iff_iff.2 ?_; first | (simp; done) | (simp; omega))
end Go.Proofs.Ytnfneinonkpmeaa
