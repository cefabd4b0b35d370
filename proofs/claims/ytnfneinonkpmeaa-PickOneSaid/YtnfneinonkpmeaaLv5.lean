/- Which instructions may be (brazierref12.mayIns). Written by genmay.py. -/
import Derived.Test.YtnfneinonkpmeaaLv2
namespace Go.Proofs.Ytnfneinonkpmeaa
open Go.RowKit
variable {T : Nat → Prop}

set_option maxRecDepth 100000 in
set_option maxHeartbeats 4000000 in
theorem mayIns_1 (op d a b num n : Int) (name : ByteArray) (args : List Int) (A : Option Addr) (c : Nat) (w : World) (hs : name.size ≤ maxLen) (hl : args.length ≤ maxLen) (hr : RdT w T A (ints args)) :
    Calls Try.prog 64 #[.agg #[.int .i64 1, .int .i64 op, .int .i64 d, .int .i64 a, .int .i64 b, .int .i32 num, .string name, .slice A args.length c], .int .i64 n] w
      (Told w (InsV n ⟨1, op, d, a, b, num, name, args⟩)) := by
  have HR := Lib.hid hr
  have HS := Lib.hid hs
  have hl' : args.length ≤ 9223372036854775807 := by unfold maxLen at hl; omega
  clear hr hs hl
  have HB : Hid (Below w.heap.size w (w.alloc (.cells #[.int .i64 1, .int .i64 op, .int .i64 d, .int .i64 a, .int .i64 b, .int .i32 num, .string name, .slice A args.length c] 54))) := Lib.hid ((Below.refl _ _).alloc (Nat.le_refl _) _)
  go_enter Try.func64, Try.ntmps64
  go_wp2_with fail
  refine (reg12_any d n false _).mono ?_
  rintro e w1 ⟨rfl, rfl⟩
  rcases Bool.eq_false_or_eq_true (regB d n false) with h | h
  case' inr => rw [h]; go_wp2_with fail; go_ret; exact ⟨false, rfl, HB.out, fun h => by cases h⟩
  rw [h]
  have HD := Lib.hid h
  clear h
  by_cases h : a = -1
  case' neg => go_wp2_with fail; go_ret; exact ⟨false, rfl, HB.out, fun h => by cases h⟩
  subst h
  by_cases h : b = -1
  case' neg => go_wp2_with fail; go_ret; exact ⟨false, rfl, HB.out, fun h => by cases h⟩
  subst h
  rcases Bool.eq_false_or_eq_true name.toList.isEmpty with h | h
  case' inr => go_wp2_with fail; go_ret; exact ⟨false, rfl, HB.out, fun h => by cases h⟩
  obtain rfl := empty_of h
  clear h
  by_cases h : op = 0
  case' neg => go_wp2_with fail; go_ret; exact ⟨false, rfl, HB.out, fun h => by cases h⟩
  subst h
  cases args with
  | cons y args =>
    simp only [List.length_cons] at hl'
    by_cases h8 : 8 < args.length + 1
    · go_wp2_with fail; go_ret; exact ⟨false, rfl, HB.out, fun h => by cases h⟩
    · go_wp2_with fail; go_ret; exact ⟨false, rfl, HB.out, fun h => by cases h⟩
  | nil =>
    go_wp2_with fail
    refine wp_loop_rounds 1 ?_
    rw [rounds_succ]
    go_wp2_with fail
    go_ret
    exact ⟨true, rfl, HB.out, fun _ => .num d num HD.out⟩

set_option maxRecDepth 100000 in
set_option maxHeartbeats 4000000 in
theorem mayIns_2 (op d a b num n : Int) (name : ByteArray) (args : List Int) (A : Option Addr) (c : Nat) (w : World) (hs : name.size ≤ maxLen) (hl : args.length ≤ maxLen) (hr : RdT w T A (ints args)) :
    Calls Try.prog 64 #[.agg #[.int .i64 2, .int .i64 op, .int .i64 d, .int .i64 a, .int .i64 b, .int .i32 num, .string name, .slice A args.length c], .int .i64 n] w
      (Told w (InsV n ⟨2, op, d, a, b, num, name, args⟩)) := by
  have HR := Lib.hid hr
  have HS := Lib.hid hs
  have hl' : args.length ≤ 9223372036854775807 := by unfold maxLen at hl; omega
  clear hr hs hl
  have HB : Hid (Below w.heap.size w (w.alloc (.cells #[.int .i64 2, .int .i64 op, .int .i64 d, .int .i64 a, .int .i64 b, .int .i32 num, .string name, .slice A args.length c] 54))) := Lib.hid ((Below.refl _ _).alloc (Nat.le_refl _) _)
  go_enter Try.func64, Try.ntmps64
  go_wp2_with fail
  refine (reg12_any d n false _).mono ?_
  rintro e w1 ⟨rfl, rfl⟩
  rcases Bool.eq_false_or_eq_true (regB d n false) with h | h
  case' inr => rw [h]; go_wp2_with fail; go_ret; exact ⟨false, rfl, HB.out, fun h => by cases h⟩
  rw [h]
  have HD := Lib.hid h
  clear h
  go_wp2_with fail
  refine (reg12_any a n false _).mono ?_
  rintro e w1 ⟨rfl, rfl⟩
  rcases Bool.eq_false_or_eq_true (regB a n false) with h | h
  case' inr => rw [h]; go_wp2_with fail; go_ret; exact ⟨false, rfl, HB.out, fun h => by cases h⟩
  rw [h]
  have HA := Lib.hid h
  clear h
  by_cases h : b = -1
  case' neg => go_wp2_with fail; go_ret; exact ⟨false, rfl, HB.out, fun h => by cases h⟩
  subst h
  rcases Bool.eq_false_or_eq_true name.toList.isEmpty with h | h
  case' inr => go_wp2_with fail; go_ret; exact ⟨false, rfl, HB.out, fun h => by cases h⟩
  obtain rfl := empty_of h
  clear h
  by_cases h : num = 0
  case' neg => go_wp2_with fail; go_ret; exact ⟨false, rfl, HB.out, fun h => by cases h⟩
  subst h
  by_cases h : op = 0
  case' neg => go_wp2_with fail; go_ret; exact ⟨false, rfl, HB.out, fun h => by cases h⟩
  subst h
  cases args with
  | cons y args =>
    simp only [List.length_cons] at hl'
    by_cases h8 : 8 < args.length + 1
    · go_wp2_with fail; go_ret; exact ⟨false, rfl, HB.out, fun h => by cases h⟩
    · go_wp2_with fail; go_ret; exact ⟨false, rfl, HB.out, fun h => by cases h⟩
  | nil =>
    go_wp2_with fail
    refine wp_loop_rounds 1 ?_
    rw [rounds_succ]
    go_wp2_with fail
    go_ret
    exact ⟨true, rfl, HB.out, fun _ => .copy d a HD.out HA.out⟩

set_option maxRecDepth 100000 in
set_option maxHeartbeats 4000000 in
theorem mayIns_3 (op d a b num n : Int) (name : ByteArray) (args : List Int) (A : Option Addr) (c : Nat) (w : World) (hs : name.size ≤ maxLen) (hl : args.length ≤ maxLen) (hr : RdT w T A (ints args)) :
    Calls Try.prog 64 #[.agg #[.int .i64 3, .int .i64 op, .int .i64 d, .int .i64 a, .int .i64 b, .int .i32 num, .string name, .slice A args.length c], .int .i64 n] w
      (Told w (InsV n ⟨3, op, d, a, b, num, name, args⟩)) := by
  have HR := Lib.hid hr
  have HS := Lib.hid hs
  have hl' : args.length ≤ 9223372036854775807 := by unfold maxLen at hl; omega
  clear hr hs hl
  have HB : Hid (Below w.heap.size w (w.alloc (.cells #[.int .i64 3, .int .i64 op, .int .i64 d, .int .i64 a, .int .i64 b, .int .i32 num, .string name, .slice A args.length c] 54))) := Lib.hid ((Below.refl _ _).alloc (Nat.le_refl _) _)
  go_enter Try.func64, Try.ntmps64
  go_wp2_with fail
  refine (reg12_any d n false _).mono ?_
  rintro e w1 ⟨rfl, rfl⟩
  rcases Bool.eq_false_or_eq_true (regB d n false) with h | h
  case' inr => rw [h]; go_wp2_with fail; go_ret; exact ⟨false, rfl, HB.out, fun h => by cases h⟩
  rw [h]
  have HD := Lib.hid h
  clear h
  go_wp2_with fail
  refine (reg12_any a n false _).mono ?_
  rintro e w1 ⟨rfl, rfl⟩
  rcases Bool.eq_false_or_eq_true (regB a n false) with h | h
  case' inr => rw [h]; go_wp2_with fail; go_ret; exact ⟨false, rfl, HB.out, fun h => by cases h⟩
  rw [h]
  have HA := Lib.hid h
  clear h
  by_cases h : b = -1
  case' neg => go_wp2_with fail; go_ret; exact ⟨false, rfl, HB.out, fun h => by cases h⟩
  subst h
  rcases Bool.eq_false_or_eq_true name.toList.isEmpty with h | h
  case' inr => go_wp2_with fail; go_ret; exact ⟨false, rfl, HB.out, fun h => by cases h⟩
  obtain rfl := empty_of h
  clear h
  by_cases h : num = 0
  case' neg => go_wp2_with fail; go_ret; exact ⟨false, rfl, HB.out, fun h => by cases h⟩
  subst h
  by_cases h1 : op < 19
  case' pos => go_wp2_with fail; go_ret; exact ⟨false, rfl, HB.out, fun h => by cases h⟩
  by_cases h2 : 21 < op
  case' pos => go_wp2_with fail; go_ret; exact ⟨false, rfl, HB.out, fun h => by cases h⟩
  cases args with
  | cons y args =>
    simp only [List.length_cons] at hl'
    by_cases h8 : 8 < args.length + 1
    · go_wp2_with fail; go_ret; exact ⟨false, rfl, HB.out, fun h => by cases h⟩
    · go_wp2_with fail; go_ret; exact ⟨false, rfl, HB.out, fun h => by cases h⟩
  | nil =>
    go_wp2_with fail
    refine wp_loop_rounds 1 ?_
    rw [rounds_succ]
    go_wp2_with fail
    go_ret
    exact ⟨true, rfl, HB.out, fun _ => .un op d a ⟨by omega, by omega⟩ HD.out HA.out⟩
end Go.Proofs.Ytnfneinonkpmeaa
