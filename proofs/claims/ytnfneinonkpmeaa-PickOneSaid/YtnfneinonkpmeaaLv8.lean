/- Which instructions may be: the kinds together. -/
import Derived.Test.YtnfneinonkpmeaaLv5
import Derived.Test.YtnfneinonkpmeaaLv6
import Derived.Test.YtnfneinonkpmeaaLv7
namespace Go.Proofs.Ytnfneinonkpmeaa
open Go.RowKit
variable {T : Nat → Prop}
set_option maxRecDepth 100000 in
set_option maxHeartbeats 4000000 in
theorem mayIns_out (kind op d a b num n : Int) (hk : kind < 1 ∨ 9 < kind) (name : ByteArray) (len : Nat) (A : Option Addr) (c : Nat) (w : World) (V : Prop) :
    Calls Try.prog 64 #[.agg #[.int .i64 kind, .int .i64 op, .int .i64 d, .int .i64 a, .int .i64 b, .int .i32 num, .string name, .slice A len c], .int .i64 n] w (Told w V) := by
  have HB : Hid (Below w.heap.size w (w.alloc (.cells #[.int .i64 kind, .int .i64 op, .int .i64 d, .int .i64 a, .int .i64 b, .int .i32 num, .string name, .slice A len c] 54))) := Lib.hid ((Below.refl _ _).alloc (Nat.le_refl _) _)
  have h2 : (kind == 2) = false := beq_eq_false_iff_ne.2 (by omega)
  have h3 : (kind == 3) = false := beq_eq_false_iff_ne.2 (by omega)
  have h4 : (kind == 4) = false := beq_eq_false_iff_ne.2 (by omega)
  have h5 : (kind == 5) = false := beq_eq_false_iff_ne.2 (by omega)
  have h6 : (kind == 6) = false := beq_eq_false_iff_ne.2 (by omega)
  have h7 : (kind == 7) = false := beq_eq_false_iff_ne.2 (by omega)
  have h9 : (kind == 9) = false := beq_eq_false_iff_ne.2 (by omega)
  have n6 : (kind != 6) = true := bne_iff_ne.2 (by omega)
  have n9 : (kind != 9) = true := bne_iff_ne.2 (by omega)
  rcases hk with hk | hk
  · go_enter Try.func64, Try.ntmps64
    go_wp2_with fail
    go_ret
    exact ⟨false, rfl, HB.out, fun h => by cases h⟩
  · have hk1 : ¬ kind < 1 := by omega
    go_enter Try.func64, Try.ntmps64
    go_wp2_with fail
    go_ret
    exact ⟨false, rfl, HB.out, fun h => by cases h⟩
theorem mayIns_any (x : Ins) (n : Int) (hx : InsOk x) (A : Option Addr) (c : Nat) (w : World) (hr : RdT w T A (ints x.args)) :
    Calls Try.prog 64 #[.agg #[.int .i64 x.kind, .int .i64 x.op, .int .i64 x.d, .int .i64 x.a, .int .i64 x.b, .int .i32 x.num, .string x.name, .slice A x.args.length c], .int .i64 n] w (Told w (InsV n x)) := by
  obtain ⟨kind, op, d, a, b, num, name, args⟩ := x
  by_cases h1 : kind < 1
  · exact mayIns_out kind op d a b num n (.inl h1) name args.length A c w _
  by_cases h9 : 9 < kind
  · exact mayIns_out kind op d a b num n (.inr h9) name args.length A c w _
  have hk : kind = 1 ∨ kind = 2 ∨ kind = 3 ∨ kind = 4 ∨ kind = 5 ∨ kind = 6 ∨ kind = 7 ∨ kind = 8 ∨ kind = 9 := by omega
  rcases hk with rfl | rfl | rfl | rfl | rfl | rfl | rfl | rfl | rfl
  · exact mayIns_1 op d a b num n name args A c w hx.name hx.nargs hr
  · exact mayIns_2 op d a b num n name args A c w hx.name hx.nargs hr
  · exact mayIns_3 op d a b num n name args A c w hx.name hx.nargs hr
  · exact mayIns_4 op d a b num n name args A c w hx.name hx.nargs hr
  · exact mayIns_5 op d a b num n name args A c w hx.name hx.nargs hr
  · exact mayIns_6 op d a b num n name args A c w hx.name hx.nargs hr
  · exact mayIns_7 op d a b num n name args A c w hx.name hx.nargs hr
  · exact mayIns_8 op d a b num n name args A c w hx.name hx.nargs hr
  · exact mayIns_9 op d a b num n name args A c w hx.name hx.nargs hr
end Go.Proofs.Ytnfneinonkpmeaa
