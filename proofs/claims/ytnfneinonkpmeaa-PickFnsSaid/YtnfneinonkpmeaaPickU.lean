/- The picker: unary. -/
import Derived.Test.YtnfneinonkpmeaaPickA0
namespace Go.Proofs.Ytnfneinonkpmeaa
open Go.RowKit
variable {w w1 : World} {pb mb : Nat} {v : Value} {r : Option Nat} {f : Fn} {l : List Vins} {n : Nat} {kn : Lit → Option Lit}
def unS (op d a : Int) : Vins := if op = 19 then threeS 12 d (-1) a else if op = 20 then withS 4 d a 1 else withS 5 d a (-1)
set_option maxHeartbeats 4000000 in
set_option maxRecDepth 100000 in
theorem unary_any (h : PickAt w pb mb v r f l n kn) (hb : l.length + 1 ≤ 1000000000) (kind op d a b num : Int) (name : ByteArray) (s : Value) (ho : 19 ≤ op ∧ op ≤ 21) :
    Calls Try.prog 35 #[.pointer (some ⟨pb, 0, none⟩), .agg #[.int .i64 kind, .int .i64 op, .int .i64 d, .int .i64 a, .int .i64 b, .int .i32 num, .string name, s]] w
      fun e w' => e = .returned (.tuple #[]) ∧ Picked w pb mb r f (l ++ [unS op d a]) n kn w' := by
  have HH := Lib.hid h
  clear h
  obtain ⟨w0, hw0, hb0, hlt0, hc⟩ := box_new w #[.int .i64 kind, .int .i64 op, .int .i64 d, .int .i64 a, .int .i64 b, .int .i32 num, .string name, s] 54
  have HW := Lib.hid hw0
  have HB := Lib.hid hb0
  clear hw0 hb0 hc
  have hop : op = 19 ∨ op = 20 ∨ op = 21 := by omega
  rcases hop with rfl | rfl | rfl
  · go_enter Try.func35, Try.ntmps35
    go_wp2_with fail
    rw [← HW.out]
    refine (three_any 12 d (-1) a _).mono ?_
    rintro e w2 ⟨rfl, hB2⟩
    have HB2 := Lib.hid (HB.out.trans (hB2.mono HB.out.size))
    clear hB2
    go_wp2_with fail
    refine (put_one HH.out HB2.out 12 d (-1) a 0 ⟨#[]⟩ hb).mono ?_
    rintro e w3 ⟨rfl, hP⟩
    go_wp2_with fail
    go_returns
    exact ⟨rfl, hP⟩
  · go_enter Try.func35, Try.ntmps35
    go_wp2_with fail
    rw [← HW.out]
    refine (with_any 4 d a 1 _).mono ?_
    rintro e w2 ⟨rfl, hB2⟩
    have HB2 := Lib.hid (HB.out.trans (hB2.mono HB.out.size))
    clear hB2
    go_wp2_with fail
    refine (put_one HH.out HB2.out 4 d a (-1) 1 ⟨#[]⟩ hb).mono ?_
    rintro e w3 ⟨rfl, hP⟩
    go_wp2_with fail
    go_returns
    exact ⟨rfl, hP⟩
  · go_enter Try.func35, Try.ntmps35
    go_wp2_with fail
    rw [← HW.out]
    refine (with_any 5 d a (-1) _).mono ?_
    rintro e w2 ⟨rfl, hB2⟩
    have HB2 := Lib.hid (HB.out.trans (hB2.mono HB.out.size))
    clear hB2
    go_wp2_with fail
    refine (put_one HH.out HB2.out 5 d a (-1) (-1) ⟨#[]⟩ hb).mono ?_
    rintro e w3 ⟨rfl, hP⟩
    go_wp2_with fail
    go_returns
    exact ⟨rfl, hP⟩

end Go.Proofs.Ytnfneinonkpmeaa
