/- The picker: memory. -/
import Derived.Test.YtnfneinonkpmeaaPickA0
namespace Go.Proofs.Ytnfneinonkpmeaa
open Go.RowKit
variable {w w1 : World} {pb mb : Nat} {v : Value} {r : Option Nat} {f : Fn} {l : List Vins} {n : Nat} {kn : Lit → Option Lit}
set_option maxHeartbeats 4000000 in
set_option maxRecDepth 100000 in
theorem memory_any (h : PickAt w pb mb v r f l n kn) (hb : l.length + 1 ≤ 1000000000) (single array kind op d a b num : Int) (name : ByteArray) (s : Value) :
    Calls Try.prog 37 #[.pointer (some ⟨pb, 0, none⟩), .int .i64 single, .int .i64 array, .agg #[.int .i64 kind, .int .i64 op, .int .i64 d, .int .i64 a, .int .i64 b, .int .i32 num, .string name, s]] w
      fun e w' => e = .returned (.tuple #[]) ∧ Picked w pb mb r f (l ++ [⟨if a = -1 then single else array, d, a, b, 0, name, []⟩]) n kn w' := by
  have HH := Lib.hid h
  clear h
  obtain ⟨w0, hw0, hb0, hlt0, hc⟩ := box_new w #[.int .i64 kind, .int .i64 op, .int .i64 d, .int .i64 a, .int .i64 b, .int .i32 num, .string name, s] 54
  have HW := Lib.hid hw0
  have HB := Lib.hid hb0
  have hsz0 : w0.heap.size = w.heap.size + 1 := by rw [hw0]; simp
  have HSZ := Lib.hid hsz0
  clear hw0 hb0 hc hsz0
  by_cases ha : a = -1
  · have haf : (a != -1) = false := by rw [ha]; rfl
    rw [if_pos ha]
    have HA := Lib.hid ha
    clear ha
    go_enter Try.func37, Try.ntmps37
    go_wp2_with fail
    rw [← HW.out, ← HSZ.out]
    refine (put_one HH.out HB.out single d a b 0 name hb).mono ?_
    rintro e w3 ⟨rfl, hP⟩
    go_wp2_with fail
    go_returns
    exact ⟨rfl, hP⟩
  · have haf : (a != -1) = true := bne_iff_ne.2 ha
    rw [if_neg ha]
    have HA := Lib.hid ha
    clear ha
    go_enter Try.func37, Try.ntmps37
    go_wp2_with fail
    rw [← HW.out, ← HSZ.out]
    refine (put_one HH.out HB.out array d a b 0 name hb).mono ?_
    rintro e w3 ⟨rfl, hP⟩
    go_wp2_with fail
    go_returns
    exact ⟨rfl, hP⟩

end Go.Proofs.Ytnfneinonkpmeaa
