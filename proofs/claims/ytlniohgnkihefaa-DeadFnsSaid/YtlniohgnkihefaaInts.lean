/- Rows of ints, in plain words. -/
import Derived.Test.YtlniohgnkihefaaBase
namespace Go.Proofs.Ytlniohgnkihefaa

def I64 (z : Int) : Prop := -9223372036854775808 ≤ z ∧ z ≤ 9223372036854775807
def ints (zs : List Int) : List Value := zs.map fun z => Value.int .i64 z
theorem ints_length (zs : List Int) : (ints zs).length = zs.length := by simp [ints]
theorem ints_at (zs : List Int) (i : Nat) (h : i < zs.length) : (ints zs)[i]? = some (.int .i64 (zs.getD i 0)) := by simp [ints, h]
end Go.Proofs.Ytlniohgnkihefaa
