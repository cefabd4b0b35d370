/- Which instructions may be (brazierref12.mayIns). Written by genmay.py. -/
import Derived.Test.YtlniohgnkihefaaNames
namespace Go.Proofs.Ytlniohgnkihefaa
open Go.RowKit
theorem box_cell {w w2 : World} {cs : Array Value} {e : Nat} (hB : Below (w.alloc (.cells cs e)).heap.size (w.alloc (.cells cs e)) w2) (j : Nat) : w2.cell? ⟨w.heap.size, j, none⟩ = cs[j]? := by
  rw [hB.cell (p := ⟨w.heap.size, j, none⟩) (by simp), cell_of_row _ _ _ _ _ _ (heap_alloc_new w _)]
/-- It returns a Bool; where it is true, V. -/
def Told (w : World) (V : Prop) (e : Ending) (w' : World) : Prop := ∃ t, e = .returned (.bool t) ∧ Below w.heap.size w w' ∧ (t = true → V)
theorem empty_of {s : ByteArray} (h : s.toList.isEmpty = true) : s = ⟨#[]⟩ := by
  rw [List.isEmpty_iff, ByteArray.toList_eq, Array.toList_eq_nil_iff] at h
  exact ByteArray.ext h
end Go.Proofs.Ytlniohgnkihefaa
