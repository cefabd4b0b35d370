/- The picker: unary, memory, end. -/
import Derived.Test.YtnfneinonkpmeaaMake
namespace Go.Proofs.Ytnfneinonkpmeaa
open Go.RowKit

/-- Behind a call: the picker with this code. -/
def Picked (w : World) (pb mb : Nat) (r : Option Nat) (f : Fn) (l : List Vins) (n : Nat) (kn : Lit → Option Lit) (w' : World) : Prop := ∃ v' r', PickAt w' pb mb v' r' f l n kn ∧ PStep w pb mb r w' r'
theorem RdT.nil {w : World} {T : Nat → Prop} {A : Option Addr} : RdT w T A (ints []) := fun h => by simp [ints] at h

section
variable {w w1 : World} {pb mb : Nat} {v : Value} {r : Option Nat} {f : Fn} {l : List Vins} {n : Nat} {kn : Lit → Option Lit}
theorem put_cells (h : PickAt w pb mb v r f l n kn) (hB : Below w.heap.size w w1) (cs : Array Value) (m : Nat) (l2 : List Vins) (hC : CodeCells w1 (CodeT pb mb r) l2 cs.toList) (hml : l2.length = m) (hm : 0 < m) (hb : l.length + m ≤ 1000000000) :
    Calls Try.prog 20 #[.pointer (some ⟨pb, 0, none⟩), .slice (some ⟨w1.heap.size, 0, none⟩) m m] (w1.alloc (.cells cs 61))
      fun e w' => e = .returned (.tuple #[]) ∧ Picked w pb mb r f (l ++ l2) n kn w' := by
  have ha : Below w1.heap.size w1 (w1.alloc (.cells cs 61)) := (Below.refl _ _).alloc (Nat.le_refl _) _
  have h1 : Below w.heap.size w (w1.alloc (.cells cs 61)) := hB.trans (ha.mono hB.size)
  refine (put_any (h.kept h1) w1.heap.size 0 m m l2 cs.toList (fun j u hu => ?_) (hC.kept (chg_of_below ha) fun k _ hk => by omega) hml hm hb).mono ?_
  · rw [Nat.zero_add, cell_of_row _ _ _ _ _ _ (heap_alloc_new w1 _), ← Array.getElem?_toList]; exact hu
  · rintro e w' ⟨rfl, v', r', hp, hs⟩
    exact ⟨rfl, v', r', hp, (PStep.ofBelow h1).trans hs⟩
theorem put_one (h : PickAt w pb mb v r f l n kn) (hB : Below w.heap.size w w1) (op d a b num : Int) (name : ByteArray) (hb : l.length + 1 ≤ 1000000000) :
    Calls Try.prog 20 #[.pointer (some ⟨pb, 0, none⟩), .slice (some ⟨w1.heap.size, 0, none⟩) 1 1] (w1.alloc (.cells #[.int .i64 op, .int .i64 d, .int .i64 a, .int .i64 b, .int .i32 num, .string name, .slice none 0 0] 61))
      fun e w' => e = .returned (.tuple #[]) ∧ Picked w pb mb r f (l ++ [⟨op, d, a, b, num, name, []⟩]) n kn w' :=
  put_cells h hB _ 1 _ (CodeCells.one ⟨none, 0, rfl, RdT.nil⟩) rfl (by omega) hb
theorem put_args (h : PickAt w pb mb v r f l n kn) (hB : Below w.heap.size w w1) (op d a b num : Int) (name : ByteArray) (args : List Int) (A : Option Addr) (c : Nat) (hA : RdT w1 (CodeT pb mb r) A (ints args)) (hb : l.length + 1 ≤ 1000000000) :
    Calls Try.prog 20 #[.pointer (some ⟨pb, 0, none⟩), .slice (some ⟨w1.heap.size, 0, none⟩) 1 1] (w1.alloc (.cells #[.int .i64 op, .int .i64 d, .int .i64 a, .int .i64 b, .int .i32 num, .string name, .slice A args.length c] 61))
      fun e w' => e = .returned (.tuple #[]) ∧ Picked w pb mb r f (l ++ [⟨op, d, a, b, num, name, args⟩]) n kn w' :=
  put_cells h hB _ 1 _ (CodeCells.one ⟨A, c, rfl, hA⟩) rfl (by omega) hb
theorem put_two (h : PickAt w pb mb v r f l n kn) (hB : Below w.heap.size w w1) (op d a b num op' d' a' b' num' : Int) (name name' : ByteArray) (hb : l.length + 2 ≤ 1000000000) :
    Calls Try.prog 20 #[.pointer (some ⟨pb, 0, none⟩), .slice (some ⟨w1.heap.size, 0, none⟩) 2 2]
      (w1.alloc (.cells #[.int .i64 op, .int .i64 d, .int .i64 a, .int .i64 b, .int .i32 num, .string name, .slice none 0 0, .int .i64 op', .int .i64 d', .int .i64 a', .int .i64 b', .int .i32 num', .string name', .slice none 0 0] 61))
      fun e w' => e = .returned (.tuple #[]) ∧ Picked w pb mb r f (l ++ [⟨op, d, a, b, num, name, []⟩, ⟨op', d', a', b', num', name', []⟩]) n kn w' :=
  put_cells h hB _ 2 _ (CodeCells.two ⟨none, 0, rfl, RdT.nil⟩ ⟨none, 0, rfl, RdT.nil⟩) rfl (by omega) hb

end
end Go.Proofs.Ytnfneinonkpmeaa
