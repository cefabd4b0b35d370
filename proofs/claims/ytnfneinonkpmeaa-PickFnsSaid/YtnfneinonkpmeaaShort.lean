/- short: the instruction of an operator of a register and a number. -/
import Derived.Test.YtnfneinonkpmeaaMake
namespace Go.Proofs.Ytnfneinonkpmeaa
open Go.RowKit

def low5 (n : Int) : Int := bits BinOp.and .i32 n 31
def shortS (op d a n : Int) : Option Vins :=
  if op = 6 then some (withS 8 d a (low5 n)) else if op = 7 then some (withS 10 d a (low5 n))
  else if op = 15 then (if n = 0 then some (withS 4 d a 1) else none)
  else if op = 16 then (if n = 0 then some (threeS 15 d (-1) a) else none)
  else if op = 1 then (if fits12 n then some (withS 2 d a n) else none)
  else if op = 2 then (if fits12 (-n) then some (withS 2 d a (-n)) else none)
  else if op = 8 then (if fits12 n then some (withS 7 d a n) else none)
  else if op = 9 then (if fits12 n then some (withS 6 d a n) else none)
  else if op = 10 then (if fits12 n then some (withS 5 d a n) else none)
  else if op = 11 then (if fits12 n then some (withS 3 d a n) else none)
  else none
theorem res_cell {w w1 : World} {cs : Array Value} {e : Nat} (hB : Below (w.alloc (.cells cs e)).heap.size (w.alloc (.cells cs e)) w1) : w1.heap[w.heap.size]? = some (.cells cs e (0, 0)) := by
  rw [hB.block _ (by simp)]; exact heap_alloc_new w _
theorem wrap32_i32 (z : Int) : I32 (wrap32 z) := by unfold I32 wrap32; omega
theorem wrap_fits {z : Int} (h : fits12 z = true) : wrap32 z = z := by
  unfold fits12 at h; simp at h; unfold wrap32; omega
theorem fits_wrap {n : Int} (hn : I32 n) : fits12 (wrap32 (-n)) = fits12 (-n) := by
  unfold I32 at hn
  by_cases h : n = -2147483648
  · subst h; unfold fits12 wrap32; refine Bool.eq_iff_iff.2 ?_; simp only [Bool.and_eq_true, decide_eq_true_eq]; omega
  · have : wrap32 (-n) = -n := by unfold wrap32; omega
    rw [this]
def Shorted (op d a n : Int) (w : World) (e : Ending) (w' : World) : Prop :=
  ∃ y : Vins, e = .returned (.tuple #[.agg #[.int .i64 y.op, .int .i64 y.d, .int .i64 y.a, .int .i64 y.b, .int .i32 y.num, .string y.name, .slice none 0 0], .bool (shortS op d a n).isSome]) ∧ Below w.heap.size w w' ∧ ∀ s, shortS op d a n = some s → y = s

theorem len7 {α : Type} {cs : List α} (h : cs.length = 7) : ∃ a b c d e f g, cs = [a, b, c, d, e, f, g] := by
  match cs, h with
  | [a, b, c, d, e, f, g], _ => exact ⟨a, b, c, d, e, f, g, rfl⟩
/-- Seven cells stored, one behind the other. -/
theorem store7 (w1 : World) (b : Nat) (cs : Array Value) (e : Nat) (h : w1.heap[b]? = some (.cells cs e (0, 0))) (hs : cs.size = 7) (v0 v1 v2 v3 v4 v5 v6 : Value) :
    ∃ W, W = (((((((w1.setCell ⟨b, 0, none⟩ v0).setCell ⟨b, 1, none⟩ v1).setCell ⟨b, 2, none⟩ v2).setCell ⟨b, 3, none⟩ v3).setCell ⟨b, 4, none⟩ v4).setCell ⟨b, 5, none⟩ v5).setCell ⟨b, 6, none⟩ v6) ∧
      W.heap[b]? = some (.cells #[v0, v1, v2, v3, v4, v5, v6] e (0, 0)) ∧ Chg (fun k => k = b) w1 W ∧ ∀ j, W.cell? ⟨b, j, none⟩ = #[v0, v1, v2, v3, v4, v5, v6][j]? := by
  obtain ⟨l⟩ := cs
  obtain ⟨a0, a1, a2, a3, a4, a5, a6, rfl⟩ := len7 (by simpa using hs)
  have h0 := heap_setCell_same w1 b 0 _ e v0 h
  have h1 := heap_setCell_same _ b 1 _ e v1 h0
  have h2 := heap_setCell_same _ b 2 _ e v2 h1
  have h3 := heap_setCell_same _ b 3 _ e v3 h2
  have h4 := heap_setCell_same _ b 4 _ e v4 h3
  have h5 := heap_setCell_same _ b 5 _ e v5 h4
  have h6 := heap_setCell_same _ b 6 _ e v6 h5
  have hf : (((((((w1.setCell ⟨b, 0, none⟩ v0).setCell ⟨b, 1, none⟩ v1).setCell ⟨b, 2, none⟩ v2).setCell ⟨b, 3, none⟩ v3).setCell ⟨b, 4, none⟩ v4).setCell ⟨b, 5, none⟩ v5).setCell ⟨b, 6, none⟩ v6).heap[b]? = some (.cells #[v0, v1, v2, v3, v4, v5, v6] e (0, 0)) := h6.trans (by simp)
  refine ⟨_, rfl, hf, ?_, fun j => cell_of_row _ _ _ _ _ _ hf⟩
  have t : ∀ {a b' c : World}, Chg (fun k => k = b) a b' → Chg (fun k => k = b) b' c → Chg (fun k => k = b) a c := fun h k => h.trans k fun _ _ e => e
  exact t (t (t (t (t (t (Chg.store _ _ _ _) (Chg.store _ _ _ _)) (Chg.store _ _ _ _)) (Chg.store _ _ _ _)) (Chg.store _ _ _ _)) (Chg.store _ _ _ _)) (Chg.store _ _ _ _)
/-- What the walk must know of a block of seven cells to store them. -/
structure Res7 (w : World) (b : Nat) (a0 a1 a2 a3 a4 a5 a6 : Value) : Prop where
  heap : w.heap[b]? = some (.cells #[a0, a1, a2, a3, a4, a5, a6] 61 (0, 0))
  c0 : w.cell? ⟨b, 0, none⟩ = some a0
  c1 : w.cell? ⟨b, 1, none⟩ = some a1
  c2 : w.cell? ⟨b, 2, none⟩ = some a2
  c3 : w.cell? ⟨b, 3, none⟩ = some a3
  c4 : w.cell? ⟨b, 4, none⟩ = some a4
  c5 : w.cell? ⟨b, 5, none⟩ = some a5
  c6 : w.cell? ⟨b, 6, none⟩ = some a6
  f0 : w.frozen? ⟨b, 0, none⟩ = false
  f1 : w.frozen? ⟨b, 1, none⟩ = false
  f2 : w.frozen? ⟨b, 2, none⟩ = false
  f3 : w.frozen? ⟨b, 3, none⟩ = false
  f4 : w.frozen? ⟨b, 4, none⟩ = false
  f5 : w.frozen? ⟨b, 5, none⟩ = false
  f6 : w.frozen? ⟨b, 6, none⟩ = false
theorem Res7.of {w : World} {b : Nat} {a0 a1 a2 a3 a4 a5 a6 : Value} (h : w.heap[b]? = some (.cells #[a0, a1, a2, a3, a4, a5, a6] 61 (0, 0))) : Res7 w b a0 a1 a2 a3 a4 a5 a6 := by
  have hf : ∀ j, w.frozen? ⟨b, j, none⟩ = false := fun j => by simp [World.frozen?, h]
  have hc : ∀ j, w.cell? ⟨b, j, none⟩ = #[a0, a1, a2, a3, a4, a5, a6][j]? := fun j => cell_of_row _ _ _ _ _ _ h
  exact ⟨h, hc 0, hc 1, hc 2, hc 3, hc 4, hc 5, hc 6, hf 0, hf 1, hf 2, hf 3, hf 4, hf 5, hf 6⟩
theorem Res7.made (w : World) : Res7 (w.alloc (.cells #[.int .i64 0, .int .i64 0, .int .i64 0, .int .i64 0, .int .i32 0, .string ⟨#[]⟩, .slice none 0 0] 61)) w.heap.size (.int .i64 0) (.int .i64 0) (.int .i64 0) (.int .i64 0) (.int .i32 0) (.string ⟨#[]⟩) (.slice none 0 0) := .of (heap_alloc_new w _)
theorem Res7.below {w w' : World} {b : Nat} {a0 a1 a2 a3 a4 a5 a6 : Value} (h : Res7 w b a0 a1 a2 a3 a4 a5 a6) (hB : Below w.heap.size w w') : Res7 w' b a0 a1 a2 a3 a4 a5 a6 :=
  .of (by rw [hB.block b (lt_of_heap h.heap)]; exact h.heap)
/-- Behind the store: the world by a name, with its seven cells. -/
theorem Res7.stored {w : World} {b : Nat} {a0 a1 a2 a3 a4 a5 a6 : Value} (h : Res7 w b a0 a1 a2 a3 a4 a5 a6) (v0 v1 v2 v3 v4 v5 v6 : Value) :
    ∃ W, (((((((w.setCell ⟨b, 0, none⟩ v0).setCell ⟨b, 1, none⟩ v1).setCell ⟨b, 2, none⟩ v2).setCell ⟨b, 3, none⟩ v3).setCell ⟨b, 4, none⟩ v4).setCell ⟨b, 5, none⟩ v5).setCell ⟨b, 6, none⟩ v6) = W ∧ Res7 W b v0 v1 v2 v3 v4 v5 v6 ∧ Chg (fun k => k = b) w W := by
  obtain ⟨W, h1, h2, h3, _⟩ := store7 w b _ _ h.heap rfl v0 v1 v2 v3 v4 v5 v6
  exact ⟨W, h1.symm, .of h2, h3⟩


theorem three15_any (op d a b : Int) (w : World) :
    Calls Try.prog 25 #[.int .i64 op, .int .i64 d, .int .i64 a, .int .i64 b] w fun e w' => e = .returned (.agg #[.int .i64 op, .int .i64 d, .int .i64 a, .int .i64 b, .int .i32 0, .string ⟨#[]⟩, .slice none 0 0]) ∧ Below w.heap.size w w' := by
  go_enter Try.func25, Try.ntmps25
  go_wp2
  go_returns
  exact ⟨rfl, (Below.refl _ _).alloc (Nat.le_refl _) _⟩
theorem with15_any (op d a n : Int) (w : World) :
    Calls Try.prog 39 #[.int .i64 op, .int .i64 d, .int .i64 a, .int .i32 n] w fun e w' => e = .returned (.agg #[.int .i64 op, .int .i64 d, .int .i64 a, .int .i64 (-1), .int .i32 n, .string ⟨#[]⟩, .slice none 0 0]) ∧ Below w.heap.size w w' := by
  go_enter Try.func39, Try.ntmps39
  go_wp2
  go_returns
  exact ⟨rfl, (Below.refl _ _).alloc (Nat.le_refl _) _⟩
end Go.Proofs.Ytnfneinonkpmeaa
