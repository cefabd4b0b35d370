/- A row in memory: Each and From, and the loop behind them. -/
import Derived.Test.YtdnlgcomhgnegaaRowD
import Derived.RangeFuncNested
import Derived.RangeFuncBound
import Derived.RangeFuncCalls
import Derived.RangeFuncLeaves
import Derived.RangeFuncBox
import Derived.Shelf.Abstract
import Derived.Shelf.RegionOpen
import Derived.WalkKit
import Derived.OwnWalkIn
import Derived.TacticsInMore
import Derived.LoopNIn
import Derived.LoopIn
namespace Go.Proofs.Ytdnlgcomhgnegaa
open Go.RowKit Go.Shelf
attribute [local go_sem] Oper.semAt_some

theorem rloop_any (p : Option Addr) (g : Nat) (lb : Array Value) (w : World) :
    Calls Try.prog 28 #[.pointer p, .func (.func g) #[] lb] w fun e w' => e = .returned (.func (.func 39) #[] #[.pointer (some ⟨w.heap.size, 0, none⟩), .pointer (some ⟨w.heap.size + 1, 0, none⟩)]) ∧ w' = (w.alloc (.cells #[.pointer p] 58)).alloc (.cells #[.func (.func g) #[] lb] 29) := by
  go_enter Try.func28, Try.ntmps28
  go_wp2
  go_ret
  exact ⟨rfl, rfl⟩
theorem reach_any (p : Option Addr) (w : World) :
    Calls Try.prog 14 #[.pointer p] w fun e w' => e = .returned (.func (.func 39) #[] #[.pointer (some ⟨w.heap.size, 0, none⟩), .pointer (some ⟨w.heap.size + 1, 0, none⟩)]) ∧ w' = (w.alloc (.cells #[.pointer p] 58)).alloc (.cells #[.func (.func 29) #[] #[]] 29) := by
  go_enter Try.func14, Try.ntmps14
  go_wp2_with fail
  refine (rloop_any p _ #[] w).mono ?_
  rintro e w' ⟨rfl, rfl⟩
  go_wp2_with fail
  go_ret
  exact ⟨rfl, rfl⟩
theorem rfrom_any (p : Option Addr) (x : Int) (w : World) :
    Calls Try.prog 15 #[.pointer p, .int .i64 x] w fun e w' => e = .returned (.func (.func 39) #[] #[.pointer (some ⟨w.heap.size + 1 + 1, 0, none⟩), .pointer (some ⟨w.heap.size + 1 + 1 + 1, 0, none⟩)]) ∧ w' = (((w.alloc (.cells #[.pointer p] 58)).alloc (.cells #[.int .i64 x] 3)).alloc (.cells #[.pointer p] 58)).alloc (.cells #[.func (.func 30) #[] #[.pointer (some ⟨w.heap.size, 0, none⟩), .pointer (some ⟨w.heap.size + 1, 0, none⟩)]] 29) := by
  go_enter Try.func15, Try.ntmps15
  go_wp2_with fail
  refine (rloop_any p _ _ _).mono ?_
  rintro e w' ⟨rfl, rfl⟩
  go_wp2_with fail
  go_ret
  exact ⟨by simp, rfl⟩
theorem each0_any (w : World) :
    Calls Try.prog 29 #[] w fun e w' => e = .returned (.int .i64 0) ∧ w = w' := by
  go_enter Try.func29, Try.ntmps29
  go_wp2
  go_ret
  exact ⟨rfl, rfl⟩
theorem from1_any {w : World} {b : Nat} {rk rv : Option Nat} {L : List Pr} (h : RAt w b rk rv L) (x : Int) (B1 B2 : Nat) (h1 : w.cell? ⟨B1, 0, none⟩ = some (.pointer (some ⟨b, 0, none⟩))) (h2 : w.cell? ⟨B2, 0, none⟩ = some (.int .i64 x)) :
    Calls Try.prog 30 #[.pointer (some ⟨B1, 0, none⟩), .pointer (some ⟨B2, 0, none⟩)] w fun e w' => e = .returned (.int .i64 (posP L x : Nat)) ∧ Below w.heap.size w w' := by
  have HF := Lib.hid (find_any h x)
  obtain ⟨p, hpe⟩ : ∃ p, p = posP L x := ⟨_, rfl⟩
  rw [← hpe] at HF ⊢
  clear h hpe
  go_enter Try.func30, Try.ntmps30
  go_wp2_with fail
  refine HF.out.mono ?_
  rintro e w' ⟨rfl, hb⟩
  have HB := Lib.hid hb
  clear hb
  go_wp2_with fail
  go_ret
  exact ⟨rfl, HB.out⟩
theorem reads_below {w w' : World} {A : Option Addr} {xs : List Value} (h : ReadsAt w A xs) (hb : Below w.heap.size w w') : ReadsAt w' A xs := h.kept (S := fun _ => False) (Chg.of_below hb _) fun _ _ _ _ h => h
/-- What a round must keep: cells made since the loop began. -/
def KpC (B : Nat) (W W' : World) : Prop := ∀ k o, B ≤ k → W.heap[k]? = some o → o.isCells = true → W'.heap[k]? = some o
theorem KpC.refl (B : Nat) (W : World) : KpC B W W := fun _ _ _ h _ => h
theorem KpC.trans {B : Nat} {X Y Z : World} (h : KpC B X Y) (k : KpC B Y Z) : KpC B X Z := fun i o hB hi ho => k i o hB (h i o hB hi ho) ho
theorem KpC.put {B l : Nat} {o o' : Obj} {W : World} (h : W.heap[l]? = some o) (ho : o.isCells = false) : KpC B W (W.putObj l o') := by
  intro k q hk hq hc
  have hne : k ≠ l := by
    rintro rfl
    rw [hq] at h; cases h; rw [hc] at ho; cases ho
  rw [World.putObj_heap_other hne]; exact hq
theorem reads_kpc {B : Nat} {W W' : World} {A : Option Addr} {xs : List Value} (h : ReadsAt W A xs) (hA : ∀ g off, A = some ⟨g, off, none⟩ → B ≤ g) (hK : KpC B W W') : ReadsAt W' A xs := by
  intro hp
  obtain ⟨g, off, he, hg, hc⟩ := h hp
  have hx : ∃ o, W.heap[g]? = some o ∧ o.isCells = true := by
    have h0 : ∃ u, xs[0]? = some u := ⟨_, List.getElem?_eq_getElem hp⟩
    obtain ⟨u, hu⟩ := h0
    have h1 := hc 0 u hu
    unfold World.cell? at h1
    cases ho : W.heap[g]? with
    | none => simp [ho] at h1
    | some o =>
      refine ⟨o, rfl, ?_⟩
      simp only [ho] at h1
      cases o <;> simp_all [Obj.isCells]
  obtain ⟨o, ho, hoc⟩ := hx
  have h2 := hK g o (hA g off he) ho hoc
  exact ⟨g, off, he, (Array.getElem?_eq_some_iff.1 h2).1, fun j u hu => (World.cell?_of_block (a := ⟨g, off + j, none⟩) (h2.trans ho.symm)).trans (hc j u hu)⟩
end Go.Proofs.Ytdnlgcomhgnegaa
