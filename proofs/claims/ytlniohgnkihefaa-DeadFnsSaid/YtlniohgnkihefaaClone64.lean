/- slices.Clone of words. -/
import Derived.Test.YtlniohgnkihefaaBitsC
import Derived.Test.YtlniohgnkihefaaRow
import Derived.WalkSpells
import Derived.Lib.SliceRun
namespace Go.Proofs.Ytlniohgnkihefaa
open Go.RowKit

def U64At (w : World) (k : Nat) : Prop := ∃ c, w.heap[k]? = some (.cells c 101 (0, 0))
theorem cells64_plain (ws : List Nat) : ∀ u ∈ cells64 ws, u.oneCell' = true := by
  intro u hu
  obtain ⟨z, _, rfl⟩ := List.mem_map.1 hu
  rfl
theorem cells64_length (ws : List Nat) : (cells64 ws).length = ws.length := by simp [cells64]
/-- A copy of the words: its cells, in a block of its own. -/
def Copied (w : World) (ws : List Nat) (e : Ending) (w' : World) : Prop :=
  Below w.heap.size w w' ∧ ∃ A c, e = .returned (.slice A ws.length c) ∧ (0 < ws.length → ∃ g off, A = some ⟨g, off, none⟩ ∧ w.heap.size ≤ g ∧ U64At w' g ∧ ∀ j u, (cells64 ws)[j]? = some u → w'.cell? ⟨g, off + j, none⟩ = some u)
/-- .. and as a row that can be written. -/
def CopyRow (w : World) (ws : List Nat) (e : Ending) (w' : World) : Prop := ∃ v r', e = .returned v ∧ RowAt w' 101 1 v r' ws.length (cells64 ws) ∧ ∀ k, r' = some k → w.heap.size ≤ k
set_option maxHeartbeats 1000000 in
set_option maxRecDepth 100000 in
theorem clone64_both (v : Value) (r : Option Nat) (ws : List Nat) (w : World) (hl : ws.length ≤ 1024) (h : RowAt w 101 1 v r ws.length (cells64 ws)) :
    Calls Try.prog 65 #[v] w fun e w' => Copied w ws e w' ∧ CopyRow w ws e w' := by
  have qS : ∀ (w : World) (a : Option Addr) (n c n' c' : Nat), (binOp .eql 79 (.slice a n c) (.slice none n' c')).run Try.prog w = .ok (.bool a.isNone) w := fun w a n c n' c' => Go.Lib.run_eql_slice_nil (P := Try.prog) w 79 101 a n c n' c' Try.underlying79
  obtain ⟨A, c, rfl, _⟩ := h.shape
  cases ws with
  | nil =>
    have hA := h.2
    clear h
    cases A with
    | none =>
      go_enter Try.func65, Try.ntmps65
      go_wp2_with fail
      go_ret
      exact ⟨⟨Below.refl _ _, none, 0, rfl, fun hp => by cases hp⟩, _, none, rfl, RowAt.nil _ _ _, fun _ e => by cases e⟩
    | some ad =>
      clear hA
      go_enter Try.func65, Try.ntmps65
      go_wp2_with fail
      go_ret
      exact ⟨⟨(Below.refl _ _).alloc (Nat.le_refl _) _, _, _, rfl, fun hp => by cases hp⟩, _, some w.heap.size, rfl, ⟨rfl, .inr ⟨w.heap.size, 0, 0, #[], rfl, rfl, heap_alloc_new w _, Nat.le_refl _, Nat.zero_le _, by simp, by simp [cells64]⟩⟩, fun k e => by cases e; exact Nat.le_refl _⟩
  | cons x ws =>
    obtain ⟨g, off, cap, hv, _, _, _, hg, hx, _⟩ := h.form (by simp)
    injection hv with h1 _ _
    subst h1
    have HX := Lib.hid hx
    clear hx h
    have hrow : RowAt (w.alloc (.cells #[] 101)) 101 1 (.slice (some ⟨w.heap.size, 0, none⟩) 0 0) (some w.heap.size) 0 [] := ⟨rfl, .inr ⟨w.heap.size, 0, 0, #[], rfl, rfl, heap_alloc_new w _, Nat.le_refl _, Nat.zero_le _, by simp, by simp⟩⟩
    have HROW := Lib.hid hrow
    clear hrow
    have hb1 : (0 + (ws.length + 1)) * 8 ≤ 140737488355328 := by simp at hl; omega
    have hb2 : 0 + (ws.length + 1) ≤ maxLen := by simp at hl; unfold maxLen; omega
    go_enter Try.func65, Try.ntmps65
    go_wp2_with (at_builtin; go_must (refine wpList_append_row _ rfl _ _ 79 101 _ 1 8 rfl Try.underlying79 info_u64 rfl HROW.out ⟨g, off, none⟩ (ws.length + 1) c (cells64 (x :: ws)) (by simp [cells64]) (fun j u hu => by rw [Addr.add_lit]; exact ((Below.refl w.heap.size w).alloc (Nat.le_refl _) _).cell (p := ⟨g, off + j, none⟩) hg |>.trans (HX.out j u hu)) (cells64_plain _) rfl rfl hb1 hb2 (by omega) ?_); intro v' r' w2 hR hC hN; obtain ⟨A', c', rfl, _⟩ := hR.shape; have HR := Lib.hid hR; have HC := Lib.hid hC; have HN := Lib.hid hN; clear hR hC hN)
    go_ret
    have hb : Below w.heap.size w w2 := ((Below.refl w.heap.size w).alloc (Nat.le_refl _) _).trans (HC.out.below (by simp) fun k e => by injection e with e; omega)
    have hR := HR.out
    rw [List.nil_append, Nat.zero_add] at hR
    refine ⟨⟨hb, A', c', by simp, fun _ => ?_⟩, _, r', by simp, hR, HN.out.ge (B := w.heap.size) (by simp) (fun k e => by injection e with e; omega)⟩
    obtain ⟨g', off', cap', hv', hr', _, _, hg', hcell, _⟩ := hR.form (by omega)
    injection hv' with h1 _ _
    refine ⟨g', off', h1, HN.out.ge (B := w.heap.size) (by simp) (fun k e => by injection e with e; omega) _ hr', ?_, hcell⟩
    rcases hR.2 with ⟨_, h0, _⟩ | ⟨g2, off2, cap2, cur2, _, h0, hh, _⟩
    · rw [h0] at hr'; cases hr'
    · rw [h0] at hr'; cases hr'; exact ⟨_, hh⟩
theorem clone64_any (v : Value) (r : Option Nat) (ws : List Nat) (w : World) (hl : ws.length ≤ 1024) (h : RowAt w 101 1 v r ws.length (cells64 ws)) :
    Calls Try.prog 65 #[v] w (Copied w ws) := (clone64_both v r ws w hl h).mono fun _ _ h => h.1
end Go.Proofs.Ytlniohgnkihefaa
