/- math/bits.TrailingZeros64; slices.Clone of words. -/
import Derived.Test.YtdnlgcomhgnegaaDoorBitsC
import Derived.Test.YtdnlgcomhgnegaaDoorRow
import Derived.Test.YtdnlgcomhgnegaaDoorListW
import Derived.Laws.Bits64b
import Derived.WalkSpells
import Derived.Lib.SliceRun
namespace Go.Proofs.YtdnlgcomhgnegaaDoor
open Go.RowKit

/-- The library's table, in its variable. -/
def TabAt (w : World) : Prop := ∀ j, j < 64 → w.cell? ⟨0, j, none⟩ = some (.int .u8 (Lib.deBruijn64tab.getD j 0))

theorem tz_core (x k idx : Nat) (w : World) (hx0 : ((x : Int) == 0) = false)
    (key : IntKind.u64.wrap (bits BinOp.and IntKind.u64 (x : Int) (IntKind.u64.wrap (-(x : Int))) * 285870213051353865) / 288230376151711744 = (idx : Int))
    (hi : idx < 64) (hk : k < 64) (hcell : w.cell? ⟨0, idx, none⟩ = some (.int .u8 k)) :
    Calls Tryd.prog 36 #[.int .u64 x] w fun e w' => e = .returned (.int .i64 k) ∧ w = w' := by
  go_enter Tryd.func36, Tryd.ntmps36
  go_wp2_with (simp only [key])
  go_ret
  exact ⟨rfl, rfl⟩
theorem tz_key (x a : Nat) (hx : x < 18446744073709551616) (hlow : x &&& (18446744073709551616 - x) = a) (h0 : x ≠ 0) :
    IntKind.u64.wrap (bits BinOp.and IntKind.u64 (x : Int) (IntKind.u64.wrap (-(x : Int))) * 285870213051353865) / 288230376151711744 = ((a * 285870213051353865 % 18446744073709551616 / 288230376151711744 : Nat) : Int) := by
  have e1 : IntKind.u64.wrap (-(x : Int)) = ((18446744073709551616 - x : Nat) : Int) := by rw [IntKind.wrap_u64]; omega
  rw [e1, bits_and_u64_nat x _ hx (by omega), hlow, IntKind.wrap_u64]
  omega
theorem tz_any (x : Nat) (hx : x < big64) (hx0 : x ≠ 0) (w : World) (hT : TabAt w) :
    Calls Tryd.prog 36 #[.int .u64 x] w fun e w' => e = .returned (.int .i64 (Lib.ctz 64 x : Nat)) ∧ w = w' := by
  obtain ⟨hlow, hk⟩ := Lib.lowest_bit 64 x hx0 hx
  obtain ⟨hi, htab⟩ := Lib.deBruijn64_at _ hk
  have hcell := hT _ hi
  rw [htab] at hcell
  exact tz_core x _ _ w (by simp; omega) (tz_key x _ hx hlow hx0) hi hk hcell

def U64At (w : World) (k : Nat) : Prop := ∃ c, w.heap[k]? = some (.cells c 50 (0, 0))
theorem cells64_plain (ws : List Nat) : ∀ u ∈ cells64 ws, u.oneCell' = true := by
  intro u hu
  obtain ⟨z, _, rfl⟩ := List.mem_map.1 hu
  rfl
theorem cells64_length (ws : List Nat) : (cells64 ws).length = ws.length := by simp [cells64]
/-- A copy of the words: its cells, in a block of its own. -/
def Copied (w : World) (ws : List Nat) (e : Ending) (w' : World) : Prop :=
  Below w.heap.size w w' ∧ ∃ A c, e = .returned (.slice A ws.length c) ∧ (0 < ws.length → ∃ g off, A = some ⟨g, off, none⟩ ∧ w.heap.size ≤ g ∧ U64At w' g ∧ ∀ j u, (cells64 ws)[j]? = some u → w'.cell? ⟨g, off + j, none⟩ = some u)
/-- .. and as a row that can be written. -/
def CopyRow (w : World) (ws : List Nat) (e : Ending) (w' : World) : Prop := ∃ v r', e = .returned v ∧ RowAt w' 50 1 v r' ws.length (cells64 ws) ∧ ∀ k, r' = some k → w.heap.size ≤ k
set_option maxHeartbeats 1000000 in
set_option maxRecDepth 100000 in
theorem clone64_both (v : Value) (r : Option Nat) (ws : List Nat) (w : World) (hl : ws.length ≤ 1024) (h : RowAt w 50 1 v r ws.length (cells64 ws)) :
    Calls Tryd.prog 35 #[v] w fun e w' => Copied w ws e w' ∧ CopyRow w ws e w' := by
  have qS : ∀ (w : World) (a : Option Addr) (n c n' c' : Nat), (binOp .eql 47 (.slice a n c) (.slice none n' c')).run Tryd.prog w = .ok (.bool a.isNone) w := fun w a n c n' c' => Go.Lib.run_eql_slice_nil (P := Tryd.prog) w 47 50 a n c n' c' Tryd.underlying47
  obtain ⟨A, c, rfl, _⟩ := h.shape
  cases ws with
  | nil =>
    have hA := h.2
    clear h
    cases A with
    | none =>
      go_enter Tryd.func35, Tryd.ntmps35
      go_wp2_with fail
      go_ret
      exact ⟨⟨Below.refl _ _, none, 0, rfl, fun hp => by cases hp⟩, _, none, rfl, RowAt.nil _ _ _, fun _ e => by cases e⟩
    | some ad =>
      clear hA
      go_enter Tryd.func35, Tryd.ntmps35
      go_wp2_with fail
      go_ret
      exact ⟨⟨(Below.refl _ _).alloc (Nat.le_refl _) _, _, _, rfl, fun hp => by cases hp⟩, _, some w.heap.size, rfl, ⟨rfl, .inr ⟨w.heap.size, 0, 0, #[], rfl, rfl, heap_alloc_new w _, Nat.le_refl _, Nat.zero_le _, by simp, by simp [cells64]⟩⟩, fun k e => by cases e; exact Nat.le_refl _⟩
  | cons x ws =>
    obtain ⟨g, off, cap, hv, _, _, _, hg, hx, _⟩ := h.form (by simp)
    injection hv with h1 _ _
    subst h1
    have HX := Lib.hid hx
    clear hx h
    have hrow : RowAt (w.alloc (.cells #[] 50)) 50 1 (.slice (some ⟨w.heap.size, 0, none⟩) 0 0) (some w.heap.size) 0 [] := ⟨rfl, .inr ⟨w.heap.size, 0, 0, #[], rfl, rfl, heap_alloc_new w _, Nat.le_refl _, Nat.zero_le _, by simp, by simp⟩⟩
    have HROW := Lib.hid hrow
    clear hrow
    have hb1 : (0 + (ws.length + 1)) * 8 ≤ 140737488355328 := by simp at hl; omega
    have hb2 : 0 + (ws.length + 1) ≤ maxLen := by simp at hl; unfold maxLen; omega
    go_enter Tryd.func35, Tryd.ntmps35
    go_wp2_with (at_builtin; go_must (refine wpList_append_row _ rfl _ _ 47 50 _ 1 8 rfl Tryd.underlying47 info_u64 rfl HROW.out ⟨g, off, none⟩ (ws.length + 1) c (cells64 (x :: ws)) (by simp [cells64]) (fun j u hu => by rw [Addr.add_lit]; exact ((Below.refl w.heap.size w).alloc (Nat.le_refl _) _).cell (p := ⟨g, off + j, none⟩) hg |>.trans (HX.out j u hu)) (cells64_plain _) rfl rfl hb1 hb2 (by omega) ?_); intro v' r' w2 hR hC hN; obtain ⟨A', c', rfl, _⟩ := hR.shape; have HR := Lib.hid hR; have HC := Lib.hid hC; have HN := Lib.hid hN; clear hR hC hN)
    go_ret
    have hb : Below w.heap.size w w2 := ((Below.refl w.heap.size w).alloc (Nat.le_refl _) _).trans (HC.out.below (by simp) fun k e => by injection e with e; omega)
    have hR := HR.out
    rw [List.nil_append, Nat.zero_add] at hR
    refine ⟨⟨hb, A', c', by simp, fun _ => ?_⟩, _, r', by simp, hR, HN.out.ge (B := w.heap.size) (by simp) (fun k e => by injection e with e; omega)⟩
    obtain ⟨g', off', cap', hv', hr', _, _, hg', hcell, _⟩ := hR.form (by omega)
    injection hv' with h1 _ _
    refine ⟨g', off', h1, HN.out.ge (B := w.heap.size) (by simp) (fun k e => by injection e with e; omega) _ hr', ?_, hcell⟩
    rcases hR.2 with ⟨_, h0, _⟩ | ⟨g2, off2, cap2, cur2, _, h0, hh, _⟩
    · rw [h0] at hr'; cases hr'
    · rw [h0] at hr'; cases hr'; exact ⟨_, hh⟩
theorem clone64_any (v : Value) (r : Option Nat) (ws : List Nat) (w : World) (hl : ws.length ≤ 1024) (h : RowAt w 50 1 v r ws.length (cells64 ws)) :
    Calls Tryd.prog 35 #[v] w (Copied w ws) := (clone64_both v r ws w hl h).mono fun _ _ h => h.1
end Go.Proofs.YtdnlgcomhgnegaaDoor
