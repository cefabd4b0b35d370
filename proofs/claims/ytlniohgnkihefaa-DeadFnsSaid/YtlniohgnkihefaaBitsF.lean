/- Sets of numbers in memory: Drop. -/
import Derived.Test.YtlniohgnkihefaaBitsE
namespace Go.Proofs.Ytlniohgnkihefaa
open Go.RowKit

theorem andNot_pow (x j : Nat) (hx : x < big64) (hj : j < 64) : bits BinOp.andNot .u64 (x : Int) (IntKind.u64.wrap (2 ^ j)) = ((x &&& (big64 - 1 - 2 ^ j) : Nat) : Int) := by
  have hp := pow_lt64 hj
  have e : IntKind.u64.wrap (2 ^ j) = ((2 ^ j : Nat) : Int) := by
    rw [IntKind.wrap_u64]
    rw [show ((2 : Int) ^ j) = ((2 ^ j : Nat) : Int) from by simp]
    generalize 2 ^ j = p at hp ⊢
    unfold big64 at hp
    omega
  rw [e, andNot_bits _ _ hx hp]
theorem hasW_lt {ws : List Nat} {k : Int} (h : hasW ws k = true) : 0 ≤ k ∧ k.toNat / 64 < ws.length ∧ memW ws k.toNat = true := by
  unfold hasW at h
  simp only [Bool.and_eq_true, decide_eq_true_eq] at h
  refine ⟨h.1, ?_, h.2⟩
  rcases Nat.lt_or_ge (k.toNat / 64) ws.length with h' | h'
  · exact h'
  · rw [memW_none _ _ h'] at h; exact absurd h.2 (by decide)
set_option maxRecDepth 100000 in
set_option maxHeartbeats 1000000 in
theorem drop_any {w : World} {b : Nat} {r : Option Nat} {ws : List Nat} (h : BitsAt w b r ws) (k : Int) (h63 : k ≤ 9223372036854775807) :
    Calls Try.prog 59 #[.pointer (some ⟨b, 0, none⟩), .int .i64 k] w fun e w' => e = .returned (.bool (hasW ws k)) ∧
      ∃ ws', GrowAt w b r ws w' r ws' ∧ ∀ n, memW ws' n = (memW ws n && !(hasW ws k && n == k.toNat)) := by
  have hhas := has_any h k h63
  cases hh : hasW ws k with
  | false =>
    rw [hh] at hhas
    have H := Lib.hid h
    have HF := Lib.hid hhas
    clear h hhas hh
    go_enter Try.func59, Try.ntmps59
    go_wp2_with (go_at_call 43; refine HF.out.mono ?_; rintro e w' ⟨rfl, rfl⟩)
    go_ret
    exact ⟨rfl, ws, GrowAt.refl H.out, fun n => by simp⟩
  | true =>
    rw [hh] at hhas
    obtain ⟨h0, hl, _⟩ := hasW_lt hh
    obtain ⟨v, hb, hR⟩ := h.ex
    obtain ⟨A, c, rfl, _⟩ := hR.shape
    have hlen := h.len
    have hc := cell_of_one hb
    obtain ⟨g, off, c', hv, _, hcap, _, _, hcl, hfz2⟩ := hR.form (by omega)
    injection hv with hA _ hcc
    subst hA; subst hcc
    have hx := hcl (k / 64).toNat _ (cells64_at ws _ (by omega))
    have hfx := hfz2 (off + (k / 64).toNat)
    obtain ⟨x, hxe⟩ : ∃ x, x = ws.getD (k / 64).toNat 0 := ⟨_, rfl⟩
    rw [← hxe] at hx
    have hg' : k / 64 < ws.length := by omega
    have hg0 : 0 ≤ k / 64 := by omega
    have HX := Lib.hid hxe
    have H := Lib.hid h
    have HF := Lib.hid hhas
    have HBB := Lib.hid hb
    clear h hhas hh hxe hcl hfz2 hR hb hl hlen
    go_enter Try.func59, Try.ntmps59
    go_wp2_with (go_at_call 43; refine HF.out.mono ?_; rintro e w' ⟨rfl, rfl⟩)
    go_region
    go_wp2
    go_ret
    have hxl : x < big64 := by rw [HX.out]; exact getD_lt H.out.lt _
    refine ⟨rfl, ws.set (k / 64).toNat (x &&& (big64 - 1 - 2 ^ (k % 64).toNat)), ?_, fun n => ?_⟩
    · rw [andNot_pow _ _ hxl (by omega)]
      exact (GrowAt.set H.out HBB.out _ _ (by omega) (and_lt64 hxl)).drew
    · rw [HX.out, show (k / 64).toNat = k.toNat / 64 from by omega, show (k % 64).toNat = k.toNat % 64 from by omega, memW_drop _ _ _ (by omega)]
      simp
end Go.Proofs.Ytlniohgnkihefaa
