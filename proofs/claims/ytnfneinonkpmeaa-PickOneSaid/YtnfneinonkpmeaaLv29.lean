/- brazierref12.Value: what a machine's instruction from 2 to 23 makes of two words. -/
import Derived.Test.YtnfneinonkpmeaaLv3
import Derived.Test.YtnfneinonkpmeaaLv4
namespace Go.Proofs.Ytnfneinonkpmeaa
open Go Go.RowKit
def ValPost (o : Option Int) (w : World) (e : Ending) (w' : World) : Prop := e = .returned (.tuple #[.int .i32 (o.getD 0), .bool o.isSome]) ∧ Below w.heap.size w w'
theorem drewN_below (w : World) (n : Nat) : Below w.heap.size w (w.drewN n) := ⟨rfl, rfl, rfl, Nat.le_refl _, fun _ _ => rfl⟩
set_option maxHeartbeats 8000000 in
theorem vValue_any (op x y : Int) (hop : 2 ≤ op ∧ op ≤ 23) (hx : I32 x) (hy : I32 y) (w : World) :
    Calls Try.prog 62 #[.int .i64 op, .int .i32 x, .int .i32 y] w (ValPost (valO op x y) w) := by
  have HX := Lib.hid hx
  have HY := Lib.hid hy
  clear hx hy
  have h : op = 4 ∨ op = 15 ∨ op = 9 ∨ op = 17 ∨ op = 2 ∨ op = 3 ∨ op = 5 ∨ op = 6 ∨ op = 7 ∨ op = 8 ∨ op = 10 ∨ op = 11 ∨ op = 12 ∨ op = 13 ∨ op = 14 ∨ op = 16 ∨ op = 18 ∨ op = 19 ∨ op = 20 ∨ op = 21 ∨ op = 22 ∨ op = 23 := by omega
  clear hop
  have lo : ∀ k, k = 4 ∨ k = 15 → valO k x y = some (truth (decide (bitsZ x < bitsZ y))) := fun k hk => by unfold valO; rw [if_pos hk]
  have dn : ∀ k, k = 9 ∨ k = 17 → valO k x y = some (rnd (bitsZ x / pw (shN y))) := fun k hk => by unfold valO; rw [if_neg (by omega), if_pos hk]
  have bi : ∀ k, (k ≠ 4 ∧ k ≠ 15 ∧ k ≠ 9 ∧ k ≠ 17) → valO k x y = binO (opsT k) x y := fun k hk => by unfold valO; rw [if_neg (by omega), if_neg (by omega)]
  rcases h with rfl | rfl | rfl | rfl | h
  · rw [lo 4 (by decide)]
    clear lo dn bi
    obtain ⟨z, hz⟩ : ∃ z, z = truth (decide (bitsZ x < bitsZ y)) := ⟨_, rfl⟩
    have hC := vLow_any x y HX.out HY.out w
    rw [← hz] at hC ⊢
    have HC := Lib.hid hC
    clear hz hC
    go_enter Try.func62, Try.ntmps62
    go_wp2_with fail
    refine HC.out.mono ?_
    rintro e w' ⟨rfl, rfl⟩
    go_wp2_with fail
    go_ret2
    exact ⟨rfl, Below.refl _ _⟩
  · rw [lo 15 (by decide)]
    clear lo dn bi
    obtain ⟨z, hz⟩ : ∃ z, z = truth (decide (bitsZ x < bitsZ y)) := ⟨_, rfl⟩
    have hC := vLow_any x y HX.out HY.out w
    rw [← hz] at hC ⊢
    have HC := Lib.hid hC
    clear hz hC
    go_enter Try.func62, Try.ntmps62
    go_wp2_with fail
    refine HC.out.mono ?_
    rintro e w' ⟨rfl, rfl⟩
    go_wp2_with fail
    go_ret2
    exact ⟨rfl, Below.refl _ _⟩
  · rw [dn 9 (by decide)]
    clear lo dn bi
    obtain ⟨z, hz⟩ : ∃ z, z = rnd (bitsZ x / pw (shN y)) := ⟨_, rfl⟩
    have hC := vDown_any x y HX.out HY.out w
    rw [← hz] at hC ⊢
    have HC := Lib.hid hC
    clear hz hC
    go_enter Try.func62, Try.ntmps62
    go_wp2_with fail
    refine HC.out.mono ?_
    rintro e w' ⟨rfl, rfl⟩
    go_wp2_with fail
    go_ret2
    exact ⟨rfl, Below.refl _ _⟩
  · rw [dn 17 (by decide)]
    clear lo dn bi
    obtain ⟨z, hz⟩ : ∃ z, z = rnd (bitsZ x / pw (shN y)) := ⟨_, rfl⟩
    have hC := vDown_any x y HX.out HY.out w
    rw [← hz] at hC ⊢
    have HC := Lib.hid hC
    clear hz hC
    go_enter Try.func62, Try.ntmps62
    go_wp2_with fail
    refine HC.out.mono ?_
    rintro e w' ⟨rfl, rfl⟩
    go_wp2_with fail
    go_ret2
    exact ⟨rfl, Below.refl _ _⟩
  rcases h with rfl | rfl | rfl | rfl | rfl | rfl | rfl | rfl | rfl | rfl | rfl | rfl | rfl | rfl | rfl | rfl | rfl | rfl
  all_goals
    rw [bi _ (by decide)]
    clear lo dn bi
    go_enter Try.func62, Try.ntmps62
    go_wp2_with fail
    refine (bin_any _ x y HX.out HY.out _).mono ?_
    rintro e w' ⟨⟨n, rfl⟩, rfl⟩
    go_wp2_with fail
    go_ret2
    exact ⟨rfl, ((Below.refl _ w).alloc (Nat.le_refl _) _).trans ((drewN_below _ n).mono (by simp))⟩
end Go.Proofs.Ytnfneinonkpmeaa
