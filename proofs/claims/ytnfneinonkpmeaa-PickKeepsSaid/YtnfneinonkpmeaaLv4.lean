/- brazierref01: words, walked. -/
import Derived.Deep.DeepCutAuto
import Derived.Test.YtnfneinonkpmeaaLv3
import Derived.Test.YtnfneinonkpmeaaLv2
namespace Go.Proofs.Ytnfneinonkpmeaa
open Go.RowKit

theorem bits_any (n : Int) (hn : I32 n) (w : World) : Calls Try.prog 70 #[.int .i32 n] w fun e w' => e = .returned (.int .i64 (bitsZ n)) ∧ w = w' := by
  unfold I32 at hn
  obtain ⟨h1, h2⟩ := hn
  by_cases h : n < 0
  · go_enter Try.func70, Try.ntmps70
    go_wp2
    go_ret
    exact ⟨ret_int (by unfold bitsZ; rw [if_pos h]), rfl⟩
  · go_enter Try.func70, Try.ntmps70
    go_wp2
    go_ret
    exact ⟨ret_int (by unfold bitsZ; rw [if_neg (by omega)]), rfl⟩
theorem truth_any (b : Bool) (w : World) : Calls Try.prog 69 #[.bool b] w fun e w' => e = .returned (.int .i32 (truth b)) ∧ w = w' := by
  cases b
  · go_enter Try.func69, Try.ntmps69
    go_wp2
    go_ret
    exact ⟨rfl, rfl⟩
  · go_enter Try.func69, Try.ntmps69
    go_wp2
    go_ret
    exact ⟨rfl, rfl⟩
theorem tmod_neg {n : Int} (h : n < 0) : (n.tmod 4294967296 = 0 ∧ n % 4294967296 = 0) ∨ (n.tmod 4294967296 < 0 ∧ n.tmod 4294967296 + 4294967296 = n % 4294967296) := by
  have h1 := Int.tmod_eq_emod (a := n) (b := 4294967296)
  rw [h1]
  split
  · rename_i h2
    rcases h2 with h2 | h2
    · omega
    · exact .inl ⟨by omega, by omega⟩
  · exact .inr ⟨by simp; omega, by simp⟩
theorem round_any (n : Int) (hn : I64 n) (w : World) : Calls Try.prog 68 #[.int .i64 n] w fun e w' => e = .returned (.int .i32 (rnd n)) ∧ w = w' := by
  unfold I64 at hn
  obtain ⟨h1, h2⟩ := hn
  by_cases h0 : 0 ≤ n
  · by_cases hb : 2147483648 ≤ n % 4294967296
    · go_enter Try.func68, Try.ntmps68
      go_wp2
      go_ret
      exact ⟨ret_int (by unfold rnd; rw [if_pos hb]), rfl⟩
    · go_enter Try.func68, Try.ntmps68
      go_wp2
      go_ret
      exact ⟨ret_int (by unfold rnd; rw [if_neg (by omega)]), rfl⟩
  · have hm := tmod_neg (n := n) (by omega)
    have hE := Lib.hid hm
    rcases hm with ⟨h3, h4⟩ | ⟨h3, h4⟩
    · have h5 := Lib.hid h4
      have h6 : n.tmod 4294967296 ≤ 0 := by omega
      have h7 : 0 ≤ n.tmod 4294967296 := by omega
      have HE := Lib.hid h3
      clear h3 h4
      go_enter Try.func68, Try.ntmps68
      go_wp2
      go_ret
      exact ⟨ret_int (by unfold rnd; rw [if_neg (by rw [h5.out]; omega), HE.out, h5.out]), rfl⟩
    · have HE := Lib.hid h4
      have h5 : -4294967296 < n.tmod 4294967296 := Int.lt_tmod_of_pos n (by decide)
      by_cases hb : 2147483648 ≤ n.tmod 4294967296 + 4294967296
      · clear h4
        go_enter Try.func68, Try.ntmps68
        go_wp2
        go_ret
        exact ⟨ret_int (by unfold rnd; rw [if_pos (by rw [← HE.out]; exact hb), ← HE.out]; omega), rfl⟩
      · clear h4
        go_enter Try.func68, Try.ntmps68
        go_wp2
        go_ret
        exact ⟨ret_int (by unfold rnd; rw [if_neg (by rw [← HE.out]; omega), ← HE.out]), rfl⟩
theorem floor_any (a k : Int) (ha : I32 a) (h1 : 1 ≤ k) (h2 : k ≤ 2147483648) (w : World) : Calls Try.prog 71 #[.int .i64 a, .int .i64 k] w fun e w' => e = .returned (.int .i64 (a / k)) ∧ w = w' := by
  unfold I32 at ha
  obtain ⟨ha1, ha2⟩ := ha
  by_cases h0 : 0 ≤ a
  · have hq : a / k * k ≤ a := Int.ediv_mul_le a (by omega)
    have hq0 : 0 ≤ a / k := Int.ediv_nonneg h0 (by omega)
    have hq1 : 0 ≤ a / k * k := Int.mul_nonneg hq0 (by omega)
    have hq2 : a / k ≤ a := Int.ediv_le_self k h0
    go_enter Try.func71, Try.ntmps71
    go_wp2
    go_ret
    exact ⟨rfl, rfl⟩
  · have hn : a.tdiv k = -((-a) / k) := by
      rw [show a = -(-a) from by omega, Int.neg_tdiv, Int.tdiv_eq_ediv_of_nonneg (by omega)]
      simp
    have hq0 : 0 ≤ (-a) / k := Int.ediv_nonneg (by omega) (by omega)
    have hq : (-a) / k * k ≤ -a := Int.ediv_mul_le (-a) (by omega)
    have hq1 : 0 ≤ (-a) / k * k := Int.mul_nonneg hq0 (by omega)
    have hq2 : (-a) / k ≤ -a := Int.ediv_le_self k (by omega)
    have hlt : -a < ((-a) / k + 1) * k := Int.lt_ediv_add_one_mul_self (-a) (by omega)
    have e1 : (-a) / k = -(a.tdiv k) := by omega
    rw [e1] at hq0 hq hq1 hq2 hlt
    have e2 : -(a.tdiv k) * k = -(a.tdiv k * k) := Int.neg_mul _ k
    have e3 : (-(a.tdiv k) + 1) * k = -(a.tdiv k * k) + k := by rw [Int.add_mul, e2, Int.one_mul]
    rw [e2] at hq hq1
    rw [e3] at hlt
    have b1 : a ≤ a.tdiv k * k := by omega
    have b2 : a.tdiv k * k ≤ 0 := by omega
    have b3 : a ≤ a.tdiv k := by omega
    have b4 : a.tdiv k ≤ 0 := by omega
    have b5 : a.tdiv k * k < a + k := by omega
    by_cases hx : a < a.tdiv k * k
    · have hr : a / k = a.tdiv k - 1 := by
        rw [Int.ediv_eq_iff_of_pos (by omega)]
        rw [Int.sub_mul]
        omega
      have HR := Lib.hid hr
      clear hr hq0 hq hq1 hq2 hlt e1 e2 e3 hn
      go_enter Try.func71, Try.ntmps71
      go_wp2
      go_ret
      exact ⟨ret_int HR.out.symm, rfl⟩
    · have hr : a / k = a.tdiv k := by
        rw [Int.ediv_eq_iff_of_pos (by omega)]
        omega
      have HR := Lib.hid hr
      clear hr hq0 hq hq1 hq2 hlt e1 e2 e3 hn
      go_enter Try.func71, Try.ntmps71
      go_wp2
      go_ret
      exact ⟨ret_int HR.out.symm, rfl⟩
theorem bits_q (n : Int) (hn : I32 n) (w : World) : Calls Try.prog 70 #[.int .i32 n] w fun e w' => e = .returned (.int .i64 (bitsZ n)) ∧ w' = w := (bits_any n hn w).mono fun _ _ h => ⟨h.1, h.2.symm⟩
theorem mul_bd {x y : Int} (hx1 : -2147483648 ≤ x) (hx2 : x ≤ 2147483648) (hy1 : -2147483648 ≤ y) (hy2 : y ≤ 2147483648) : -4611686018427387904 ≤ x * y ∧ x * y ≤ 4611686018427387904 := by
  have h := Int.natAbs_mul x y
  have h2 : x.natAbs * y.natAbs ≤ 2147483648 * 2147483648 := Nat.mul_le_mul (by omega) (by omega)
  omega
theorem tdiv_bd {x : Int} (y : Int) (hx1 : -2147483648 ≤ x) (hx2 : x ≤ 2147483647) : -2147483648 ≤ x.tdiv y ∧ x.tdiv y ≤ 2147483648 := by
  have h := Int.natAbs_tdiv_le_natAbs x y
  omega
theorem ediv_bd (x k : Int) (hk : 1 ≤ k) (hx1 : -2147483648 ≤ x) (hx2 : x ≤ 2147483647) : -2147483648 ≤ x / k ∧ x / k ≤ 2147483647 := by
  refine ⟨?_, ?_⟩
  · rw [Int.le_ediv_iff_mul_le (by omega)]
    have : k * 2147483648 ≥ 1 * 2147483648 := Int.mul_le_mul_of_nonneg_right hk (by decide)
    omega
  · rcases Int.lt_or_le x 0 with h | h
    · have := Int.ediv_neg_of_neg_of_pos h (show 0 < k by omega); omega
    · have := Int.ediv_le_self k h; omega
theorem quo_bd {x y : Int} (hx1 : -2147483648 ≤ x) (hx2 : x ≤ 2147483647) (hy1 : -2147483648 ≤ y) (hy2 : y ≤ 2147483647) : -4611686018427387904 ≤ x.tdiv y * y ∧ x.tdiv y * y ≤ 4611686018427387904 :=
  mul_bd (tdiv_bd y hx1 hx2).1 (tdiv_bd y hx1 hx2).2 hy1 (by omega)
theorem beqd (x y : Int) : (x == y) = decide (x = y) := rfl
theorem bned (x y : Int) : (x != y) = !decide (x = y) := rfl
theorem ret_bin {a b : Int} {s t : Bool} (h : a = b) (k : s = t) : Ending.returned (.tuple #[.int .i32 a, .bool s]) = .returned (.tuple #[.int .i32 b, .bool t]) := by rw [h, k]
/-- What Bin hands back. -/
def BinPost (o : Option Int) (w : World) (e : Ending) (w' : World) : Prop := (∃ n, w' = w.drewN n) ∧ e = .returned (.tuple #[.int .i32 (o.getD 0), .bool o.isSome])
set_option maxHeartbeats 8000000 in
set_option maxRecDepth 100000 in
theorem bin_any (op x y : Int) (hx : I32 x) (hy : I32 y) (w : World) :
    Calls Try.prog 60 #[.int .i64 op, .int .i32 x, .int .i32 y] w (BinPost (binO op x y) w) := by
  have hs := shN_lt y
  have hb := bitsZ_bd hy
  have hsr : ((shN y : Nat) : Int) = bitsZ y % 32 := by unfold shN; omega
  have HX := Lib.hid hx
  have HY := Lib.hid hy
  unfold I32 at hx hy
  obtain ⟨hx1, hx2⟩ := hx
  obtain ⟨hy1, hy2⟩ := hy
  obtain ⟨hb1, hb2⟩ := hb
  have HS := Lib.hid hsr
  clear hsr
  obtain ⟨s, hse⟩ : ∃ s, s = shN y := ⟨_, rfl⟩
  rw [← hse] at hs HS
  have HSE := Lib.hid hse
  clear hse
  go_enter Try.func60, Try.ntmps60
  go_wp2_with fail
  go_loop [10, 11] (fun k i => ∃ j : Nat, j ≤ s ∧ i = .int .i64 (j : Nat) ∧ k = .int .i64 (pw j)) (fun _ i => s - (intOf i).toNat)
  case atStart => exact ⟨0, by omega, rfl, rfl⟩
  case round =>
    obtain ⟨j, hj, rfl, rfl⟩ := hrel
    have p1 := pw_pos j
    have p2 := pw_le31 (n := j) (by omega)
    have HN : Hid (pw (j + 1) = pw j * 2) := Lib.hid rfl
    by_cases hlt : j < s
    · have hlt' : (j : Int) < bitsZ y % 32 := by rw [← HS.out]; omega
      go_wp2_with fail
      refine (bits_any y HY.out _).mono ?_
      rintro e w' ⟨rfl, rfl⟩
      go_wp2_with fail
      go_round
      case rel => exact ⟨j + 1, by omega, by go_num, by rw [HN.out]⟩
      case measure => simp [intOf]; omega
    · obtain rfl : j = s := by omega
      have hlt' : bitsZ y % 32 ≤ (j : Int) := by rw [← HS.out]; omega
      go_wp2_with fail
      refine (bits_any y HY.out _).mono ?_
      rintro e w' ⟨rfl, rfl⟩
      go_wp2_with fail
      clear hlt' hs hj hlt
      go_loopw [12, 13, 14, 15] (fun a o p i wr => ∃ (q m : Nat), q ≤ 32 ∧ i = .int .i64 (q : Nat) ∧ a = .int .i64 (andS x y q) ∧ o = .int .i64 (orS x y q) ∧ p = .int .i64 (pw q) ∧ Hid (wr = w.drewN m)) (fun _ _ _ i _ => 32 - (intOf i).toNat)
      case atStart => exact ⟨0, 0, by omega, rfl, rfl, rfl, rfl, Lib.hid rfl⟩
      case round =>
        obtain ⟨q, m, hq, rfl, rfl, rfl, rfl, HW⟩ := hrel
        obtain ⟨s1, s2, s3, s4⟩ := sums_bd x y q
        have r1 := pw_pos q
        have r2 := pw_le32 (n := q) (by omega)
        have hbx := bitsZ_bd HX.out
        obtain ⟨hbx1, hbx2⟩ := hbx
        by_cases hlt : q < 32
        · have r3 := pw_le31 (n := q) (by omega)
          have hlt' : (q : Int) < 32 := by omega
          have d1 : 0 ≤ bitsZ x / pw q := Int.ediv_nonneg hbx1 (by omega)
          have d2 : 0 ≤ bitsZ y / pw q := Int.ediv_nonneg hb1 (by omega)
          have d3 : bitsZ x / pw q ≤ bitsZ x := Int.ediv_le_self _ hbx1
          have d4 : bitsZ y / pw q ≤ bitsZ y := Int.ediv_le_self _ hb1
          go_wp2_with fail
          go_quiet ((go_at_call 70; refine Calls.quiet_of_same (bits_q _ (by first | exact HX.out | exact HY.out) _)))
          have HA : Hid (andS x y (q + 1) = andS x y q + bitsZ x / pw q % 2 * (bitsZ y / pw q % 2) * pw q) := Lib.hid rfl
          have HO : Hid (orS x y (q + 1) = orS x y q + (bitsZ x / pw q % 2 + bitsZ y / pw q % 2 - bitsZ x / pw q % 2 * (bitsZ y / pw q % 2)) * pw q) := Lib.hid rfl
          have HP : Hid (pw (q + 1) = pw q * 2) := Lib.hid rfl
          have HWN : Hid (wr.drewN nq = w.drewN (m + nq)) := Lib.hid (by rw [HW.out, World.drewN_drewN])
          have m1 := mod2 (bitsZ x / pw q)
          have m2 := mod2 (bitsZ y / pw q)
          obtain ⟨g1, hg1⟩ : ∃ g, g = bitsZ x / pw q % 2 := ⟨_, rfl⟩
          obtain ⟨g2, hg2⟩ : ∃ g, g = bitsZ y / pw q % 2 := ⟨_, rfl⟩
          rw [← hg1] at HA HO m1 ⊢
          rw [← hg2] at HA HO m2 ⊢
          clear d1 d2 d3 d4 hg1 hg2
          rcases m1 with rfl | rfl <;> rcases m2 with rfl | rfl
          all_goals
            go_wp2_with fail
            go_roundw
            case rel => exact ⟨q + 1, m + nq, by omega, by go_num, by rw [HA.out]; go_num, by rw [HO.out]; go_num, by rw [HP.out], HWN⟩
            case measure => simp [intOf]; omega
        · obtain rfl : q = 32 := by omega
          have h32 : pw 32 = 4294967296 := by decide
          have s2' : andS x y 32 < 4294967296 := by omega
          have s4' : orS x y 32 < 4294967296 := by omega
          clear s2 s4 r1 r2 h32 hlt
          obtain ⟨⟨b1, b2⟩, ⟨b3, b4⟩⟩ := And.intro (mul_bd hx1 (by omega) hy1 (by omega)) (mul_bd (y := pw j) hx1 (by omega) (by omega) p2)
          obtain ⟨⟨b5, b6⟩, ⟨b7, b8⟩⟩ := And.intro (tdiv_bd y hx1 hx2) (quo_bd hx1 hx2 hy1 hy2)
          go_upto_region 16 with (fail)
          by_cases o1 : op = 1
          · subst o1
            go_wp2_with fail
            refine (round_any _ (by unfold I64; omega) _).mono ?_
            rintro e w' ⟨rfl, rfl⟩
            go_wp2_with fail
            go_ret2
            exact ⟨⟨m, HW.out⟩, ret_bin (by simp [binO]) (by simp [binO])⟩
          by_cases o2 : op = 2
          · subst o2
            go_wp2_with fail
            refine (round_any _ (by unfold I64; omega) _).mono ?_
            rintro e w' ⟨rfl, rfl⟩
            go_wp2_with fail
            go_ret2
            exact ⟨⟨m, HW.out⟩, ret_bin (by simp [binO]) (by simp [binO])⟩
          by_cases o3 : op = 3
          · subst o3
            go_wp2_with fail
            refine (round_any _ (by unfold I64; omega) _).mono ?_
            rintro e w' ⟨rfl, rfl⟩
            go_wp2_with fail
            go_ret2
            exact ⟨⟨m, HW.out⟩, ret_bin (by simp [binO]) (by simp [binO])⟩
          by_cases o4 : op = 4
          · subst o4
            by_cases y0 : y = 0
            · subst y0
              go_wp2_with fail
              go_ret2
              exact ⟨⟨m, HW.out⟩, ret_bin (by simp [binO]) (by simp [binO])⟩
            · have y1 : (y != 0) = true := bne_iff_ne.2 y0
              have Y0 := Lib.hid y0
              clear y0
              go_wp2_with fail
              refine (round_any _ (by unfold I64; omega) _).mono ?_
              rintro e w' ⟨rfl, rfl⟩
              go_wp2_with fail
              go_ret2
              exact ⟨⟨m, HW.out⟩, ret_bin (by simp [binO, Y0.out]) (by simp [binO, Y0.out])⟩
          by_cases o5 : op = 5
          · subst o5
            by_cases y0 : y = 0
            · subst y0
              go_wp2_with fail
              go_ret2
              exact ⟨⟨m, HW.out⟩, ret_bin (by simp [binO]) (by simp [binO])⟩
            · have y1 : (y != 0) = true := bne_iff_ne.2 y0
              have Y0 := Lib.hid y0
              clear y0
              go_wp2_with fail
              refine (round_any _ (by unfold I64; omega) _).mono ?_
              rintro e w' ⟨rfl, rfl⟩
              go_wp2_with fail
              go_ret2
              exact ⟨⟨m, HW.out⟩, ret_bin (by simp [binO, Y0.out]) (by simp [binO, Y0.out])⟩
          by_cases o6 : op = 6
          · subst o6
            go_wp2_with fail
            refine (round_any _ (by unfold I64; omega) _).mono ?_
            rintro e w' ⟨rfl, rfl⟩
            go_wp2_with fail
            go_ret2
            exact ⟨⟨m, HW.out⟩, ret_bin (by simp [binO, HSE.out]) (by simp [binO])⟩
          by_cases o7 : op = 7
          · subst o7
            go_wp2_with fail
            refine (floor_any x (pw j) HX.out p1 p2 _).mono ?_
            rintro e w' ⟨rfl, rfl⟩
            go_wp2_with fail
            refine (round_any _ (by unfold I64; have := ediv_bd x (pw j) p1 hx1 hx2; omega) _).mono ?_
            rintro e w' ⟨rfl, rfl⟩
            go_wp2_with fail
            go_ret2
            exact ⟨⟨m, HW.out⟩, ret_bin (by simp [binO, HSE.out]) (by simp [binO])⟩
          by_cases o8 : op = 8
          · subst o8
            go_wp2_with fail
            refine (round_any _ (by unfold I64; omega) _).mono ?_
            rintro e w' ⟨rfl, rfl⟩
            go_wp2_with fail
            go_ret2
            exact ⟨⟨m, HW.out⟩, ret_bin (by simp [binO]) (by simp [binO])⟩
          by_cases o9 : op = 9
          · subst o9
            go_wp2_with fail
            refine (round_any _ (by unfold I64; omega) _).mono ?_
            rintro e w' ⟨rfl, rfl⟩
            go_wp2_with fail
            go_ret2
            exact ⟨⟨m, HW.out⟩, ret_bin (by simp [binO]) (by simp [binO])⟩
          by_cases o10 : op = 10
          · subst o10
            go_wp2_with fail
            refine (round_any _ (by unfold I64; omega) _).mono ?_
            rintro e w' ⟨rfl, rfl⟩
            go_wp2_with fail
            go_ret2
            exact ⟨⟨m, HW.out⟩, ret_bin (by simp [binO]) (by simp [binO])⟩
          by_cases o11 : op = 11
          · subst o11
            go_wp2_with fail
            refine (truth_any _ _).mono ?_
            rintro e w' ⟨rfl, rfl⟩
            go_wp2_with fail
            go_ret2
            exact ⟨⟨m, HW.out⟩, ret_bin (by simp [binO]) (by simp [binO])⟩
          by_cases o12 : op = 12
          · subst o12
            go_wp2_with fail
            refine (truth_any _ _).mono ?_
            rintro e w' ⟨rfl, rfl⟩
            go_wp2_with fail
            go_ret2
            exact ⟨⟨m, HW.out⟩, ret_bin (by simp [binO]) (by simp [binO])⟩
          by_cases o13 : op = 13
          · subst o13
            go_wp2_with fail
            refine (truth_any _ _).mono ?_
            rintro e w' ⟨rfl, rfl⟩
            go_wp2_with fail
            go_ret2
            exact ⟨⟨m, HW.out⟩, ret_bin (by simp [binO]) (by simp [binO])⟩
          by_cases o14 : op = 14
          · subst o14
            go_wp2_with fail
            refine (truth_any _ _).mono ?_
            rintro e w' ⟨rfl, rfl⟩
            go_wp2_with fail
            go_ret2
            exact ⟨⟨m, HW.out⟩, ret_bin (by simp [binO]) (by simp [binO])⟩
          by_cases o15 : op = 15
          · subst o15
            go_wp2_with fail
            refine (truth_any _ _).mono ?_
            rintro e w' ⟨rfl, rfl⟩
            go_wp2_with fail
            go_ret2
            exact ⟨⟨m, HW.out⟩, ret_bin (by simp [binO, beqd]) (by simp [binO])⟩
          by_cases o16 : op = 16
          · subst o16
            go_wp2_with fail
            refine (truth_any _ _).mono ?_
            rintro e w' ⟨rfl, rfl⟩
            go_wp2_with fail
            go_ret2
            exact ⟨⟨m, HW.out⟩, ret_bin (by simp [binO, bned]) (by simp [binO])⟩
          by_cases o17 : op = 17
          · subst o17
            go_wp2_with fail
            refine (truth_any _ _).mono ?_
            rintro e w' ⟨rfl, rfl⟩
            go_wp2_with fail
            go_ret2
            exact ⟨⟨m, HW.out⟩, ret_bin (by rw [show (x * y != 0) = decide (x * y ≠ 0) from by rw [bned, decide_not]]; rfl) (by simp [binO])⟩
          by_cases o18 : op = 18
          · subst o18
            by_cases x0 : x = 0
            · subst x0
              go_wp2_with fail
              refine (truth_any _ _).mono ?_
              rintro e w' ⟨rfl, rfl⟩
              go_wp2_with fail
              go_ret2
              exact ⟨⟨m, HW.out⟩, ret_bin (by simp [binO, bned]) (by simp [binO])⟩
            · have x1 : (x != 0) = true := bne_iff_ne.2 x0
              have X0 := Lib.hid x0
              clear x0
              go_wp2_with fail
              refine (truth_any _ _).mono ?_
              rintro e w' ⟨rfl, rfl⟩
              go_wp2_with fail
              go_ret2
              exact ⟨⟨m, HW.out⟩, ret_bin (by simp [binO, X0.out]) (by simp [binO])⟩
          go_wp2_with fail
          go_ret2
          exact ⟨⟨m, HW.out⟩, ret_bin (by simp [binO, *]) (by simp [binO, *])⟩
set_option maxHeartbeats 1000000 in
theorem un_any (op x : Int) (hx : I32 x) (w : World) :
    Calls Try.prog 59 #[.int .i64 op, .int .i32 x] w (BinPost (unO op x) w) := by
  have HX := Lib.hid hx
  unfold I32 at hx
  obtain ⟨hx1, hx2⟩ := hx
  have HW : Hid (∃ n, w = w.drewN n) := Lib.hid ⟨0, rfl⟩
  by_cases o19 : op = 19
  · subst o19
    go_enter Try.func59, Try.ntmps59
    go_wp2_with fail
    refine (round_any _ (by unfold I64; omega) _).mono ?_
    rintro e w' ⟨rfl, rfl⟩
    go_wp2_with fail
    go_ret2
    exact ⟨HW.out, ret_bin (by simp [unO]) (by simp [unO])⟩
  by_cases o20 : op = 20
  · subst o20
    go_enter Try.func59, Try.ntmps59
    go_wp2_with fail
    refine (truth_any _ _).mono ?_
    rintro e w' ⟨rfl, rfl⟩
    go_wp2_with fail
    go_ret2
    exact ⟨HW.out, ret_bin (by simp [unO, beqd]) (by simp [unO])⟩
  by_cases o21 : op = 21
  · subst o21
    go_enter Try.func59, Try.ntmps59
    go_wp2_with fail
    refine (round_any _ (by unfold I64; omega) _).mono ?_
    rintro e w' ⟨rfl, rfl⟩
    go_wp2_with fail
    go_ret2
    exact ⟨HW.out, ret_bin (by simp [unO]) (by simp [unO])⟩
  go_enter Try.func59, Try.ntmps59
  go_wp2_with fail
  go_ret2
  exact ⟨HW.out, ret_bin (by simp [unO, *]) (by simp [unO, *])⟩
end Go.Proofs.Ytnfneinonkpmeaa
