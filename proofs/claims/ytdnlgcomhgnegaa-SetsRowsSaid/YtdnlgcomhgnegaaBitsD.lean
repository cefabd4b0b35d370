/- How many numbers a set has: OnesCount64 and Len. -/
import Derived.Test.YtdnlgcomhgnegaaBitsC
import Derived.Test.YtdnlgcomhgnegaaOnes0
namespace Go.Proofs.Ytdnlgcomhgnegaa
open Go.RowKit

theorem wrap_nat (n : Nat) (h : n < 18446744073709551616) : IntKind.u64.wrap (n : Int) = (n : Int) := by rw [IntKind.wrap_u64]; omega
theorem and_nat (a m : Nat) (ha : a < 18446744073709551616) (hm : m < 18446744073709551616) : bits BinOp.and .u64 (a : Int) (m : Int) = ((a &&& m : Nat) : Int) := u64_and_nat a m ha hm
theorem l1 (x : Nat) (hx : x < 18446744073709551616) : IntKind.u64.wrap (bits BinOp.and IntKind.u64 ((x : Int) / 2) 6148914691236517205 + bits BinOp.and IntKind.u64 (x : Int) 6148914691236517205) = (n1 x : Int) := by
  have h1 := and_nat (x / 2) 6148914691236517205 (by omega) (by omega)
  have h2 := and_nat x 6148914691236517205 hx (by omega)
  rw [show ((x : Int) / 2) = ((x / 2 : Nat) : Int) from by omega]
  rw [show (6148914691236517205 : Int) = ((6148914691236517205 : Nat) : Int) from rfl, h1, h2, ← Int.natCast_add]
  exact wrap_nat _ (n1_lt x)
theorem l2 (x : Nat) (hx : x < 18446744073709551616) : IntKind.u64.wrap (bits BinOp.and IntKind.u64 ((x : Int) / 4) 3689348814741910323 + bits BinOp.and IntKind.u64 (x : Int) 3689348814741910323) = (n2 x : Int) := by
  have h1 := and_nat (x / 4) 3689348814741910323 (by omega) (by omega)
  have h2 := and_nat x 3689348814741910323 hx (by omega)
  rw [show ((x : Int) / 4) = ((x / 4 : Nat) : Int) from by omega]
  rw [show (3689348814741910323 : Int) = ((3689348814741910323 : Nat) : Int) from rfl, h1, h2, ← Int.natCast_add]
  exact wrap_nat _ (by have := n2_lt x; unfold n2 at this; omega)
theorem l3 (x : Nat) (hx : x < 8446744073709551616) : bits BinOp.and IntKind.u64 (IntKind.u64.wrap ((x : Int) / 16 + (x : Int))) 1085102592571150095 = (n3 x : Int) := by
  have h1 := and_nat (x / 16 + x) 1085102592571150095 (by omega) (by omega)
  rw [show ((x : Int) / 16 + (x : Int)) = ((x / 16 + x : Nat) : Int) from by omega, wrap_nat _ (by omega)]
  rw [show (1085102592571150095 : Int) = ((1085102592571150095 : Nat) : Int) from rfl, h1]
  rfl
theorem l4 (x : Nat) (hx : x ≤ 1085102592571150095) : IntKind.u64.wrap ((x : Int) + (x : Int) / 256) = (n4 x : Int) := by
  rw [show ((x : Int) + (x : Int) / 256) = ((x + x / 256 : Nat) : Int) from by omega]
  exact wrap_nat _ (by omega)
theorem l5 (x : Nat) (hx : x ≤ 2085102592571150095) : IntKind.u64.wrap ((x : Int) + (x : Int) / 65536) = (n5 x : Int) := by
  rw [show ((x : Int) + (x : Int) / 65536) = ((x + x / 65536 : Nat) : Int) from by omega]
  exact wrap_nat _ (by omega)
theorem l6 (x : Nat) (hx : x ≤ 3085102592571150095) : IntKind.u64.wrap ((x : Int) + (x : Int) / 4294967296) = (n6 x : Int) := by
  rw [show ((x : Int) + (x : Int) / 4294967296) = ((x + x / 4294967296 : Nat) : Int) from by omega]
  exact wrap_nat _ (by omega)
theorem l4_le (x : Nat) (hx : x ≤ 1085102592571150095) : n4 x ≤ 2085102592571150095 := by unfold n4; omega
theorem l5_le (x : Nat) (hx : x ≤ 2085102592571150095) : n5 x ≤ 3085102592571150095 := by unfold n5; omega
theorem l6_le (x : Nat) (hx : x ≤ 3085102592571150095) : n6 x ≤ 4085102592571150095 := by unfold n6; omega

set_option maxRecDepth 100000 in
theorem ones_any (x : Nat) (hx : x < big64) (w : World) :
    Calls Try.prog 33 #[.int .u64 (x : Int)] w fun e w' => e = .returned (.int .i64 ((pc 64 x : Nat) : Int)) ∧ w = w' := by
  have HX := Lib.hid hx
  clear hx
  go_enter Try.func33, Try.ntmps33
  go_wp2
  go_ret
  refine ⟨ret_int ?_, rfl⟩
  have hx := HX.out
  unfold big64 at hx
  have hp := ones_pc x hx
  have b2 := n2_lt (n1 x)
  have b3 := n3_lt (n2 (n1 x))
  have b4 := l4_le _ b3
  have b5 := l5_le _ b4
  have b6 := l6_le _ b5
  rw [l1 x hx, l2 _ (n1_lt x), l3 _ b2, l4 _ b3, l5 _ b4, l6 _ b5]
  generalize n6 (n5 (n4 (n3 (n2 (n1 x))))) = y at hp b6 ⊢
  have hw : wrap64 (y : Int) = (y : Int) := by unfold wrap64; omega
  have hq : bits BinOp.and IntKind.i64 (y : Int) 127 = (y : Int) % 128 :=
    bits_mask .i64 63 (by decide) (fun n a b => by rw [IntKind.wrap_i64]; have : (2 : Int) ^ 63 = 9223372036854775808 := by decide +kernel
                                                   rw [this] at b; omega) 7 (by decide) (y : Int) (by omega) (by have : (2 : Int) ^ 63 = 9223372036854775808 := by decide +kernel
                                                                                                                 rw [this]; omega)
  rw [hw, hq]
  omega

/-- How many numbers there are in the set. -/
def lenW (ws : List Nat) : Nat := (ws.map (pc 64)).sum
theorem lenW_le (ws : List Nat) : lenW ws ≤ 64 * ws.length := by
  induction ws with
  | nil => simp [lenW]
  | cons x ws ih => have := pc_le 64 x; unfold lenW at *; simp; omega
theorem lenW_snoc (ws : List Nat) (x : Nat) : lenW (ws ++ [x]) = lenW ws + pc 64 x := by simp [lenW]

theorem range_add_filter (n m : Nat) (p : Nat → Bool) : ((List.range (n + m)).filter p).length = ((List.range n).filter p).length + ((List.range m).filter fun i => p (n + i)).length := by
  rw [List.range_add, List.filter_append, List.length_append, List.filter_map, List.length_map]
  rfl
theorem memW_cons (x : Nat) (ws : List Nat) (n : Nat) : memW (x :: ws) (64 + n) = memW ws n := by
  unfold memW
  rw [show (64 + n) / 64 = n / 64 + 1 from by omega, show (64 + n) % 64 = n % 64 from by omega]
  simp
theorem filter_congr_range (n : Nat) (p q : Nat → Bool) (h : ∀ i, i < n → p i = q i) : (List.range n).filter p = (List.range n).filter q :=
  List.filter_congr fun i hi => h i (List.mem_range.1 hi)
theorem lenW_count (ws : List Nat) : lenW ws = ((List.range (64 * ws.length)).filter (memW ws)).length := by
  induction ws with
  | nil => rfl
  | cons x ws ih =>
    rw [List.length_cons, Nat.mul_add, Nat.mul_one, Nat.add_comm (64 * ws.length), range_add_filter, filter_congr_range 64 (memW (x :: ws)) (fun i => x.testBit i) (fun i hi => by
      unfold memW; rw [Nat.div_eq_of_lt hi, Nat.mod_eq_of_lt hi]; rfl)]
    rw [show (fun i => memW (x :: ws) (64 + i)) = memW ws from funext (memW_cons x ws), ← ih, ← pc_bits]
    unfold lenW
    simp
/-- .. counted among all that may be in one. -/
theorem lenW_all (ws : List Nat) (hl : ws.length ≤ 1024) : lenW ws = ((List.range 65536).filter (memW ws)).length := by
  rw [lenW_count]
  have e : 65536 = 64 * ws.length + (65536 - 64 * ws.length) := by omega
  rw [e, range_add_filter]
  have : (List.range (65536 - 64 * ws.length)).filter (fun i => memW ws (64 * ws.length + i)) = [] := by
    rw [List.filter_eq_nil_iff]
    intro i _
    rw [memW_none _ _ (by omega)]
    simp
  rw [this]
  rfl

set_option maxRecDepth 100000 in
theorem len_any {w : World} {b : Nat} {r : Option Nat} {ws : List Nat} (h : BitsAt w b r ws) :
    Calls Try.prog 19 #[.pointer (some ⟨b, 0, none⟩)] w fun e w' => e = .returned (.int .i64 (lenW ws : Int)) ∧ w = w' := by
  obtain ⟨v, h1, h2⟩ := h.ex
  obtain ⟨A, c, rfl, _⟩ := h2.shape
  have hc := cell_of_one h1
  have hr := h2.reads
  have hll := h.len
  have HR := Lib.hid hr
  have H := Lib.hid h
  clear hr h h1 h2
  go_enter Try.func19, Try.ntmps19
  go_wp2_with (go_at_call 32; refine (words_cell _ _ _ hc).mono ?_; rintro e w' ⟨rfl, rfl⟩)
  go_loop [3, 9] (fun n i => ∃ k, k ≤ ws.length ∧ i = .int .i64 (k : Nat) ∧ n = .int .i64 (lenW (ws.take k) : Nat)) (fun _ i => ws.length - (intOf i).toNat)
  case atStart => exact ⟨0, Nat.zero_le _, rfl, rfl⟩
  case round =>
    obtain ⟨k, hk, rfl, rfl⟩ := hrel
    have hq := lenW_le (ws.take k)
    rw [List.length_take] at hq
    have hq' : lenW (ws.take k) ≤ 65536 := by omega
    clear hq
    by_cases hlt : k < ws.length
    · obtain ⟨g, off, rfl, hg, hcl⟩ := HR.out (by simp [cells64]; omega)
      have hx := hcl k _ (cells64_at ws k hlt)
      clear hcl
      obtain ⟨x, hxe⟩ : ∃ x, x = ws.getD k 0 := ⟨_, rfl⟩
      rw [← hxe] at hx
      have hxl : x < big64 := by rw [hxe]; exact getD_lt H.out.lt _
      have HX := Lib.hid hxe
      have HL := Lib.hid hxl
      have hpl := pc_le 64 x
      clear hxe hxl
      obtain ⟨p, hp⟩ : ∃ p, p = pc 64 x := ⟨_, rfl⟩
      obtain ⟨q, hqq⟩ : ∃ q, q = lenW (ws.take k) := ⟨_, rfl⟩
      rw [← hp] at hpl
      rw [← hqq] at hq' ⊢
      have HP := Lib.hid hp
      have HQ := Lib.hid hqq
      clear hp hqq
      go_wp2_with (go_at_call 33; refine (ones_any _ HL.out _).mono ?_; rw [← HP.out]; rintro e w' ⟨rfl, rfl⟩)
      go_round
      case rel =>
        refine ⟨k + 1, by omega, by go_num, ?_⟩
        rw [take_snoc' ws k hlt 0, lenW_snoc, ← HX.out, ← HP.out, ← HQ.out]
        go_num
      case measure => simp [intOf]; omega
    · obtain rfl : k = ws.length := by omega
      go_wp2
      go_ret
      exact ⟨rfl, rfl⟩
theorem len_nil (w : World) :
    Calls Try.prog 19 #[.pointer none] w fun e w' => e = .returned (.int .i64 0) ∧ w = w' := by
  go_enter Try.func19, Try.ntmps19
  go_wp2_with (go_at_call 32; refine (words_nil _).mono ?_; rintro e w' ⟨rfl, rfl⟩)
  refine wp_loop_rounds 1 ?_
  rw [rounds_succ]
  go_wp2
  go_ret
  exact ⟨rfl, rfl⟩

/-- .. of a set that is told by a list. -/
theorem count_eq (x : List Nat) (hx : x.Nodup) (hb : ∀ m ∈ x, m < 65536) (s : Nat → Bool) (hs : ∀ m, s m = true ↔ m ∈ x) : ((List.range 65536).filter s).length = x.length := by
  apply List.Perm.length_eq
  rw [List.perm_ext_iff_of_nodup (List.Pairwise.filter _ List.nodup_range) hx]
  intro a
  rw [List.mem_filter, hs, List.mem_range]
  exact ⟨fun h => h.2, fun h => ⟨hb a h, h⟩⟩
theorem lenW_list {w : World} {b : Nat} {r : Option Nat} {ws : List Nat} (h : BitsAt w b r ws) (x : List Nat) (hx : x.Nodup) (hb : ∀ m ∈ x, m < 65536) (hs : ∀ m, memW ws m = true ↔ m ∈ x) : lenW ws = x.length := by
  rw [lenW_all ws h.len]
  exact count_eq x hx hb _ hs
end Go.Proofs.Ytdnlgcomhgnegaa
