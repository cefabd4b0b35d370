/- Sets of numbers in memory: what words, Has, Put do. -/
import Derived.Test.YtlniohgnkihefaaBase
import Derived.Test.YtlniohgnkihefaaBits0
import Derived.Test.YtlniohgnkihefaaProg
import Derived.RegionTactic
import Derived.ChangeAlike
import Derived.BigRegion
import Derived.Lib.Hide
namespace Go.Proofs.Ytlniohgnkihefaa
open Go.RowKit

def cells64 (ws : List Nat) : List Value := ws.map fun (x : Nat) => Value.int .u64 (x : Int)
theorem cells64_at (ws : List Nat) (i : Nat) (h : i < ws.length) : (cells64 ws)[i]? = some (.int .u64 ((ws.getD i 0 : Nat) : Int)) := by
  simp [cells64, h]
theorem cells64_snoc (ws : List Nat) (x : Nat) : cells64 (ws ++ [x]) = cells64 ws ++ [.int .u64 (x : Int)] := by simp [cells64]
theorem cells64_set (ws : List Nat) (i x : Nat) : (cells64 ws).set i (.int .u64 (x : Int)) = cells64 (ws.set i x) := by simp [cells64, List.map_set]

/-- A set in memory: block b holds the slice of its words ws; r: their block. -/
structure BitsAt (w : World) (b : Nat) (r : Option Nat) (ws : List Nat) : Prop where
  ex : ∃ v, w.heap[b]? = some (.cells #[v] 81 (0, 0)) ∧ RowAt w 101 1 v r ws.length (cells64 ws)
  lt : ∀ x ∈ ws, x < big64
  len : ws.length ≤ 1024

def FootB (b : Nat) (r : Option Nat) (k : Nat) : Prop := k = b ∨ some k = r

theorem BitsAt.kept {w w' : World} {b : Nat} {r : Option Nat} {ws : List Nat} {S : Nat → Prop} (h : BitsAt w b r ws) (hc : Chg S w w') (hb : ¬ S b) (hr : ∀ k, r = some k → ¬ S k) : BitsAt w' b r ws := by
  obtain ⟨v, h1, h2⟩ := h.ex
  exact ⟨⟨v, hc.heap h1 hb, h2.kept hc hr⟩, h.lt, h.len⟩
theorem BitsAt.blt {w : World} {b : Nat} {r : Option Nat} {ws : List Nat} (h : BitsAt w b r ws) : b < w.heap.size := by
  obtain ⟨v, h1, h2⟩ := h.ex
  exact lt_of_heap h1
theorem BitsAt.rlt {w : World} {b : Nat} {r : Option Nat} {ws : List Nat} (h : BitsAt w b r ws) : ∀ k, r = some k → k < w.heap.size := by
  obtain ⟨v, h1, h2⟩ := h.ex
  exact h2.lt
theorem row_ne_of_type {w : World} {e size n b : Nat} {v : Value} {r : Option Nat} {xs : List Value} {c : Array Value} {t : Nat} {f : Nat × Nat} (h : RowAt w e size v r n xs) (hb : w.heap[b]? = some (.cells c t f)) (hne : t ≠ e) : r ≠ some b := by
  intro hr
  rcases h.2 with ⟨_, h0, _⟩ | ⟨g, off, cap, cur, hv, h0, hg, _⟩
  · rw [h0] at hr; cases hr
  · rw [h0] at hr; cases hr
    rw [hg] at hb
    injection hb with hb
    injection hb with _ ht _
    exact hne ht.symm
theorem BitsAt.ne {w : World} {b : Nat} {r : Option Nat} {ws : List Nat} (h : BitsAt w b r ws) : r ≠ some b := by
  obtain ⟨v, h1, h2⟩ := h.ex
  exact row_ne_of_type h2 h1 (by decide)
theorem getD_lt {ws : List Nat} (h : ∀ x ∈ ws, x < big64) (i : Nat) : ws.getD i 0 < big64 := by
  rw [List.getD_eq_getElem?_getD]
  cases e : ws[i]? with
  | none => exact (by decide : 0 < big64)
  | some x => exact h x (List.mem_of_getElem? e)

theorem words_cell (b : Nat) (v : Value) (w : World) (hc : w.cell? ⟨b, 0, none⟩ = some v) :
    Calls Try.prog 55 #[.pointer (some ⟨b, 0, none⟩)] w fun e w' => e = .returned v ∧ w = w' := by
  go_enter Try.func55, Try.ntmps55
  go_wp2
  go_ret
  exact ⟨rfl, rfl⟩
theorem words_nil (w : World) :
    Calls Try.prog 55 #[.pointer none] w fun e w' => e = .returned (.slice none 0 0) ∧ w = w' := by
  go_enter Try.func55, Try.ntmps55
  go_wp2
  go_ret
  exact ⟨rfl, rfl⟩

theorem ret_bool {a b : Bool} (h : a = b) : Ending.returned (.bool a) = .returned (.bool b) := by rw [h]
theorem ret_int {k : IntKind} {a b : Int} (h : a = b) : Ending.returned (.int k a) = .returned (.int k b) := by rw [h]

theorem bit_test (x j : Nat) (hx : x < big64) : (bits BinOp.and .u64 ((x : Int) / 2 ^ j) 1 == 1) = x.testBit j := by
  have e1 : ((x : Int) / 2 ^ j) = ((x / 2 ^ j : Nat) : Int) := by simp
  have hlt : x / 2 ^ j < 18446744073709551616 := Nat.lt_of_le_of_lt (Nat.div_le_self _ _) hx
  rw [e1, show (1 : Int) = ((1 : Nat) : Int) from rfl, u64_and_nat _ _ hlt (by omega)]
  rw [nat_mask1, Nat.testBit_eq_decide_div_mod_eq, Bool.eq_iff_iff]
  simp
  omega

/-- Has, of any number. -/
def hasW (ws : List Nat) (k : Int) : Bool := decide (0 ≤ k) && memW ws k.toNat

theorem has_raw (b : Nat) (A : Option Addr) (c : Nat) (k : Int) (ws : List Nat) (w : World) (hl : ws.length ≤ 1024) (hk63 : k ≤ 9223372036854775807)
    (hlt : ∀ x ∈ ws, x < big64) (hc : w.cell? ⟨b, 0, none⟩ = some (.slice A ws.length c))
    (hw : 0 < ws.length → ∃ g off, A = some ⟨g, off, none⟩ ∧ ∀ i, i < ws.length → w.cell? ⟨g, off + i, none⟩ = some (.int .u64 ((ws.getD i 0 : Nat) : Int))) :
    Calls Try.prog 43 #[.pointer (some ⟨b, 0, none⟩), .int .i64 k] w fun e w' => e = .returned (.bool (hasW ws k)) ∧ w = w' := by
  by_cases h0 : 0 ≤ k
  · by_cases hk : k / 64 < ws.length
    · obtain ⟨g, off, rfl, hcell⟩ := hw (by omega)
      have hx := hcell (k / 64).toNat (by omega)
      obtain ⟨x, hxe⟩ : ∃ x, x = ws.getD (k / 64).toNat 0 := ⟨_, rfl⟩
      rw [← hxe] at hx
      have HX := Lib.hid hxe
      clear hxe hw hcell
      have HL := Lib.hid hlt
      clear hlt
      go_enter Try.func43, Try.ntmps43
      go_wp2_with (go_at_call 55; refine (words_cell _ _ _ hc).mono ?_; rintro e w' ⟨rfl, rfl⟩)
      go_ret
      refine ⟨ret_bool ?_, rfl⟩
      rw [bit_test _ _ (by rw [HX.out]; exact getD_lt HL.out _)]
      unfold hasW memW
      rw [HX.out, show (k / 64).toNat = k.toNat / 64 from by omega, show (k % 64).toNat = k.toNat % 64 from by omega]
      simp [h0]
    · have hk' : (ws.length : Int) ≤ k / 64 := by omega
      clear hw hlt
      go_enter Try.func43, Try.ntmps43
      go_wp2_with (go_at_call 55; refine (words_cell _ _ _ hc).mono ?_; rintro e w' ⟨rfl, rfl⟩)
      go_ret
      refine ⟨ret_bool ?_, rfl⟩
      unfold hasW
      rw [memW_none _ _ (by omega)]
      simp
  · clear hw hlt
    have h0' : k < 0 := by omega
    go_enter Try.func43, Try.ntmps43
    go_wp2_with (go_at_call 55; refine (words_cell _ _ _ hc).mono ?_; rintro e w' ⟨rfl, rfl⟩)
    go_ret
    refine ⟨ret_bool ?_, rfl⟩
    unfold hasW
    simp; omega
theorem has_any {w : World} {b : Nat} {r : Option Nat} {ws : List Nat} (h : BitsAt w b r ws) (k : Int) (hk63 : k ≤ 9223372036854775807) :
    Calls Try.prog 43 #[.pointer (some ⟨b, 0, none⟩), .int .i64 k] w fun e w' => e = .returned (.bool (hasW ws k)) ∧ w = w' := by
  obtain ⟨v, h1, h2⟩ := h.ex
  obtain ⟨A, c, rfl, _⟩ := h2.shape
  refine has_raw b A c k ws w h.len hk63 h.lt (cell_of_one h1) fun hp => ?_
  obtain ⟨g, off, cap, hv, _, _, _, _, hc, _⟩ := h2.form hp
  injection hv with ha _ _
  exact ⟨g, off, ha, fun i hi => hc i _ (cells64_at ws i hi)⟩
theorem has_nil (k : Int) (hk63 : k ≤ 9223372036854775807) (w : World) :
    Calls Try.prog 43 #[.pointer none, .int .i64 k] w fun e w' => e = .returned (.bool false) ∧ w = w' := by
  by_cases h0 : 0 ≤ k
  · have h1 : 0 ≤ k / 64 := by omega
    go_enter Try.func43, Try.ntmps43
    go_wp2_with (go_at_call 55; refine (words_nil _).mono ?_; rintro e w' ⟨rfl, rfl⟩)
    go_ret
    exact ⟨rfl, rfl⟩
  · have h0' : k < 0 := by omega
    go_enter Try.func43, Try.ntmps43
    go_wp2_with (go_at_call 55; refine (words_nil _).mono ?_; rintro e w' ⟨rfl, rfl⟩)
    go_ret
    exact ⟨rfl, rfl⟩
end Go.Proofs.Ytlniohgnkihefaa
