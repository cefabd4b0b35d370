/- brazierref03: Same; brazierlaw03: cut. -/
import Derived.Test.YtdnlgcomhgnegaaDoorRef03
namespace Go.Proofs.YtdnlgcomhgnegaaDoor
open Go.RowKit

theorem cut_any (l : List Int) (A : Option Addr) (c : Nat) (w : World) (hl : l.length ≤ c) (hc : c ≤ maxLen) :
    Calls Tryd.prog 8 #[.slice A l.length c] w fun e w' => e = .returned (.slice A (l.take 100).length c) ∧ w = w' := by
  have hc' : c ≤ 9223372036854775807 := by unfold maxLen at hc; omega
  clear hc
  have he : (l.take 100).length = min 100 l.length := List.length_take
  by_cases h : l.length ≤ 100
  · rw [he, Nat.min_eq_right h]
    clear he
    go_enter Tryd.func8, Tryd.ntmps8
    go_wp2_with fail
    all_goals
      go_ret
      exact ⟨rfl, rfl⟩
  · rw [he, Nat.min_eq_left (by omega)]
    clear he
    go_enter Tryd.func8, Tryd.ntmps8
    go_wp2_with fail
    all_goals
      go_ret
      exact ⟨rfl, rfl⟩

theorem same03_any (a b : List Int) (A B : Option Addr) (c d : Nat) (w : World) (hla : a.length ≤ 100000) (hlb : b.length ≤ 100000) (ha : ReadsAt w A (ints a)) (hb : ReadsAt w B (ints b)) :
    Calls Tryd.prog 14 #[.slice A a.length c, .slice B b.length d] w fun e w' => e = .returned (.bool (sameL a b)) ∧ Below w.heap.size w w' := by
  have HA := Lib.hid ha
  have HB := Lib.hid hb
  clear ha hb
  by_cases hl : a.length = b.length
  · have hf : decide (a.length = b.length) = true := by simpa using hl
    have hbq : ((a.length : Int) != (b.length : Int)) = false := by rw [hl]; simp
    have HL := Lib.hid hl
    have hla' : (a.length : Int) ≤ (b.length : Int) := by omega
    clear hl hf
    go_enter Tryd.func14, Tryd.ntmps14
    go_wp2_with fail
    go_loopw [13] (fun i wr => ∃ k : Nat, k ≤ a.length ∧ i = .int .i64 (k : Nat) ∧ Below w.heap.size w wr ∧ a.take k = b.take k) (fun i _ => a.length - (intOf i).toNat)
    case atStart => exact ⟨0, by omega, rfl, Below.refl _ _, rfl⟩
    case round =>
      obtain ⟨k, hk, rfl, hB, hn⟩ := hrel
      have HBB := Lib.hid hB
      have HN := Lib.hid hn
      clear hB hn
      by_cases hlt : k < a.length
      · have hltb : k < b.length := by have := HL.out; omega
        obtain ⟨x, hxe⟩ : ∃ x, x = a[k] := ⟨_, rfl⟩
        obtain ⟨y, hye⟩ : ∃ y, y = b[k] := ⟨_, rfl⟩
        obtain ⟨g, off, rfl, hg, hx⟩ := reads_len0 HA.out k hlt x hxe
        obtain ⟨g', off', rfl, hg', hy⟩ := reads_len0 HB.out k hltb y hye
        have hx2 := (HBB.out.cell (p := ⟨g, off + k, none⟩) hg).trans hx
        have hy2 := (HBB.out.cell (p := ⟨g', off' + k, none⟩) hg').trans hy
        have hq1 : (0 : Int) ≤ (k : Int) := by omega
        have hq2 : (k : Int) < (a.length : Int) := by omega
        have hq3 : (k : Int) < (b.length : Int) := by omega
        have HX := Lib.hid hxe
        have HY := Lib.hid hye
        clear hxe hye hx hy
        by_cases q : x = y
        · have qf : (x != y) = false := by rw [q]; simp
          have HQ := Lib.hid q
          clear q
          go_wp2_with fail
          go_quiet (fail)
          go_wp2_with fail
          go_roundw
          case rel => exact ⟨k + 1, by omega, by go_num, HBB.out.trans ⟨rfl, rfl, rfl, Nat.le_refl _, fun _ _ => rfl⟩, by rw [List.take_succ_eq_append_getElem hlt, List.take_succ_eq_append_getElem hltb, HN.out, ← HX.out, ← HY.out, HQ.out]⟩
          case measure => simp [intOf]; omega
        · have qf : (x != y) = true := bne_iff_ne.2 q
          have HQ := Lib.hid q
          clear q
          go_wp2_with fail
          go_quiet (fail)
          go_wp2_with fail
          go_ret
          refine ⟨ret_bool ?_, HBB.out.trans ⟨rfl, rfl, rfl, Nat.le_refl _, fun _ _ => rfl⟩⟩
          unfold sameL
          refine (decide_eq_false fun e => HQ.out ?_).symm
          rw [HX.out, HY.out]
          simp only [e]
      · obtain rfl : k = a.length := by omega
        go_wp2_with fail
        go_ret
        refine ⟨ret_bool ?_, HBB.out⟩
        unfold sameL
        have h1 := HN.out
        rw [List.take_length, HL.out, List.take_length] at h1
        exact (decide_eq_true h1).symm
  · have hbq : ((a.length : Int) != (b.length : Int)) = true := bne_iff_ne.2 (by omega)
    have HL := Lib.hid hl
    clear hl
    go_enter Tryd.func14, Tryd.ntmps14
    go_wp2_with fail
    go_ret
    refine ⟨ret_bool ?_, Below.refl _ _⟩
    unfold sameL
    exact (decide_eq_false fun e => HL.out (by rw [e])).symm
end Go.Proofs.YtdnlgcomhgnegaaDoor
