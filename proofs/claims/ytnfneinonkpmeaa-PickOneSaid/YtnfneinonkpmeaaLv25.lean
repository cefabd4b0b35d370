/- brazierref15.short: the walks. Written by genshort.py. -/
import Derived.Test.YtnfneinonkpmeaaLv14
namespace Go.Proofs.Ytnfneinonkpmeaa
open Go.RowKit
set_option maxHeartbeats 4000000 in
set_option maxRecDepth 100000 in
theorem short15_1 (d a n : Int) (hn : I32 n) (w : World) : Calls Try.prog 54 #[.int .i64 1, .int .i64 d, .int .i64 a, .int .i32 n] w (Shorted 1 d a n w) := by
  have hn1 := hn.1
  have hn2 := hn.2
  by_cases l1 : n < -2048
  case' pos =>
    have hnone : shortS 1 d a n = none := by unfold shortS fits12; simp; omega
    have HBW : Hid (Below w.heap.size w (w.alloc (.cells #[.int .i64 0, .int .i64 0, .int .i64 0, .int .i64 0, .int .i32 0, .string ⟨#[]⟩, .slice none 0 0] 61))) := Lib.hid ((Below.refl w.heap.size w).alloc (Nat.le_refl _) _)
    have HHB := Lib.hid (Res7.made w).heap
    have ⟨_, c0, c1, c2, c3, c4, c5, c6, f0, f1, f2, f3, f4, f5, f6⟩ := Res7.made w
    go_enter Try.func54, Try.ntmps54
    go_wp2_with fail
    refine bodyPost_ret (by simp [results, Try.results54, go_sem]; try rfl) rfl ?_
    refine ⟨⟨0, 0, 0, 0, 0, ⟨#[]⟩, []⟩, by rw [hnone]; rfl, HBW.out, fun s hs => ?_⟩
    rw [hnone] at hs; cases hs

  by_cases l2 : 2047 < n
  case' pos =>
    have hnone : shortS 1 d a n = none := by unfold shortS fits12; simp; omega
    have HBW : Hid (Below w.heap.size w (w.alloc (.cells #[.int .i64 0, .int .i64 0, .int .i64 0, .int .i64 0, .int .i32 0, .string ⟨#[]⟩, .slice none 0 0] 61))) := Lib.hid ((Below.refl w.heap.size w).alloc (Nat.le_refl _) _)
    have HHB := Lib.hid (Res7.made w).heap
    have ⟨_, c0, c1, c2, c3, c4, c5, c6, f0, f1, f2, f3, f4, f5, f6⟩ := Res7.made w
    go_enter Try.func54, Try.ntmps54
    go_wp2_with fail
    refine bodyPost_ret (by simp [results, Try.results54, go_sem]; try rfl) rfl ?_
    refine ⟨⟨0, 0, 0, 0, 0, ⟨#[]⟩, []⟩, by rw [hnone]; rfl, HBW.out, fun s hs => ?_⟩
    rw [hnone] at hs; cases hs

  have hsome : shortS 1 d a n = some (withS 2 d a n) := by unfold shortS fits12; simp; omega
  go_enter Try.func54, Try.ntmps54
  go_wp2_with fail
  refine (with15_any 2 d a n _).mono ?_
  rintro e w1 ⟨rfl, hB⟩
  obtain ⟨hb, c0, c1, c2, c3, c4, c5, c6, f0, f1, f2, f3, f4, f5, f6⟩ := (Res7.made w).below hB
  have HBW := Lib.hid (((Below.refl w.heap.size w).alloc (Nat.le_refl _) _).trans (hB.mono (by simp)))
  have HHB := Lib.hid hb
  clear hb hB
  go_wp2_with fail
  obtain ⟨W, hW, ⟨hb, d0, d1, d2, d3, d4, d5, d6, -, -, -, -, -, -, -⟩, hch⟩ := (Res7.of HHB.out).stored (.int .i64 2) (.int .i64 d) (.int .i64 a) (.int .i64 (-1)) (.int .i32 n) (.string ⟨#[]⟩) (.slice none 0 0)
  rw [hW]
  clear hW hb
  refine bodyPost_ret (by simp [results, Try.results54, go_sem, d0, d1, d2, d3, d4, d5, d6]; try rfl) rfl ?_
  refine ⟨⟨_, _, _, _, _, _, []⟩, by rw [hsome]; rfl, ?_, fun s hs => ?_⟩
  · exact HBW.out.trans (hch.below HBW.out.size fun k e => by omega)
  · rw [hsome] at hs; cases hs; rfl
set_option maxHeartbeats 4000000 in
set_option maxRecDepth 100000 in
theorem short15_2 (d a n : Int) (hn : I32 n) (w : World) : Calls Try.prog 54 #[.int .i64 2, .int .i64 d, .int .i64 a, .int .i32 n] w (Shorted 2 d a n w) := by
  have hn1 := hn.1
  have hn2 := hn.2
  by_cases l1 : -n < -2048
  case' pos =>
    have hnone : shortS 2 d a n = none := by unfold shortS fits12; simp; omega
    have HBW : Hid (Below w.heap.size w (w.alloc (.cells #[.int .i64 0, .int .i64 0, .int .i64 0, .int .i64 0, .int .i32 0, .string ⟨#[]⟩, .slice none 0 0] 61))) := Lib.hid ((Below.refl w.heap.size w).alloc (Nat.le_refl _) _)
    have HHB := Lib.hid (Res7.made w).heap
    have ⟨_, c0, c1, c2, c3, c4, c5, c6, f0, f1, f2, f3, f4, f5, f6⟩ := Res7.made w
    go_enter Try.func54, Try.ntmps54
    go_wp2_with fail
    refine bodyPost_ret (by simp [results, Try.results54, go_sem]; try rfl) rfl ?_
    refine ⟨⟨0, 0, 0, 0, 0, ⟨#[]⟩, []⟩, by rw [hnone]; rfl, HBW.out, fun s hs => ?_⟩
    rw [hnone] at hs; cases hs

  by_cases l2 : 2047 < -n
  case' pos =>
    have hnone : shortS 2 d a n = none := by unfold shortS fits12; simp; omega
    have HBW : Hid (Below w.heap.size w (w.alloc (.cells #[.int .i64 0, .int .i64 0, .int .i64 0, .int .i64 0, .int .i32 0, .string ⟨#[]⟩, .slice none 0 0] 61))) := Lib.hid ((Below.refl w.heap.size w).alloc (Nat.le_refl _) _)
    have HHB := Lib.hid (Res7.made w).heap
    have ⟨_, c0, c1, c2, c3, c4, c5, c6, f0, f1, f2, f3, f4, f5, f6⟩ := Res7.made w
    go_enter Try.func54, Try.ntmps54
    go_wp2_with fail
    refine bodyPost_ret (by simp [results, Try.results54, go_sem]; try rfl) rfl ?_
    refine ⟨⟨0, 0, 0, 0, 0, ⟨#[]⟩, []⟩, by rw [hnone]; rfl, HBW.out, fun s hs => ?_⟩
    rw [hnone] at hs; cases hs

  have hsome : shortS 2 d a n = some (withS 2 d a (-n)) := by unfold shortS fits12; simp; omega
  go_enter Try.func54, Try.ntmps54
  go_wp2_with fail
  refine (with15_any 2 d a (-n) _).mono ?_
  rintro e w1 ⟨rfl, hB⟩
  obtain ⟨hb, c0, c1, c2, c3, c4, c5, c6, f0, f1, f2, f3, f4, f5, f6⟩ := (Res7.made w).below hB
  have HBW := Lib.hid (((Below.refl w.heap.size w).alloc (Nat.le_refl _) _).trans (hB.mono (by simp)))
  have HHB := Lib.hid hb
  clear hb hB
  go_wp2_with fail
  obtain ⟨W, hW, ⟨hb, d0, d1, d2, d3, d4, d5, d6, -, -, -, -, -, -, -⟩, hch⟩ := (Res7.of HHB.out).stored (.int .i64 2) (.int .i64 d) (.int .i64 a) (.int .i64 (-1)) (.int .i32 (-n)) (.string ⟨#[]⟩) (.slice none 0 0)
  rw [hW]
  clear hW hb
  refine bodyPost_ret (by simp [results, Try.results54, go_sem, d0, d1, d2, d3, d4, d5, d6]; try rfl) rfl ?_
  refine ⟨⟨_, _, _, _, _, _, []⟩, by rw [hsome]; rfl, ?_, fun s hs => ?_⟩
  · exact HBW.out.trans (hch.below HBW.out.size fun k e => by omega)
  · rw [hsome] at hs; cases hs; rfl
set_option maxHeartbeats 4000000 in
set_option maxRecDepth 100000 in
theorem short15_3 (d a n : Int) (hn : I32 n) (w : World) : Calls Try.prog 54 #[.int .i64 3, .int .i64 d, .int .i64 a, .int .i32 n] w (Shorted 3 d a n w) := by
  have hn1 := hn.1
  have hn2 := hn.2
  have hnone : shortS 3 d a n = none := by unfold shortS; simp
  by_cases l1 : n < -2048
  case' pos =>
    have HBW : Hid (Below w.heap.size w (w.alloc (.cells #[.int .i64 0, .int .i64 0, .int .i64 0, .int .i64 0, .int .i32 0, .string ⟨#[]⟩, .slice none 0 0] 61))) := Lib.hid ((Below.refl w.heap.size w).alloc (Nat.le_refl _) _)
    have HHB := Lib.hid (Res7.made w).heap
    have ⟨_, c0, c1, c2, c3, c4, c5, c6, f0, f1, f2, f3, f4, f5, f6⟩ := Res7.made w
    go_enter Try.func54, Try.ntmps54
    go_wp2_with fail
    refine bodyPost_ret (by simp [results, Try.results54, go_sem]; try rfl) rfl ?_
    refine ⟨⟨0, 0, 0, 0, 0, ⟨#[]⟩, []⟩, by rw [hnone]; rfl, HBW.out, fun s hs => ?_⟩
    rw [hnone] at hs; cases hs

  by_cases l2 : 2047 < n
  case' pos =>
    have HBW : Hid (Below w.heap.size w (w.alloc (.cells #[.int .i64 0, .int .i64 0, .int .i64 0, .int .i64 0, .int .i32 0, .string ⟨#[]⟩, .slice none 0 0] 61))) := Lib.hid ((Below.refl w.heap.size w).alloc (Nat.le_refl _) _)
    have HHB := Lib.hid (Res7.made w).heap
    have ⟨_, c0, c1, c2, c3, c4, c5, c6, f0, f1, f2, f3, f4, f5, f6⟩ := Res7.made w
    go_enter Try.func54, Try.ntmps54
    go_wp2_with fail
    refine bodyPost_ret (by simp [results, Try.results54, go_sem]; try rfl) rfl ?_
    refine ⟨⟨0, 0, 0, 0, 0, ⟨#[]⟩, []⟩, by rw [hnone]; rfl, HBW.out, fun s hs => ?_⟩
    rw [hnone] at hs; cases hs

  have HBW : Hid (Below w.heap.size w (w.alloc (.cells #[.int .i64 0, .int .i64 0, .int .i64 0, .int .i64 0, .int .i32 0, .string ⟨#[]⟩, .slice none 0 0] 61))) := Lib.hid ((Below.refl w.heap.size w).alloc (Nat.le_refl _) _)
  have HHB := Lib.hid (Res7.made w).heap
  have ⟨_, c0, c1, c2, c3, c4, c5, c6, f0, f1, f2, f3, f4, f5, f6⟩ := Res7.made w
  go_enter Try.func54, Try.ntmps54
  go_wp2_with fail
  refine bodyPost_ret (by simp [results, Try.results54, go_sem]; try rfl) rfl ?_
  refine ⟨⟨0, 0, 0, 0, 0, ⟨#[]⟩, []⟩, by rw [hnone]; rfl, HBW.out, fun s hs => ?_⟩
  rw [hnone] at hs; cases hs
set_option maxHeartbeats 4000000 in
set_option maxRecDepth 100000 in
theorem short15_4 (d a n : Int) (hn : I32 n) (w : World) : Calls Try.prog 54 #[.int .i64 4, .int .i64 d, .int .i64 a, .int .i32 n] w (Shorted 4 d a n w) := by
  have hn1 := hn.1
  have hn2 := hn.2
  have hnone : shortS 4 d a n = none := by unfold shortS; simp
  by_cases l1 : n < -2048
  case' pos =>
    have HBW : Hid (Below w.heap.size w (w.alloc (.cells #[.int .i64 0, .int .i64 0, .int .i64 0, .int .i64 0, .int .i32 0, .string ⟨#[]⟩, .slice none 0 0] 61))) := Lib.hid ((Below.refl w.heap.size w).alloc (Nat.le_refl _) _)
    have HHB := Lib.hid (Res7.made w).heap
    have ⟨_, c0, c1, c2, c3, c4, c5, c6, f0, f1, f2, f3, f4, f5, f6⟩ := Res7.made w
    go_enter Try.func54, Try.ntmps54
    go_wp2_with fail
    refine bodyPost_ret (by simp [results, Try.results54, go_sem]; try rfl) rfl ?_
    refine ⟨⟨0, 0, 0, 0, 0, ⟨#[]⟩, []⟩, by rw [hnone]; rfl, HBW.out, fun s hs => ?_⟩
    rw [hnone] at hs; cases hs

  by_cases l2 : 2047 < n
  case' pos =>
    have HBW : Hid (Below w.heap.size w (w.alloc (.cells #[.int .i64 0, .int .i64 0, .int .i64 0, .int .i64 0, .int .i32 0, .string ⟨#[]⟩, .slice none 0 0] 61))) := Lib.hid ((Below.refl w.heap.size w).alloc (Nat.le_refl _) _)
    have HHB := Lib.hid (Res7.made w).heap
    have ⟨_, c0, c1, c2, c3, c4, c5, c6, f0, f1, f2, f3, f4, f5, f6⟩ := Res7.made w
    go_enter Try.func54, Try.ntmps54
    go_wp2_with fail
    refine bodyPost_ret (by simp [results, Try.results54, go_sem]; try rfl) rfl ?_
    refine ⟨⟨0, 0, 0, 0, 0, ⟨#[]⟩, []⟩, by rw [hnone]; rfl, HBW.out, fun s hs => ?_⟩
    rw [hnone] at hs; cases hs

  have HBW : Hid (Below w.heap.size w (w.alloc (.cells #[.int .i64 0, .int .i64 0, .int .i64 0, .int .i64 0, .int .i32 0, .string ⟨#[]⟩, .slice none 0 0] 61))) := Lib.hid ((Below.refl w.heap.size w).alloc (Nat.le_refl _) _)
  have HHB := Lib.hid (Res7.made w).heap
  have ⟨_, c0, c1, c2, c3, c4, c5, c6, f0, f1, f2, f3, f4, f5, f6⟩ := Res7.made w
  go_enter Try.func54, Try.ntmps54
  go_wp2_with fail
  refine bodyPost_ret (by simp [results, Try.results54, go_sem]; try rfl) rfl ?_
  refine ⟨⟨0, 0, 0, 0, 0, ⟨#[]⟩, []⟩, by rw [hnone]; rfl, HBW.out, fun s hs => ?_⟩
  rw [hnone] at hs; cases hs
set_option maxHeartbeats 4000000 in
set_option maxRecDepth 100000 in
theorem short15_5 (d a n : Int) (hn : I32 n) (w : World) : Calls Try.prog 54 #[.int .i64 5, .int .i64 d, .int .i64 a, .int .i32 n] w (Shorted 5 d a n w) := by
  have hn1 := hn.1
  have hn2 := hn.2
  have hnone : shortS 5 d a n = none := by unfold shortS; simp
  by_cases l1 : n < -2048
  case' pos =>
    have HBW : Hid (Below w.heap.size w (w.alloc (.cells #[.int .i64 0, .int .i64 0, .int .i64 0, .int .i64 0, .int .i32 0, .string ⟨#[]⟩, .slice none 0 0] 61))) := Lib.hid ((Below.refl w.heap.size w).alloc (Nat.le_refl _) _)
    have HHB := Lib.hid (Res7.made w).heap
    have ⟨_, c0, c1, c2, c3, c4, c5, c6, f0, f1, f2, f3, f4, f5, f6⟩ := Res7.made w
    go_enter Try.func54, Try.ntmps54
    go_wp2_with fail
    refine bodyPost_ret (by simp [results, Try.results54, go_sem]; try rfl) rfl ?_
    refine ⟨⟨0, 0, 0, 0, 0, ⟨#[]⟩, []⟩, by rw [hnone]; rfl, HBW.out, fun s hs => ?_⟩
    rw [hnone] at hs; cases hs

  by_cases l2 : 2047 < n
  case' pos =>
    have HBW : Hid (Below w.heap.size w (w.alloc (.cells #[.int .i64 0, .int .i64 0, .int .i64 0, .int .i64 0, .int .i32 0, .string ⟨#[]⟩, .slice none 0 0] 61))) := Lib.hid ((Below.refl w.heap.size w).alloc (Nat.le_refl _) _)
    have HHB := Lib.hid (Res7.made w).heap
    have ⟨_, c0, c1, c2, c3, c4, c5, c6, f0, f1, f2, f3, f4, f5, f6⟩ := Res7.made w
    go_enter Try.func54, Try.ntmps54
    go_wp2_with fail
    refine bodyPost_ret (by simp [results, Try.results54, go_sem]; try rfl) rfl ?_
    refine ⟨⟨0, 0, 0, 0, 0, ⟨#[]⟩, []⟩, by rw [hnone]; rfl, HBW.out, fun s hs => ?_⟩
    rw [hnone] at hs; cases hs

  have HBW : Hid (Below w.heap.size w (w.alloc (.cells #[.int .i64 0, .int .i64 0, .int .i64 0, .int .i64 0, .int .i32 0, .string ⟨#[]⟩, .slice none 0 0] 61))) := Lib.hid ((Below.refl w.heap.size w).alloc (Nat.le_refl _) _)
  have HHB := Lib.hid (Res7.made w).heap
  have ⟨_, c0, c1, c2, c3, c4, c5, c6, f0, f1, f2, f3, f4, f5, f6⟩ := Res7.made w
  go_enter Try.func54, Try.ntmps54
  go_wp2_with fail
  refine bodyPost_ret (by simp [results, Try.results54, go_sem]; try rfl) rfl ?_
  refine ⟨⟨0, 0, 0, 0, 0, ⟨#[]⟩, []⟩, by rw [hnone]; rfl, HBW.out, fun s hs => ?_⟩
  rw [hnone] at hs; cases hs
set_option maxHeartbeats 4000000 in
set_option maxRecDepth 100000 in
theorem short15_6 (d a n : Int) (hn : I32 n) (w : World) : Calls Try.prog 54 #[.int .i64 6, .int .i64 d, .int .i64 a, .int .i32 n] w (Shorted 6 d a n w) := by
  have hn1 := hn.1
  have hn2 := hn.2
  have hsome : shortS 6 d a n = some (withS 8 d a (low5 n)) := by unfold shortS; simp
  go_enter Try.func54, Try.ntmps54
  go_wp2_with fail
  refine (with15_any 8 d a (low5 n) _).mono ?_
  rintro e w1 ⟨rfl, hB⟩
  obtain ⟨hb, c0, c1, c2, c3, c4, c5, c6, f0, f1, f2, f3, f4, f5, f6⟩ := (Res7.made w).below hB
  have HBW := Lib.hid (((Below.refl w.heap.size w).alloc (Nat.le_refl _) _).trans (hB.mono (by simp)))
  have HHB := Lib.hid hb
  clear hb hB
  go_wp2_with fail
  obtain ⟨W, hW, ⟨hb, d0, d1, d2, d3, d4, d5, d6, -, -, -, -, -, -, -⟩, hch⟩ := (Res7.of HHB.out).stored (.int .i64 8) (.int .i64 d) (.int .i64 a) (.int .i64 (-1)) (.int .i32 (low5 n)) (.string ⟨#[]⟩) (.slice none 0 0)
  rw [hW]
  clear hW hb
  refine bodyPost_ret (by simp [results, Try.results54, go_sem, d0, d1, d2, d3, d4, d5, d6]; try rfl) rfl ?_
  refine ⟨⟨_, _, _, _, _, _, []⟩, by rw [hsome]; rfl, ?_, fun s hs => ?_⟩
  · exact HBW.out.trans (hch.below HBW.out.size fun k e => by omega)
  · rw [hsome] at hs; cases hs; rfl
set_option maxHeartbeats 4000000 in
set_option maxRecDepth 100000 in
theorem short15_7 (d a n : Int) (hn : I32 n) (w : World) : Calls Try.prog 54 #[.int .i64 7, .int .i64 d, .int .i64 a, .int .i32 n] w (Shorted 7 d a n w) := by
  have hn1 := hn.1
  have hn2 := hn.2
  have hsome : shortS 7 d a n = some (withS 10 d a (low5 n)) := by unfold shortS; simp
  go_enter Try.func54, Try.ntmps54
  go_wp2_with fail
  refine (with15_any 10 d a (low5 n) _).mono ?_
  rintro e w1 ⟨rfl, hB⟩
  obtain ⟨hb, c0, c1, c2, c3, c4, c5, c6, f0, f1, f2, f3, f4, f5, f6⟩ := (Res7.made w).below hB
  have HBW := Lib.hid (((Below.refl w.heap.size w).alloc (Nat.le_refl _) _).trans (hB.mono (by simp)))
  have HHB := Lib.hid hb
  clear hb hB
  go_wp2_with fail
  obtain ⟨W, hW, ⟨hb, d0, d1, d2, d3, d4, d5, d6, -, -, -, -, -, -, -⟩, hch⟩ := (Res7.of HHB.out).stored (.int .i64 10) (.int .i64 d) (.int .i64 a) (.int .i64 (-1)) (.int .i32 (low5 n)) (.string ⟨#[]⟩) (.slice none 0 0)
  rw [hW]
  clear hW hb
  refine bodyPost_ret (by simp [results, Try.results54, go_sem, d0, d1, d2, d3, d4, d5, d6]; try rfl) rfl ?_
  refine ⟨⟨_, _, _, _, _, _, []⟩, by rw [hsome]; rfl, ?_, fun s hs => ?_⟩
  · exact HBW.out.trans (hch.below HBW.out.size fun k e => by omega)
  · rw [hsome] at hs; cases hs; rfl
set_option maxHeartbeats 4000000 in
set_option maxRecDepth 100000 in
theorem short15_8 (d a n : Int) (hn : I32 n) (w : World) : Calls Try.prog 54 #[.int .i64 8, .int .i64 d, .int .i64 a, .int .i32 n] w (Shorted 8 d a n w) := by
  have hn1 := hn.1
  have hn2 := hn.2
  by_cases l1 : n < -2048
  case' pos =>
    have hnone : shortS 8 d a n = none := by unfold shortS fits12; simp; omega
    have HBW : Hid (Below w.heap.size w (w.alloc (.cells #[.int .i64 0, .int .i64 0, .int .i64 0, .int .i64 0, .int .i32 0, .string ⟨#[]⟩, .slice none 0 0] 61))) := Lib.hid ((Below.refl w.heap.size w).alloc (Nat.le_refl _) _)
    have HHB := Lib.hid (Res7.made w).heap
    have ⟨_, c0, c1, c2, c3, c4, c5, c6, f0, f1, f2, f3, f4, f5, f6⟩ := Res7.made w
    go_enter Try.func54, Try.ntmps54
    go_wp2_with fail
    refine bodyPost_ret (by simp [results, Try.results54, go_sem]; try rfl) rfl ?_
    refine ⟨⟨0, 0, 0, 0, 0, ⟨#[]⟩, []⟩, by rw [hnone]; rfl, HBW.out, fun s hs => ?_⟩
    rw [hnone] at hs; cases hs

  by_cases l2 : 2047 < n
  case' pos =>
    have hnone : shortS 8 d a n = none := by unfold shortS fits12; simp; omega
    have HBW : Hid (Below w.heap.size w (w.alloc (.cells #[.int .i64 0, .int .i64 0, .int .i64 0, .int .i64 0, .int .i32 0, .string ⟨#[]⟩, .slice none 0 0] 61))) := Lib.hid ((Below.refl w.heap.size w).alloc (Nat.le_refl _) _)
    have HHB := Lib.hid (Res7.made w).heap
    have ⟨_, c0, c1, c2, c3, c4, c5, c6, f0, f1, f2, f3, f4, f5, f6⟩ := Res7.made w
    go_enter Try.func54, Try.ntmps54
    go_wp2_with fail
    refine bodyPost_ret (by simp [results, Try.results54, go_sem]; try rfl) rfl ?_
    refine ⟨⟨0, 0, 0, 0, 0, ⟨#[]⟩, []⟩, by rw [hnone]; rfl, HBW.out, fun s hs => ?_⟩
    rw [hnone] at hs; cases hs

  have hsome : shortS 8 d a n = some (withS 7 d a n) := by unfold shortS fits12; simp; omega
  go_enter Try.func54, Try.ntmps54
  go_wp2_with fail
  refine (with15_any 7 d a n _).mono ?_
  rintro e w1 ⟨rfl, hB⟩
  obtain ⟨hb, c0, c1, c2, c3, c4, c5, c6, f0, f1, f2, f3, f4, f5, f6⟩ := (Res7.made w).below hB
  have HBW := Lib.hid (((Below.refl w.heap.size w).alloc (Nat.le_refl _) _).trans (hB.mono (by simp)))
  have HHB := Lib.hid hb
  clear hb hB
  go_wp2_with fail
  obtain ⟨W, hW, ⟨hb, d0, d1, d2, d3, d4, d5, d6, -, -, -, -, -, -, -⟩, hch⟩ := (Res7.of HHB.out).stored (.int .i64 7) (.int .i64 d) (.int .i64 a) (.int .i64 (-1)) (.int .i32 n) (.string ⟨#[]⟩) (.slice none 0 0)
  rw [hW]
  clear hW hb
  refine bodyPost_ret (by simp [results, Try.results54, go_sem, d0, d1, d2, d3, d4, d5, d6]; try rfl) rfl ?_
  refine ⟨⟨_, _, _, _, _, _, []⟩, by rw [hsome]; rfl, ?_, fun s hs => ?_⟩
  · exact HBW.out.trans (hch.below HBW.out.size fun k e => by omega)
  · rw [hsome] at hs; cases hs; rfl
set_option maxHeartbeats 4000000 in
set_option maxRecDepth 100000 in
theorem short15_9 (d a n : Int) (hn : I32 n) (w : World) : Calls Try.prog 54 #[.int .i64 9, .int .i64 d, .int .i64 a, .int .i32 n] w (Shorted 9 d a n w) := by
  have hn1 := hn.1
  have hn2 := hn.2
  by_cases l1 : n < -2048
  case' pos =>
    have hnone : shortS 9 d a n = none := by unfold shortS fits12; simp; omega
    have HBW : Hid (Below w.heap.size w (w.alloc (.cells #[.int .i64 0, .int .i64 0, .int .i64 0, .int .i64 0, .int .i32 0, .string ⟨#[]⟩, .slice none 0 0] 61))) := Lib.hid ((Below.refl w.heap.size w).alloc (Nat.le_refl _) _)
    have HHB := Lib.hid (Res7.made w).heap
    have ⟨_, c0, c1, c2, c3, c4, c5, c6, f0, f1, f2, f3, f4, f5, f6⟩ := Res7.made w
    go_enter Try.func54, Try.ntmps54
    go_wp2_with fail
    refine bodyPost_ret (by simp [results, Try.results54, go_sem]; try rfl) rfl ?_
    refine ⟨⟨0, 0, 0, 0, 0, ⟨#[]⟩, []⟩, by rw [hnone]; rfl, HBW.out, fun s hs => ?_⟩
    rw [hnone] at hs; cases hs

  by_cases l2 : 2047 < n
  case' pos =>
    have hnone : shortS 9 d a n = none := by unfold shortS fits12; simp; omega
    have HBW : Hid (Below w.heap.size w (w.alloc (.cells #[.int .i64 0, .int .i64 0, .int .i64 0, .int .i64 0, .int .i32 0, .string ⟨#[]⟩, .slice none 0 0] 61))) := Lib.hid ((Below.refl w.heap.size w).alloc (Nat.le_refl _) _)
    have HHB := Lib.hid (Res7.made w).heap
    have ⟨_, c0, c1, c2, c3, c4, c5, c6, f0, f1, f2, f3, f4, f5, f6⟩ := Res7.made w
    go_enter Try.func54, Try.ntmps54
    go_wp2_with fail
    refine bodyPost_ret (by simp [results, Try.results54, go_sem]; try rfl) rfl ?_
    refine ⟨⟨0, 0, 0, 0, 0, ⟨#[]⟩, []⟩, by rw [hnone]; rfl, HBW.out, fun s hs => ?_⟩
    rw [hnone] at hs; cases hs

  have hsome : shortS 9 d a n = some (withS 6 d a n) := by unfold shortS fits12; simp; omega
  go_enter Try.func54, Try.ntmps54
  go_wp2_with fail
  refine (with15_any 6 d a n _).mono ?_
  rintro e w1 ⟨rfl, hB⟩
  obtain ⟨hb, c0, c1, c2, c3, c4, c5, c6, f0, f1, f2, f3, f4, f5, f6⟩ := (Res7.made w).below hB
  have HBW := Lib.hid (((Below.refl w.heap.size w).alloc (Nat.le_refl _) _).trans (hB.mono (by simp)))
  have HHB := Lib.hid hb
  clear hb hB
  go_wp2_with fail
  obtain ⟨W, hW, ⟨hb, d0, d1, d2, d3, d4, d5, d6, -, -, -, -, -, -, -⟩, hch⟩ := (Res7.of HHB.out).stored (.int .i64 6) (.int .i64 d) (.int .i64 a) (.int .i64 (-1)) (.int .i32 n) (.string ⟨#[]⟩) (.slice none 0 0)
  rw [hW]
  clear hW hb
  refine bodyPost_ret (by simp [results, Try.results54, go_sem, d0, d1, d2, d3, d4, d5, d6]; try rfl) rfl ?_
  refine ⟨⟨_, _, _, _, _, _, []⟩, by rw [hsome]; rfl, ?_, fun s hs => ?_⟩
  · exact HBW.out.trans (hch.below HBW.out.size fun k e => by omega)
  · rw [hsome] at hs; cases hs; rfl
set_option maxHeartbeats 4000000 in
set_option maxRecDepth 100000 in
theorem short15_10 (d a n : Int) (hn : I32 n) (w : World) : Calls Try.prog 54 #[.int .i64 10, .int .i64 d, .int .i64 a, .int .i32 n] w (Shorted 10 d a n w) := by
  have hn1 := hn.1
  have hn2 := hn.2
  by_cases l1 : n < -2048
  case' pos =>
    have hnone : shortS 10 d a n = none := by unfold shortS fits12; simp; omega
    have HBW : Hid (Below w.heap.size w (w.alloc (.cells #[.int .i64 0, .int .i64 0, .int .i64 0, .int .i64 0, .int .i32 0, .string ⟨#[]⟩, .slice none 0 0] 61))) := Lib.hid ((Below.refl w.heap.size w).alloc (Nat.le_refl _) _)
    have HHB := Lib.hid (Res7.made w).heap
    have ⟨_, c0, c1, c2, c3, c4, c5, c6, f0, f1, f2, f3, f4, f5, f6⟩ := Res7.made w
    go_enter Try.func54, Try.ntmps54
    go_wp2_with fail
    refine bodyPost_ret (by simp [results, Try.results54, go_sem]; try rfl) rfl ?_
    refine ⟨⟨0, 0, 0, 0, 0, ⟨#[]⟩, []⟩, by rw [hnone]; rfl, HBW.out, fun s hs => ?_⟩
    rw [hnone] at hs; cases hs

  by_cases l2 : 2047 < n
  case' pos =>
    have hnone : shortS 10 d a n = none := by unfold shortS fits12; simp; omega
    have HBW : Hid (Below w.heap.size w (w.alloc (.cells #[.int .i64 0, .int .i64 0, .int .i64 0, .int .i64 0, .int .i32 0, .string ⟨#[]⟩, .slice none 0 0] 61))) := Lib.hid ((Below.refl w.heap.size w).alloc (Nat.le_refl _) _)
    have HHB := Lib.hid (Res7.made w).heap
    have ⟨_, c0, c1, c2, c3, c4, c5, c6, f0, f1, f2, f3, f4, f5, f6⟩ := Res7.made w
    go_enter Try.func54, Try.ntmps54
    go_wp2_with fail
    refine bodyPost_ret (by simp [results, Try.results54, go_sem]; try rfl) rfl ?_
    refine ⟨⟨0, 0, 0, 0, 0, ⟨#[]⟩, []⟩, by rw [hnone]; rfl, HBW.out, fun s hs => ?_⟩
    rw [hnone] at hs; cases hs

  have hsome : shortS 10 d a n = some (withS 5 d a n) := by unfold shortS fits12; simp; omega
  go_enter Try.func54, Try.ntmps54
  go_wp2_with fail
  refine (with15_any 5 d a n _).mono ?_
  rintro e w1 ⟨rfl, hB⟩
  obtain ⟨hb, c0, c1, c2, c3, c4, c5, c6, f0, f1, f2, f3, f4, f5, f6⟩ := (Res7.made w).below hB
  have HBW := Lib.hid (((Below.refl w.heap.size w).alloc (Nat.le_refl _) _).trans (hB.mono (by simp)))
  have HHB := Lib.hid hb
  clear hb hB
  go_wp2_with fail
  obtain ⟨W, hW, ⟨hb, d0, d1, d2, d3, d4, d5, d6, -, -, -, -, -, -, -⟩, hch⟩ := (Res7.of HHB.out).stored (.int .i64 5) (.int .i64 d) (.int .i64 a) (.int .i64 (-1)) (.int .i32 n) (.string ⟨#[]⟩) (.slice none 0 0)
  rw [hW]
  clear hW hb
  refine bodyPost_ret (by simp [results, Try.results54, go_sem, d0, d1, d2, d3, d4, d5, d6]; try rfl) rfl ?_
  refine ⟨⟨_, _, _, _, _, _, []⟩, by rw [hsome]; rfl, ?_, fun s hs => ?_⟩
  · exact HBW.out.trans (hch.below HBW.out.size fun k e => by omega)
  · rw [hsome] at hs; cases hs; rfl
set_option maxHeartbeats 4000000 in
set_option maxRecDepth 100000 in
theorem short15_11 (d a n : Int) (hn : I32 n) (w : World) : Calls Try.prog 54 #[.int .i64 11, .int .i64 d, .int .i64 a, .int .i32 n] w (Shorted 11 d a n w) := by
  have hn1 := hn.1
  have hn2 := hn.2
  by_cases l1 : n < -2048
  case' pos =>
    have hnone : shortS 11 d a n = none := by unfold shortS fits12; simp; omega
    have HBW : Hid (Below w.heap.size w (w.alloc (.cells #[.int .i64 0, .int .i64 0, .int .i64 0, .int .i64 0, .int .i32 0, .string ⟨#[]⟩, .slice none 0 0] 61))) := Lib.hid ((Below.refl w.heap.size w).alloc (Nat.le_refl _) _)
    have HHB := Lib.hid (Res7.made w).heap
    have ⟨_, c0, c1, c2, c3, c4, c5, c6, f0, f1, f2, f3, f4, f5, f6⟩ := Res7.made w
    go_enter Try.func54, Try.ntmps54
    go_wp2_with fail
    refine bodyPost_ret (by simp [results, Try.results54, go_sem]; try rfl) rfl ?_
    refine ⟨⟨0, 0, 0, 0, 0, ⟨#[]⟩, []⟩, by rw [hnone]; rfl, HBW.out, fun s hs => ?_⟩
    rw [hnone] at hs; cases hs

  by_cases l2 : 2047 < n
  case' pos =>
    have hnone : shortS 11 d a n = none := by unfold shortS fits12; simp; omega
    have HBW : Hid (Below w.heap.size w (w.alloc (.cells #[.int .i64 0, .int .i64 0, .int .i64 0, .int .i64 0, .int .i32 0, .string ⟨#[]⟩, .slice none 0 0] 61))) := Lib.hid ((Below.refl w.heap.size w).alloc (Nat.le_refl _) _)
    have HHB := Lib.hid (Res7.made w).heap
    have ⟨_, c0, c1, c2, c3, c4, c5, c6, f0, f1, f2, f3, f4, f5, f6⟩ := Res7.made w
    go_enter Try.func54, Try.ntmps54
    go_wp2_with fail
    refine bodyPost_ret (by simp [results, Try.results54, go_sem]; try rfl) rfl ?_
    refine ⟨⟨0, 0, 0, 0, 0, ⟨#[]⟩, []⟩, by rw [hnone]; rfl, HBW.out, fun s hs => ?_⟩
    rw [hnone] at hs; cases hs

  have hsome : shortS 11 d a n = some (withS 3 d a n) := by unfold shortS fits12; simp; omega
  go_enter Try.func54, Try.ntmps54
  go_wp2_with fail
  refine (with15_any 3 d a n _).mono ?_
  rintro e w1 ⟨rfl, hB⟩
  obtain ⟨hb, c0, c1, c2, c3, c4, c5, c6, f0, f1, f2, f3, f4, f5, f6⟩ := (Res7.made w).below hB
  have HBW := Lib.hid (((Below.refl w.heap.size w).alloc (Nat.le_refl _) _).trans (hB.mono (by simp)))
  have HHB := Lib.hid hb
  clear hb hB
  go_wp2_with fail
  obtain ⟨W, hW, ⟨hb, d0, d1, d2, d3, d4, d5, d6, -, -, -, -, -, -, -⟩, hch⟩ := (Res7.of HHB.out).stored (.int .i64 3) (.int .i64 d) (.int .i64 a) (.int .i64 (-1)) (.int .i32 n) (.string ⟨#[]⟩) (.slice none 0 0)
  rw [hW]
  clear hW hb
  refine bodyPost_ret (by simp [results, Try.results54, go_sem, d0, d1, d2, d3, d4, d5, d6]; try rfl) rfl ?_
  refine ⟨⟨_, _, _, _, _, _, []⟩, by rw [hsome]; rfl, ?_, fun s hs => ?_⟩
  · exact HBW.out.trans (hch.below HBW.out.size fun k e => by omega)
  · rw [hsome] at hs; cases hs; rfl
set_option maxHeartbeats 4000000 in
set_option maxRecDepth 100000 in
theorem short15_12 (d a n : Int) (hn : I32 n) (w : World) : Calls Try.prog 54 #[.int .i64 12, .int .i64 d, .int .i64 a, .int .i32 n] w (Shorted 12 d a n w) := by
  have hn1 := hn.1
  have hn2 := hn.2
  have hnone : shortS 12 d a n = none := by unfold shortS; simp
  by_cases l1 : n < -2048
  case' pos =>
    have HBW : Hid (Below w.heap.size w (w.alloc (.cells #[.int .i64 0, .int .i64 0, .int .i64 0, .int .i64 0, .int .i32 0, .string ⟨#[]⟩, .slice none 0 0] 61))) := Lib.hid ((Below.refl w.heap.size w).alloc (Nat.le_refl _) _)
    have HHB := Lib.hid (Res7.made w).heap
    have ⟨_, c0, c1, c2, c3, c4, c5, c6, f0, f1, f2, f3, f4, f5, f6⟩ := Res7.made w
    go_enter Try.func54, Try.ntmps54
    go_wp2_with fail
    refine bodyPost_ret (by simp [results, Try.results54, go_sem]; try rfl) rfl ?_
    refine ⟨⟨0, 0, 0, 0, 0, ⟨#[]⟩, []⟩, by rw [hnone]; rfl, HBW.out, fun s hs => ?_⟩
    rw [hnone] at hs; cases hs

  by_cases l2 : 2047 < n
  case' pos =>
    have HBW : Hid (Below w.heap.size w (w.alloc (.cells #[.int .i64 0, .int .i64 0, .int .i64 0, .int .i64 0, .int .i32 0, .string ⟨#[]⟩, .slice none 0 0] 61))) := Lib.hid ((Below.refl w.heap.size w).alloc (Nat.le_refl _) _)
    have HHB := Lib.hid (Res7.made w).heap
    have ⟨_, c0, c1, c2, c3, c4, c5, c6, f0, f1, f2, f3, f4, f5, f6⟩ := Res7.made w
    go_enter Try.func54, Try.ntmps54
    go_wp2_with fail
    refine bodyPost_ret (by simp [results, Try.results54, go_sem]; try rfl) rfl ?_
    refine ⟨⟨0, 0, 0, 0, 0, ⟨#[]⟩, []⟩, by rw [hnone]; rfl, HBW.out, fun s hs => ?_⟩
    rw [hnone] at hs; cases hs

  have HBW : Hid (Below w.heap.size w (w.alloc (.cells #[.int .i64 0, .int .i64 0, .int .i64 0, .int .i64 0, .int .i32 0, .string ⟨#[]⟩, .slice none 0 0] 61))) := Lib.hid ((Below.refl w.heap.size w).alloc (Nat.le_refl _) _)
  have HHB := Lib.hid (Res7.made w).heap
  have ⟨_, c0, c1, c2, c3, c4, c5, c6, f0, f1, f2, f3, f4, f5, f6⟩ := Res7.made w
  go_enter Try.func54, Try.ntmps54
  go_wp2_with fail
  refine bodyPost_ret (by simp [results, Try.results54, go_sem]; try rfl) rfl ?_
  refine ⟨⟨0, 0, 0, 0, 0, ⟨#[]⟩, []⟩, by rw [hnone]; rfl, HBW.out, fun s hs => ?_⟩
  rw [hnone] at hs; cases hs
set_option maxHeartbeats 4000000 in
set_option maxRecDepth 100000 in
theorem short15_13 (d a n : Int) (hn : I32 n) (w : World) : Calls Try.prog 54 #[.int .i64 13, .int .i64 d, .int .i64 a, .int .i32 n] w (Shorted 13 d a n w) := by
  have hn1 := hn.1
  have hn2 := hn.2
  have hnone : shortS 13 d a n = none := by unfold shortS; simp
  by_cases l1 : n < -2048
  case' pos =>
    have HBW : Hid (Below w.heap.size w (w.alloc (.cells #[.int .i64 0, .int .i64 0, .int .i64 0, .int .i64 0, .int .i32 0, .string ⟨#[]⟩, .slice none 0 0] 61))) := Lib.hid ((Below.refl w.heap.size w).alloc (Nat.le_refl _) _)
    have HHB := Lib.hid (Res7.made w).heap
    have ⟨_, c0, c1, c2, c3, c4, c5, c6, f0, f1, f2, f3, f4, f5, f6⟩ := Res7.made w
    go_enter Try.func54, Try.ntmps54
    go_wp2_with fail
    refine bodyPost_ret (by simp [results, Try.results54, go_sem]; try rfl) rfl ?_
    refine ⟨⟨0, 0, 0, 0, 0, ⟨#[]⟩, []⟩, by rw [hnone]; rfl, HBW.out, fun s hs => ?_⟩
    rw [hnone] at hs; cases hs

  by_cases l2 : 2047 < n
  case' pos =>
    have HBW : Hid (Below w.heap.size w (w.alloc (.cells #[.int .i64 0, .int .i64 0, .int .i64 0, .int .i64 0, .int .i32 0, .string ⟨#[]⟩, .slice none 0 0] 61))) := Lib.hid ((Below.refl w.heap.size w).alloc (Nat.le_refl _) _)
    have HHB := Lib.hid (Res7.made w).heap
    have ⟨_, c0, c1, c2, c3, c4, c5, c6, f0, f1, f2, f3, f4, f5, f6⟩ := Res7.made w
    go_enter Try.func54, Try.ntmps54
    go_wp2_with fail
    refine bodyPost_ret (by simp [results, Try.results54, go_sem]; try rfl) rfl ?_
    refine ⟨⟨0, 0, 0, 0, 0, ⟨#[]⟩, []⟩, by rw [hnone]; rfl, HBW.out, fun s hs => ?_⟩
    rw [hnone] at hs; cases hs

  have HBW : Hid (Below w.heap.size w (w.alloc (.cells #[.int .i64 0, .int .i64 0, .int .i64 0, .int .i64 0, .int .i32 0, .string ⟨#[]⟩, .slice none 0 0] 61))) := Lib.hid ((Below.refl w.heap.size w).alloc (Nat.le_refl _) _)
  have HHB := Lib.hid (Res7.made w).heap
  have ⟨_, c0, c1, c2, c3, c4, c5, c6, f0, f1, f2, f3, f4, f5, f6⟩ := Res7.made w
  go_enter Try.func54, Try.ntmps54
  go_wp2_with fail
  refine bodyPost_ret (by simp [results, Try.results54, go_sem]; try rfl) rfl ?_
  refine ⟨⟨0, 0, 0, 0, 0, ⟨#[]⟩, []⟩, by rw [hnone]; rfl, HBW.out, fun s hs => ?_⟩
  rw [hnone] at hs; cases hs
set_option maxHeartbeats 4000000 in
set_option maxRecDepth 100000 in
theorem short15_14 (d a n : Int) (hn : I32 n) (w : World) : Calls Try.prog 54 #[.int .i64 14, .int .i64 d, .int .i64 a, .int .i32 n] w (Shorted 14 d a n w) := by
  have hn1 := hn.1
  have hn2 := hn.2
  have hnone : shortS 14 d a n = none := by unfold shortS; simp
  by_cases l1 : n < -2048
  case' pos =>
    have HBW : Hid (Below w.heap.size w (w.alloc (.cells #[.int .i64 0, .int .i64 0, .int .i64 0, .int .i64 0, .int .i32 0, .string ⟨#[]⟩, .slice none 0 0] 61))) := Lib.hid ((Below.refl w.heap.size w).alloc (Nat.le_refl _) _)
    have HHB := Lib.hid (Res7.made w).heap
    have ⟨_, c0, c1, c2, c3, c4, c5, c6, f0, f1, f2, f3, f4, f5, f6⟩ := Res7.made w
    go_enter Try.func54, Try.ntmps54
    go_wp2_with fail
    refine bodyPost_ret (by simp [results, Try.results54, go_sem]; try rfl) rfl ?_
    refine ⟨⟨0, 0, 0, 0, 0, ⟨#[]⟩, []⟩, by rw [hnone]; rfl, HBW.out, fun s hs => ?_⟩
    rw [hnone] at hs; cases hs

  by_cases l2 : 2047 < n
  case' pos =>
    have HBW : Hid (Below w.heap.size w (w.alloc (.cells #[.int .i64 0, .int .i64 0, .int .i64 0, .int .i64 0, .int .i32 0, .string ⟨#[]⟩, .slice none 0 0] 61))) := Lib.hid ((Below.refl w.heap.size w).alloc (Nat.le_refl _) _)
    have HHB := Lib.hid (Res7.made w).heap
    have ⟨_, c0, c1, c2, c3, c4, c5, c6, f0, f1, f2, f3, f4, f5, f6⟩ := Res7.made w
    go_enter Try.func54, Try.ntmps54
    go_wp2_with fail
    refine bodyPost_ret (by simp [results, Try.results54, go_sem]; try rfl) rfl ?_
    refine ⟨⟨0, 0, 0, 0, 0, ⟨#[]⟩, []⟩, by rw [hnone]; rfl, HBW.out, fun s hs => ?_⟩
    rw [hnone] at hs; cases hs

  have HBW : Hid (Below w.heap.size w (w.alloc (.cells #[.int .i64 0, .int .i64 0, .int .i64 0, .int .i64 0, .int .i32 0, .string ⟨#[]⟩, .slice none 0 0] 61))) := Lib.hid ((Below.refl w.heap.size w).alloc (Nat.le_refl _) _)
  have HHB := Lib.hid (Res7.made w).heap
  have ⟨_, c0, c1, c2, c3, c4, c5, c6, f0, f1, f2, f3, f4, f5, f6⟩ := Res7.made w
  go_enter Try.func54, Try.ntmps54
  go_wp2_with fail
  refine bodyPost_ret (by simp [results, Try.results54, go_sem]; try rfl) rfl ?_
  refine ⟨⟨0, 0, 0, 0, 0, ⟨#[]⟩, []⟩, by rw [hnone]; rfl, HBW.out, fun s hs => ?_⟩
  rw [hnone] at hs; cases hs
set_option maxHeartbeats 4000000 in
set_option maxRecDepth 100000 in
theorem short15_15 (d a n : Int) (hn : I32 n) (w : World) : Calls Try.prog 54 #[.int .i64 15, .int .i64 d, .int .i64 a, .int .i32 n] w (Shorted 15 d a n w) := by
  have hn1 := hn.1
  have hn2 := hn.2
  by_cases h0 : n = 0
  case' pos =>
    have hsome : shortS 15 d a n = some (withS 4 d a 1) := by unfold shortS; simp [h0]
    have h0t : (n == 0) = true := by rw [h0]; rfl
    go_enter Try.func54, Try.ntmps54
    go_wp2_with fail
    refine (with15_any 4 d a 1 _).mono ?_
    rintro e w1 ⟨rfl, hB⟩
    obtain ⟨hb, c0, c1, c2, c3, c4, c5, c6, f0, f1, f2, f3, f4, f5, f6⟩ := (Res7.made w).below hB
    have HBW := Lib.hid (((Below.refl w.heap.size w).alloc (Nat.le_refl _) _).trans (hB.mono (by simp)))
    have HHB := Lib.hid hb
    clear hb hB
    go_wp2_with fail
    obtain ⟨W, hW, ⟨hb, d0, d1, d2, d3, d4, d5, d6, -, -, -, -, -, -, -⟩, hch⟩ := (Res7.of HHB.out).stored (.int .i64 4) (.int .i64 d) (.int .i64 a) (.int .i64 (-1)) (.int .i32 1) (.string ⟨#[]⟩) (.slice none 0 0)
    rw [hW]
    clear hW hb
    refine bodyPost_ret (by simp [results, Try.results54, go_sem, d0, d1, d2, d3, d4, d5, d6]; try rfl) rfl ?_
    refine ⟨⟨_, _, _, _, _, _, []⟩, by rw [hsome]; rfl, ?_, fun s hs => ?_⟩
    · exact HBW.out.trans (hch.below HBW.out.size fun k e => by omega)
    · rw [hsome] at hs; cases hs; rfl

  have hnone : shortS 15 d a n = none := by unfold shortS; simp [h0]
  have h0f : (n == 0) = false := beq_eq_false_iff_ne.2 h0
  by_cases l1 : n < -2048
  case' pos =>
    have HBW : Hid (Below w.heap.size w (w.alloc (.cells #[.int .i64 0, .int .i64 0, .int .i64 0, .int .i64 0, .int .i32 0, .string ⟨#[]⟩, .slice none 0 0] 61))) := Lib.hid ((Below.refl w.heap.size w).alloc (Nat.le_refl _) _)
    have HHB := Lib.hid (Res7.made w).heap
    have ⟨_, c0, c1, c2, c3, c4, c5, c6, f0, f1, f2, f3, f4, f5, f6⟩ := Res7.made w
    go_enter Try.func54, Try.ntmps54
    go_wp2_with fail
    refine bodyPost_ret (by simp [results, Try.results54, go_sem]; try rfl) rfl ?_
    refine ⟨⟨0, 0, 0, 0, 0, ⟨#[]⟩, []⟩, by rw [hnone]; rfl, HBW.out, fun s hs => ?_⟩
    rw [hnone] at hs; cases hs

  by_cases l2 : 2047 < n
  case' pos =>
    have HBW : Hid (Below w.heap.size w (w.alloc (.cells #[.int .i64 0, .int .i64 0, .int .i64 0, .int .i64 0, .int .i32 0, .string ⟨#[]⟩, .slice none 0 0] 61))) := Lib.hid ((Below.refl w.heap.size w).alloc (Nat.le_refl _) _)
    have HHB := Lib.hid (Res7.made w).heap
    have ⟨_, c0, c1, c2, c3, c4, c5, c6, f0, f1, f2, f3, f4, f5, f6⟩ := Res7.made w
    go_enter Try.func54, Try.ntmps54
    go_wp2_with fail
    refine bodyPost_ret (by simp [results, Try.results54, go_sem]; try rfl) rfl ?_
    refine ⟨⟨0, 0, 0, 0, 0, ⟨#[]⟩, []⟩, by rw [hnone]; rfl, HBW.out, fun s hs => ?_⟩
    rw [hnone] at hs; cases hs

  have HBW : Hid (Below w.heap.size w (w.alloc (.cells #[.int .i64 0, .int .i64 0, .int .i64 0, .int .i64 0, .int .i32 0, .string ⟨#[]⟩, .slice none 0 0] 61))) := Lib.hid ((Below.refl w.heap.size w).alloc (Nat.le_refl _) _)
  have HHB := Lib.hid (Res7.made w).heap
  have ⟨_, c0, c1, c2, c3, c4, c5, c6, f0, f1, f2, f3, f4, f5, f6⟩ := Res7.made w
  go_enter Try.func54, Try.ntmps54
  go_wp2_with fail
  refine bodyPost_ret (by simp [results, Try.results54, go_sem]; try rfl) rfl ?_
  refine ⟨⟨0, 0, 0, 0, 0, ⟨#[]⟩, []⟩, by rw [hnone]; rfl, HBW.out, fun s hs => ?_⟩
  rw [hnone] at hs; cases hs
set_option maxHeartbeats 4000000 in
set_option maxRecDepth 100000 in
theorem short15_16 (d a n : Int) (hn : I32 n) (w : World) : Calls Try.prog 54 #[.int .i64 16, .int .i64 d, .int .i64 a, .int .i32 n] w (Shorted 16 d a n w) := by
  have hn1 := hn.1
  have hn2 := hn.2
  by_cases h0 : n = 0
  case' pos =>
    have hsome : shortS 16 d a n = some (threeS 15 d (-1) a) := by unfold shortS; simp [h0]
    have h0t : (n == 0) = true := by rw [h0]; rfl
    go_enter Try.func54, Try.ntmps54
    go_wp2_with fail
    refine (three15_any 15 d (-1) a _).mono ?_
    rintro e w1 ⟨rfl, hB⟩
    obtain ⟨hb, c0, c1, c2, c3, c4, c5, c6, f0, f1, f2, f3, f4, f5, f6⟩ := (Res7.made w).below hB
    have HBW := Lib.hid (((Below.refl w.heap.size w).alloc (Nat.le_refl _) _).trans (hB.mono (by simp)))
    have HHB := Lib.hid hb
    clear hb hB
    go_wp2_with fail
    obtain ⟨W, hW, ⟨hb, d0, d1, d2, d3, d4, d5, d6, -, -, -, -, -, -, -⟩, hch⟩ := (Res7.of HHB.out).stored (.int .i64 15) (.int .i64 d) (.int .i64 (-1)) (.int .i64 a) (.int .i32 0) (.string ⟨#[]⟩) (.slice none 0 0)
    rw [hW]
    clear hW hb
    refine bodyPost_ret (by simp [results, Try.results54, go_sem, d0, d1, d2, d3, d4, d5, d6]; try rfl) rfl ?_
    refine ⟨⟨_, _, _, _, _, _, []⟩, by rw [hsome]; rfl, ?_, fun s hs => ?_⟩
    · exact HBW.out.trans (hch.below HBW.out.size fun k e => by omega)
    · rw [hsome] at hs; cases hs; rfl

  have hnone : shortS 16 d a n = none := by unfold shortS; simp [h0]
  have h0f : (n == 0) = false := beq_eq_false_iff_ne.2 h0
  by_cases l1 : n < -2048
  case' pos =>
    have HBW : Hid (Below w.heap.size w (w.alloc (.cells #[.int .i64 0, .int .i64 0, .int .i64 0, .int .i64 0, .int .i32 0, .string ⟨#[]⟩, .slice none 0 0] 61))) := Lib.hid ((Below.refl w.heap.size w).alloc (Nat.le_refl _) _)
    have HHB := Lib.hid (Res7.made w).heap
    have ⟨_, c0, c1, c2, c3, c4, c5, c6, f0, f1, f2, f3, f4, f5, f6⟩ := Res7.made w
    go_enter Try.func54, Try.ntmps54
    go_wp2_with fail
    refine bodyPost_ret (by simp [results, Try.results54, go_sem]; try rfl) rfl ?_
    refine ⟨⟨0, 0, 0, 0, 0, ⟨#[]⟩, []⟩, by rw [hnone]; rfl, HBW.out, fun s hs => ?_⟩
    rw [hnone] at hs; cases hs

  by_cases l2 : 2047 < n
  case' pos =>
    have HBW : Hid (Below w.heap.size w (w.alloc (.cells #[.int .i64 0, .int .i64 0, .int .i64 0, .int .i64 0, .int .i32 0, .string ⟨#[]⟩, .slice none 0 0] 61))) := Lib.hid ((Below.refl w.heap.size w).alloc (Nat.le_refl _) _)
    have HHB := Lib.hid (Res7.made w).heap
    have ⟨_, c0, c1, c2, c3, c4, c5, c6, f0, f1, f2, f3, f4, f5, f6⟩ := Res7.made w
    go_enter Try.func54, Try.ntmps54
    go_wp2_with fail
    refine bodyPost_ret (by simp [results, Try.results54, go_sem]; try rfl) rfl ?_
    refine ⟨⟨0, 0, 0, 0, 0, ⟨#[]⟩, []⟩, by rw [hnone]; rfl, HBW.out, fun s hs => ?_⟩
    rw [hnone] at hs; cases hs

  have HBW : Hid (Below w.heap.size w (w.alloc (.cells #[.int .i64 0, .int .i64 0, .int .i64 0, .int .i64 0, .int .i32 0, .string ⟨#[]⟩, .slice none 0 0] 61))) := Lib.hid ((Below.refl w.heap.size w).alloc (Nat.le_refl _) _)
  have HHB := Lib.hid (Res7.made w).heap
  have ⟨_, c0, c1, c2, c3, c4, c5, c6, f0, f1, f2, f3, f4, f5, f6⟩ := Res7.made w
  go_enter Try.func54, Try.ntmps54
  go_wp2_with fail
  refine bodyPost_ret (by simp [results, Try.results54, go_sem]; try rfl) rfl ?_
  refine ⟨⟨0, 0, 0, 0, 0, ⟨#[]⟩, []⟩, by rw [hnone]; rfl, HBW.out, fun s hs => ?_⟩
  rw [hnone] at hs; cases hs
theorem short15_any (op d a n : Int) (ho : 1 ≤ op ∧ op ≤ 16) (hn : I32 n) (w : World) : Calls Try.prog 54 #[.int .i64 op, .int .i64 d, .int .i64 a, .int .i32 n] w (Shorted op d a n w) := by
  rcases op_cases ho with rfl | rfl | rfl | rfl | rfl | rfl | rfl | rfl | rfl | rfl | rfl | rfl | rfl | rfl | rfl | rfl
  · exact short15_1 d a n hn w
  · exact short15_2 d a n hn w
  · exact short15_3 d a n hn w
  · exact short15_4 d a n hn w
  · exact short15_5 d a n hn w
  · exact short15_6 d a n hn w
  · exact short15_7 d a n hn w
  · exact short15_8 d a n hn w
  · exact short15_9 d a n hn w
  · exact short15_10 d a n hn w
  · exact short15_11 d a n hn w
  · exact short15_12 d a n hn w
  · exact short15_13 d a n hn w
  · exact short15_14 d a n hn w
  · exact short15_15 d a n hn w
  · exact short15_16 d a n hn w
end Go.Proofs.Ytnfneinonkpmeaa
