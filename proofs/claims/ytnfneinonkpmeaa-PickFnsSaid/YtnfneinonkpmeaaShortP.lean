/- pick.short: the walks. Written by genshort.py. -/
import Derived.Test.YtnfneinonkpmeaaShort
namespace Go.Proofs.Ytnfneinonkpmeaa
open Go.RowKit
set_option maxHeartbeats 4000000 in
set_option maxRecDepth 100000 in
theorem short_1 (d a n : Int) (hn : I32 n) (w : World) : Calls Try.prog 50 #[.int .i64 1, .int .i64 d, .int .i64 a, .int .i32 n] w (Shorted 1 d a n w) := by
  have hn1 := hn.1
  have hn2 := hn.2
  go_enter Try.func50, Try.ntmps50
  go_wp2_with fail
  refine (Fits_any n hn _).mono ?_
  rintro e w1 ⟨rfl, rfl⟩
  go_wp2_with fail
  refine (with_any 2 d a n _).mono ?_
  rintro e w1 ⟨rfl, hB⟩
  obtain ⟨hb, c0, c1, c2, c3, c4, c5, c6, f0, f1, f2, f3, f4, f5, f6⟩ := (Res7.made w).below hB
  have HBW := Lib.hid (((Below.refl w.heap.size w).alloc (Nat.le_refl _) _).trans (hB.mono (by simp)))
  have HHB := Lib.hid hb
  clear hb hB
  go_wp2_with fail
  obtain ⟨W, hW, ⟨hb, d0, d1, d2, d3, d4, d5, d6, -, -, -, -, -, -, -⟩, hch⟩ := (Res7.of HHB.out).stored (.int .i64 2) (.int .i64 d) (.int .i64 a) (.int .i64 (-1)) (.int .i32 n) (.string ⟨#[]⟩) (.slice none 0 0)
  rw [hW]
  clear hW hb
  refine bodyPost_ret (by simp [results, Try.results50, go_sem, d0, d1, d2, d3, d4, d5, d6]; try rfl) rfl ?_
  have hsome : (shortS 1 d a n).isSome = fits12 n := by unfold shortS; simp; split <;> simp_all
  refine ⟨⟨_, _, _, _, _, _, []⟩, by rw [hsome], ?_, fun s hs => ?_⟩
  · exact HBW.out.trans (hch.below HBW.out.size fun k e => by omega)
  · unfold shortS at hs; simp at hs; exact hs.2
set_option maxHeartbeats 4000000 in
set_option maxRecDepth 100000 in
theorem short_2 (d a n : Int) (hn : I32 n) (w : World) : Calls Try.prog 50 #[.int .i64 2, .int .i64 d, .int .i64 a, .int .i32 n] w (Shorted 2 d a n w) := by
  have hm : I32 (wrap32 (-n)) := wrap32_i32 _
  go_enter Try.func50, Try.ntmps50
  go_wp2_with fail
  refine (Fits_any n hn _).mono ?_
  rintro e w1 ⟨rfl, rfl⟩
  go_wp2_with fail
  refine (with_any 2 d a (wrap32 (-n)) _).mono ?_
  rintro e w1 ⟨rfl, hB⟩
  obtain ⟨hb, c0, c1, c2, c3, c4, c5, c6, f0, f1, f2, f3, f4, f5, f6⟩ := (Res7.made w).below hB
  have HBW := Lib.hid (((Below.refl w.heap.size w).alloc (Nat.le_refl _) _).trans (hB.mono (by simp)))
  have HHB := Lib.hid hb
  clear hb hB
  go_wp2_with fail
  refine (Fits_any (wrap32 (-n)) hm _).mono ?_
  rintro e w2 ⟨rfl, rfl⟩
  go_wp2_with fail
  obtain ⟨W, hW, ⟨hb, d0, d1, d2, d3, d4, d5, d6, -, -, -, -, -, -, -⟩, hch⟩ := (Res7.of HHB.out).stored (.int .i64 2) (.int .i64 d) (.int .i64 a) (.int .i64 (-1)) (.int .i32 (wrap32 (-n))) (.string ⟨#[]⟩) (.slice none 0 0)
  rw [hW]
  clear hW hb
  refine bodyPost_ret (by simp [results, Try.results50, go_sem, d0, d1, d2, d3, d4, d5, d6]; try rfl) rfl ?_
  have hsome : (shortS 2 d a n).isSome = fits12 (wrap32 (-n)) := by rw [fits_wrap hn]; unfold shortS; simp; split <;> simp_all
  refine ⟨⟨_, _, _, _, _, _, []⟩, by rw [hsome], ?_, fun s hs => ?_⟩
  · exact HBW.out.trans (hch.below HBW.out.size fun k e => by omega)
  · unfold shortS at hs; simp at hs
    obtain ⟨h1, h2⟩ := hs
    rw [← h2, wrap_fits h1]; rfl
set_option maxHeartbeats 4000000 in
set_option maxRecDepth 100000 in
theorem short_3 (d a n : Int) (hn : I32 n) (w : World) : Calls Try.prog 50 #[.int .i64 3, .int .i64 d, .int .i64 a, .int .i32 n] w (Shorted 3 d a n w) := by
  have hn1 := hn.1
  have hn2 := hn.2
  go_enter Try.func50, Try.ntmps50
  go_wp2_with fail
  refine (Fits_any n hn _).mono ?_
  rintro e w1 ⟨rfl, rfl⟩
  have HBW : Hid (Below w.heap.size w (w.alloc (.cells #[.int .i64 0, .int .i64 0, .int .i64 0, .int .i64 0, .int .i32 0, .string ⟨#[]⟩, .slice none 0 0] 61))) := Lib.hid ((Below.refl w.heap.size w).alloc (Nat.le_refl _) _)
  have HHB := Lib.hid (Res7.made w).heap
  have ⟨_, c0, c1, c2, c3, c4, c5, c6, f0, f1, f2, f3, f4, f5, f6⟩ := Res7.made w
  go_wp2_with fail
  refine bodyPost_ret (by simp [results, Try.results50, go_sem]; try rfl) rfl ?_
  refine ⟨⟨_, _, _, _, _, _, []⟩, rfl, ?_, fun s hs => ?_⟩
  · exact HBW.out
  · exact absurd hs (by unfold shortS; simp)
set_option maxHeartbeats 4000000 in
set_option maxRecDepth 100000 in
theorem short_4 (d a n : Int) (hn : I32 n) (w : World) : Calls Try.prog 50 #[.int .i64 4, .int .i64 d, .int .i64 a, .int .i32 n] w (Shorted 4 d a n w) := by
  have hn1 := hn.1
  have hn2 := hn.2
  go_enter Try.func50, Try.ntmps50
  go_wp2_with fail
  refine (Fits_any n hn _).mono ?_
  rintro e w1 ⟨rfl, rfl⟩
  have HBW : Hid (Below w.heap.size w (w.alloc (.cells #[.int .i64 0, .int .i64 0, .int .i64 0, .int .i64 0, .int .i32 0, .string ⟨#[]⟩, .slice none 0 0] 61))) := Lib.hid ((Below.refl w.heap.size w).alloc (Nat.le_refl _) _)
  have HHB := Lib.hid (Res7.made w).heap
  have ⟨_, c0, c1, c2, c3, c4, c5, c6, f0, f1, f2, f3, f4, f5, f6⟩ := Res7.made w
  go_wp2_with fail
  refine bodyPost_ret (by simp [results, Try.results50, go_sem]; try rfl) rfl ?_
  refine ⟨⟨_, _, _, _, _, _, []⟩, rfl, ?_, fun s hs => ?_⟩
  · exact HBW.out
  · exact absurd hs (by unfold shortS; simp)
set_option maxHeartbeats 4000000 in
set_option maxRecDepth 100000 in
theorem short_5 (d a n : Int) (hn : I32 n) (w : World) : Calls Try.prog 50 #[.int .i64 5, .int .i64 d, .int .i64 a, .int .i32 n] w (Shorted 5 d a n w) := by
  have hn1 := hn.1
  have hn2 := hn.2
  go_enter Try.func50, Try.ntmps50
  go_wp2_with fail
  refine (Fits_any n hn _).mono ?_
  rintro e w1 ⟨rfl, rfl⟩
  have HBW : Hid (Below w.heap.size w (w.alloc (.cells #[.int .i64 0, .int .i64 0, .int .i64 0, .int .i64 0, .int .i32 0, .string ⟨#[]⟩, .slice none 0 0] 61))) := Lib.hid ((Below.refl w.heap.size w).alloc (Nat.le_refl _) _)
  have HHB := Lib.hid (Res7.made w).heap
  have ⟨_, c0, c1, c2, c3, c4, c5, c6, f0, f1, f2, f3, f4, f5, f6⟩ := Res7.made w
  go_wp2_with fail
  refine bodyPost_ret (by simp [results, Try.results50, go_sem]; try rfl) rfl ?_
  refine ⟨⟨_, _, _, _, _, _, []⟩, rfl, ?_, fun s hs => ?_⟩
  · exact HBW.out
  · exact absurd hs (by unfold shortS; simp)
set_option maxHeartbeats 4000000 in
set_option maxRecDepth 100000 in
theorem short_6 (d a n : Int) (hn : I32 n) (w : World) : Calls Try.prog 50 #[.int .i64 6, .int .i64 d, .int .i64 a, .int .i32 n] w (Shorted 6 d a n w) := by
  have hn1 := hn.1
  have hn2 := hn.2
  go_enter Try.func50, Try.ntmps50
  go_wp2_with fail
  refine (Fits_any n hn _).mono ?_
  rintro e w1 ⟨rfl, rfl⟩
  go_wp2_with fail
  refine (with_any 8 d a (low5 n) _).mono ?_
  rintro e w1 ⟨rfl, hB⟩
  obtain ⟨hb, c0, c1, c2, c3, c4, c5, c6, f0, f1, f2, f3, f4, f5, f6⟩ := (Res7.made w).below hB
  have HBW := Lib.hid (((Below.refl w.heap.size w).alloc (Nat.le_refl _) _).trans (hB.mono (by simp)))
  have HHB := Lib.hid hb
  clear hb hB
  go_wp2_with fail
  obtain ⟨W, hW, ⟨hb, d0, d1, d2, d3, d4, d5, d6, -, -, -, -, -, -, -⟩, hch⟩ := (Res7.of HHB.out).stored (.int .i64 8) (.int .i64 d) (.int .i64 a) (.int .i64 (-1)) (.int .i32 (low5 n)) (.string ⟨#[]⟩) (.slice none 0 0)
  rw [hW]
  clear hW hb
  refine bodyPost_ret (by simp [results, Try.results50, go_sem, d0, d1, d2, d3, d4, d5, d6]; try rfl) rfl ?_
  refine ⟨⟨_, _, _, _, _, _, []⟩, rfl, ?_, fun s hs => ?_⟩
  · exact HBW.out.trans (hch.below HBW.out.size fun k e => by omega)
  · unfold shortS at hs; simp at hs; exact hs
set_option maxHeartbeats 4000000 in
set_option maxRecDepth 100000 in
theorem short_7 (d a n : Int) (hn : I32 n) (w : World) : Calls Try.prog 50 #[.int .i64 7, .int .i64 d, .int .i64 a, .int .i32 n] w (Shorted 7 d a n w) := by
  have hn1 := hn.1
  have hn2 := hn.2
  go_enter Try.func50, Try.ntmps50
  go_wp2_with fail
  refine (Fits_any n hn _).mono ?_
  rintro e w1 ⟨rfl, rfl⟩
  go_wp2_with fail
  refine (with_any 10 d a (low5 n) _).mono ?_
  rintro e w1 ⟨rfl, hB⟩
  obtain ⟨hb, c0, c1, c2, c3, c4, c5, c6, f0, f1, f2, f3, f4, f5, f6⟩ := (Res7.made w).below hB
  have HBW := Lib.hid (((Below.refl w.heap.size w).alloc (Nat.le_refl _) _).trans (hB.mono (by simp)))
  have HHB := Lib.hid hb
  clear hb hB
  go_wp2_with fail
  obtain ⟨W, hW, ⟨hb, d0, d1, d2, d3, d4, d5, d6, -, -, -, -, -, -, -⟩, hch⟩ := (Res7.of HHB.out).stored (.int .i64 10) (.int .i64 d) (.int .i64 a) (.int .i64 (-1)) (.int .i32 (low5 n)) (.string ⟨#[]⟩) (.slice none 0 0)
  rw [hW]
  clear hW hb
  refine bodyPost_ret (by simp [results, Try.results50, go_sem, d0, d1, d2, d3, d4, d5, d6]; try rfl) rfl ?_
  refine ⟨⟨_, _, _, _, _, _, []⟩, rfl, ?_, fun s hs => ?_⟩
  · exact HBW.out.trans (hch.below HBW.out.size fun k e => by omega)
  · unfold shortS at hs; simp at hs; exact hs
set_option maxHeartbeats 4000000 in
set_option maxRecDepth 100000 in
theorem short_8 (d a n : Int) (hn : I32 n) (w : World) : Calls Try.prog 50 #[.int .i64 8, .int .i64 d, .int .i64 a, .int .i32 n] w (Shorted 8 d a n w) := by
  have hn1 := hn.1
  have hn2 := hn.2
  go_enter Try.func50, Try.ntmps50
  go_wp2_with fail
  refine (Fits_any n hn _).mono ?_
  rintro e w1 ⟨rfl, rfl⟩
  go_wp2_with fail
  refine (with_any 7 d a n _).mono ?_
  rintro e w1 ⟨rfl, hB⟩
  obtain ⟨hb, c0, c1, c2, c3, c4, c5, c6, f0, f1, f2, f3, f4, f5, f6⟩ := (Res7.made w).below hB
  have HBW := Lib.hid (((Below.refl w.heap.size w).alloc (Nat.le_refl _) _).trans (hB.mono (by simp)))
  have HHB := Lib.hid hb
  clear hb hB
  go_wp2_with fail
  obtain ⟨W, hW, ⟨hb, d0, d1, d2, d3, d4, d5, d6, -, -, -, -, -, -, -⟩, hch⟩ := (Res7.of HHB.out).stored (.int .i64 7) (.int .i64 d) (.int .i64 a) (.int .i64 (-1)) (.int .i32 n) (.string ⟨#[]⟩) (.slice none 0 0)
  rw [hW]
  clear hW hb
  refine bodyPost_ret (by simp [results, Try.results50, go_sem, d0, d1, d2, d3, d4, d5, d6]; try rfl) rfl ?_
  have hsome : (shortS 8 d a n).isSome = fits12 n := by unfold shortS; simp; split <;> simp_all
  refine ⟨⟨_, _, _, _, _, _, []⟩, by rw [hsome], ?_, fun s hs => ?_⟩
  · exact HBW.out.trans (hch.below HBW.out.size fun k e => by omega)
  · unfold shortS at hs; simp at hs; exact hs.2
set_option maxHeartbeats 4000000 in
set_option maxRecDepth 100000 in
theorem short_9 (d a n : Int) (hn : I32 n) (w : World) : Calls Try.prog 50 #[.int .i64 9, .int .i64 d, .int .i64 a, .int .i32 n] w (Shorted 9 d a n w) := by
  have hn1 := hn.1
  have hn2 := hn.2
  go_enter Try.func50, Try.ntmps50
  go_wp2_with fail
  refine (Fits_any n hn _).mono ?_
  rintro e w1 ⟨rfl, rfl⟩
  go_wp2_with fail
  refine (with_any 6 d a n _).mono ?_
  rintro e w1 ⟨rfl, hB⟩
  obtain ⟨hb, c0, c1, c2, c3, c4, c5, c6, f0, f1, f2, f3, f4, f5, f6⟩ := (Res7.made w).below hB
  have HBW := Lib.hid (((Below.refl w.heap.size w).alloc (Nat.le_refl _) _).trans (hB.mono (by simp)))
  have HHB := Lib.hid hb
  clear hb hB
  go_wp2_with fail
  obtain ⟨W, hW, ⟨hb, d0, d1, d2, d3, d4, d5, d6, -, -, -, -, -, -, -⟩, hch⟩ := (Res7.of HHB.out).stored (.int .i64 6) (.int .i64 d) (.int .i64 a) (.int .i64 (-1)) (.int .i32 n) (.string ⟨#[]⟩) (.slice none 0 0)
  rw [hW]
  clear hW hb
  refine bodyPost_ret (by simp [results, Try.results50, go_sem, d0, d1, d2, d3, d4, d5, d6]; try rfl) rfl ?_
  have hsome : (shortS 9 d a n).isSome = fits12 n := by unfold shortS; simp; split <;> simp_all
  refine ⟨⟨_, _, _, _, _, _, []⟩, by rw [hsome], ?_, fun s hs => ?_⟩
  · exact HBW.out.trans (hch.below HBW.out.size fun k e => by omega)
  · unfold shortS at hs; simp at hs; exact hs.2
set_option maxHeartbeats 4000000 in
set_option maxRecDepth 100000 in
theorem short_10 (d a n : Int) (hn : I32 n) (w : World) : Calls Try.prog 50 #[.int .i64 10, .int .i64 d, .int .i64 a, .int .i32 n] w (Shorted 10 d a n w) := by
  have hn1 := hn.1
  have hn2 := hn.2
  go_enter Try.func50, Try.ntmps50
  go_wp2_with fail
  refine (Fits_any n hn _).mono ?_
  rintro e w1 ⟨rfl, rfl⟩
  go_wp2_with fail
  refine (with_any 5 d a n _).mono ?_
  rintro e w1 ⟨rfl, hB⟩
  obtain ⟨hb, c0, c1, c2, c3, c4, c5, c6, f0, f1, f2, f3, f4, f5, f6⟩ := (Res7.made w).below hB
  have HBW := Lib.hid (((Below.refl w.heap.size w).alloc (Nat.le_refl _) _).trans (hB.mono (by simp)))
  have HHB := Lib.hid hb
  clear hb hB
  go_wp2_with fail
  obtain ⟨W, hW, ⟨hb, d0, d1, d2, d3, d4, d5, d6, -, -, -, -, -, -, -⟩, hch⟩ := (Res7.of HHB.out).stored (.int .i64 5) (.int .i64 d) (.int .i64 a) (.int .i64 (-1)) (.int .i32 n) (.string ⟨#[]⟩) (.slice none 0 0)
  rw [hW]
  clear hW hb
  refine bodyPost_ret (by simp [results, Try.results50, go_sem, d0, d1, d2, d3, d4, d5, d6]; try rfl) rfl ?_
  have hsome : (shortS 10 d a n).isSome = fits12 n := by unfold shortS; simp; split <;> simp_all
  refine ⟨⟨_, _, _, _, _, _, []⟩, by rw [hsome], ?_, fun s hs => ?_⟩
  · exact HBW.out.trans (hch.below HBW.out.size fun k e => by omega)
  · unfold shortS at hs; simp at hs; exact hs.2
set_option maxHeartbeats 4000000 in
set_option maxRecDepth 100000 in
theorem short_11 (d a n : Int) (hn : I32 n) (w : World) : Calls Try.prog 50 #[.int .i64 11, .int .i64 d, .int .i64 a, .int .i32 n] w (Shorted 11 d a n w) := by
  have hn1 := hn.1
  have hn2 := hn.2
  go_enter Try.func50, Try.ntmps50
  go_wp2_with fail
  refine (Fits_any n hn _).mono ?_
  rintro e w1 ⟨rfl, rfl⟩
  go_wp2_with fail
  refine (with_any 3 d a n _).mono ?_
  rintro e w1 ⟨rfl, hB⟩
  obtain ⟨hb, c0, c1, c2, c3, c4, c5, c6, f0, f1, f2, f3, f4, f5, f6⟩ := (Res7.made w).below hB
  have HBW := Lib.hid (((Below.refl w.heap.size w).alloc (Nat.le_refl _) _).trans (hB.mono (by simp)))
  have HHB := Lib.hid hb
  clear hb hB
  go_wp2_with fail
  obtain ⟨W, hW, ⟨hb, d0, d1, d2, d3, d4, d5, d6, -, -, -, -, -, -, -⟩, hch⟩ := (Res7.of HHB.out).stored (.int .i64 3) (.int .i64 d) (.int .i64 a) (.int .i64 (-1)) (.int .i32 n) (.string ⟨#[]⟩) (.slice none 0 0)
  rw [hW]
  clear hW hb
  refine bodyPost_ret (by simp [results, Try.results50, go_sem, d0, d1, d2, d3, d4, d5, d6]; try rfl) rfl ?_
  have hsome : (shortS 11 d a n).isSome = fits12 n := by unfold shortS; simp; split <;> simp_all
  refine ⟨⟨_, _, _, _, _, _, []⟩, by rw [hsome], ?_, fun s hs => ?_⟩
  · exact HBW.out.trans (hch.below HBW.out.size fun k e => by omega)
  · unfold shortS at hs; simp at hs; exact hs.2
set_option maxHeartbeats 4000000 in
set_option maxRecDepth 100000 in
theorem short_12 (d a n : Int) (hn : I32 n) (w : World) : Calls Try.prog 50 #[.int .i64 12, .int .i64 d, .int .i64 a, .int .i32 n] w (Shorted 12 d a n w) := by
  have hn1 := hn.1
  have hn2 := hn.2
  go_enter Try.func50, Try.ntmps50
  go_wp2_with fail
  refine (Fits_any n hn _).mono ?_
  rintro e w1 ⟨rfl, rfl⟩
  have HBW : Hid (Below w.heap.size w (w.alloc (.cells #[.int .i64 0, .int .i64 0, .int .i64 0, .int .i64 0, .int .i32 0, .string ⟨#[]⟩, .slice none 0 0] 61))) := Lib.hid ((Below.refl w.heap.size w).alloc (Nat.le_refl _) _)
  have HHB := Lib.hid (Res7.made w).heap
  have ⟨_, c0, c1, c2, c3, c4, c5, c6, f0, f1, f2, f3, f4, f5, f6⟩ := Res7.made w
  go_wp2_with fail
  refine bodyPost_ret (by simp [results, Try.results50, go_sem]; try rfl) rfl ?_
  refine ⟨⟨_, _, _, _, _, _, []⟩, rfl, ?_, fun s hs => ?_⟩
  · exact HBW.out
  · exact absurd hs (by unfold shortS; simp)
set_option maxHeartbeats 4000000 in
set_option maxRecDepth 100000 in
theorem short_13 (d a n : Int) (hn : I32 n) (w : World) : Calls Try.prog 50 #[.int .i64 13, .int .i64 d, .int .i64 a, .int .i32 n] w (Shorted 13 d a n w) := by
  have hn1 := hn.1
  have hn2 := hn.2
  go_enter Try.func50, Try.ntmps50
  go_wp2_with fail
  refine (Fits_any n hn _).mono ?_
  rintro e w1 ⟨rfl, rfl⟩
  have HBW : Hid (Below w.heap.size w (w.alloc (.cells #[.int .i64 0, .int .i64 0, .int .i64 0, .int .i64 0, .int .i32 0, .string ⟨#[]⟩, .slice none 0 0] 61))) := Lib.hid ((Below.refl w.heap.size w).alloc (Nat.le_refl _) _)
  have HHB := Lib.hid (Res7.made w).heap
  have ⟨_, c0, c1, c2, c3, c4, c5, c6, f0, f1, f2, f3, f4, f5, f6⟩ := Res7.made w
  go_wp2_with fail
  refine bodyPost_ret (by simp [results, Try.results50, go_sem]; try rfl) rfl ?_
  refine ⟨⟨_, _, _, _, _, _, []⟩, rfl, ?_, fun s hs => ?_⟩
  · exact HBW.out
  · exact absurd hs (by unfold shortS; simp)
set_option maxHeartbeats 4000000 in
set_option maxRecDepth 100000 in
theorem short_14 (d a n : Int) (hn : I32 n) (w : World) : Calls Try.prog 50 #[.int .i64 14, .int .i64 d, .int .i64 a, .int .i32 n] w (Shorted 14 d a n w) := by
  have hn1 := hn.1
  have hn2 := hn.2
  go_enter Try.func50, Try.ntmps50
  go_wp2_with fail
  refine (Fits_any n hn _).mono ?_
  rintro e w1 ⟨rfl, rfl⟩
  have HBW : Hid (Below w.heap.size w (w.alloc (.cells #[.int .i64 0, .int .i64 0, .int .i64 0, .int .i64 0, .int .i32 0, .string ⟨#[]⟩, .slice none 0 0] 61))) := Lib.hid ((Below.refl w.heap.size w).alloc (Nat.le_refl _) _)
  have HHB := Lib.hid (Res7.made w).heap
  have ⟨_, c0, c1, c2, c3, c4, c5, c6, f0, f1, f2, f3, f4, f5, f6⟩ := Res7.made w
  go_wp2_with fail
  refine bodyPost_ret (by simp [results, Try.results50, go_sem]; try rfl) rfl ?_
  refine ⟨⟨_, _, _, _, _, _, []⟩, rfl, ?_, fun s hs => ?_⟩
  · exact HBW.out
  · exact absurd hs (by unfold shortS; simp)
set_option maxHeartbeats 4000000 in
set_option maxRecDepth 100000 in
theorem short_15 (d a n : Int) (hn : I32 n) (w : World) : Calls Try.prog 50 #[.int .i64 15, .int .i64 d, .int .i64 a, .int .i32 n] w (Shorted 15 d a n w) := by
  have hn1 := hn.1
  have hn2 := hn.2
  go_enter Try.func50, Try.ntmps50
  go_wp2_with fail
  refine (Fits_any n hn _).mono ?_
  rintro e w1 ⟨rfl, rfl⟩
  go_wp2_with fail
  refine (with_any 4 d a 1 _).mono ?_
  rintro e w1 ⟨rfl, hB⟩
  obtain ⟨hb, c0, c1, c2, c3, c4, c5, c6, f0, f1, f2, f3, f4, f5, f6⟩ := (Res7.made w).below hB
  have HBW := Lib.hid (((Below.refl w.heap.size w).alloc (Nat.le_refl _) _).trans (hB.mono (by simp)))
  have HHB := Lib.hid hb
  clear hb hB
  go_wp2_with fail
  obtain ⟨W, hW, ⟨hb, d0, d1, d2, d3, d4, d5, d6, -, -, -, -, -, -, -⟩, hch⟩ := (Res7.of HHB.out).stored (.int .i64 4) (.int .i64 d) (.int .i64 a) (.int .i64 (-1)) (.int .i32 1) (.string ⟨#[]⟩) (.slice none 0 0)
  rw [hW]
  clear hW hb
  refine bodyPost_ret (by simp [results, Try.results50, go_sem, d0, d1, d2, d3, d4, d5, d6]; try rfl) rfl ?_
  have hsome : (shortS 15 d a n).isSome = (n == 0) := by unfold shortS; simp; split <;> simp_all
  refine ⟨⟨_, _, _, _, _, _, []⟩, by rw [hsome], ?_, fun s hs => ?_⟩
  · exact HBW.out.trans (hch.below HBW.out.size fun k e => by omega)
  · unfold shortS at hs; simp at hs; exact hs.2
set_option maxHeartbeats 4000000 in
set_option maxRecDepth 100000 in
theorem short_16 (d a n : Int) (hn : I32 n) (w : World) : Calls Try.prog 50 #[.int .i64 16, .int .i64 d, .int .i64 a, .int .i32 n] w (Shorted 16 d a n w) := by
  have hn1 := hn.1
  have hn2 := hn.2
  go_enter Try.func50, Try.ntmps50
  go_wp2_with fail
  refine (Fits_any n hn _).mono ?_
  rintro e w1 ⟨rfl, rfl⟩
  go_wp2_with fail
  refine (three_any 15 d (-1) a _).mono ?_
  rintro e w1 ⟨rfl, hB⟩
  obtain ⟨hb, c0, c1, c2, c3, c4, c5, c6, f0, f1, f2, f3, f4, f5, f6⟩ := (Res7.made w).below hB
  have HBW := Lib.hid (((Below.refl w.heap.size w).alloc (Nat.le_refl _) _).trans (hB.mono (by simp)))
  have HHB := Lib.hid hb
  clear hb hB
  go_wp2_with fail
  obtain ⟨W, hW, ⟨hb, d0, d1, d2, d3, d4, d5, d6, -, -, -, -, -, -, -⟩, hch⟩ := (Res7.of HHB.out).stored (.int .i64 15) (.int .i64 d) (.int .i64 (-1)) (.int .i64 a) (.int .i32 0) (.string ⟨#[]⟩) (.slice none 0 0)
  rw [hW]
  clear hW hb
  refine bodyPost_ret (by simp [results, Try.results50, go_sem, d0, d1, d2, d3, d4, d5, d6]; try rfl) rfl ?_
  have hsome : (shortS 16 d a n).isSome = (n == 0) := by unfold shortS; simp; split <;> simp_all
  refine ⟨⟨_, _, _, _, _, _, []⟩, by rw [hsome], ?_, fun s hs => ?_⟩
  · exact HBW.out.trans (hch.below HBW.out.size fun k e => by omega)
  · unfold shortS at hs; simp at hs; exact hs.2
theorem short_any (op d a n : Int) (ho : 1 ≤ op ∧ op ≤ 16) (hn : I32 n) (w : World) : Calls Try.prog 50 #[.int .i64 op, .int .i64 d, .int .i64 a, .int .i32 n] w (Shorted op d a n w) := by
  rcases op_cases ho with rfl | rfl | rfl | rfl | rfl | rfl | rfl | rfl | rfl | rfl | rfl | rfl | rfl | rfl | rfl | rfl
  · exact short_1 d a n hn w
  · exact short_2 d a n hn w
  · exact short_3 d a n hn w
  · exact short_4 d a n hn w
  · exact short_5 d a n hn w
  · exact short_6 d a n hn w
  · exact short_7 d a n hn w
  · exact short_8 d a n hn w
  · exact short_9 d a n hn w
  · exact short_10 d a n hn w
  · exact short_11 d a n hn w
  · exact short_12 d a n hn w
  · exact short_13 d a n hn w
  · exact short_14 d a n hn w
  · exact short_15 d a n hn w
  · exact short_16 d a n hn w
end Go.Proofs.Ytnfneinonkpmeaa
