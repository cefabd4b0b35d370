/- brazierref15.Same, of the same code. -/
import Derived.Test.YtnfneinonkpmeaaPickF
import Derived.BigQuiet
import Derived.Deep.QuietTactic
namespace Go.Proofs.Ytnfneinonkpmeaa
open Go.RowKit Go.Maps
variable {T T' : Nat → Prop} {w w' : World}

theorem vins_at {B : Option Addr} {l : List Vins} (h : RdSl 7 (RdVins w T) w T' B l) (k : Nat) (hk : k < l.length) (x : Vins) (hx : x = l[k]) :
    ∃ g off A c, B = some ⟨g, off, none⟩ ∧ T' g ∧ g < w.heap.size ∧ RdT w T A (ints x.args) ∧ w.cell? ⟨g, off + k * 7, none⟩ = some (.int .i64 x.op) ∧ w.cell? ⟨g, off + k * 7 + 1, none⟩ = some (.int .i64 x.d)
      ∧ w.cell? ⟨g, off + k * 7 + 2, none⟩ = some (.int .i64 x.a) ∧ w.cell? ⟨g, off + k * 7 + 3, none⟩ = some (.int .i64 x.b) ∧ w.cell? ⟨g, off + k * 7 + 4, none⟩ = some (.int .i32 x.num)
      ∧ w.cell? ⟨g, off + k * 7 + 5, none⟩ = some (.string x.name) ∧ w.cell? ⟨g, off + k * 7 + 6, none⟩ = some (.slice A x.args.length c) := by
  subst hx
  obtain ⟨g, off, rfl, ht, hg, hcl⟩ := h (by omega)
  obtain ⟨cs, hcs, ⟨A1, c1, rfl, hsub⟩, hat⟩ := hcl k _ (List.getElem?_eq_getElem hk)
  exact ⟨g, off, A1, c1, rfl, ht, hg, hsub, hat 0 _ rfl, hat 1 _ rfl, hat 2 _ rfl, hat 3 _ rfl, hat 4 _ rfl, hat 5 _ rfl, hat 6 _ rfl⟩
theorem vinss_below {B : Option Addr} {l : List Vins} (h : RdSl 7 (RdVins w T) w T' B l) (hb : Below w.heap.size w w') : RdSl 7 (RdVins w' T) w' T' B l := h.kept (chg_of_below hb) old_ne fun _ _ h => h.kept (chg_of_below hb) old_ne
theorem VfnAt.below {N : Nat} {v : Value} {f : Fn} {l : List Vins} (h : VfnAt w N v f l) (hb : Below w.heap.size w w') : VfnAt w' N v f l := by
  obtain ⟨A, c, h1, h2⟩ := h
  exact ⟨A, c, h1, vinss_below h2 hb⟩

set_option maxHeartbeats 8000000 in
set_option maxRecDepth 100000 in
theorem Same15_any (f : Fn) (l : List Vins) (hl : l.length ≤ 100000) (ha : ∀ x ∈ l, x.args.length ≤ 1000) (A B : Option Addr) (c d : Nat) (w : World) (hA : RdSl 7 (RdVins w T) w T' A l) (hB : RdSl 7 (RdVins w T) w T' B l) :
    Calls Try.prog 8 #[.agg #[.string f.name, .int .i64 f.params, .int .i64 f.regs, .slice A l.length c], .agg #[.string f.name, .int .i64 f.params, .int .i64 f.regs, .slice B l.length d]] w
      fun e w' => e = .returned (.bool true) ∧ Below w.heap.size w w' := by
  have HA := Lib.hid hA
  have HB := Lib.hid hB
  have HARG := Lib.hid ha
  clear hA hB ha
  go_enter Try.func8, Try.ntmps8
  go_wp2_with fail
  obtain ⟨w1, hw1⟩ : ∃ w1, w1 = (w.alloc (.cells #[.string f.name, .int .i64 f.params, .int .i64 f.regs, .slice A l.length c] 34)).alloc (.cells #[.string f.name, .int .i64 f.params, .int .i64 f.regs, .slice B l.length d] 34) := ⟨_, rfl⟩
  have hb1 : Below w.heap.size w w1 := by rw [hw1]; exact ((Below.refl _ _).alloc (Nat.le_refl _) _).alloc (by simp) _
  have hc3 : w1.cell? ⟨w.heap.size + 1, 3, none⟩ = some (.slice B l.length d) := by
    rw [hw1]
    have := heap_alloc_new (w.alloc (.cells #[.string f.name, .int .i64 f.params, .int .i64 f.regs, .slice A l.length c] 34)) (.cells #[.string f.name, .int .i64 f.params, .int .i64 f.regs, .slice B l.length d] 34)
    simp only [World.size_alloc] at this
    exact cell_of_row _ _ _ _ _ _ this
  have hlt1 : w.heap.size + 1 < w1.heap.size := by rw [hw1]; simp
  rw [← hw1]
  have HB1 := Lib.hid hb1
  clear hw1 hb1
  go_loopw [40] (fun i wr => ∃ (k : Nat), k ≤ l.length ∧ i = .int .i64 (k : Nat) ∧ Below w1.heap.size w1 wr) (fun i _ => l.length - (intOf i).toNat)
  case atStart => exact ⟨0, by omega, rfl, Below.refl _ _⟩
  case round =>
    obtain ⟨k, hk, rfl, hB⟩ := hrel
    have HBK := Lib.hid hB
    have HBW : Hid (Below w.heap.size w wr) := Lib.hid (HB1.out.trans (hB.mono HB1.out.size))
    have hd3 := (hB.cell (p := ⟨w.heap.size + 1, 3, none⟩) hlt1).trans hc3
    have hlt2 : w.heap.size + 1 < wr.heap.size := Nat.lt_of_lt_of_le hlt1 hB.size
    clear hB
    by_cases hlt : k < l.length
    · obtain ⟨x, hxe⟩ : ∃ x, x = l[k] := ⟨_, rfl⟩
      have hxa := HARG.out x (by rw [hxe]; exact List.getElem_mem hlt)
      obtain ⟨g, off, Ax, cx, rfl, _, hg, hra, a0, a1, a2, a3, a4, a5, a6⟩ := vins_at (vinss_below HA.out HBW.out) k hlt x hxe
      obtain ⟨g', off', Bx, dx, rfl, _, hg', hrb, b0, b1, b2, b3, b4, b5, b6⟩ := vins_at (vinss_below HB.out HBW.out) k hlt x hxe
      have HRA := Lib.hid hra
      have HRB := Lib.hid hrb
      clear hra hrb hxe hc3
      go_wp2_with fail
      obtain ⟨w2, hw2⟩ : ∃ w2, w2 = (wr.alloc (.cells #[.int .i64 x.op, .int .i64 x.d, .int .i64 x.a, .int .i64 x.b, .int .i32 x.num, .string x.name, .slice Ax x.args.length cx] 61)).alloc (.cells #[.int .i64 x.op, .int .i64 x.d, .int .i64 x.a, .int .i64 x.b, .int .i32 x.num, .string x.name, .slice Bx x.args.length dx] 61) := ⟨_, rfl⟩
      have hb2 : Below wr.heap.size wr w2 := by rw [hw2]; exact ((Below.refl _ _).alloc (Nat.le_refl _) _).alloc (by simp) _
      have y6 : w2.cell? ⟨wr.heap.size + 1, 6, none⟩ = some (.slice Bx x.args.length dx) := by
        rw [hw2]
        have := heap_alloc_new (wr.alloc (.cells #[.int .i64 x.op, .int .i64 x.d, .int .i64 x.a, .int .i64 x.b, .int .i32 x.num, .string x.name, .slice Ax x.args.length cx] 61)) (.cells #[.int .i64 x.op, .int .i64 x.d, .int .i64 x.a, .int .i64 x.b, .int .i32 x.num, .string x.name, .slice Bx x.args.length dx] 61)
        simp only [World.size_alloc] at this
        exact cell_of_row _ _ _ _ _ _ this
      have x6 : w2.cell? ⟨wr.heap.size, 6, none⟩ = some (.slice Ax x.args.length cx) := by
        have h5 : w2.heap[wr.heap.size]? = some (.cells #[.int .i64 x.op, .int .i64 x.d, .int .i64 x.a, .int .i64 x.b, .int .i32 x.num, .string x.name, .slice Ax x.args.length cx] 61 (0, 0)) := by
          rw [hw2, Below.heap_alloc _ _ _ (by simp)]; exact heap_alloc_new wr _
        exact cell_of_row _ _ _ _ _ _ h5
      have hl2 : wr.heap.size + 1 < w2.heap.size := by rw [hw2]; simp
      rw [← hw2]
      have HB2 := Lib.hid hb2
      have HW2 : Hid (Below w1.heap.size w1 w2) := Lib.hid (HBK.out.trans (hb2.mono HBK.out.size))
      have HRA2 := Lib.hid (ints_below HRA.out hb2)
      have HRB2 := Lib.hid (ints_below HRB.out hb2)
      clear hw2 hb2 a0 a1 a2 a3 a4 a5 a6 b0 b1 b2 b3 b4 b5 b6 hd3
      obtain ⟨w3, hw3⟩ : ∃ w3 : World, w3 = wr := ⟨_, rfl⟩
      rw [← hw3] at HBK HBW hlt2 hg hg' HRA HRB y6 x6 hl2 HB2
      rw [← hw3]
      clear hw3 HRA HRB
      go_loopw [102] (fun i wz => ∃ (q : Nat), q ≤ x.args.length ∧ i = .int .i64 (q : Nat) ∧ Below w2.heap.size w2 wz) (fun i _ => x.args.length - (intOf i).toNat)
      case atStart => exact ⟨0, by omega, rfl, Below.refl _ _⟩
      case round =>
        obtain ⟨q, hq, rfl, hBz⟩ := hrel
        have HBZ := Lib.hid hBz
        have z6 := (hBz.cell (p := ⟨w3.heap.size, 6, none⟩) (Nat.lt_of_succ_lt hl2)).trans x6
        have v6 := (hBz.cell (p := ⟨w3.heap.size + 1, 6, none⟩) hl2).trans y6
        have hlz : w3.heap.size + 1 < wr.heap.size := Nat.lt_of_lt_of_le hl2 hBz.size
        clear hBz
        by_cases hqt : q < x.args.length
        · obtain ⟨ga, oa, rfl, _, hga, hxa⟩ := ints_below HRA2.out HBZ.out (by rw [ints_length]; omega)
          obtain ⟨gb, ob, rfl, _, hgb, hxb⟩ := ints_below HRB2.out HBZ.out (by rw [ints_length]; omega)
          have ea := hxa q _ (ints_at x.args q hqt)
          have eb := hxb q _ (ints_at x.args q hqt)
          have hqi : (q : Int) < (x.args.length : Int) := by omega
          have hqj : (0 : Int) ≤ (q : Int) := by omega
          generalize x.args.getD q 0 = z at ea eb
          clear hxa hxb x6 y6
          go_wp2_with fail
          go_quiet (fail)
          go_wp2_with fail
          go_roundw
          case rel => exact ⟨q + 1, by omega, by go_num, HBZ.out.trans ((below_drewN (Below.refl _ _) nq).mono HBZ.out.size)⟩
          case measure => simp [intOf]; omega
        · obtain rfl : q = x.args.length := by omega
          clear x6 y6
          go_wp2_with fail
          go_roundw
          case rel => exact ⟨k + 1, by omega, by go_num, HW2.out.trans (HBZ.out.mono HW2.out.size)⟩
          case measure => simp [intOf]; omega
    · obtain rfl : k = l.length := by omega
      go_wp2_with fail
      go_ret
      exact ⟨rfl, HBW.out⟩
end Go.Proofs.Ytnfneinonkpmeaa
