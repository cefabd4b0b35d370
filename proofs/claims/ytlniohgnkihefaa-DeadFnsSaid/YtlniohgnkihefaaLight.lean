/- Light, Small: the size of a program of blocks. -/
import Derived.Test.YtlniohgnkihefaaReads
import Derived.Test.YtlniohgnkihefaaMay0
namespace Go.Proofs.Ytlniohgnkihefaa
open Go.RowKit
variable {T : Nat → Prop}

theorem box_new (w : World) (cs : Array Value) (e : Nat) : ∃ w1, w1 = w.alloc (.cells cs e) ∧ Below w.heap.size w w1 ∧ w.heap.size < w1.heap.size ∧ ∀ j, w1.cell? ⟨w.heap.size, j, none⟩ = cs[j]? :=
  ⟨_, rfl, (Below.refl _ _).alloc (Nat.le_refl _) _, by simp, fun j => cell_of_row _ _ _ _ _ _ (heap_alloc_new w _)⟩

structure LightFn (f : Fn) : Prop where
  nb : f.blocks.length ≤ 80
  ni : ∀ b ∈ f.blocks, b.ins.length ≤ 100
structure LightV (m : Mid) : Prop where
  nf : m.fns.length ≤ 8
  fns : ∀ f ∈ m.fns, LightFn f

set_option maxRecDepth 100000 in
set_option maxHeartbeats 8000000 in
theorem Light_any (m : Mid) (A B : Option Addr) (c d : Nat) (w : World) (h : RdMid w T m A c B d) :
    Calls Try.prog 33 #[.agg #[.slice A m.globals.length c, .slice B m.fns.length d]] w (Told w (LightV m)) := by
  have hlf : m.fns.length ≤ 9223372036854775807 := by have := h.nfns; unfold maxLen at this; omega
  have hlg : m.globals.length ≤ 9223372036854775807 := by have := h.nglobals; unfold maxLen at this; omega
  obtain ⟨w1, hw1, hb1, hlt1, hc⟩ := box_new w #[.slice A m.globals.length c, .slice B m.fns.length d] 25
  have hc0 := hc 0
  have hc1 := hc 1
  simp only [List.getElem?_toArray, List.getElem?_cons_succ, List.getElem?_cons_zero] at hc0 hc1
  have HM := Lib.hid (mid_below h hb1)
  have HB1 := Lib.hid hb1
  have HW1 := Lib.hid hw1
  have hw1' : w.alloc (Obj.cells #[.slice A m.globals.length c, .slice B m.fns.length d] 25) = w1 := hw1.symm
  clear h hb1 hc hw1
  go_enter Try.func33, Try.ntmps33
  by_cases h8 : 8 < m.fns.length
  · clear hw1'
    go_wp2_with fail
    go_ret
    rw [← HW1.out]
    exact ⟨false, rfl, HB1.out, fun h => by cases h⟩
  by_cases h70 : 70 < m.globals.length
  · clear hw1'
    go_wp2_with fail
    go_ret
    rw [← HW1.out]
    exact ⟨false, rfl, HB1.out, fun h => by cases h⟩
  have HW := Lib.hid hw1'
  clear hw1'
  go_wp2_with fail
  rw [HW.out]
  go_loopw [25] (fun i wr => ∃ k : Nat, k ≤ m.globals.length ∧ i = .int .i64 (k : Nat) ∧ Below w1.heap.size w1 wr) (fun i _ => m.globals.length - (intOf i).toNat)
  case atStart => exact ⟨0, by omega, rfl, Below.refl _ _⟩
  case round =>
    obtain ⟨k, hk, rfl, hB⟩ := hrel
    have HB := Lib.hid hB
    have hd0 := (hB.cell (p := ⟨w.heap.size, 0, none⟩) hlt1).trans hc0
    have hd1 := (hB.cell (p := ⟨w.heap.size, 1, none⟩) hlt1).trans hc1
    have HBW : Hid (Below w.heap.size w wr) := Lib.hid (HB1.out.trans (hB.mono HB1.out.size))
    clear hB
    by_cases hlt : k < m.globals.length
    · obtain ⟨x, hxe⟩ : ∃ x, x = m.globals[k] := ⟨_, rfl⟩
      obtain ⟨g, off, rfl, hg, ⟨hs, _⟩, g0, g1⟩ := glob_at (globs_below HM.out.globals HB.out) k hlt x hxe
      have hs' : x.name.size ≤ 9223372036854775807 := by unfold maxLen at hs; omega
      clear hs hxe
      by_cases h100 : 100 < x.name.size
      · go_wp2_with fail
        go_ret
        exact ⟨false, rfl, HBW.out.alloc HBW.out.size _, fun h => by cases h⟩
      · go_wp2_with fail
        go_roundw
        case rel => exact ⟨k + 1, by omega, by go_num, HB.out.alloc HB.out.size _⟩
        case measure => simp [intOf]; omega
    · obtain rfl : k = m.globals.length := by omega
      clear hc0 hc1
      go_wp2_with fail
      obtain ⟨w2, hw2e⟩ : ∃ w2 : World, w2 = wr := ⟨_, rfl⟩
      rw [← hw2e] at hd0 hd1 HB HBW
      rw [← hw2e]
      clear hw2e
      have hlt2 : w.heap.size < w2.heap.size := Nat.lt_of_lt_of_le hlt1 HB.out.size
      have HM2 := Lib.hid (mid_below HM.out HB.out)
      go_loopw [5, 37] (fun a i wr => ∃ (k : Nat) (z : Int), k ≤ m.fns.length ∧ i = .int .i64 (k : Nat) ∧ a = .int .i64 z ∧ 0 ≤ z ∧ z ≤ 400 ∧ Below w2.heap.size w2 wr ∧ ∀ j (hl : j < m.fns.length), j < k → LightFn m.fns[j]) (fun _ i _ => m.fns.length - (intOf i).toNat)
      case atStart => exact ⟨0, 0, by omega, rfl, rfl, by omega, by omega, Below.refl _ _, fun j hl hj => by omega⟩
      case round =>
        obtain ⟨k, z, hk, rfl, rfl, hz0, hz4, hB, hn⟩ := hrel
        have HB2 := Lib.hid hB
        have HK := Lib.hid hn
        have HBW2 : Hid (Below w.heap.size w wr) := Lib.hid (HBW.out.trans (hB.mono HBW.out.size))
        clear hB hn
        by_cases hlt : k < m.fns.length
        · obtain ⟨f, hfe⟩ : ∃ f, f = m.fns[k] := ⟨_, rfl⟩
          obtain ⟨g, off, A1, c1, rfl, hg, hok, hsub, g0, g1, g2, g3⟩ := fn_at (fns_below HM2.out.fns HB2.out) k hlt f hfe
          have hs' : f.name.size ≤ 9223372036854775807 := by have := hok.name; unfold maxLen at this; omega
          have hbl : f.blocks.length ≤ 9223372036854775807 := by have := hok.nblocks; unfold maxLen at this; omega
          have HFE := Lib.hid hfe
          have HSUB := Lib.hid hsub
          clear hok hsub hfe
          by_cases h100 : 100 < f.name.size
          · go_wp2_with fail
            go_ret
            exact ⟨false, rfl, HBW2.out.alloc HBW2.out.size _, fun h => by cases h⟩
          by_cases h80 : 80 < f.blocks.length
          · go_wp2_with fail
            go_ret
            exact ⟨false, rfl, HBW2.out.alloc HBW2.out.size _, fun h => by cases h⟩
          go_wp2_with fail
          obtain ⟨w3, hw3, hb3, hlt3, hc⟩ := box_new wr #[.string f.name, .int .i64 f.params, .int .i64 f.regs, .slice A1 f.blocks.length c1] 31
          rw [← hw3]
          have HB3 : Hid (Below w2.heap.size w2 w3) := Lib.hid (HB2.out.trans (hb3.mono HB2.out.size))
          have HBW3 : Hid (Below w.heap.size w w3) := Lib.hid (HBW2.out.trans (hb3.mono HBW2.out.size))
          have HSUB3 := Lib.hid (blks_below HSUB.out hb3)
          clear hb3 hc hw3
          go_loopw [5, 54] (fun a i wr => ∃ (k : Nat) (z : Int), k ≤ f.blocks.length ∧ i = .int .i64 (k : Nat) ∧ a = .int .i64 z ∧ 0 ≤ z ∧ z ≤ 400 ∧ Below w3.heap.size w3 wr ∧ ∀ j (hl : j < f.blocks.length), j < k → f.blocks[j].ins.length ≤ 100) (fun _ i _ => f.blocks.length - (intOf i).toNat)
          case atStart => exact ⟨0, z, by omega, rfl, rfl, hz0, hz4, Below.refl _ _, fun j hl hj => by omega⟩
          case round =>
            obtain ⟨k3, z3, hk3, rfl, rfl, hz30, hz34, hB, hn⟩ := hrel
            have HB4 := Lib.hid hB
            have HK3 := Lib.hid hn
            have HBW4 : Hid (Below w.heap.size w wr) := Lib.hid (HBW3.out.trans (hB.mono HBW3.out.size))
            have HB4' : Hid (Below w2.heap.size w2 wr) := Lib.hid (HB3.out.trans (hB.mono HB3.out.size))
            clear hB hn
            by_cases hlt3 : k3 < f.blocks.length
            · obtain ⟨b, hbe⟩ : ∃ b, b = f.blocks[k3] := ⟨_, rfl⟩
              obtain ⟨gb, offb, A2, c2, rfl, hgb, hok, hsub, b0, b1, b2, b3, b4⟩ := blk_at (blks_below HSUB3.out HB4.out) k3 hlt3 b hbe
              have hil : b.ins.length ≤ 9223372036854775807 := by have := hok.nins; unfold maxLen at this; omega
              have HBE := Lib.hid hbe
              have HSUB4 := Lib.hid hsub
              clear hok hsub hbe
              by_cases i100 : 100 < b.ins.length
              · go_wp2_with fail
                go_ret
                exact ⟨false, rfl, HBW4.out.alloc HBW4.out.size _, fun h => by cases h⟩
              by_cases i400 : 400 < z3 + b.ins.length
              · go_wp2_with fail
                go_ret
                exact ⟨false, rfl, HBW4.out.alloc HBW4.out.size _, fun h => by cases h⟩
              go_wp2_with fail
              obtain ⟨w5, hw5, hb5, hlt5, hc⟩ := box_new wr #[.slice A2 b.ins.length c2, .int .i64 b.kind, .int .i64 b.a, .int .i64 b.to, .int .i64 b.els] 45
              rw [← hw5]
              have HB5 : Hid (Below w3.heap.size w3 w5) := Lib.hid (HB4.out.trans (hb5.mono HB4.out.size))
              have HBW5 : Hid (Below w.heap.size w w5) := Lib.hid (HBW4.out.trans (hb5.mono HBW4.out.size))
              have HSUB5 := Lib.hid (inss_below HSUB4.out hb5)
              clear hb5 hc hw5
              go_loopw [74] (fun i wr => ∃ (k : Nat), k ≤ b.ins.length ∧ i = .int .i64 (k : Nat) ∧ Below w5.heap.size w5 wr) (fun i _ => b.ins.length - (intOf i).toNat)
              case atStart => exact ⟨0, by omega, rfl, Below.refl _ _⟩
              case round =>
                obtain ⟨k4, hk4, rfl, hB⟩ := hrel
                have HB6 := Lib.hid hB
                have HBW6 : Hid (Below w.heap.size w wr) := Lib.hid (HBW5.out.trans (hB.mono HBW5.out.size))
                have HB6' : Hid (Below w3.heap.size w3 wr) := Lib.hid (HB5.out.trans (hB.mono HB5.out.size))
                clear hB
                by_cases hlt4 : k4 < b.ins.length
                · obtain ⟨x, hxe⟩ : ∃ x, x = b.ins[k4] := ⟨_, rfl⟩
                  obtain ⟨gi, offi, A3, c3, rfl, hgi, hok, _, i0, i1, i2, i3, i4, i5, i6, i7⟩ := ins_at (inss_below HSUB5.out HB6.out) k4 hlt4 x hxe
                  have hs' : x.name.size ≤ 9223372036854775807 := by have := hok.name; unfold maxLen at this; omega
                  have hal : x.args.length ≤ 9223372036854775807 := by have := hok.nargs; unfold maxLen at this; omega
                  clear hok hxe
                  by_cases n100 : 100 < x.name.size
                  · go_wp2_with fail
                    go_ret
                    exact ⟨false, rfl, HBW6.out.alloc HBW6.out.size _, fun h => by cases h⟩
                  by_cases n20 : 20 < x.args.length
                  · go_wp2_with fail
                    go_ret
                    exact ⟨false, rfl, HBW6.out.alloc HBW6.out.size _, fun h => by cases h⟩
                  go_wp2_with fail
                  go_roundw
                  case rel => exact ⟨k4 + 1, by omega, by go_num, HB6.out.alloc HB6.out.size _⟩
                  case measure => simp [intOf]; omega
                · obtain rfl : k4 = b.ins.length := by omega
                  go_wp2_with fail
                  go_roundw
                  case rel => exact ⟨k3 + 1, _, by omega, by go_num, rfl, by omega, by omega, HB6'.out, upto_succ (P := fun b : Blk => b.ins.length ≤ 100) HK3.out hlt3 HBE.out (by show b.ins.length ≤ 100; omega)⟩
                  case measure => simp [intOf]; omega
            · obtain rfl : k3 = f.blocks.length := by omega
              go_wp2_with fail
              go_roundw
              case rel => exact ⟨k + 1, _, by omega, by go_num, rfl, hz30, hz34, HB4'.out, upto_succ HK.out hlt HFE.out ⟨by omega, fold_names fun j hl => HK3.out j hl hl⟩⟩
              case measure => simp [intOf]; omega
        · obtain rfl : k = m.fns.length := by omega
          go_wp2_with fail
          go_ret
          exact ⟨true, rfl, HBW2.out, fun _ => ⟨by omega, fold_names fun j hl => HK.out j hl hl⟩⟩
end Go.Proofs.Ytlniohgnkihefaa
