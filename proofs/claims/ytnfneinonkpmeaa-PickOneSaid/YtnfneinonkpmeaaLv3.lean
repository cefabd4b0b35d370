/- What is read of a program of blocks, at a place. -/
import Derived.Test.YtnfneinonkpmeaaLv2
import Derived.OwnWalk
import Derived.Deep.RegionHeld
import Derived.Test.YtnfneinonkpmeaaLv1
namespace Go.Proofs.Ytnfneinonkpmeaa
open Go.RowKit
variable {T : Nat → Prop} {w w' : World}

theorem old_ne {w : World} : ∀ k, T k → k < w.heap.size → ¬ (w.heap.size ≤ k) := fun _ _ h h' => Nat.lt_irrefl _ (Nat.lt_of_lt_of_le h h')
theorem fns_below {B : Option Addr} {fs : List Fn} (h : RdSl 4 (RdFn w T) w T B fs) (hb : Below w.heap.size w w') : RdSl 4 (RdFn w' T) w' T B fs := h.kept (chg_of_below hb) old_ne fun _ _ h => h.kept (chg_of_below hb) old_ne
theorem blks_below {B : Option Addr} {fs : List Blk} (h : RdSl 5 (RdBlk w T) w T B fs) (hb : Below w.heap.size w w') : RdSl 5 (RdBlk w' T) w' T B fs := h.kept (chg_of_below hb) old_ne fun _ _ h => h.kept (chg_of_below hb) old_ne
theorem inss_below {B : Option Addr} {fs : List Ins} (h : RdSl 8 (RdIns w T) w T B fs) (hb : Below w.heap.size w w') : RdSl 8 (RdIns w' T) w' T B fs := h.kept (chg_of_below hb) old_ne fun _ _ h => h.kept (chg_of_below hb) old_ne
theorem globs_below {B : Option Addr} {fs : List Glob} (h : RdSl 2 RdGlob w T B fs) (hb : Below w.heap.size w w') : RdSl 2 RdGlob w' T B fs := h.kept (chg_of_below hb) old_ne fun _ _ h => h
theorem ints_below {B : Option Addr} {xs : List Value} (h : RdT w T B xs) (hb : Below w.heap.size w w') : RdT w' T B xs := h.kept (chg_of_below hb) old_ne
theorem mid_below {m : Mid} {A B : Option Addr} {c d : Nat} (h : RdMid w T m A c B d) (hb : Below w.heap.size w w') : RdMid w' T m A c B d := h.kept (chg_of_below hb) old_ne

theorem fn_at {B : Option Addr} {fs : List Fn} (h : RdSl 4 (RdFn w T) w T B fs) (k : Nat) (hk : k < fs.length) (f : Fn) (hf : f = fs[k]) :
    ∃ g off A c, B = some ⟨g, off, none⟩ ∧ g < w.heap.size ∧ FnOk f ∧ RdSl 5 (RdBlk w T) w T A f.blocks ∧ w.cell? ⟨g, off + k * 4, none⟩ = some (.string f.name) ∧ w.cell? ⟨g, off + k * 4 + 1, none⟩ = some (.int .i64 f.params)
      ∧ w.cell? ⟨g, off + k * 4 + 2, none⟩ = some (.int .i64 f.regs) ∧ w.cell? ⟨g, off + k * 4 + 3, none⟩ = some (.slice A f.blocks.length c) := by
  subst hf
  obtain ⟨g, off, rfl, ht, hg, hcl⟩ := h (by omega)
  obtain ⟨cs, hcs, ⟨hok, A1, c1, rfl, hsub⟩, hat⟩ := hcl k _ (List.getElem?_eq_getElem hk)
  exact ⟨g, off, A1, c1, rfl, hg, hok, hsub, hat 0 _ rfl, hat 1 _ rfl, hat 2 _ rfl, hat 3 _ rfl⟩
theorem blk_at {B : Option Addr} {fs : List Blk} (h : RdSl 5 (RdBlk w T) w T B fs) (k : Nat) (hk : k < fs.length) (f : Blk) (hf : f = fs[k]) :
    ∃ g off A c, B = some ⟨g, off, none⟩ ∧ g < w.heap.size ∧ BlkOk f ∧ RdSl 8 (RdIns w T) w T A f.ins ∧ w.cell? ⟨g, off + k * 5, none⟩ = some (.slice A f.ins.length c) ∧ w.cell? ⟨g, off + k * 5 + 1, none⟩ = some (.int .i64 f.kind)
      ∧ w.cell? ⟨g, off + k * 5 + 2, none⟩ = some (.int .i64 f.a) ∧ w.cell? ⟨g, off + k * 5 + 3, none⟩ = some (.int .i64 f.to) ∧ w.cell? ⟨g, off + k * 5 + 4, none⟩ = some (.int .i64 f.els) := by
  subst hf
  obtain ⟨g, off, rfl, ht, hg, hcl⟩ := h (by omega)
  obtain ⟨cs, hcs, ⟨hok, A1, c1, rfl, hsub⟩, hat⟩ := hcl k _ (List.getElem?_eq_getElem hk)
  exact ⟨g, off, A1, c1, rfl, hg, hok, hsub, hat 0 _ rfl, hat 1 _ rfl, hat 2 _ rfl, hat 3 _ rfl, hat 4 _ rfl⟩
theorem ins_at {B : Option Addr} {fs : List Ins} (h : RdSl 8 (RdIns w T) w T B fs) (k : Nat) (hk : k < fs.length) (f : Ins) (hf : f = fs[k]) :
    ∃ g off A c, B = some ⟨g, off, none⟩ ∧ g < w.heap.size ∧ InsOk f ∧ RdT w T A (ints f.args) ∧ w.cell? ⟨g, off + k * 8, none⟩ = some (.int .i64 f.kind) ∧ w.cell? ⟨g, off + k * 8 + 1, none⟩ = some (.int .i64 f.op)
      ∧ w.cell? ⟨g, off + k * 8 + 2, none⟩ = some (.int .i64 f.d) ∧ w.cell? ⟨g, off + k * 8 + 3, none⟩ = some (.int .i64 f.a) ∧ w.cell? ⟨g, off + k * 8 + 4, none⟩ = some (.int .i64 f.b) ∧ w.cell? ⟨g, off + k * 8 + 5, none⟩ = some (.int .i32 f.num)
      ∧ w.cell? ⟨g, off + k * 8 + 6, none⟩ = some (.string f.name) ∧ w.cell? ⟨g, off + k * 8 + 7, none⟩ = some (.slice A f.args.length c) := by
  subst hf
  obtain ⟨g, off, rfl, ht, hg, hcl⟩ := h (by omega)
  obtain ⟨cs, hcs, ⟨hok, A1, c1, rfl, hsub⟩, hat⟩ := hcl k _ (List.getElem?_eq_getElem hk)
  exact ⟨g, off, A1, c1, rfl, hg, hok, hsub, hat 0 _ rfl, hat 1 _ rfl, hat 2 _ rfl, hat 3 _ rfl, hat 4 _ rfl, hat 5 _ rfl, hat 6 _ rfl, hat 7 _ rfl⟩
theorem glob_at {B : Option Addr} {fs : List Glob} (h : RdSl 2 RdGlob w T B fs) (k : Nat) (hk : k < fs.length) (f : Glob) (hf : f = fs[k]) :
    ∃ g off, B = some ⟨g, off, none⟩ ∧ g < w.heap.size ∧ (f.name.size ≤ maxLen ∧ I64 f.size) ∧ w.cell? ⟨g, off + k * 2, none⟩ = some (.string f.name) ∧ w.cell? ⟨g, off + k * 2 + 1, none⟩ = some (.int .i64 f.size) := by
  subst hf
  obtain ⟨g, off, rfl, ht, hg, hcl⟩ := h (by omega)
  obtain ⟨cs, hcs, ⟨hok, rfl⟩, hat⟩ := hcl k _ (List.getElem?_eq_getElem hk)
  exact ⟨g, off, rfl, hg, hok, hat 0 _ rfl, hat 1 _ rfl⟩
theorem fold_names {α : Type} {P : α → Prop} {l : List α} (h : ∀ j (hl : j < l.length), P l[j]) : ∀ x ∈ l, P x := fun x hx => by
  obtain ⟨j, hj, rfl⟩ := List.getElem_of_mem hx
  exact h j hj
theorem upto_succ {α : Type} {P : α → Prop} {l : List α} {k : Nat} (h : ∀ j (hl : j < l.length), j < k → P l[j]) {x : α} (hk : k < l.length) (he : x = l[k]) (hp : P x) : ∀ j (hl : j < l.length), j < k + 1 → P l[j] := by
  intro j hl hj
  rcases Nat.lt_succ_iff_lt_or_eq.1 hj with h' | rfl
  · exact h j hl h'
  · rw [← he]; exact hp
end Go.Proofs.Ytnfneinonkpmeaa
namespace Go.Proofs.Ytnfneinonkpmeaa
open Go.RowKit
variable {T : Nat → Prop}

theorem box_new (w : World) (cs : Array Value) (e : Nat) : ∃ w1, w1 = w.alloc (.cells cs e) ∧ Below w.heap.size w w1 ∧ w.heap.size < w1.heap.size ∧ ∀ j, w1.cell? ⟨w.heap.size, j, none⟩ = cs[j]? :=
  ⟨_, rfl, (Below.refl _ _).alloc (Nat.le_refl _) _, by simp, fun j => cell_of_row _ _ _ _ _ _ (heap_alloc_new w _)⟩

structure LightFn (f : Fn) : Prop where
  nb : f.blocks.length ≤ 80
  ni : ∀ b ∈ f.blocks, b.ins.length ≤ 100
structure LightV (m : Mid) : Prop where
  nf : m.fns.length ≤ 8
  fns : ∀ f ∈ m.fns, LightFn f

set_option maxRecDepth 100000 in
set_option maxHeartbeats 8000000 in
theorem Light_any (m : Mid) (A B : Option Addr) (c d : Nat) (w : World) (h : RdMid w T m A c B d) :
    Calls Try.prog 32 #[.agg #[.slice A m.globals.length c, .slice B m.fns.length d]] w (Told w (LightV m)) := by
  have hlf : m.fns.length ≤ 9223372036854775807 := by have := h.nfns; unfold maxLen at this; omega
  have hlg : m.globals.length ≤ 9223372036854775807 := by have := h.nglobals; unfold maxLen at this; omega
  obtain ⟨w1, hw1, hb1, hlt1, hc⟩ := box_new w #[.slice A m.globals.length c, .slice B m.fns.length d] 25
  have hc0 := hc 0
  have hc1 := hc 1
  simp only [List.getElem?_toArray, List.getElem?_cons_succ, List.getElem?_cons_zero] at hc0 hc1
  have HM := Lib.hid (mid_below h hb1)
  have HB1 := Lib.hid hb1
  have HW1 := Lib.hid hw1
  have hw1' : w.alloc (Obj.cells #[.slice A m.globals.length c, .slice B m.fns.length d] 25) = w1 := hw1.symm
  clear h hb1 hc hw1
  go_enter Try.func32, Try.ntmps32
  by_cases h8 : 8 < m.fns.length
  · clear hw1'
    go_wp2_with fail
    go_ret
    rw [← HW1.out]
    exact ⟨false, rfl, HB1.out, fun h => by cases h⟩
  by_cases h70 : 70 < m.globals.length
  · clear hw1'
    go_wp2_with fail
    go_ret
    rw [← HW1.out]
    exact ⟨false, rfl, HB1.out, fun h => by cases h⟩
  have HW := Lib.hid hw1'
  clear hw1'
  go_wp2_with fail
  rw [HW.out]
  go_loopw [25] (fun i wr => ∃ k : Nat, k ≤ m.globals.length ∧ i = .int .i64 (k : Nat) ∧ Below w1.heap.size w1 wr) (fun i _ => m.globals.length - (intOf i).toNat)
  case atStart => exact ⟨0, by omega, rfl, Below.refl _ _⟩
  case round =>
    obtain ⟨k, hk, rfl, hB⟩ := hrel
    have HB := Lib.hid hB
    have hd0 := (hB.cell (p := ⟨w.heap.size, 0, none⟩) hlt1).trans hc0
    have hd1 := (hB.cell (p := ⟨w.heap.size, 1, none⟩) hlt1).trans hc1
    have HBW : Hid (Below w.heap.size w wr) := Lib.hid (HB1.out.trans (hB.mono HB1.out.size))
    clear hB
    by_cases hlt : k < m.globals.length
    · obtain ⟨x, hxe⟩ : ∃ x, x = m.globals[k] := ⟨_, rfl⟩
      obtain ⟨g, off, rfl, hg, ⟨hs, _⟩, g0, g1⟩ := glob_at (globs_below HM.out.globals HB.out) k hlt x hxe
      have hs' : x.name.size ≤ 9223372036854775807 := by unfold maxLen at hs; omega
      clear hs hxe
      by_cases h100 : 100 < x.name.size
      · go_wp2_with fail
        go_ret
        exact ⟨false, rfl, HBW.out.alloc HBW.out.size _, fun h => by cases h⟩
      · go_wp2_with fail
        go_roundw
        case rel => exact ⟨k + 1, by omega, by go_num, HB.out.alloc HB.out.size _⟩
        case measure => simp [intOf]; omega
    · obtain rfl : k = m.globals.length := by omega
      clear hc0 hc1
      go_wp2_with fail
      obtain ⟨w2, hw2e⟩ : ∃ w2 : World, w2 = wr := ⟨_, rfl⟩
      rw [← hw2e] at hd0 hd1 HB HBW
      rw [← hw2e]
      clear hw2e
      have hlt2 : w.heap.size < w2.heap.size := Nat.lt_of_lt_of_le hlt1 HB.out.size
      have HM2 := Lib.hid (mid_below HM.out HB.out)
      go_loopw [5, 37] (fun a i wr => ∃ (k : Nat) (z : Int), k ≤ m.fns.length ∧ i = .int .i64 (k : Nat) ∧ a = .int .i64 z ∧ 0 ≤ z ∧ z ≤ 400 ∧ Below w2.heap.size w2 wr ∧ ∀ j (hl : j < m.fns.length), j < k → LightFn m.fns[j]) (fun _ i _ => m.fns.length - (intOf i).toNat)
      case atStart => exact ⟨0, 0, by omega, rfl, rfl, by omega, by omega, Below.refl _ _, fun j hl hj => by omega⟩
      case round =>
        obtain ⟨k, z, hk, rfl, rfl, hz0, hz4, hB, hn⟩ := hrel
        have HB2 := Lib.hid hB
        have HK := Lib.hid hn
        have HBW2 : Hid (Below w.heap.size w wr) := Lib.hid (HBW.out.trans (hB.mono HBW.out.size))
        clear hB hn
        by_cases hlt : k < m.fns.length
        · obtain ⟨f, hfe⟩ : ∃ f, f = m.fns[k] := ⟨_, rfl⟩
          obtain ⟨g, off, A1, c1, rfl, hg, hok, hsub, g0, g1, g2, g3⟩ := fn_at (fns_below HM2.out.fns HB2.out) k hlt f hfe
          have hs' : f.name.size ≤ 9223372036854775807 := by have := hok.name; unfold maxLen at this; omega
          have hbl : f.blocks.length ≤ 9223372036854775807 := by have := hok.nblocks; unfold maxLen at this; omega
          have HFE := Lib.hid hfe
          have HSUB := Lib.hid hsub
          clear hok hsub hfe
          by_cases h100 : 100 < f.name.size
          · go_wp2_with fail
            go_ret
            exact ⟨false, rfl, HBW2.out.alloc HBW2.out.size _, fun h => by cases h⟩
          by_cases h80 : 80 < f.blocks.length
          · go_wp2_with fail
            go_ret
            exact ⟨false, rfl, HBW2.out.alloc HBW2.out.size _, fun h => by cases h⟩
          go_wp2_with fail
          obtain ⟨w3, hw3, hb3, hlt3, hc⟩ := box_new wr #[.string f.name, .int .i64 f.params, .int .i64 f.regs, .slice A1 f.blocks.length c1] 30
          rw [← hw3]
          have HB3 : Hid (Below w2.heap.size w2 w3) := Lib.hid (HB2.out.trans (hb3.mono HB2.out.size))
          have HBW3 : Hid (Below w.heap.size w w3) := Lib.hid (HBW2.out.trans (hb3.mono HBW2.out.size))
          have HSUB3 := Lib.hid (blks_below HSUB.out hb3)
          clear hb3 hc hw3
          go_loopw [5, 54] (fun a i wr => ∃ (k : Nat) (z : Int), k ≤ f.blocks.length ∧ i = .int .i64 (k : Nat) ∧ a = .int .i64 z ∧ 0 ≤ z ∧ z ≤ 400 ∧ Below w3.heap.size w3 wr ∧ ∀ j (hl : j < f.blocks.length), j < k → f.blocks[j].ins.length ≤ 100) (fun _ i _ => f.blocks.length - (intOf i).toNat)
          case atStart => exact ⟨0, z, by omega, rfl, rfl, hz0, hz4, Below.refl _ _, fun j hl hj => by omega⟩
          case round =>
            obtain ⟨k3, z3, hk3, rfl, rfl, hz30, hz34, hB, hn⟩ := hrel
            have HB4 := Lib.hid hB
            have HK3 := Lib.hid hn
            have HBW4 : Hid (Below w.heap.size w wr) := Lib.hid (HBW3.out.trans (hB.mono HBW3.out.size))
            have HB4' : Hid (Below w2.heap.size w2 wr) := Lib.hid (HB3.out.trans (hB.mono HB3.out.size))
            clear hB hn
            by_cases hlt3 : k3 < f.blocks.length
            · obtain ⟨b, hbe⟩ : ∃ b, b = f.blocks[k3] := ⟨_, rfl⟩
              obtain ⟨gb, offb, A2, c2, rfl, hgb, hok, hsub, b0, b1, b2, b3, b4⟩ := blk_at (blks_below HSUB3.out HB4.out) k3 hlt3 b hbe
              have hil : b.ins.length ≤ 9223372036854775807 := by have := hok.nins; unfold maxLen at this; omega
              have HBE := Lib.hid hbe
              have HSUB4 := Lib.hid hsub
              clear hok hsub hbe
              by_cases i100 : 100 < b.ins.length
              · go_wp2_with fail
                go_ret
                exact ⟨false, rfl, HBW4.out.alloc HBW4.out.size _, fun h => by cases h⟩
              by_cases i400 : 400 < z3 + b.ins.length
              · go_wp2_with fail
                go_ret
                exact ⟨false, rfl, HBW4.out.alloc HBW4.out.size _, fun h => by cases h⟩
              go_wp2_with fail
              obtain ⟨w5, hw5, hb5, hlt5, hc⟩ := box_new wr #[.slice A2 b.ins.length c2, .int .i64 b.kind, .int .i64 b.a, .int .i64 b.to, .int .i64 b.els] 58
              rw [← hw5]
              have HB5 : Hid (Below w3.heap.size w3 w5) := Lib.hid (HB4.out.trans (hb5.mono HB4.out.size))
              have HBW5 : Hid (Below w.heap.size w w5) := Lib.hid (HBW4.out.trans (hb5.mono HBW4.out.size))
              have HSUB5 := Lib.hid (inss_below HSUB4.out hb5)
              clear hb5 hc hw5
              go_loopw [74] (fun i wr => ∃ (k : Nat), k ≤ b.ins.length ∧ i = .int .i64 (k : Nat) ∧ Below w5.heap.size w5 wr) (fun i _ => b.ins.length - (intOf i).toNat)
              case atStart => exact ⟨0, by omega, rfl, Below.refl _ _⟩
              case round =>
                obtain ⟨k4, hk4, rfl, hB⟩ := hrel
                have HB6 := Lib.hid hB
                have HBW6 : Hid (Below w.heap.size w wr) := Lib.hid (HBW5.out.trans (hB.mono HBW5.out.size))
                have HB6' : Hid (Below w3.heap.size w3 wr) := Lib.hid (HB5.out.trans (hB.mono HB5.out.size))
                clear hB
                by_cases hlt4 : k4 < b.ins.length
                · obtain ⟨x, hxe⟩ : ∃ x, x = b.ins[k4] := ⟨_, rfl⟩
                  obtain ⟨gi, offi, A3, c3, rfl, hgi, hok, _, i0, i1, i2, i3, i4, i5, i6, i7⟩ := ins_at (inss_below HSUB5.out HB6.out) k4 hlt4 x hxe
                  have hs' : x.name.size ≤ 9223372036854775807 := by have := hok.name; unfold maxLen at this; omega
                  have hal : x.args.length ≤ 9223372036854775807 := by have := hok.nargs; unfold maxLen at this; omega
                  clear hok hxe
                  by_cases n100 : 100 < x.name.size
                  · go_wp2_with fail
                    go_ret
                    exact ⟨false, rfl, HBW6.out.alloc HBW6.out.size _, fun h => by cases h⟩
                  by_cases n20 : 20 < x.args.length
                  · go_wp2_with fail
                    go_ret
                    exact ⟨false, rfl, HBW6.out.alloc HBW6.out.size _, fun h => by cases h⟩
                  go_wp2_with fail
                  go_roundw
                  case rel => exact ⟨k4 + 1, by omega, by go_num, HB6.out.alloc HB6.out.size _⟩
                  case measure => simp [intOf]; omega
                · obtain rfl : k4 = b.ins.length := by omega
                  go_wp2_with fail
                  go_roundw
                  case rel => exact ⟨k3 + 1, _, by omega, by go_num, rfl, by omega, by omega, HB6'.out, upto_succ (P := fun b : Blk => b.ins.length ≤ 100) HK3.out hlt3 HBE.out (by show b.ins.length ≤ 100; omega)⟩
                  case measure => simp [intOf]; omega
            · obtain rfl : k3 = f.blocks.length := by omega
              go_wp2_with fail
              go_roundw
              case rel => exact ⟨k + 1, _, by omega, by go_num, rfl, hz30, hz34, HB4'.out, upto_succ HK.out hlt HFE.out ⟨by omega, fold_names fun j hl => HK3.out j hl hl⟩⟩
              case measure => simp [intOf]; omega
        · obtain rfl : k = m.fns.length := by omega
          go_wp2_with fail
          go_ret
          exact ⟨true, rfl, HBW2.out, fun _ => ⟨by omega, fold_names fun j hl => HK.out j hl hl⟩⟩
end Go.Proofs.Ytnfneinonkpmeaa
namespace Go.Proofs.Ytnfneinonkpmeaa
open Go.RowKit
/-- append onto a row, m elements more: behind 'at_builtin'. -/
theorem wpList_append_row {P : Program} (w : World) {ops : Array Oper} {rest : List Oper} {o : Oper} {a : Act} {Q : Exit → Act → World → Prop} (hgd : o.guard = none) (s x : Operand) (t e : Nat) (z : Value) (size bytes : Nat)
    (ho : o.op = .call { callee := .builtin .append, args := #[s, x], argTypes := #[t, t] })
    (ht : P.underlying t = some (.slice e)) (hinfo : (P.info? e).map (fun i => (i.zero, i.size, i.bytes)) = some (some z, size, bytes)) (hz : z.cells.size = size)
    {v : Value} {r : Option Nat} {n : Nat} {xs : List Value} (HO : RowAt w e size v r n xs) (ad : Addr) (m c : Nat) (news : List Value) (hln : news.length = m * size) (hnews : ∀ j u, news[j]? = some u → w.cell? (ad.add j) = some u)
    (h1 : ∀ u ∈ news, u.oneCell' = true) (hs : a.eval s = v) (hx : a.eval x = .slice (some ad) m c)
    (hl : (n + m) * bytes ≤ 140737488355328) (hn : n + m ≤ maxLen) (hm : 0 < m)
    (h : ∀ v' r' w', RowAt w' e size v' r' (n + m) (xs ++ news) → Chg (fun k => some k = r) w w' → NewOr w r r' → wpList P ops Q rest (a.put o.dst v') w') :
    wpList P ops Q (o :: rest) a w := by
  obtain ⟨i0, hi, hz0, hz1, hz2⟩ := info_parts hinfo
  obtain ⟨v', r', w', hrun, hR, hC, hN⟩ := run_append_row (P := P) w t o.type e i0 z size bytes ht hi hz0 hz1 hz2 hz v r n xs HO ad m c news hln hnews h1 hn hl hm
  refine wpList_plain hgd fun K hK' => ?_
  unfold Oper.wp execOp
  simp only [ho, resolve, invoke, builtin, Sem.run_bind, Sem.run_pure, Result.andThen_ok, List.map_toArray, List.map_cons, List.map_nil, hs, hx, hrun]
  exact hK' _ _ (h v' r' w' hR hC hN)

theorem row_not {w : World} {e size n b : Nat} {v : Value} {r : Option Nat} {xs : List Value} {c : Array Value} {t : Nat} {f : Nat × Nat} (h : RowAt w e size v r n xs) (hb : w.heap[b]? = some (.cells c t f)) (hne : t ≠ e) : r ≠ some b := by
  intro hr
  rcases h.2 with ⟨_, h0, _⟩ | ⟨g, off, cap, cur, hv, h0, hg, _⟩
  · rw [h0] at hr; cases hr
  · rw [h0] at hr; cases hr
    rw [hg] at hb
    injection hb with hb
    injection hb with _ ht _
    exact hne ht.symm
theorem row_not_map {w : World} {e size n b : Nat} {v : Value} {r : Option Nat} {xs : List Value} {P : Program} {kt et k : Nat} {f : Lit → Option Lit} (h : RowAt w e size v r n xs) (hb : MapAt P kt et w b k f) : r ≠ some b := by
  intro hr
  obtain ⟨es, clock, hm⟩ := hb.obj
  rcases h.2 with ⟨_, h0, _⟩ | ⟨g, off, cap, cur, hv, h0, hg, _⟩
  · rw [h0] at hr; cases hr
  · rw [h0] at hr; cases hr
    rw [hg] at hm; cases hm
end Go.Proofs.Ytnfneinonkpmeaa
namespace Go.Proofs.Ytnfneinonkpmeaa
open Go.RowKit
theorem step_append_row {P : Program} (w : World) {ops : Array Oper} {o : Oper} {a : Act} {K : Act → World → Prop} {Q : Exit → Act → World → Prop} {E : Prop} (hgd : o.guard = none) (s x : Operand) (t e : Nat) (z : Value) (size bytes : Nat)
    (ho : o.op = .call { callee := .builtin .append, args := #[s, x], argTypes := #[t, t] })
    (ht : P.underlying t = some (.slice e)) (hinfo : (P.info? e).map (fun i => (i.zero, i.size, i.bytes)) = some (some z, size, bytes)) (hz : z.cells.size = size)
    {v : Value} {r : Option Nat} {n : Nat} {xs : List Value} (HO : RowAt w e size v r n xs) (ad : Addr) (m c : Nat) (news : List Value) (hln : news.length = m * size) (hnews : ∀ j u, news[j]? = some u → w.cell? (ad.add j) = some u)
    (h1 : ∀ u ∈ news, u.oneCell' = true) (hs : a.eval s = v) (hx : a.eval x = .slice (some ad) m c)
    (hl : (n + m) * bytes ≤ 140737488355328) (hn : n + m ≤ maxLen) (hm : 0 < m)
    (h : ∀ v' r' w', RowAt w' e size v' r' (n + m) (xs ++ news) → Chg (fun k => some k = r) w w' → NewOr w r r' → K (a.put o.dst v') w') :
    if Region.wanted o (yielded ops a.tmps) = true then Oper.wp P o a w K Q else E := by
  have hw : Region.wanted o (yielded ops a.tmps) = true := by simp [Region.wanted, hgd]
  rw [if_pos hw]
  obtain ⟨i0, hi, hz0, hz1, hz2⟩ := info_parts hinfo
  obtain ⟨v', r', w', hrun, hR, hC, hN⟩ := run_append_row (P := P) w t o.type e i0 z size bytes ht hi hz0 hz1 hz2 hz v r n xs HO ad m c news hln hnews h1 hn hl hm
  unfold Oper.wp execOp
  simp only [ho, resolve, invoke, builtin, Sem.run_bind, Sem.run_pure, Result.andThen_ok, List.map_toArray, List.map_cons, List.map_nil, hs, hx, hrun]
  exact h v' r' w' hR hC hN
end Go.Proofs.Ytnfneinonkpmeaa
namespace Go.Proofs.Ytnfneinonkpmeaa
open Go.RowKit
theorem step_make_row {P : Program} (w : World) {ops : Array Oper} {o : Oper} {a : Act} {K : Act → World → Prop} {Q : Exit → Act → World → Prop} {E : Prop}
    (hg : o.guard = none) (l c : Operand) (t : TypeId) (hop : o.op = Op.makeSlice t l c)
    (base : Nat) (e : TypeId) (z : Value) (size bytes : Nat) (h1 : P.underlying t = some (.slice e)) (hinfo : (P.info? e).map (fun i => (i.zero, i.size, i.bytes)) = some (some z, size, bytes))
    (kl kc : IntKind) (L C : Int) (n : Nat) (hl : a.eval l = .int kl L) (hc : a.eval c = .int kc C) (hL : L = (n : Int)) (hC : C = (n : Int)) (b2 : bytes * n ≤ 281474976710656) (b3 : n ≤ maxLen) (b4 : base ≤ w.heap.size)
    (hK : ∀ w', w'.ownsRow base e size (.slice (some ⟨w.heap.size, 0, none⟩) n n) n (madeCells z.cells (n * size)).toList → w.grownBy w' none → K (a.put o.dst (.slice (some ⟨w.heap.size, 0, none⟩) n n)) w') :
    if Region.wanted o (yielded ops a.tmps) = true then Oper.wp P o a w K Q else E := by
  have hw : Region.wanted o (yielded ops a.tmps) = true := by simp [Region.wanted, hg]
  rw [if_pos hw]
  obtain ⟨i0, hi, hz0, hz1, hz2⟩ := info_parts hinfo
  obtain ⟨w', hrun, r1, r2⟩ := run_make_full (P := P) w base t e i0 z size h1 hi hz0 hz1 kl kc n (by rw [hz2]; exact b2) b3 b4
  subst hL
  subst hC
  unfold Oper.wp
  simp [execOp, hop, hl, hc, hrun, Result.andThen]
  exact hK w' r1 r2
end Go.Proofs.Ytnfneinonkpmeaa
namespace Go.Proofs.Ytnfneinonkpmeaa

def rnd (n : Int) : Int := if 2147483648 ≤ n % 4294967296 then n % 4294967296 - 4294967296 else n % 4294967296
def bitsZ (n : Int) : Int := if n < 0 then n + 4294967296 else n
def truth (b : Bool) : Int := if b then 1 else 0
def pw : Nat → Int
  | 0 => 1
  | n + 1 => pw n * 2
def andS (x y : Int) : Nat → Int
  | 0 => 0
  | n + 1 => andS x y n + bitsZ x / pw n % 2 * (bitsZ y / pw n % 2) * pw n
def orS (x y : Int) : Nat → Int
  | 0 => 0
  | n + 1 => orS x y n + (bitsZ x / pw n % 2 + bitsZ y / pw n % 2 - bitsZ x / pw n % 2 * (bitsZ y / pw n % 2)) * pw n
def shN (y : Int) : Nat := (bitsZ y % 32).toNat
/-- An operator of two: its value; 'none': it has none. -/
def binO (op x y : Int) : Option Int :=
  if op = 1 then some (rnd (x + y)) else if op = 2 then some (rnd (x - y)) else if op = 3 then some (rnd (x * y))
  else if op = 4 then (if y = 0 then none else some (rnd (x.tdiv y))) else if op = 5 then (if y = 0 then none else some (rnd (x - x.tdiv y * y)))
  else if op = 6 then some (rnd (x * pw (shN y))) else if op = 7 then some (rnd (x / pw (shN y)))
  else if op = 8 then some (rnd (andS x y 32)) else if op = 9 then some (rnd (orS x y 32)) else if op = 10 then some (rnd (orS x y 32 - andS x y 32))
  else if op = 11 then some (truth (decide (x < y))) else if op = 12 then some (truth (decide (x ≤ y))) else if op = 13 then some (truth (decide (y < x))) else if op = 14 then some (truth (decide (y ≤ x)))
  else if op = 15 then some (truth (decide (x = y))) else if op = 16 then some (truth (decide (x ≠ y)))
  else if op = 17 then some (truth (decide (x * y ≠ 0))) else if op = 18 then some (truth (decide (x ≠ 0) || decide (y ≠ 0))) else none
def unO (op a : Int) : Option Int := if op = 19 then some (rnd (-a)) else if op = 20 then some (truth (decide (a = 0))) else if op = 21 then some (rnd (-1 - a)) else none
theorem rnd_bd (n : Int) : I32 (rnd n) := by unfold rnd I32; split <;> omega
theorem truth_bd (b : Bool) : I32 (truth b) := by unfold truth I32; split <;> omega
theorem bitsZ_bd {n : Int} (h : I32 n) : 0 ≤ bitsZ n ∧ bitsZ n ≤ 4294967295 := by unfold bitsZ; unfold I32 at h; split <;> omega
theorem ite_bd {c : Prop} [Decidable c] {a b : Option Int} (ha : ∀ v, a = some v → I32 v) (hb : ∀ v, b = some v → I32 v) : ∀ v, (if c then a else b) = some v → I32 v := by
  split
  · exact ha
  · exact hb
theorem some_rnd (n : Int) : ∀ v, some (rnd n) = some v → I32 v := fun v h => by injection h with h; subst h; exact rnd_bd _
theorem some_truth (b : Bool) : ∀ v, some (truth b) = some v → I32 v := fun v h => by injection h with h; subst h; exact truth_bd _
theorem no_bd : ∀ v, (none : Option Int) = some v → I32 v := fun v h => by cases h
theorem binO_bd {op x y v : Int} (h : binO op x y = some v) : I32 v := by
  revert v
  unfold binO
  repeat' first | exact some_rnd _ | exact some_truth _ | exact no_bd | apply ite_bd
theorem unO_bd {op x v : Int} (h : unO op x = some v) : I32 v := by
  revert v
  unfold unO
  repeat' first | exact some_rnd _ | exact some_truth _ | exact no_bd | apply ite_bd
theorem pw_pos : ∀ n, 1 ≤ pw n
  | 0 => by decide
  | n + 1 => by have := pw_pos n; simp only [pw]; omega
theorem pw_mono : ∀ {n m : Nat}, n ≤ m → pw n ≤ pw m
  | n, 0, h => by
    obtain rfl : n = 0 := by omega
    exact Int.le_refl _
  | n, m + 1, h => by
    rcases Nat.lt_succ_iff_lt_or_eq.1 (Nat.lt_succ_of_le h) with h' | rfl
    · have := pw_mono (Nat.le_of_lt_succ h'); have := pw_pos m; simp only [pw]; omega
    · exact Int.le_refl _
theorem pw_le31 {n : Nat} (h : n ≤ 31) : pw n ≤ 2147483648 := Int.le_trans (pw_mono h) (by decide)
theorem pw_le32 {n : Nat} (h : n ≤ 32) : pw n ≤ 4294967296 := Int.le_trans (pw_mono h) (by decide)
theorem mod2 (z : Int) : z % 2 = 0 ∨ z % 2 = 1 := by omega
theorem sums_bd (x y : Int) : ∀ n, 0 ≤ andS x y n ∧ andS x y n < pw n ∧ 0 ≤ orS x y n ∧ orS x y n < pw n
  | 0 => by simp [andS, orS, pw]
  | n + 1 => by
    obtain ⟨h1, h2, h3, h4⟩ := sums_bd x y n
    have hp := pw_pos n
    simp only [andS, orS, pw]
    rcases mod2 (bitsZ x / pw n) with e1 | e1 <;> rcases mod2 (bitsZ y / pw n) with e2 | e2 <;> rw [e1, e2] <;> omega
theorem shN_lt (y : Int) : shN y < 32 := by unfold shN; omega
end Go.Proofs.Ytnfneinonkpmeaa
namespace Go.Proofs.Ytnfneinonkpmeaa

structure MS where
  data : List (List Int)
  fin : Int
  value : Int
  trace : List Int
  steps : Nat
  reads : Nat
/-- A call that goes on: the block, the instruction, the registers; dst: where the caller wants the value. -/
structure Fr where
  fn : Fn
  at_ : Nat
  i : Nat
  regs : List Int
  dst : Int
abbrev Cfg := MS × List Fr
def noFn : Fn := ⟨⟨#[]⟩, 0, 0, []⟩
def noBlk : Blk := ⟨[], 0, 0, 0, 0⟩
def getR (l : List Int) (r : Int) : Int := l.getD r.toNat 0
def setR (l : List Int) (r v : Int) : List Int := l.set r.toNat v
def MS.ended (s : MS) (k : Int) : MS := { s with fin := k }
def Fr.put (fr : Fr) (d v : Int) : Fr := { fr with regs := setR fr.regs d v }
def Fr.putIf (fr : Fr) (d v : Int) : Fr := if 0 ≤ d then fr.put d v else fr
def newRegs (f : Fn) (args : List Int) : List Int := args ++ List.replicate (f.regs.toNat - args.length) 0
def fnNamed (m : Mid) (name : ByteArray) : Fn := m.fns.getD (fnAt m.fns name).toNat noFn
def entry (f : Fn) (args : List Int) (dst : Int) : Fr := ⟨f, 0, 0, newRegs f args, dst⟩
/-- Which word of which global an instruction means. -/
def idxG (m : Mid) (x : Ins) : Nat := (globAt m.globals x.name).toNat
def idxI (x : Ins) (regs : List Int) : Int := if 0 ≤ x.a then getR regs x.a else 0
def dataRow (s : MS) (g : Nat) : List Int := s.data.getD g []
def idxOk (m : Mid) (x : Ins) (regs : List Int) (s : MS) : Bool := decide (0 ≤ idxI x regs) && decide (idxI x regs < ((dataRow s (idxG m x)).length : Int))
def exS (m : Mid) (inp : List Int) (x : Ins) (s : MS) (fr : Fr) (K : List Fr) : Cfg :=
  if x.kind = 1 then (s, fr.put x.d x.num :: K)
  else if x.kind = 2 then (s, fr.put x.d (getR fr.regs x.a) :: K)
  else if x.kind = 3 then (s, fr.put x.d ((unO x.op (getR fr.regs x.a)).getD 0) :: K)
  else if x.kind = 4 then (match binO x.op (getR fr.regs x.a) (getR fr.regs x.b) with
    | some v => (s, fr.put x.d v :: K)
    | none => (s.ended 2, fr :: K))
  else if x.kind = 5 then (if idxOk m x fr.regs s = true then (s, fr.put x.d (getR (dataRow s (idxG m x)) (idxI x fr.regs)) :: K) else (s.ended 3, fr :: K))
  else if x.kind = 6 then (if idxOk m x fr.regs s = true then ({ s with data := s.data.set (idxG m x) (setR (dataRow s (idxG m x)) (idxI x fr.regs) (getR fr.regs x.b)) }, fr :: K) else (s.ended 3, fr :: K))
  else if x.kind = 7 then (if K.length + 1 = 32 then (s.ended 4, fr :: K) else (s, entry (fnNamed m x.name) (x.args.map (getR fr.regs)) x.d :: fr :: K))
  else if x.kind = 8 then (if s.reads < inp.length then ({ s with reads := s.reads + 1 }, fr.put x.d (inp.getD s.reads 0) :: K) else (s, fr.put x.d 0 :: K))
  else if x.kind = 9 then ({ s with trace := s.trace ++ [getR fr.regs x.a] }, fr :: K)
  else (s, fr :: K)
/-- The call is done: its value goes to the caller; the first call's is the run's. -/
def retC (dst v : Int) (s : MS) : List Fr → Cfg
  | [] => ({ s with fin := 1, value := v }, [])
  | fr :: K => (s, fr.putIf dst v :: K)
def exE (b : Blk) (s : MS) (fr : Fr) (K : List Fr) : Cfg :=
  if b.kind = 1 then (s, { fr with at_ := b.to.toNat, i := 0 } :: K)
  else if b.kind = 2 then (s, { fr with at_ := (if getR fr.regs b.a ≠ 0 then b.to else b.els).toNat, i := 0 } :: K)
  else retC fr.dst (getR fr.regs b.a) s K
def Fr.blk (fr : Fr) : Blk := fr.fn.blocks.getD fr.at_ noBlk
def MS.step (s : MS) : MS := { s with steps := s.steps + 1 }
def stepF (m : Mid) (inp : List Int) (s : MS) (fr : Fr) (K : List Fr) : Cfg :=
  match fr.blk.ins[fr.i]? with
  | some x => exS m inp x s { fr with i := fr.i + 1 } K
  | none => exE fr.blk s fr K
def stepC (m : Mid) (inp : List Int) (fuel : Int) : Cfg → Cfg
  | (s, []) => (s, [])
  | (s, fr :: K) => if s.fin ≠ 0 then (s, fr :: K) else if fuel ≤ (s.steps : Int) then (s.ended 5, fr :: K) else stepF m inp s.step fr K
def iterC (m : Mid) (inp : List Int) (fuel : Int) : Nat → Cfg → Cfg
  | 0, c => c
  | n + 1, c => iterC m inp fuel n (stepC m inp fuel c)
def Reach (m : Mid) (inp : List Int) (fuel : Int) (a b : Cfg) : Prop := ∃ n, iterC m inp fuel n a = b
def data0 (m : Mid) : List (List Int) := m.globals.map fun g => List.replicate (max 1 g.size).toNat 0
def mainN : ByteArray := ⟨#[109, 97, 105, 110]⟩
def start (m : Mid) : Cfg := (⟨data0 m, 0, 0, [], 0, 0⟩, [entry (fnNamed m mainN) [] (-1)])
/-- The run's result. -/
def RunsTo (m : Mid) (inp : List Int) (fuel : Int) (r : MS) : Prop := r.fin ≠ 0 ∧ ∃ K, Reach m inp fuel (start m) (r, K)
section
variable {m : Mid} {inp : List Int} {fuel : Int} {a b c : Cfg}
theorem iterC_add : ∀ (n k : Nat) (a : Cfg), iterC m inp fuel (n + k) a = iterC m inp fuel k (iterC m inp fuel n a)
  | 0, k, a => by rw [Nat.zero_add]; rfl
  | n + 1, k, a => by rw [Nat.add_right_comm]; exact iterC_add n k _
theorem Reach.refl (a : Cfg) : Reach m inp fuel a a := ⟨0, rfl⟩
theorem Reach.trans (h : Reach m inp fuel a b) (k : Reach m inp fuel b c) : Reach m inp fuel a c := by
  obtain ⟨n, rfl⟩ := h
  obtain ⟨p, rfl⟩ := k
  exact ⟨n + p, iterC_add n p a⟩
theorem Reach.one (a : Cfg) : Reach m inp fuel a (stepC m inp fuel a) := ⟨1, rfl⟩
theorem Reach.tail (h : Reach m inp fuel a b) (e : stepC m inp fuel b = c) : Reach m inp fuel a c := h.trans (e ▸ Reach.one b)
theorem stepC_end {a : Cfg} (h : a.1.fin ≠ 0) : stepC m inp fuel a = a := by
  obtain ⟨s, K⟩ := a
  cases K with
  | nil => rfl
  | cons fr K => show (if s.fin ≠ 0 then _ else _) = _; rw [if_pos h]
theorem iterC_end {a : Cfg} (h : a.1.fin ≠ 0) : ∀ n, iterC m inp fuel n a = a
  | 0 => rfl
  | n + 1 => by
    show iterC m inp fuel n (stepC m inp fuel a) = a
    rw [stepC_end h]; exact iterC_end h n
theorem Reach.end_unique (h : Reach m inp fuel a b) (k : Reach m inp fuel a c) (hb : b.1.fin ≠ 0) (hc : c.1.fin ≠ 0) : b = c := by
  obtain ⟨n, rfl⟩ := h
  obtain ⟨p, rfl⟩ := k
  rcases Nat.le_total n p with hl | hl
  · obtain ⟨q, rfl⟩ : ∃ q, p = n + q := ⟨p - n, by omega⟩
    rw [iterC_add, iterC_end hb]
  · obtain ⟨q, rfl⟩ : ∃ q, n = p + q := ⟨n - p, by omega⟩
    rw [iterC_add, iterC_end hc]
theorem RunsTo.unique {r r' : MS} (h : RunsTo m inp fuel r) (k : RunsTo m inp fuel r') : r = r' := by
  obtain ⟨h1, K, h2⟩ := h
  obtain ⟨k1, K', k2⟩ := k
  exact congrArg Prod.fst (h2.end_unique k2 h1 k1)
theorem stepC_open {s : MS} {fr : Fr} {K : List Fr} (h : s.fin = 0) (hf : fuel ≤ (s.steps : Int)) : stepC m inp fuel (s, fr :: K) = (s.ended 5, fr :: K) := by
  show (if s.fin ≠ 0 then _ else if _ then _ else _) = _
  rw [if_neg (by simp [h]), if_pos hf]
theorem stepC_go {s : MS} {fr : Fr} {K : List Fr} (h : s.fin = 0) (hf : ¬ fuel ≤ (s.steps : Int)) : stepC m inp fuel (s, fr :: K) = stepF m inp s.step fr K := by
  show (if s.fin ≠ 0 then _ else if _ then _ else _) = _
  rw [if_neg (by simp [h]), if_neg hf]
end
end Go.Proofs.Ytnfneinonkpmeaa
namespace Go.Proofs.Ytnfneinonkpmeaa
open Go

def opsT (op : Int) : Int :=
  if op = 2 then 1 else if op = 3 then 11 else if op = 5 then 10 else if op = 6 then 9 else if op = 7 then 8 else if op = 8 then 6 else if op = 10 then 7
  else if op = 11 then 1 else if op = 12 then 2 else if op = 13 then 6 else if op = 14 then 11 else if op = 16 then 10 else if op = 18 then 7
  else if op = 19 then 9 else if op = 20 then 8 else if op = 21 then 3 else if op = 22 then 4 else if op = 23 then 5 else 0
/-- What a machine's instruction from 2 to 23 makes of two words. -/
def valO (op a b : Int) : Option Int :=
  if op = 4 ∨ op = 15 then some (truth (decide (bitsZ a < bitsZ b)))
  else if op = 9 ∨ op = 17 then some (rnd (bitsZ a / pw (shN b)))
  else binO (opsT op) a b
theorem rnd_id {z : Int} (h : I32 z) : rnd z = z := by unfold I32 at h; unfold rnd; split <;> omega
theorem truth_cases (b : Bool) : truth b = 0 ∨ truth b = 1 := by cases b <;> simp [truth]
theorem valO_bd {op a b v : Int} (h : valO op a b = some v) : I32 v := by
  unfold valO at h
  split at h
  · injection h with h; subst h; exact truth_bd _
  split at h
  · injection h with h; subst h; exact rnd_bd _
  · exact binO_bd h
/-- Of two known bits of a word of 32 and all ones. -/
theorem bitsZ_m1 : bitsZ (-1) = 4294967295 := by decide
theorem ones_at : ∀ n, n ≤ 31 → (4294967295 : Int) / pw n % 2 = 1 := by
  intro n hn
  have : n < 32 := by omega
  have h : ∀ k : Fin 32, (4294967295 : Int) / pw k.1 % 2 = 1 := by decide
  exact h ⟨n, this⟩
theorem mod_two (x p : Int) (hp : 1 ≤ p) : x % (p * 2) = x % p + p * (x / p % 2) := by
  have h1 := Int.emod_add_mul_ediv x p
  have h2 := Int.emod_nonneg x (show p ≠ 0 by omega)
  have h3 := Int.emod_lt_of_pos x (show 0 < p by omega)
  have h4 := Int.emod_add_mul_ediv (x / p) 2
  have h5 : x = (x % p + p * (x / p % 2)) + p * 2 * (x / p / 2) := by
    conv => lhs; rw [← h1, ← h4]
    rw [Int.mul_add, Int.mul_assoc, Int.add_assoc]
  have h6 : 0 ≤ x % p + p * (x / p % 2) ∧ x % p + p * (x / p % 2) < p * 2 := by
    rcases mod2 (x / p) with e | e <;> rw [e] <;> omega
  conv => lhs; rw [h5]
  rw [Int.add_mul_emod_self_left]
  exact Int.emod_eq_of_lt h6.1 h6.2
theorem with_ones (x : Int) : ∀ n, n ≤ 32 → andS x (-1) n = bitsZ x % pw n ∧ orS x (-1) n = pw n - 1
  | 0, _ => by simp [andS, orS, pw]
  | n + 1, h => by
    obtain ⟨h1, h2⟩ := with_ones x n (by omega)
    have h3 := ones_at n (by omega)
    have hp := pw_pos n
    simp only [andS, orS, pw, bitsZ_m1, h1, h2, h3]
    have e : bitsZ x % (pw n * 2) = bitsZ x % pw n + pw n * (bitsZ x / pw n % 2) := mod_two _ _ hp
    constructor
    · rw [e, Int.mul_one, Int.mul_comm]
    · rcases mod2 (bitsZ x / pw n) with e1 | e1 <;> rw [e1] <;> omega
theorem xor_ones {x : Int} (h : I32 x) : binO 10 x (-1) = some (rnd (-1 - x)) := by
  obtain ⟨h1, h2⟩ := with_ones x 32 (Nat.le_refl _)
  have hp : pw 32 = 4294967296 := by decide
  obtain ⟨b1, b2⟩ := bitsZ_bd h
  have e : bitsZ x % 4294967296 = bitsZ x := Int.emod_eq_of_lt b1 (by omega)
  simp only [binO]
  rw [h1, h2, hp, e]
  simp only [Int.reduceEq, if_false, if_true, Option.some.injEq]
  unfold I32 at h
  unfold rnd bitsZ
  split <;> split <;> split <;> omega
theorem andS_comm (x y : Int) : ∀ n, andS x y n = andS y x n
  | 0 => rfl
  | n + 1 => by simp only [andS]; rw [andS_comm x y n, Int.mul_comm (bitsZ x / pw n % 2)]
theorem orS_comm (x y : Int) : ∀ n, orS x y n = orS y x n
  | 0 => rfl
  | n + 1 => by simp only [orS]; rw [orS_comm x y n, Int.mul_comm (bitsZ x / pw n % 2), Int.add_comm (bitsZ x / pw n % 2)]
theorem binO_turn {op : Int} (h : op = 1 ∨ op = 8 ∨ op = 9 ∨ op = 10) (x y : Int) : binO op x y = binO op y x := by
  rcases h with rfl | rfl | rfl | rfl <;> simp only [binO, Int.reduceEq, if_false, if_true]
  · rw [Int.add_comm]
  · rw [andS_comm]
  · rw [orS_comm]
  · rw [andS_comm, orS_comm]
theorem sub_neg (a n : Int) : binO 1 a (-n) = binO 2 a n := by simp [binO, Int.sub_eq_add_neg]
theorem low_one {a : Int} (h : I32 a) : valO 4 a 1 = some (truth (decide (a = 0))) := by
  simp only [valO, Int.reduceEq, true_or, if_true]
  congr 2
  have e : bitsZ 1 = 1 := by decide
  rw [e]
  unfold I32 at h
  unfold bitsZ
  congr 1
  split <;> refine propext ⟨fun _ => ?_, fun _ => ?_⟩ <;> omega
theorem zero_low {a : Int} (h : I32 a) : valO 15 0 a = some (truth (decide (a ≠ 0))) := by
  simp only [valO, Int.reduceEq, or_true, if_true]
  congr 2
  have e : bitsZ 0 = 0 := by decide
  rw [e]
  unfold I32 at h
  unfold bitsZ
  congr 1
  split <;> refine propext ⟨fun _ => ?_, fun _ => ?_⟩ <;> omega
theorem xor_one (b : Bool) : valO 5 (truth b) 1 = some (truth (!b)) := by
  have e : valO 5 (truth b) 1 = binO 10 (truth b) 1 := by simp [valO, opsT]
  rw [e]
  cases b <;> decide
theorem diff_zero {a b : Int} (ha : I32 a) (hb : I32 b) : rnd (a - b) = 0 ↔ a = b := by
  unfold I32 at ha hb; unfold rnd; split <;> omega
theorem neg_sub (a : Int) : binO 2 0 a = some (rnd (-a)) := by simp [binO]
theorem low_bits {n : Int} (h : I32 n) : bits BinOp.and .i32 n 31 = bitsZ n % 32 := by
  have h1 : (BitVec.ofInt 32 n).toNat = (bitsZ n).toNat := by
    rw [BitVec.toNat_ofInt]
    unfold I32 at h; unfold bitsZ
    split <;> omega
  have h2 : (BitVec.ofInt 32 n &&& BitVec.ofInt 32 31).toNat = (bitsZ n).toNat % 32 := by
    rw [BitVec.toNat_and, h1, show (BitVec.ofInt 32 31).toNat = 2 ^ 5 - 1 from by decide, Nat.and_two_pow_sub_one_eq_mod]
  obtain ⟨b1, b2⟩ := bitsZ_bd h
  show IntKind.wrap .i32 _ = _
  rw [show IntKind.bits .i32 = 32 from rfl, h2]
  have h3 : ((bitsZ n).toNat % 32 : Nat) = (bitsZ n % 32 : Int) := by omega
  rw [h3]
  have h4 : ∀ y : Int, 0 ≤ y → y < 32 → IntKind.wrap .i32 y = y := fun y h5 h6 => by
    have h7 : (2 : Int) ^ IntKind.bits .i32 = 4294967296 := by decide
    have h8 : (2 : Int) ^ (IntKind.bits .i32 - 1) = 2147483648 := by decide
    unfold IntKind.wrap
    rw [h7, h8]
    have h9 : y % 4294967296 = y := Int.emod_eq_of_lt h5 (by omega)
    rw [h9]
    have h10 : decide (y ≥ 2147483648) = false := decide_eq_false (by omega)
    simp [h10]
  exact h4 _ (by omega) (by omega)
theorem low_sh {n : Int} (h : I32 n) : shN (bits BinOp.and .i32 n 31) = shN n := by
  rw [low_bits h]
  unfold shN
  have : bitsZ (bitsZ n % 32) = bitsZ n % 32 := by
    have e : 0 ≤ bitsZ n % 32 := by omega
    generalize bitsZ n % 32 = y at e
    unfold bitsZ; split <;> omega
  rw [this]
  omega
end Go.Proofs.Ytnfneinonkpmeaa
namespace Go.Proofs.Ytnfneinonkpmeaa
open Go Go.RowKit
theorem wrap_u32 {x : Int} (h : I32 x) : IntKind.u32.wrap x = bitsZ x := by
  have h7 : (2 : Int) ^ IntKind.bits .u32 = 4294967296 := by decide
  unfold IntKind.wrap
  rw [h7]
  unfold I32 at h
  simp only [IntKind.signed, Bool.false_and, Bool.false_eq_true, if_false]
  unfold bitsZ
  split <;> omega
set_option maxHeartbeats 1000000 in
theorem vLow_any (x y : Int) (hx : I32 x) (hy : I32 y) (w : World) :
    Calls Try.prog 72 #[.int .i32 x, .int .i32 y] w fun e w' => e = .returned (.int .i32 (truth (decide (bitsZ x < bitsZ y)))) ∧ w' = w := by
  have e1 := wrap_u32 hx
  have e2 := wrap_u32 hy
  obtain ⟨u, hu⟩ : ∃ u, u = bitsZ x := ⟨_, rfl⟩
  obtain ⟨v, hv⟩ : ∃ v, v = bitsZ y := ⟨_, rfl⟩
  rw [← hu] at e1 ⊢
  rw [← hv] at e2 ⊢
  clear hu hv hx hy
  go_enter Try.func72, Try.ntmps72
  by_cases h : u < v
  · have q : decide (u < v) = true := decide_eq_true h
    rw [q]
    clear q
    go_wp2_with fail
    go_ret
    exact ⟨rfl, rfl⟩
  · have q : decide (u < v) = false := decide_eq_false h
    rw [q]
    clear q
    go_wp2_with fail
    go_ret
    exact ⟨rfl, rfl⟩
theorem pw_two (n : Nat) : pw n = 2 ^ n := by
  induction n with
  | zero => rfl
  | succ n ih => rw [pw, ih, Int.pow_succ]
theorem wrap32_rnd (z : Int) : wrap32 z = rnd z := by
  unfold wrap32 rnd
  split <;> omega
set_option maxHeartbeats 1000000 in
theorem vDown_any (x y : Int) (hx : I32 x) (hy : I32 y) (w : World) :
    Calls Try.prog 73 #[.int .i32 x, .int .i32 y] w fun e w' => e = .returned (.int .i32 (rnd (bitsZ x / pw (shN y)))) ∧ w' = w := by
  have e1 := wrap_u32 hx
  have e2 := wrap_u32 hy
  have b1 := bitsZ_bd hx
  have b2 := bitsZ_bd hy
  have hsh : (shN y : Int) = bitsZ y % 32 := by unfold shN; omega
  rw [pw_two]
  obtain ⟨u, hu⟩ : ∃ u, u = bitsZ x := ⟨_, rfl⟩
  obtain ⟨v, hv⟩ : ∃ v, v = bitsZ y := ⟨_, rfl⟩
  obtain ⟨k, hk⟩ : ∃ k, k = shN y := ⟨_, rfl⟩
  rw [← hu] at e1 b1 ⊢
  rw [← hv] at e2 b2 hsh
  rw [← hk] at hsh ⊢
  clear hu hv hx hy hk
  go_enter Try.func73, Try.ntmps73
  go_wp2_with fail
  go_ret
  refine ⟨?_, rfl⟩
  have e3 : (v % 32).toNat = k := by omega
  rw [e3, wrap32_rnd]
  rfl
end Go.Proofs.Ytnfneinonkpmeaa
