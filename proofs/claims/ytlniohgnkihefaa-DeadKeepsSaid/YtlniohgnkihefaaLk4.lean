/- What is read of a program of blocks, at a place. -/
import Derived.Test.YtlniohgnkihefaaLk3
import Derived.WalkSpells
import Derived.Lib.SliceRun
import Derived.Test.YtlniohgnkihefaaLk2
namespace Go.Proofs.Ytlniohgnkihefaa
open Go.RowKit
variable {T : Nat → Prop} {w w' : World}

theorem old_ne {w : World} : ∀ k, T k → k < w.heap.size → ¬ (w.heap.size ≤ k) := fun _ _ h h' => Nat.lt_irrefl _ (Nat.lt_of_lt_of_le h h')
theorem fns_below {B : Option Addr} {fs : List Fn} (h : RdSl 4 (RdFn w T) w T B fs) (hb : Below w.heap.size w w') : RdSl 4 (RdFn w' T) w' T B fs := h.kept (chg_of_below hb) old_ne fun _ _ h => h.kept (chg_of_below hb) old_ne
theorem blks_below {B : Option Addr} {fs : List Blk} (h : RdSl 5 (RdBlk w T) w T B fs) (hb : Below w.heap.size w w') : RdSl 5 (RdBlk w' T) w' T B fs := h.kept (chg_of_below hb) old_ne fun _ _ h => h.kept (chg_of_below hb) old_ne
theorem inss_below {B : Option Addr} {fs : List Ins} (h : RdSl 8 (RdIns w T) w T B fs) (hb : Below w.heap.size w w') : RdSl 8 (RdIns w' T) w' T B fs := h.kept (chg_of_below hb) old_ne fun _ _ h => h.kept (chg_of_below hb) old_ne
theorem globs_below {B : Option Addr} {fs : List Glob} (h : RdSl 2 RdGlob w T B fs) (hb : Below w.heap.size w w') : RdSl 2 RdGlob w' T B fs := h.kept (chg_of_below hb) old_ne fun _ _ h => h
theorem ints_below {B : Option Addr} {xs : List Value} (h : RdT w T B xs) (hb : Below w.heap.size w w') : RdT w' T B xs := h.kept (chg_of_below hb) old_ne
theorem mid_below {m : Mid} {A B : Option Addr} {c d : Nat} (h : RdMid w T m A c B d) (hb : Below w.heap.size w w') : RdMid w' T m A c B d := h.kept (chg_of_below hb) old_ne

theorem fn_at {B : Option Addr} {fs : List Fn} (h : RdSl 4 (RdFn w T) w T B fs) (k : Nat) (hk : k < fs.length) (f : Fn) (hf : f = fs[k]) :
    ∃ g off A c, B = some ⟨g, off, none⟩ ∧ g < w.heap.size ∧ FnOk f ∧ RdSl 5 (RdBlk w T) w T A f.blocks ∧ w.cell? ⟨g, off + k * 4, none⟩ = some (.string f.name) ∧ w.cell? ⟨g, off + k * 4 + 1, none⟩ = some (.int .i64 f.params)
      ∧ w.cell? ⟨g, off + k * 4 + 2, none⟩ = some (.int .i64 f.regs) ∧ w.cell? ⟨g, off + k * 4 + 3, none⟩ = some (.slice A f.blocks.length c) := by
  subst hf
  obtain ⟨g, off, rfl, ht, hg, hcl⟩ := h (by omega)
  obtain ⟨cs, hcs, ⟨hok, A1, c1, rfl, hsub⟩, hat⟩ := hcl k _ (List.getElem?_eq_getElem hk)
  exact ⟨g, off, A1, c1, rfl, hg, hok, hsub, hat 0 _ rfl, hat 1 _ rfl, hat 2 _ rfl, hat 3 _ rfl⟩
theorem blk_at {B : Option Addr} {fs : List Blk} (h : RdSl 5 (RdBlk w T) w T B fs) (k : Nat) (hk : k < fs.length) (f : Blk) (hf : f = fs[k]) :
    ∃ g off A c, B = some ⟨g, off, none⟩ ∧ g < w.heap.size ∧ BlkOk f ∧ RdSl 8 (RdIns w T) w T A f.ins ∧ w.cell? ⟨g, off + k * 5, none⟩ = some (.slice A f.ins.length c) ∧ w.cell? ⟨g, off + k * 5 + 1, none⟩ = some (.int .i64 f.kind)
      ∧ w.cell? ⟨g, off + k * 5 + 2, none⟩ = some (.int .i64 f.a) ∧ w.cell? ⟨g, off + k * 5 + 3, none⟩ = some (.int .i64 f.to) ∧ w.cell? ⟨g, off + k * 5 + 4, none⟩ = some (.int .i64 f.els) := by
  subst hf
  obtain ⟨g, off, rfl, ht, hg, hcl⟩ := h (by omega)
  obtain ⟨cs, hcs, ⟨hok, A1, c1, rfl, hsub⟩, hat⟩ := hcl k _ (List.getElem?_eq_getElem hk)
  exact ⟨g, off, A1, c1, rfl, hg, hok, hsub, hat 0 _ rfl, hat 1 _ rfl, hat 2 _ rfl, hat 3 _ rfl, hat 4 _ rfl⟩
theorem ins_at {B : Option Addr} {fs : List Ins} (h : RdSl 8 (RdIns w T) w T B fs) (k : Nat) (hk : k < fs.length) (f : Ins) (hf : f = fs[k]) :
    ∃ g off A c, B = some ⟨g, off, none⟩ ∧ g < w.heap.size ∧ InsOk f ∧ RdT w T A (ints f.args) ∧ w.cell? ⟨g, off + k * 8, none⟩ = some (.int .i64 f.kind) ∧ w.cell? ⟨g, off + k * 8 + 1, none⟩ = some (.int .i64 f.op)
      ∧ w.cell? ⟨g, off + k * 8 + 2, none⟩ = some (.int .i64 f.d) ∧ w.cell? ⟨g, off + k * 8 + 3, none⟩ = some (.int .i64 f.a) ∧ w.cell? ⟨g, off + k * 8 + 4, none⟩ = some (.int .i64 f.b) ∧ w.cell? ⟨g, off + k * 8 + 5, none⟩ = some (.int .i32 f.num)
      ∧ w.cell? ⟨g, off + k * 8 + 6, none⟩ = some (.string f.name) ∧ w.cell? ⟨g, off + k * 8 + 7, none⟩ = some (.slice A f.args.length c) := by
  subst hf
  obtain ⟨g, off, rfl, ht, hg, hcl⟩ := h (by omega)
  obtain ⟨cs, hcs, ⟨hok, A1, c1, rfl, hsub⟩, hat⟩ := hcl k _ (List.getElem?_eq_getElem hk)
  exact ⟨g, off, A1, c1, rfl, hg, hok, hsub, hat 0 _ rfl, hat 1 _ rfl, hat 2 _ rfl, hat 3 _ rfl, hat 4 _ rfl, hat 5 _ rfl, hat 6 _ rfl, hat 7 _ rfl⟩
theorem glob_at {B : Option Addr} {fs : List Glob} (h : RdSl 2 RdGlob w T B fs) (k : Nat) (hk : k < fs.length) (f : Glob) (hf : f = fs[k]) :
    ∃ g off, B = some ⟨g, off, none⟩ ∧ g < w.heap.size ∧ (f.name.size ≤ maxLen ∧ I64 f.size) ∧ w.cell? ⟨g, off + k * 2, none⟩ = some (.string f.name) ∧ w.cell? ⟨g, off + k * 2 + 1, none⟩ = some (.int .i64 f.size) := by
  subst hf
  obtain ⟨g, off, rfl, ht, hg, hcl⟩ := h (by omega)
  obtain ⟨cs, hcs, ⟨hok, rfl⟩, hat⟩ := hcl k _ (List.getElem?_eq_getElem hk)
  exact ⟨g, off, rfl, hg, hok, hat 0 _ rfl, hat 1 _ rfl⟩
theorem fold_names {α : Type} {P : α → Prop} {l : List α} (h : ∀ j (hl : j < l.length), P l[j]) : ∀ x ∈ l, P x := fun x hx => by
  obtain ⟨j, hj, rfl⟩ := List.getElem_of_mem hx
  exact h j hj
theorem upto_succ {α : Type} {P : α → Prop} {l : List α} {k : Nat} (h : ∀ j (hl : j < l.length), j < k → P l[j]) {x : α} (hk : k < l.length) (he : x = l[k]) (hp : P x) : ∀ j (hl : j < l.length), j < k + 1 → P l[j] := by
  intro j hl hj
  rcases Nat.lt_succ_iff_lt_or_eq.1 hj with h' | rfl
  · exact h j hl h'
  · rw [← he]; exact hp
end Go.Proofs.Ytlniohgnkihefaa
namespace Go.Proofs.Ytlniohgnkihefaa
open Go.RowKit
variable {T : Nat → Prop}

theorem box_new (w : World) (cs : Array Value) (e : Nat) : ∃ w1, w1 = w.alloc (.cells cs e) ∧ Below w.heap.size w w1 ∧ w.heap.size < w1.heap.size ∧ ∀ j, w1.cell? ⟨w.heap.size, j, none⟩ = cs[j]? :=
  ⟨_, rfl, (Below.refl _ _).alloc (Nat.le_refl _) _, by simp, fun j => cell_of_row _ _ _ _ _ _ (heap_alloc_new w _)⟩

structure LightFn (f : Fn) : Prop where
  nb : f.blocks.length ≤ 80
  ni : ∀ b ∈ f.blocks, b.ins.length ≤ 100
structure LightV (m : Mid) : Prop where
  nf : m.fns.length ≤ 8
  fns : ∀ f ∈ m.fns, LightFn f

set_option maxRecDepth 100000 in
set_option maxHeartbeats 8000000 in
theorem Light_any (m : Mid) (A B : Option Addr) (c d : Nat) (w : World) (h : RdMid w T m A c B d) :
    Calls Try.prog 33 #[.agg #[.slice A m.globals.length c, .slice B m.fns.length d]] w (Told w (LightV m)) := by
  have hlf : m.fns.length ≤ 9223372036854775807 := by have := h.nfns; unfold maxLen at this; omega
  have hlg : m.globals.length ≤ 9223372036854775807 := by have := h.nglobals; unfold maxLen at this; omega
  obtain ⟨w1, hw1, hb1, hlt1, hc⟩ := box_new w #[.slice A m.globals.length c, .slice B m.fns.length d] 25
  have hc0 := hc 0
  have hc1 := hc 1
  simp only [List.getElem?_toArray, List.getElem?_cons_succ, List.getElem?_cons_zero] at hc0 hc1
  have HM := Lib.hid (mid_below h hb1)
  have HB1 := Lib.hid hb1
  have HW1 := Lib.hid hw1
  have hw1' : w.alloc (Obj.cells #[.slice A m.globals.length c, .slice B m.fns.length d] 25) = w1 := hw1.symm
  clear h hb1 hc hw1
  go_enter Try.func33, Try.ntmps33
  by_cases h8 : 8 < m.fns.length
  · clear hw1'
    go_wp2_with fail
    go_ret
    rw [← HW1.out]
    exact ⟨false, rfl, HB1.out, fun h => by cases h⟩
  by_cases h70 : 70 < m.globals.length
  · clear hw1'
    go_wp2_with fail
    go_ret
    rw [← HW1.out]
    exact ⟨false, rfl, HB1.out, fun h => by cases h⟩
  have HW := Lib.hid hw1'
  clear hw1'
  go_wp2_with fail
  rw [HW.out]
  go_loopw [25] (fun i wr => ∃ k : Nat, k ≤ m.globals.length ∧ i = .int .i64 (k : Nat) ∧ Below w1.heap.size w1 wr) (fun i _ => m.globals.length - (intOf i).toNat)
  case atStart => exact ⟨0, by omega, rfl, Below.refl _ _⟩
  case round =>
    obtain ⟨k, hk, rfl, hB⟩ := hrel
    have HB := Lib.hid hB
    have hd0 := (hB.cell (p := ⟨w.heap.size, 0, none⟩) hlt1).trans hc0
    have hd1 := (hB.cell (p := ⟨w.heap.size, 1, none⟩) hlt1).trans hc1
    have HBW : Hid (Below w.heap.size w wr) := Lib.hid (HB1.out.trans (hB.mono HB1.out.size))
    clear hB
    by_cases hlt : k < m.globals.length
    · obtain ⟨x, hxe⟩ : ∃ x, x = m.globals[k] := ⟨_, rfl⟩
      obtain ⟨g, off, rfl, hg, ⟨hs, _⟩, g0, g1⟩ := glob_at (globs_below HM.out.globals HB.out) k hlt x hxe
      have hs' : x.name.size ≤ 9223372036854775807 := by unfold maxLen at hs; omega
      clear hs hxe
      by_cases h100 : 100 < x.name.size
      · go_wp2_with fail
        go_ret
        exact ⟨false, rfl, HBW.out.alloc HBW.out.size _, fun h => by cases h⟩
      · go_wp2_with fail
        go_roundw
        case rel => exact ⟨k + 1, by omega, by go_num, HB.out.alloc HB.out.size _⟩
        case measure => simp [intOf]; omega
    · obtain rfl : k = m.globals.length := by omega
      clear hc0 hc1
      go_wp2_with fail
      obtain ⟨w2, hw2e⟩ : ∃ w2 : World, w2 = wr := ⟨_, rfl⟩
      rw [← hw2e] at hd0 hd1 HB HBW
      rw [← hw2e]
      clear hw2e
      have hlt2 : w.heap.size < w2.heap.size := Nat.lt_of_lt_of_le hlt1 HB.out.size
      have HM2 := Lib.hid (mid_below HM.out HB.out)
      go_loopw [5, 37] (fun a i wr => ∃ (k : Nat) (z : Int), k ≤ m.fns.length ∧ i = .int .i64 (k : Nat) ∧ a = .int .i64 z ∧ 0 ≤ z ∧ z ≤ 400 ∧ Below w2.heap.size w2 wr ∧ ∀ j (hl : j < m.fns.length), j < k → LightFn m.fns[j]) (fun _ i _ => m.fns.length - (intOf i).toNat)
      case atStart => exact ⟨0, 0, by omega, rfl, rfl, by omega, by omega, Below.refl _ _, fun j hl hj => by omega⟩
      case round =>
        obtain ⟨k, z, hk, rfl, rfl, hz0, hz4, hB, hn⟩ := hrel
        have HB2 := Lib.hid hB
        have HK := Lib.hid hn
        have HBW2 : Hid (Below w.heap.size w wr) := Lib.hid (HBW.out.trans (hB.mono HBW.out.size))
        clear hB hn
        by_cases hlt : k < m.fns.length
        · obtain ⟨f, hfe⟩ : ∃ f, f = m.fns[k] := ⟨_, rfl⟩
          obtain ⟨g, off, A1, c1, rfl, hg, hok, hsub, g0, g1, g2, g3⟩ := fn_at (fns_below HM2.out.fns HB2.out) k hlt f hfe
          have hs' : f.name.size ≤ 9223372036854775807 := by have := hok.name; unfold maxLen at this; omega
          have hbl : f.blocks.length ≤ 9223372036854775807 := by have := hok.nblocks; unfold maxLen at this; omega
          have HFE := Lib.hid hfe
          have HSUB := Lib.hid hsub
          clear hok hsub hfe
          by_cases h100 : 100 < f.name.size
          · go_wp2_with fail
            go_ret
            exact ⟨false, rfl, HBW2.out.alloc HBW2.out.size _, fun h => by cases h⟩
          by_cases h80 : 80 < f.blocks.length
          · go_wp2_with fail
            go_ret
            exact ⟨false, rfl, HBW2.out.alloc HBW2.out.size _, fun h => by cases h⟩
          go_wp2_with fail
          obtain ⟨w3, hw3, hb3, hlt3, hc⟩ := box_new wr #[.string f.name, .int .i64 f.params, .int .i64 f.regs, .slice A1 f.blocks.length c1] 31
          rw [← hw3]
          have HB3 : Hid (Below w2.heap.size w2 w3) := Lib.hid (HB2.out.trans (hb3.mono HB2.out.size))
          have HBW3 : Hid (Below w.heap.size w w3) := Lib.hid (HBW2.out.trans (hb3.mono HBW2.out.size))
          have HSUB3 := Lib.hid (blks_below HSUB.out hb3)
          clear hb3 hc hw3
          go_loopw [5, 54] (fun a i wr => ∃ (k : Nat) (z : Int), k ≤ f.blocks.length ∧ i = .int .i64 (k : Nat) ∧ a = .int .i64 z ∧ 0 ≤ z ∧ z ≤ 400 ∧ Below w3.heap.size w3 wr ∧ ∀ j (hl : j < f.blocks.length), j < k → f.blocks[j].ins.length ≤ 100) (fun _ i _ => f.blocks.length - (intOf i).toNat)
          case atStart => exact ⟨0, z, by omega, rfl, rfl, hz0, hz4, Below.refl _ _, fun j hl hj => by omega⟩
          case round =>
            obtain ⟨k3, z3, hk3, rfl, rfl, hz30, hz34, hB, hn⟩ := hrel
            have HB4 := Lib.hid hB
            have HK3 := Lib.hid hn
            have HBW4 : Hid (Below w.heap.size w wr) := Lib.hid (HBW3.out.trans (hB.mono HBW3.out.size))
            have HB4' : Hid (Below w2.heap.size w2 wr) := Lib.hid (HB3.out.trans (hB.mono HB3.out.size))
            clear hB hn
            by_cases hlt3 : k3 < f.blocks.length
            · obtain ⟨b, hbe⟩ : ∃ b, b = f.blocks[k3] := ⟨_, rfl⟩
              obtain ⟨gb, offb, A2, c2, rfl, hgb, hok, hsub, b0, b1, b2, b3, b4⟩ := blk_at (blks_below HSUB3.out HB4.out) k3 hlt3 b hbe
              have hil : b.ins.length ≤ 9223372036854775807 := by have := hok.nins; unfold maxLen at this; omega
              have HBE := Lib.hid hbe
              have HSUB4 := Lib.hid hsub
              clear hok hsub hbe
              by_cases i100 : 100 < b.ins.length
              · go_wp2_with fail
                go_ret
                exact ⟨false, rfl, HBW4.out.alloc HBW4.out.size _, fun h => by cases h⟩
              by_cases i400 : 400 < z3 + b.ins.length
              · go_wp2_with fail
                go_ret
                exact ⟨false, rfl, HBW4.out.alloc HBW4.out.size _, fun h => by cases h⟩
              go_wp2_with fail
              obtain ⟨w5, hw5, hb5, hlt5, hc⟩ := box_new wr #[.slice A2 b.ins.length c2, .int .i64 b.kind, .int .i64 b.a, .int .i64 b.to, .int .i64 b.els] 45
              rw [← hw5]
              have HB5 : Hid (Below w3.heap.size w3 w5) := Lib.hid (HB4.out.trans (hb5.mono HB4.out.size))
              have HBW5 : Hid (Below w.heap.size w w5) := Lib.hid (HBW4.out.trans (hb5.mono HBW4.out.size))
              have HSUB5 := Lib.hid (inss_below HSUB4.out hb5)
              clear hb5 hc hw5
              go_loopw [74] (fun i wr => ∃ (k : Nat), k ≤ b.ins.length ∧ i = .int .i64 (k : Nat) ∧ Below w5.heap.size w5 wr) (fun i _ => b.ins.length - (intOf i).toNat)
              case atStart => exact ⟨0, by omega, rfl, Below.refl _ _⟩
              case round =>
                obtain ⟨k4, hk4, rfl, hB⟩ := hrel
                have HB6 := Lib.hid hB
                have HBW6 : Hid (Below w.heap.size w wr) := Lib.hid (HBW5.out.trans (hB.mono HBW5.out.size))
                have HB6' : Hid (Below w3.heap.size w3 wr) := Lib.hid (HB5.out.trans (hB.mono HB5.out.size))
                clear hB
                by_cases hlt4 : k4 < b.ins.length
                · obtain ⟨x, hxe⟩ : ∃ x, x = b.ins[k4] := ⟨_, rfl⟩
                  obtain ⟨gi, offi, A3, c3, rfl, hgi, hok, _, i0, i1, i2, i3, i4, i5, i6, i7⟩ := ins_at (inss_below HSUB5.out HB6.out) k4 hlt4 x hxe
                  have hs' : x.name.size ≤ 9223372036854775807 := by have := hok.name; unfold maxLen at this; omega
                  have hal : x.args.length ≤ 9223372036854775807 := by have := hok.nargs; unfold maxLen at this; omega
                  clear hok hxe
                  by_cases n100 : 100 < x.name.size
                  · go_wp2_with fail
                    go_ret
                    exact ⟨false, rfl, HBW6.out.alloc HBW6.out.size _, fun h => by cases h⟩
                  by_cases n20 : 20 < x.args.length
                  · go_wp2_with fail
                    go_ret
                    exact ⟨false, rfl, HBW6.out.alloc HBW6.out.size _, fun h => by cases h⟩
                  go_wp2_with fail
                  go_roundw
                  case rel => exact ⟨k4 + 1, by omega, by go_num, HB6.out.alloc HB6.out.size _⟩
                  case measure => simp [intOf]; omega
                · obtain rfl : k4 = b.ins.length := by omega
                  go_wp2_with fail
                  go_roundw
                  case rel => exact ⟨k3 + 1, _, by omega, by go_num, rfl, by omega, by omega, HB6'.out, upto_succ (P := fun b : Blk => b.ins.length ≤ 100) HK3.out hlt3 HBE.out (by show b.ins.length ≤ 100; omega)⟩
                  case measure => simp [intOf]; omega
            · obtain rfl : k3 = f.blocks.length := by omega
              go_wp2_with fail
              go_roundw
              case rel => exact ⟨k + 1, _, by omega, by go_num, rfl, hz30, hz34, HB4'.out, upto_succ HK.out hlt HFE.out ⟨by omega, fold_names fun j hl => HK3.out j hl hl⟩⟩
              case measure => simp [intOf]; omega
        · obtain rfl : k = m.fns.length := by omega
          go_wp2_with fail
          go_ret
          exact ⟨true, rfl, HBW2.out, fun _ => ⟨by omega, fold_names fun j hl => HK.out j hl hl⟩⟩
end Go.Proofs.Ytlniohgnkihefaa
namespace Go.Proofs.Ytlniohgnkihefaa
open Go.RowKit
/-- append onto a row, m elements more: behind 'at_builtin'. -/
theorem wpList_append_row {P : Program} (w : World) {ops : Array Oper} {rest : List Oper} {o : Oper} {a : Act} {Q : Exit → Act → World → Prop} (hgd : o.guard = none) (s x : Operand) (t e : Nat) (z : Value) (size bytes : Nat)
    (ho : o.op = .call { callee := .builtin .append, args := #[s, x], argTypes := #[t, t] })
    (ht : P.underlying t = some (.slice e)) (hinfo : (P.info? e).map (fun i => (i.zero, i.size, i.bytes)) = some (some z, size, bytes)) (hz : z.cells.size = size)
    {v : Value} {r : Option Nat} {n : Nat} {xs : List Value} (HO : RowAt w e size v r n xs) (ad : Addr) (m c : Nat) (news : List Value) (hln : news.length = m * size) (hnews : ∀ j u, news[j]? = some u → w.cell? (ad.add j) = some u)
    (h1 : ∀ u ∈ news, u.oneCell' = true) (hs : a.eval s = v) (hx : a.eval x = .slice (some ad) m c)
    (hl : (n + m) * bytes ≤ 140737488355328) (hn : n + m ≤ maxLen) (hm : 0 < m)
    (h : ∀ v' r' w', RowAt w' e size v' r' (n + m) (xs ++ news) → Chg (fun k => some k = r) w w' → NewOr w r r' → wpList P ops Q rest (a.put o.dst v') w') :
    wpList P ops Q (o :: rest) a w := by
  obtain ⟨i0, hi, hz0, hz1, hz2⟩ := info_parts hinfo
  obtain ⟨v', r', w', hrun, hR, hC, hN⟩ := run_append_row (P := P) w t o.type e i0 z size bytes ht hi hz0 hz1 hz2 hz v r n xs HO ad m c news hln hnews h1 hn hl hm
  refine wpList_plain hgd fun K hK' => ?_
  unfold Oper.wp execOp
  simp only [ho, resolve, invoke, builtin, Sem.run_bind, Sem.run_pure, Result.andThen_ok, List.map_toArray, List.map_cons, List.map_nil, hs, hx, hrun]
  exact hK' _ _ (h v' r' w' hR hC hN)

theorem row_not {w : World} {e size n b : Nat} {v : Value} {r : Option Nat} {xs : List Value} {c : Array Value} {t : Nat} {f : Nat × Nat} (h : RowAt w e size v r n xs) (hb : w.heap[b]? = some (.cells c t f)) (hne : t ≠ e) : r ≠ some b := by
  intro hr
  rcases h.2 with ⟨_, h0, _⟩ | ⟨g, off, cap, cur, hv, h0, hg, _⟩
  · rw [h0] at hr; cases hr
  · rw [h0] at hr; cases hr
    rw [hg] at hb
    injection hb with hb
    injection hb with _ ht _
    exact hne ht.symm
theorem row_not_map {w : World} {e size n b : Nat} {v : Value} {r : Option Nat} {xs : List Value} {P : Program} {kt et k : Nat} {f : Lit → Option Lit} (h : RowAt w e size v r n xs) (hb : MapAt P kt et w b k f) : r ≠ some b := by
  intro hr
  obtain ⟨es, clock, hm⟩ := hb.obj
  rcases h.2 with ⟨_, h0, _⟩ | ⟨g, off, cap, cur, hv, h0, hg, _⟩
  · rw [h0] at hr; cases hr
  · rw [h0] at hr; cases hr
    rw [hg] at hm; cases hm
end Go.Proofs.Ytlniohgnkihefaa
namespace Go.Proofs.Ytlniohgnkihefaa
open Go.RowKit

def U64At (w : World) (k : Nat) : Prop := ∃ c, w.heap[k]? = some (.cells c 101 (0, 0))
theorem cells64_plain (ws : List Nat) : ∀ u ∈ cells64 ws, u.oneCell' = true := by
  intro u hu
  obtain ⟨z, _, rfl⟩ := List.mem_map.1 hu
  rfl
theorem cells64_length (ws : List Nat) : (cells64 ws).length = ws.length := by simp [cells64]
/-- A copy of the words: its cells, in a block of its own. -/
def Copied (w : World) (ws : List Nat) (e : Ending) (w' : World) : Prop :=
  Below w.heap.size w w' ∧ ∃ A c, e = .returned (.slice A ws.length c) ∧ (0 < ws.length → ∃ g off, A = some ⟨g, off, none⟩ ∧ w.heap.size ≤ g ∧ U64At w' g ∧ ∀ j u, (cells64 ws)[j]? = some u → w'.cell? ⟨g, off + j, none⟩ = some u)
/-- .. and as a row that can be written. -/
def CopyRow (w : World) (ws : List Nat) (e : Ending) (w' : World) : Prop := ∃ v r', e = .returned v ∧ RowAt w' 101 1 v r' ws.length (cells64 ws) ∧ ∀ k, r' = some k → w.heap.size ≤ k
set_option maxHeartbeats 1000000 in
set_option maxRecDepth 100000 in
theorem clone64_both (v : Value) (r : Option Nat) (ws : List Nat) (w : World) (hl : ws.length ≤ 1024) (h : RowAt w 101 1 v r ws.length (cells64 ws)) :
    Calls Try.prog 65 #[v] w fun e w' => Copied w ws e w' ∧ CopyRow w ws e w' := by
  have qS : ∀ (w : World) (a : Option Addr) (n c n' c' : Nat), (binOp .eql 79 (.slice a n c) (.slice none n' c')).run Try.prog w = .ok (.bool a.isNone) w := fun w a n c n' c' => Go.Lib.run_eql_slice_nil (P := Try.prog) w 79 101 a n c n' c' Try.underlying79
  obtain ⟨A, c, rfl, _⟩ := h.shape
  cases ws with
  | nil =>
    have hA := h.2
    clear h
    cases A with
    | none =>
      go_enter Try.func65, Try.ntmps65
      go_wp2_with fail
      go_ret
      exact ⟨⟨Below.refl _ _, none, 0, rfl, fun hp => by cases hp⟩, _, none, rfl, RowAt.nil _ _ _, fun _ e => by cases e⟩
    | some ad =>
      clear hA
      go_enter Try.func65, Try.ntmps65
      go_wp2_with fail
      go_ret
      exact ⟨⟨(Below.refl _ _).alloc (Nat.le_refl _) _, _, _, rfl, fun hp => by cases hp⟩, _, some w.heap.size, rfl, ⟨rfl, .inr ⟨w.heap.size, 0, 0, #[], rfl, rfl, heap_alloc_new w _, Nat.le_refl _, Nat.zero_le _, by simp, by simp [cells64]⟩⟩, fun k e => by cases e; exact Nat.le_refl _⟩
  | cons x ws =>
    obtain ⟨g, off, cap, hv, _, _, _, hg, hx, _⟩ := h.form (by simp)
    injection hv with h1 _ _
    subst h1
    have HX := Lib.hid hx
    clear hx h
    have hrow : RowAt (w.alloc (.cells #[] 101)) 101 1 (.slice (some ⟨w.heap.size, 0, none⟩) 0 0) (some w.heap.size) 0 [] := ⟨rfl, .inr ⟨w.heap.size, 0, 0, #[], rfl, rfl, heap_alloc_new w _, Nat.le_refl _, Nat.zero_le _, by simp, by simp⟩⟩
    have HROW := Lib.hid hrow
    clear hrow
    have hb1 : (0 + (ws.length + 1)) * 8 ≤ 140737488355328 := by simp at hl; omega
    have hb2 : 0 + (ws.length + 1) ≤ maxLen := by simp at hl; unfold maxLen; omega
    go_enter Try.func65, Try.ntmps65
    go_wp2_with (at_builtin; go_must (refine wpList_append_row _ rfl _ _ 79 101 _ 1 8 rfl Try.underlying79 info_u64 rfl HROW.out ⟨g, off, none⟩ (ws.length + 1) c (cells64 (x :: ws)) (by simp [cells64]) (fun j u hu => by rw [Addr.add_lit]; exact ((Below.refl w.heap.size w).alloc (Nat.le_refl _) _).cell (p := ⟨g, off + j, none⟩) hg |>.trans (HX.out j u hu)) (cells64_plain _) rfl rfl hb1 hb2 (by omega) ?_); intro v' r' w2 hR hC hN; obtain ⟨A', c', rfl, _⟩ := hR.shape; have HR := Lib.hid hR; have HC := Lib.hid hC; have HN := Lib.hid hN; clear hR hC hN)
    go_ret
    have hb : Below w.heap.size w w2 := ((Below.refl w.heap.size w).alloc (Nat.le_refl _) _).trans (HC.out.below (by simp) fun k e => by injection e with e; omega)
    have hR := HR.out
    rw [List.nil_append, Nat.zero_add] at hR
    refine ⟨⟨hb, A', c', by simp, fun _ => ?_⟩, _, r', by simp, hR, HN.out.ge (B := w.heap.size) (by simp) (fun k e => by injection e with e; omega)⟩
    obtain ⟨g', off', cap', hv', hr', _, _, hg', hcell, _⟩ := hR.form (by omega)
    injection hv' with h1 _ _
    refine ⟨g', off', h1, HN.out.ge (B := w.heap.size) (by simp) (fun k e => by injection e with e; omega) _ hr', ?_, hcell⟩
    rcases hR.2 with ⟨_, h0, _⟩ | ⟨g2, off2, cap2, cur2, _, h0, hh, _⟩
    · rw [h0] at hr'; cases hr'
    · rw [h0] at hr'; cases hr'; exact ⟨_, hh⟩
theorem clone64_any (v : Value) (r : Option Nat) (ws : List Nat) (w : World) (hl : ws.length ≤ 1024) (h : RowAt w 101 1 v r ws.length (cells64 ws)) :
    Calls Try.prog 65 #[v] w (Copied w ws) := (clone64_both v r ws w hl h).mono fun _ _ h => h.1
end Go.Proofs.Ytlniohgnkihefaa
namespace Go.Proofs.Ytlniohgnkihefaa
open Go.RowKit

set_option maxHeartbeats 1000000 in
set_option maxRecDepth 100000 in
theorem clone_any {w : World} {b : Nat} {r : Option Nat} {ws : List Nat} (h : BitsAt w b r ws) :
    Calls Try.prog 56 #[.pointer (some ⟨b, 0, none⟩)] w fun e w' => ∃ b' r', e = .returned (.pointer (some ⟨b', 0, none⟩)) ∧ NewBits w w' b' r' ws := by
  obtain ⟨v, hb1, hb2⟩ := h.ex
  obtain ⟨A, ca, rfl, _⟩ := hb2.shape
  have hb3 := cell_of_one hb1
  have H := Lib.hid h
  have HB2 := Lib.hid hb2
  clear h hb1 hb2
  go_enter Try.func56, Try.ntmps56
  go_wp2_with fail
  refine (words_cell _ _ _ hb3).mono ?_
  rintro e w' ⟨rfl, rfl⟩
  go_wp2_with fail
  refine (clone64_both _ _ ws w H.out.len HB2.out).mono ?_
  rintro e w1 ⟨⟨hB, _⟩, v, r', rfl, hR, hn⟩
  obtain ⟨A', c', rfl, _⟩ := hR.shape
  have HB := Lib.hid hB
  have HR := Lib.hid hR
  have HN := Lib.hid hn
  clear hB hR hn
  go_wp2_with fail
  go_ret
  exact ⟨w1.heap.size, r', rfl, ⟨⟨_, heap_alloc_new w1 _, HR.out.alloc _⟩, H.out.lt, H.out.len⟩, HB.out.alloc HB.out.size _, HB.out.size, HN.out⟩

end Go.Proofs.Ytlniohgnkihefaa
namespace Go.Proofs.Ytlniohgnkihefaa
open Go.RowKit

def insAgg (x : Ins) (A : Option Addr) (c : Nat) : Value := .agg #[.int .i64 x.kind, .int .i64 x.op, .int .i64 x.d, .int .i64 x.a, .int .i64 x.b, .int .i32 x.num, .string x.name, .slice A x.args.length c]
/-- What an instruction asks. -/
def askP (x : Ins) (n : Nat) : Bool := ofSet x.args n || (inR x.a && n == x.a.toNat) || (inR x.b && n == x.b.toNat)
def pureP (x : Ins) : Bool := decide (x.kind = 1 ∨ x.kind = 2 ∨ x.kind = 3) || (decide (x.kind = 4) && (decide (x.op ≠ 4) && decide (x.op ≠ 5))) || (decide (x.kind = 5) && decide (x.a < 0))
theorem reads_alloc {w : World} {A : Option Addr} {xs : List Value} (h : ReadsAt w A xs) (o : Obj) : ReadsAt (w.alloc o) A xs := h.kept (S := fun _ => False) ((Chg.refl _ w).alloc o) fun _ _ _ _ h => h
theorem box_at (w : World) (cs : Array Value) (t j : Nat) (v : Value) (h : cs[j]? = some v) : (w.alloc (.cells cs t)).cell? ⟨w.heap.size, j, none⟩ = some v := (cell_of_row _ _ j _ _ _ (heap_alloc_new w _)).trans h

set_option maxHeartbeats 1000000 in
theorem asked_any (x : Ins) (hx : InsOk x) (A : Option Addr) (c : Nat) (w : World) (hr : ReadsAt w A (ints x.args)) :
    Calls Try.prog 60 #[insAgg x A c] w fun e w' => ∃ b r ws, e = .returned (.pointer (some ⟨b, 0, none⟩)) ∧ NewBits w w' b r ws ∧ ∀ n, memW ws n = askP x n := by
  obtain ⟨kind, op, d, a, b, num, name, args⟩ := x
  dsimp only [insAgg, askP] at hr ⊢
  have hA : I64 a := hx.a
  have hB : I64 b := hx.b
  have hz := hx.args
  have hl := hx.nargs
  have HR := Lib.hid (reads_alloc hr (.cells #[.int .i64 kind, .int .i64 op, .int .i64 d, .int .i64 a, .int .i64 b, .int .i32 num, .string name, .slice A args.length c] 48))
  have HO := Lib.hid fun W hR => of_any A c args W (by unfold maxLen at hl; exact hl) hz hR
  have h3 := box_at w #[.int .i64 kind, .int .i64 op, .int .i64 d, .int .i64 a, .int .i64 b, .int .i32 num, .string name, .slice A args.length c] 48 3 (.int .i64 a) rfl
  have h4 := box_at w #[.int .i64 kind, .int .i64 op, .int .i64 d, .int .i64 a, .int .i64 b, .int .i32 num, .string name, .slice A args.length c] 48 4 (.int .i64 b) rfl
  have HB0 := Lib.hid (((Below.refl _ w).alloc (Nat.le_refl _) (.cells #[.int .i64 kind, .int .i64 op, .int .i64 d, .int .i64 a, .int .i64 b, .int .i32 num, .string name, .slice A args.length c] 48)))
  have H34 := Lib.hid (And.intro h3 h4)
  have HAB := Lib.hid (And.intro hA hB)
  clear hr hz hl hx h3 h4 hA hB
  go_enter Try.func60, Try.ntmps60
  go_wp2_with fail
  refine (HO.out _ HR.out).mono ?_
  rintro e w1 ⟨b1, r1, ws1, rfl, hN, hm⟩
  have h3 := (hN.below.cell (p := ⟨w.heap.size, 3, none⟩) (by simp)).trans H34.out.1
  have h4 := (hN.below.cell (p := ⟨w.heap.size, 4, none⟩) (by simp)).trans H34.out.2
  have HN := Lib.hid hN
  have HM := Lib.hid hm
  have H4 := Lib.hid h4
  clear hN hm h4
  go_wp2_with fail
  refine (put_any HN.out.at_ a HAB.out.1).mono ?_
  rintro e w2 ⟨rfl, r2, ws2, hG, hm2⟩
  have hne : ¬ FootB b1 r1 w.heap.size := by
    have h5 := HN.out.nb
    rintro (e | e)
    · simp at h5; omega
    · have h6 := HN.out.nr _ e.symm
      rw [World.size_alloc] at h6
      omega
  have h4 := hG.chg.cell H4.out hne
  have HG := Lib.hid hG
  have HM2 := Lib.hid hm2
  clear hG hm2 hne
  go_wp2_with fail
  refine (put_any HG.out.at_ b HAB.out.2).mono ?_
  rintro e w3 ⟨rfl, r3, ws3, hG, hm3⟩
  have HG3 := Lib.hid hG
  have HM3 := Lib.hid hm3
  clear hG hm3
  go_wp2_with fail
  go_ret
  have hN3 := (HN.out.grow HG.out).grow HG3.out
  refine ⟨b1, r3, ws3, rfl, ⟨hN3.at_, HB0.out.trans (hN3.below.mono (by simp)), by have := hN3.nb; simp at this; omega, fun k hk => by have := hN3.nr k hk; simp at this; omega⟩, fun n => ?_⟩
  rw [HM3.out, put_mem, HM2.out, put_mem, HM.out]
theorem pure_any (x : Ins) (A : Option Addr) (c : Nat) (w : World) :
    Calls Try.prog 44 #[insAgg x A c] w fun e w' => e = .returned (.bool (pureP x)) ∧ Below w.heap.size w w' := by
  obtain ⟨kind, op, d, a, b, num, name, args⟩ := x
  dsimp only [insAgg, pureP]
  have HB := Lib.hid ((Below.refl _ w).alloc (Nat.le_refl _) (.cells #[.int .i64 kind, .int .i64 op, .int .i64 d, .int .i64 a, .int .i64 b, .int .i32 num, .string name, .slice A args.length c] 48))
  by_cases k1 : kind = 1
  · subst k1
    go_enter Try.func44, Try.ntmps44
    go_wp2
    go_ret
    exact ⟨by simp, HB.out⟩
  by_cases k2 : kind = 2
  · subst k2
    go_enter Try.func44, Try.ntmps44
    go_wp2
    go_ret
    exact ⟨by simp, HB.out⟩
  by_cases k3 : kind = 3
  · subst k3
    go_enter Try.func44, Try.ntmps44
    go_wp2
    go_ret
    exact ⟨by simp, HB.out⟩
  have q1 : (kind == 1) = false := beq_eq_false_iff_ne.2 k1
  have q2 : (kind == 2) = false := beq_eq_false_iff_ne.2 k2
  have q3 : (kind == 3) = false := beq_eq_false_iff_ne.2 k3
  by_cases k4 : kind = 4
  · subst k4
    clear q1 q2 q3 k1 k2 k3
    by_cases o4 : op = 4
    · subst o4
      go_enter Try.func44, Try.ntmps44
      go_wp2
      go_ret
      exact ⟨by simp, HB.out⟩
    · have p4 : (op != 4) = true := bne_iff_ne.2 o4
      by_cases o5 : op = 5
      · subst o5
        go_enter Try.func44, Try.ntmps44
        go_wp2
        go_ret
        exact ⟨by simp, HB.out⟩
      · have p5 : (op != 5) = true := bne_iff_ne.2 o5
        go_enter Try.func44, Try.ntmps44
        go_wp2
        go_ret
        exact ⟨by simp [o4, o5], HB.out⟩
  have q4 : (kind == 4) = false := beq_eq_false_iff_ne.2 k4
  by_cases k5 : kind = 5
  · subst k5
    clear q1 q2 q3 q4 k1 k2 k3 k4
    by_cases ha : a < 0
    · have pa : decide (a < 0) = true := decide_eq_true ha
      go_enter Try.func44, Try.ntmps44
      go_wp2
      go_ret
      exact ⟨by simp [ha], HB.out⟩
    · have pa : decide (a < 0) = false := decide_eq_false ha
      go_enter Try.func44, Try.ntmps44
      go_wp2
      go_ret
      exact ⟨by simp, HB.out⟩
  have q5 : (kind == 5) = false := beq_eq_false_iff_ne.2 k5
  go_enter Try.func44, Try.ntmps44
  go_wp2
  go_ret
  exact ⟨by simp [k1, k2, k3, k4, k5], HB.out⟩

def blkAgg (k : Blk) (A : Option Addr) (c : Nat) : Value := .agg #[.slice A k.ins.length c, .int .i64 k.kind, .int .i64 k.a, .int .i64 k.to, .int .i64 k.els]
/-- The blocks that a block goes on to. -/
def nextP (k : Blk) : List Int := if k.kind = 1 then [k.to] else if k.kind = 2 then [k.to, k.els] else []
/-- Numbers in a block of their own. -/
def IntsAt (W : World) (A : Option Addr) (l : List Int) : Prop := 0 < l.length → ∃ g, A = some ⟨g, 0, none⟩ ∧ W.heap[g]? = some (.cells (ints l).toArray 3 (0, 0))
theorem next_any (k : Blk) (A : Option Addr) (c : Nat) (w : World) :
    Calls Try.prog 38 #[blkAgg k A c] w fun e w' => ∃ A' c', e = .returned (.slice A' (nextP k).length c') ∧ IntsAt w' A' (nextP k) ∧ Below w.heap.size w w' := by
  obtain ⟨ins, kind, a, to, els⟩ := k
  dsimp only [blkAgg, nextP]
  have HB := Lib.hid ((Below.refl _ w).alloc (Nat.le_refl _) (.cells #[.slice A ins.length c, .int .i64 kind, .int .i64 a, .int .i64 to, .int .i64 els] 45))
  by_cases k1 : kind = 1
  · subst k1
    go_enter Try.func38, Try.ntmps38
    go_wp2
    go_ret
    refine ⟨_, ⟨_, rfl⟩, ?_, HB.out.alloc HB.out.size _⟩
    intro _
    have h := heap_alloc_new (w.alloc (.cells #[.slice A ins.length c, .int .i64 1, .int .i64 a, .int .i64 to, .int .i64 els] 45)) (.cells #[.int .i64 to] 3)
    rw [World.size_alloc] at h
    exact ⟨_, rfl, h⟩
  by_cases k2 : kind = 2
  · subst k2
    go_enter Try.func38, Try.ntmps38
    go_wp2
    go_ret
    refine ⟨_, ⟨_, rfl⟩, ?_, HB.out.alloc HB.out.size _⟩
    intro _
    have h := heap_alloc_new (w.alloc (.cells #[.slice A ins.length c, .int .i64 2, .int .i64 a, .int .i64 to, .int .i64 els] 45)) (.cells #[.int .i64 to, .int .i64 els] 3)
    rw [World.size_alloc] at h
    exact ⟨_, rfl, h⟩
  have q1 : (kind == 1) = false := beq_eq_false_iff_ne.2 k1
  have q2 : (kind == 2) = false := beq_eq_false_iff_ne.2 k2
  rw [if_neg k1, if_neg k2]
  go_enter Try.func38, Try.ntmps38
  go_wp2
  go_ret
  first | exact ⟨none, ⟨0, rfl⟩, (fun h => by cases h), HB.out⟩ | exact ⟨none, 0, rfl, (fun h => by cases h), HB.out⟩
/-- What is live ahead of a block's end. -/
def endP (k : Blk) (S : Nat → Bool) (n : Nat) : Bool := S n || (decide (k.kind ≠ 1) && (inR k.a && n == k.a.toNat))
set_option maxHeartbeats 1000000 in
theorem ending_any (k : Blk) (hk : BlkOk k) (A : Option Addr) (c : Nat) {w : World} {b : Nat} {r : Option Nat} {ws : List Nat} (h : BitsAt w b r ws) :
    Calls Try.prog 40 #[blkAgg k A c, .pointer (some ⟨b, 0, none⟩)] w fun e w' => ∃ b' r' ws', e = .returned (.pointer (some ⟨b', 0, none⟩)) ∧ NewBits w w' b' r' ws' ∧ ∀ n, memW ws' n = endP k (memW ws) n := by
  obtain ⟨ins, kind, a, to, els⟩ := k
  dsimp only [blkAgg, endP]
  have HA := Lib.hid hk.a
  have HB := Lib.hid ((Below.refl _ w).alloc (Nat.le_refl _) (.cells #[.slice A ins.length c, .int .i64 kind, .int .i64 a, .int .i64 to, .int .i64 els] 45))
  have H := Lib.hid (h.kept ((Chg.refl (fun _ => False) w).alloc (.cells #[.slice A ins.length c, .int .i64 kind, .int .i64 a, .int .i64 to, .int .i64 els] 45)) (fun h => h) fun _ _ h => h)
  have h1 := box_at w #[.slice A ins.length c, .int .i64 kind, .int .i64 a, .int .i64 to, .int .i64 els] 45 1 (.int .i64 kind) rfl
  have h2 := box_at w #[.slice A ins.length c, .int .i64 kind, .int .i64 a, .int .i64 to, .int .i64 els] 45 2 (.int .i64 a) rfl
  have H12 := Lib.hid (And.intro h1 h2)
  clear hk h h1 h2
  go_enter Try.func40, Try.ntmps40
  go_wp2_with fail
  refine (clone_any H.out).mono ?_
  rintro e w1 ⟨b1, r1, rfl, hN⟩
  have h1 := (hN.below.cell (p := ⟨w.heap.size, 1, none⟩) (by simp)).trans H12.out.1
  have h2 := (hN.below.cell (p := ⟨w.heap.size, 2, none⟩) (by simp)).trans H12.out.2
  have HN := Lib.hid hN
  have HW : Hid (NewBits w w1 b1 r1 ws) := Lib.hid ⟨hN.at_, HB.out.trans (hN.below.mono (by simp)), by have := hN.nb; simp at this; omega, fun k hk => by have := hN.nr k hk; simp at this; omega⟩
  clear hN
  by_cases k1 : kind = 1
  · have q1 : (kind != 1) = false := by rw [k1]; rfl
    have K1 := Lib.hid k1
    clear k1
    go_wp2_with fail
    go_ret
    exact ⟨_, _, _, rfl, HW.out, fun n => by simp [K1.out]⟩
  · have q1 : (kind != 1) = true := bne_iff_ne.2 k1
    have K1 := Lib.hid k1
    clear k1
    go_wp2_with fail
    refine (put_any HN.out.at_ a HA.out).mono ?_
    rintro e w2 ⟨rfl, r2, ws2, hG, hm⟩
    have HG := Lib.hid hG
    have HM := Lib.hid hm
    clear hG hm
    go_wp2_with fail
    go_ret
    exact ⟨_, _, _, rfl, HW.out.grow HG.out, fun n => by rw [HM.out, put_mem]; simp [K1.out]⟩
/-- What is live ahead of an instruction. -/
def aheadP (x : Ins) (S : Nat → Bool) (n : Nat) : Bool := (S n && !(n == x.d.toNat && decide (0 ≤ x.d))) || askP x n
theorem dropP_eq (ws : List Nat) (d : Int) (n : Nat) : (memW ws n && !(hasW ws d && n == d.toNat)) = (memW ws n && !(n == d.toNat && decide (0 ≤ d))) := by
  unfold hasW
  cases h : memW ws n with
  | false => simp
  | true =>
    by_cases e : n = d.toNat
    · subst e
      rw [h]; simp
    · have : (n == d.toNat) = false := by simpa using e
      simp [this]
set_option maxHeartbeats 1000000 in
theorem ahead_any (x : Ins) (hx : InsOk x) (A : Option Addr) (c : Nat) {w : World} {b : Nat} {r : Option Nat} {ws : List Nat} (h : BitsAt w b r ws) (hr : ReadsAt w A (ints x.args)) (hAf : 0 < x.args.length → ∀ g off, A = some ⟨g, off, none⟩ → ¬ FootB b r g) :
    Calls Try.prog 42 #[insAgg x A c, .pointer (some ⟨b, 0, none⟩)] w fun e w' => (∃ v, e = .returned v) ∧ ∃ r' ws', GrowAt w b r ws w' r' ws' ∧ ∀ n, memW ws' n = aheadP x (memW ws) n := by
  have hAG : insAgg x A c = .agg #[.int .i64 x.kind, .int .i64 x.op, .int .i64 x.d, .int .i64 x.a, .int .i64 x.b, .int .i32 x.num, .string x.name, .slice A x.args.length c] := rfl
  have HASK := Lib.hid fun W hR => asked_any x hx A c W hR
  have hD := hx.d
  have hblt := h.blt
  have hrlt := h.rlt
  have H0 := Lib.hid (h.kept ((Chg.refl (fun _ => False) w).alloc (.cells #[.int .i64 x.kind, .int .i64 x.op, .int .i64 x.d, .int .i64 x.a, .int .i64 x.b, .int .i32 x.num, .string x.name, .slice A x.args.length c] 48)) (fun h => h) fun _ _ h => h)
  have HC0 : Hid (Chg (FootB b r) w (w.alloc (.cells #[.int .i64 x.kind, .int .i64 x.op, .int .i64 x.d, .int .i64 x.a, .int .i64 x.b, .int .i32 x.num, .string x.name, .slice A x.args.length c] 48))) := Lib.hid ((Chg.refl _ w).alloc _)
  have HR0 := Lib.hid (reads_alloc hr (.cells #[.int .i64 x.kind, .int .i64 x.op, .int .i64 x.d, .int .i64 x.a, .int .i64 x.b, .int .i32 x.num, .string x.name, .slice A x.args.length c] 48))
  have hbx : ∀ j v, (#[.int .i64 x.kind, .int .i64 x.op, .int .i64 x.d, .int .i64 x.a, .int .i64 x.b, .int .i32 x.num, .string x.name, .slice A x.args.length c] : Array Value)[j]? = some v → (w.alloc (.cells #[.int .i64 x.kind, .int .i64 x.op, .int .i64 x.d, .int .i64 x.a, .int .i64 x.b, .int .i32 x.num, .string x.name, .slice A x.args.length c] 48)).cell? ⟨w.heap.size, j, none⟩ = some v := fun j v hv => box_at w _ _ j v hv
  have HBX := Lib.hid hbx
  have HAF := Lib.hid hAf
  have HRL := Lib.hid hrlt
  have HBL := Lib.hid hblt
  have HD := Lib.hid hD
  rw [hAG] at HASK ⊢
  clear h hr hx hbx hAf hrlt hblt hD hAG
  go_enter Try.func42, Try.ntmps42
  go_wp2_with fail
  refine (drop_any H0.out x.d HD.out.2).mono ?_
  rintro e w1 ⟨rfl, ws1, hG, hm⟩
  have hnb : ¬ FootB b r w.heap.size := by
    rintro (e | e)
    · have := HBL.out; omega
    · have := HRL.out _ e.symm; omega
  have k0 := hG.chg.cell (HBX.out 0 _ rfl) hnb
  have k1 := hG.chg.cell (HBX.out 1 _ rfl) hnb
  have k2 := hG.chg.cell (HBX.out 2 _ rfl) hnb
  have k3 := hG.chg.cell (HBX.out 3 _ rfl) hnb
  have k4 := hG.chg.cell (HBX.out 4 _ rfl) hnb
  have k5 := hG.chg.cell (HBX.out 5 _ rfl) hnb
  have k6 := hG.chg.cell (HBX.out 6 _ rfl) hnb
  have k7 := hG.chg.cell (HBX.out 7 _ rfl) hnb
  have HG := Lib.hid hG
  have HM := Lib.hid hm
  have hR1 : ReadsAt w1 A (ints x.args) := by
    by_cases hz : 0 < x.args.length
    · exact HR0.out.kept hG.chg fun g off e _ => HAF.out hz g off e
    · intro hp; exact absurd (by simpa [ints] using hp) hz
  have HR1 := Lib.hid hR1
  clear hG hm hnb hR1
  go_wp2_with fail
  refine (HASK.out _ HR1.out).mono ?_
  rintro e w2 ⟨b2, r2, ws2, rfl, hN, hm2⟩
  have hat2 : BitsAt w2 b r ws1 := HG.out.at_.kept (Chg.of_below hN.below (fun _ => False)) (fun h => h) fun _ _ h => h
  have HN := Lib.hid hN
  have HM2 := Lib.hid hm2
  have HJ := Lib.hid (join_any hat2 hN.at_ fun k hk e => by have h1 := hN.nr k hk; have h2 := HG.out.at_.rlt k e; omega)
  clear hN hm2 hat2 k0 k1 k2 k3 k4 k5 k6 k7
  go_wp2_with fail
  refine HJ.out.mono ?_
  rintro e w3 ⟨rfl, r3, ws3, hG3, hm3⟩
  have HG3 := Lib.hid hG3
  have HM3 := Lib.hid hm3
  clear hG3 hm3
  go_wp2_with fail
  go_end0
  have hbel2 : Below w1.heap.size w1 w2 := HN.out.below
  have hgr2 : GrowAt w1 b r ws1 w2 r ws1 := ⟨HG.out.at_.kept (Chg.of_below hbel2 (fun _ => False)) (fun h => h) fun _ _ h => h, Chg.of_below hbel2 _, .refl _ _⟩
  have hg0 : GrowAt w b r ws (w.alloc (.cells #[.int .i64 x.kind, .int .i64 x.op, .int .i64 x.d, .int .i64 x.a, .int .i64 x.b, .int .i32 x.num, .string x.name, .slice A x.args.length c] 48)) r ws := ⟨H0.out, HC0.out, .refl _ _⟩
  refine ⟨⟨_, rfl⟩, r3, ws3, ((hg0.trans HG.out).trans hgr2).trans HG3.out, fun n => ?_⟩
  rw [HM3.out, HM.out, HM2.out, dropP_eq]
  rfl
end Go.Proofs.Ytlniohgnkihefaa
