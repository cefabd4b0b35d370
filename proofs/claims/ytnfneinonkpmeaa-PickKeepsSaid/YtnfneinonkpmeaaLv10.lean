/- Which programs of blocks may be (brazierref12.May). -/
import Derived.Test.YtnfneinonkpmeaaLv3
import Derived.Test.YtnfneinonkpmeaaLv9
namespace Go.Proofs.Ytnfneinonkpmeaa
open Go.RowKit
variable {T : Nat → Prop}

theorem fnAt_cases (fs : List Fn) (name : ByteArray) : fnAt fs name = -1 ∨ ∃ i : Nat, i < fs.length ∧ fnAt fs name = i := by
  unfold fnAt
  cases e : fs.findIdx? (fun f => f.name.toList == name.toList) with
  | none => exact .inl rfl
  | some i => exact .inr ⟨i, (List.findIdx?_eq_some_iff_getElem.1 e).1, rfl⟩
theorem globAt_cases (fs : List Glob) (name : ByteArray) : globAt fs name = -1 ∨ ∃ i : Nat, i < fs.length ∧ globAt fs name = i := by
  unfold globAt
  cases e : fs.findIdx? (fun f => f.name.toList == name.toList) with
  | none => exact .inl rfl
  | some i => exact .inr ⟨i, (List.findIdx?_eq_some_iff_getElem.1 e).1, rfl⟩
def mainName : ByteArray := ⟨#[109, 97, 105, 110]⟩

structure GlobV (m : Mid) (i : Nat) (g : Glob) : Prop where
  name : isName g.name = true
  size : 0 ≤ g.size ∧ g.size ≤ 4096
  at_ : globAt m.globals g.name = i
structure InsM (m : Mid) (x : Ins) : Prop where
  mem : x.kind = 5 ∨ x.kind = 6 → ∃ (g : Nat) (h : g < m.globals.length), globAt m.globals x.name = g ∧ (0 < m.globals[g].size ↔ 0 ≤ x.a)
  call : x.kind = 7 → ∃ (c : Nat) (h : c < m.fns.length), fnAt m.fns x.name = c ∧ m.fns[c].params = x.args.length
structure FnM (m : Mid) (i : Nat) (f : Fn) : Prop where
  fn : FnV f
  at_ : fnAt m.fns f.name = i
  noGlob : globAt m.globals f.name = -1
  ins : ∀ b ∈ f.blocks, ∀ x ∈ b.ins, InsM m x
/-- How many words the globals have. -/
def wordsL (l : List Glob) : Int := (l.map fun g => max 1 g.size).sum
structure MayV (m : Mid) : Prop where
  ng : m.globals.length ≤ 64
  words : wordsL m.globals ≤ 16384
  globs : ∀ i (h : i < m.globals.length), GlobV m i m.globals[i]
  main : ∃ (i : Nat) (h : i < m.fns.length), fnAt m.fns mainName = i ∧ m.fns[i].params ≤ 0
  fns : ∀ i (h : i < m.fns.length), FnM m i m.fns[i]

theorem wordsL_snoc (l : List Glob) (g : Glob) : wordsL (l ++ [g]) = wordsL l + max 1 g.size := by simp [wordsL]
theorem wordsL_succ {l : List Glob} {k : Nat} (h : k < l.length) {x : Glob} (he : x = l[k]) : wordsL (l.take (k + 1)) = wordsL (l.take k) + max 1 x.size := by
  rw [List.take_succ_eq_append_getElem h, wordsL_snoc, ← he]
theorem below_drewN {w w' : World} {B : Nat} (h : Below B w w') (k : Nat) : Below B w (w'.drewN k) := ⟨h.os, h.tape, h.output, h.size, h.block⟩
theorem upto_succ' {α : Type} {P : Nat → α → Prop} {l : List α} {k : Nat} (h : ∀ j (hl : j < l.length), j < k → P j l[j]) {x : α} (hk : k < l.length) (he : x = l[k]) (hp : P k x) : ∀ j (hl : j < l.length), j < k + 1 → P j l[j] := by
  intro j hl hj
  rcases Nat.lt_succ_iff_lt_or_eq.1 hj with h' | rfl
  · exact h j hl h'
  · rw [← he]; exact hp

set_option maxRecDepth 100000 in
set_option maxHeartbeats 8000000 in
theorem May_any (m : Mid) (A B : Option Addr) (c d : Nat) (w : World) (h : RdMid w T m A c B d) :
    Calls Try.prog 33 #[.agg #[.slice A m.globals.length c, .slice B m.fns.length d]] w (Told w (MayV m)) := by
  have hlf : m.fns.length ≤ 9223372036854775807 := by have := h.nfns; unfold maxLen at this; omega
  have hlg : m.globals.length ≤ 9223372036854775807 := by have := h.nglobals; unfold maxLen at this; omega
  obtain ⟨w1, hw1, hb1, hlt1, hc⟩ := box_new w #[.slice A m.globals.length c, .slice B m.fns.length d] 25
  have hc0 := hc 0
  have hc1 := hc 1
  simp only [List.getElem?_toArray, List.getElem?_cons_succ, List.getElem?_cons_zero] at hc0 hc1
  have HM := Lib.hid (mid_below h hb1)
  have HB1 := Lib.hid hb1
  have HW := Lib.hid hw1
  clear h hb1 hc hw1
  go_enter Try.func33, Try.ntmps33
  by_cases h64 : 64 < m.globals.length
  · go_wp2_with fail
    go_ret
    rw [← HW.out]
    exact ⟨false, rfl, HB1.out, fun h => by cases h⟩
  go_wp2_with fail
  rw [← HW.out]
  go_loopw [3, 22] (fun a i wr => ∃ (k : Nat) (z : Int), k ≤ m.globals.length ∧ i = .int .i64 (k : Nat) ∧ a = .int .i64 z ∧ Below w1.heap.size w1 wr ∧ Hid (z = wordsL (m.globals.take k) ∧ 0 ≤ z ∧ z ≤ 16384) ∧ ∀ j (hl : j < m.globals.length), j < k → GlobV m j m.globals[j]) (fun _ i _ => m.globals.length - (intOf i).toNat)
  case atStart => exact ⟨0, 0, by omega, rfl, rfl, Below.refl _ _, Lib.hid ⟨by simp [wordsL], by omega, by omega⟩, fun j hl hj => by omega⟩
  case round =>
    obtain ⟨k, z, hk, rfl, rfl, hB, HZ, hn⟩ := hrel
    have HB := Lib.hid hB
    have HK := Lib.hid hn
    have hd0 := (hB.cell (p := ⟨w.heap.size, 0, none⟩) hlt1).trans hc0
    have hd1 := (hB.cell (p := ⟨w.heap.size, 1, none⟩) hlt1).trans hc1
    have HBW : Hid (Below w.heap.size w wr) := Lib.hid (HB1.out.trans (hB.mono HB1.out.size))
    clear hB hn
    by_cases hlt : k < m.globals.length
    · obtain ⟨x, hxe⟩ : ∃ x, x = m.globals[k] := ⟨_, rfl⟩
      obtain ⟨g, off, rfl, hg, ⟨hs, hsz⟩, g0, g1⟩ := glob_at (globs_below HM.out.globals HB.out) k hlt x hxe
      have hsz1 := hsz.2
      have HXE := Lib.hid hxe
      have HS := Lib.hid hs
      obtain ⟨w2, hw2, hb2, hlt2, hcb⟩ := box_new wr #[.string x.name, .int .i64 x.size] 83
      have HW2 := Lib.hid hw2
      have HB2 := Lib.hid hb2
      have e0 := hcb 0
      have e1 := hcb 1
      simp only [List.getElem?_toArray, List.getElem?_cons_succ, List.getElem?_cons_zero] at e0 e1
      have HBW2 : Hid (Below w.heap.size w w2) := Lib.hid (HBW.out.trans (hb2.mono HBW.out.size))
      clear hs hxe hsz hw2 hb2 hcb
      go_wp2_with fail
      all_goals
        rw [← HW2.out]
        refine (IsName_any x.name _ HS.out).mono ?_
        rintro e w3 ⟨rfl, hB3⟩
        first | (rw [show wrap64 (z + 1) = wrap64 (z + 1) from rfl]; obtain ⟨y, hy⟩ : ∃ y, y = wrap64 (z + 1) := ⟨_, rfl⟩; rw [← hy]; have HY : Hid (x.size ≤ 4096 → y = z + max 1 x.size) := Lib.hid (fun h9 => by rw [hy, IntWalk.wrap64_in _ ⟨by have := HZ.out; omega, by have := HZ.out; omega⟩]; omega); clear hy) | (obtain ⟨y, hy⟩ : ∃ y, y = wrap64 (z + x.size) := ⟨_, rfl⟩; rw [← hy]; have HY : Hid (x.size ≤ 4096 → y = z + max 1 x.size) := Lib.hid (fun h9 => by rw [hy, IntWalk.wrap64_in _ ⟨by have := HZ.out; omega, by have := HZ.out; omega⟩]; omega); clear hy)
        have e0' := (hB3.cell (p := ⟨wr.heap.size, 0, none⟩) hlt2).trans e0
        have e1' := (hB3.cell (p := ⟨wr.heap.size, 1, none⟩) hlt2).trans e1
        have HBW3 : Hid (Below w.heap.size w w3) := Lib.hid (HBW2.out.trans (hB3.mono HBW2.out.size))
        have hB13 : Below w1.heap.size w1 w3 := HB.out.trans (HB2.out.mono HB.out.size) |>.trans (hB3.mono (Nat.le_trans HB.out.size HB2.out.size))
        have f0 := (hB13.cell (p := ⟨w.heap.size, 0, none⟩) hlt1).trans hc0
        have f1 := (hB13.cell (p := ⟨w.heap.size, 1, none⟩) hlt1).trans hc1
        have HB13 := Lib.hid hB13
        clear hB3 hB13 e0 e1
        rcases Bool.eq_false_or_eq_true (isName x.name) with h | h
        case' inr => rw [h]; go_wp2_with fail; go_ret; exact ⟨false, rfl, HBW3.out, fun h => by cases h⟩
        rw [h]
        have HN := Lib.hid h
        clear h
        by_cases s0 : x.size < 0
        case' pos => first | (exfalso; omega) | (go_wp2_with fail; go_ret; exact ⟨false, rfl, HBW3.out, fun h => by cases h⟩)
        by_cases s1 : 4096 < x.size
        case' pos => first | (exfalso; omega) | (go_wp2_with fail; go_ret; exact ⟨false, rfl, HBW3.out, fun h => by cases h⟩)
        by_cases y4 : 16384 < y
        case' pos => go_wp2_with fail; go_ret; exact ⟨false, rfl, HBW3.out, fun h => by cases h⟩
        go_wp2_with fail
        refine (GlobalAt_any m _ B c d x.name _ (mid_below HM.out HB13.out)).mono ?_
        rintro e w4 ⟨rfl, hB4⟩
        have HB14 : Hid (Below w1.heap.size w1 w4) := Lib.hid (HB13.out.trans (hB4.mono HB13.out.size))
        have HBW4 : Hid (Below w.heap.size w w4) := Lib.hid (HBW3.out.trans (hB4.mono HBW3.out.size))
        clear hB4
        by_cases hk' : globAt m.globals x.name = (k : Nat)
        case' neg => have hkf : (globAt m.globals x.name != (k : Int)) = true := bne_iff_ne.2 hk'; go_wp2_with fail; go_ret; exact ⟨false, rfl, HBW4.out, fun h => by cases h⟩
        have HG := Lib.hid hk'
        rw [hk']
        clear hk'
        go_wp2_with fail
        go_roundw
        case rel => exact ⟨k + 1, _, by omega, by go_num, rfl, HB14.out, Lib.hid ⟨by rw [wordsL_succ hlt HXE.out, ← HZ.out.1]; exact HY.out (by omega), by have := HY.out (by omega); have := HZ.out; omega, by omega⟩, upto_succ' HK.out hlt HXE.out ⟨HN.out, ⟨s0, s1⟩, HG.out⟩⟩
        case measure => simp [intOf]; omega
    · obtain rfl : k = m.globals.length := by omega
      have HWD : Hid (wordsL m.globals ≤ 16384) := Lib.hid (by have h := HZ.out; rw [List.take_length] at h; omega)
      have HGL := Lib.hid (fun j hl => HK.out j hl hl)
      clear HK
      go_wp2_with fail
      refine (FnAt_any m A B c d mainName _ (mid_below HM.out HB.out)).mono ?_
      rintro e w3 ⟨rfl, hB3⟩
      have HB3 : Hid (Below w1.heap.size w1 w3) := Lib.hid (HB.out.trans (hB3.mono HB.out.size))
      have HBW3 : Hid (Below w.heap.size w w3) := Lib.hid (HBW.out.trans (hB3.mono HBW.out.size))
      have f0 := (HB3.out.cell (p := ⟨w.heap.size, 0, none⟩) hlt1).trans hc0
      have f1 := (HB3.out.cell (p := ⟨w.heap.size, 1, none⟩) hlt1).trans hc1
      clear hB3 hd0 hd1
      rcases fnAt_cases m.fns mainName with h | ⟨km, hkm, h⟩
      · rw [h]
        go_wp2_with fail; go_ret; exact ⟨false, rfl, HBW3.out, fun h => by cases h⟩
      rw [h]
      have HMAIN := Lib.hid h
      clear h
      obtain ⟨fm, hfm⟩ : ∃ fm, fm = m.fns[km] := ⟨_, rfl⟩
      obtain ⟨g, off, A1, c1, rfl, hg, hok, hsub, g0, g1, g2, g3⟩ := fn_at (fns_below HM.out.fns HB3.out) km hkm fm hfm
      have HFM := Lib.hid hfm
      clear hfm hok hsub g0 g2 g3
      by_cases p0 : 0 < fm.params
      · go_wp2_with fail; go_ret; exact ⟨false, rfl, HBW3.out, fun h => by cases h⟩
      go_wp2_with fail
      clear g1 hg
      have hlt3 : w.heap.size < w3.heap.size := Nat.lt_of_lt_of_le hlt1 HB3.out.size
      have HM3 := Lib.hid (mid_below HM.out HB3.out)
      clear HB HM hc0 hc1
      go_loopw [75] (fun i wr => ∃ (k : Nat), k ≤ m.fns.length ∧ i = .int .i64 (k : Nat) ∧ Below w3.heap.size w3 wr ∧ ∀ j (hl : j < m.fns.length), j < k → FnM m j m.fns[j]) (fun i _ => m.fns.length - (intOf i).toNat)
      case atStart => exact ⟨0, by omega, rfl, Below.refl _ _, fun j hl hj => by omega⟩
      case round =>
        obtain ⟨k, hk, rfl, hB, hn⟩ := hrel
        have HB := Lib.hid hB
        have HK := Lib.hid hn
        have hd0 := (hB.cell (p := ⟨w.heap.size, 0, none⟩) hlt3).trans f0
        have hd1 := (hB.cell (p := ⟨w.heap.size, 1, none⟩) hlt3).trans f1
        have HBW : Hid (Below w.heap.size w wr) := Lib.hid (HBW3.out.trans (hB.mono HBW3.out.size))
        clear hB hn
        by_cases hlt : k < m.fns.length
        · obtain ⟨f, hfe⟩ : ∃ f, f = m.fns[k] := ⟨_, rfl⟩
          obtain ⟨g', off', A2, c2, hAe, hg, hok, hsub, g0, g1, g2, g3⟩ := fn_at (fns_below HM3.out.fns HB.out) k hlt f hfe
          injection hAe with hAe; injection hAe with q1 q2; subst q1; subst q2
          have HFE := Lib.hid hfe
          have HOK := Lib.hid hok
          have HSUB := Lib.hid hsub
          have hbl : f.blocks.length ≤ 9223372036854775807 := by have := hok.nblocks; unfold maxLen at this; omega
          obtain ⟨w4, hw4, hb4, hlt4, hcb⟩ := box_new wr #[.string f.name, .int .i64 f.params, .int .i64 f.regs, .slice A2 f.blocks.length c2] 30
          have HW4 := Lib.hid hw4
          have HB4 := Lib.hid hb4
          have e0 := hcb 0
          have e3 := hcb 3
          simp only [List.getElem?_toArray, List.getElem?_cons_succ, List.getElem?_cons_zero] at e0 e3
          have HB34 : Hid (Below w3.heap.size w3 w4) := Lib.hid (HB.out.trans (hb4.mono HB.out.size))
          have HBW4 : Hid (Below w.heap.size w w4) := Lib.hid (HBW.out.trans (hb4.mono HBW.out.size))
          clear hfe hok hsub hw4 hb4 hcb
          go_wp2_with fail
          rw [← HW4.out]
          refine (MayFn_any f HOK.out A2 c2 _ (blks_below HSUB.out HB4.out)).mono ?_
          rintro e w5 ⟨t, rfl, hB5, hv⟩
          have e0' := (hB5.cell (p := ⟨wr.heap.size, 0, none⟩) hlt4).trans e0
          have e3' := (hB5.cell (p := ⟨wr.heap.size, 3, none⟩) hlt4).trans e3
          have HB45 : Hid (Below wr.heap.size wr w5) := Lib.hid (HB4.out.trans (hB5.mono HB4.out.size))
          have HB35 : Hid (Below w3.heap.size w3 w5) := Lib.hid (HB34.out.trans (hB5.mono HB34.out.size))
          have HBW5 : Hid (Below w.heap.size w w5) := Lib.hid (HBW4.out.trans (hB5.mono HBW4.out.size))
          have d0 := (HB35.out.cell (p := ⟨w.heap.size, 0, none⟩) hlt3).trans f0
          have d1 := (HB35.out.cell (p := ⟨w.heap.size, 1, none⟩) hlt3).trans f1
          have HV := Lib.hid hv
          have hlt5 : wr.heap.size < w5.heap.size := Nat.lt_of_lt_of_le hlt4 hB5.size
          clear hB5 hv e0 e3 hd0 hd1 g0 g1 g2 g3 hg
          cases t with
          | false => go_wp2_with fail; go_ret; exact ⟨false, rfl, HBW5.out, fun h => by cases h⟩
          | true =>
          have HFV := Lib.hid (HV.out rfl)
          clear HV
          go_wp2_with fail
          refine (FnAt_any m A _ c d f.name _ (mid_below HM3.out HB35.out)).mono ?_
          rintro e w6 ⟨rfl, hB6⟩
          have e0'' := (hB6.cell (p := ⟨wr.heap.size, 0, none⟩) hlt5).trans e0'
          have e3'' := (hB6.cell (p := ⟨wr.heap.size, 3, none⟩) hlt5).trans e3'
          have HB46 : Hid (Below wr.heap.size wr w6) := Lib.hid (HB45.out.trans (hB6.mono HB45.out.size))
          have HB36 : Hid (Below w3.heap.size w3 w6) := Lib.hid (HB35.out.trans (hB6.mono HB35.out.size))
          have HBW6 : Hid (Below w.heap.size w w6) := Lib.hid (HBW5.out.trans (hB6.mono HBW5.out.size))
          have d0' := (HB36.out.cell (p := ⟨w.heap.size, 0, none⟩) hlt3).trans f0
          have d1' := (HB36.out.cell (p := ⟨w.heap.size, 1, none⟩) hlt3).trans f1
          have hlt6 : wr.heap.size < w6.heap.size := Nat.lt_of_lt_of_le hlt5 hB6.size
          clear hB6 e0' e3' d0 d1
          by_cases hk' : fnAt m.fns f.name = (k : Nat)
          case' neg => have hkf : (fnAt m.fns f.name != (k : Int)) = true := bne_iff_ne.2 hk'; go_wp2_with fail; go_ret; exact ⟨false, rfl, HBW6.out, fun h => by cases h⟩
          have HFK := Lib.hid hk'
          rw [hk']
          clear hk'
          go_wp2_with fail
          refine (GlobalAt_any m A _ c d f.name _ (mid_below HM3.out HB36.out)).mono ?_
          rintro e w7 ⟨rfl, hB7⟩
          have r3 := (hB7.cell (p := ⟨wr.heap.size, 3, none⟩) hlt6).trans e3''
          have HB47 : Hid (Below wr.heap.size wr w7) := Lib.hid (HB46.out.trans (hB7.mono HB46.out.size))
          have HB37 : Hid (Below w3.heap.size w3 w7) := Lib.hid (HB36.out.trans (hB7.mono HB36.out.size))
          have HBW7 : Hid (Below w.heap.size w w7) := Lib.hid (HBW6.out.trans (hB7.mono HBW6.out.size))
          have d0 := (HB37.out.cell (p := ⟨w.heap.size, 0, none⟩) hlt3).trans f0
          have d1 := (HB37.out.cell (p := ⟨w.heap.size, 1, none⟩) hlt3).trans f1
          have hlt7 : w.heap.size < w7.heap.size := Nat.lt_of_lt_of_le hlt3 HB37.out.size
          clear hB7 e0'' e3'' d0' d1' hlt6
          rcases globAt_cases m.globals f.name with h | ⟨kg, hkg, h⟩
          case' inr =>
            rw [h]
            have hkg' : (0 : Int) ≤ (kg : Int) := by omega
            go_wp2_with fail; go_ret; exact ⟨false, rfl, HBW7.out, fun h => by cases h⟩
          rw [h]
          have HNG := Lib.hid h
          clear h
          go_wp2_with fail
          have HM7 := Lib.hid (mid_below HM3.out HB37.out)
          have HSUB7 := Lib.hid (blks_below HSUB.out HB47.out)
          go_loopw [101] (fun i wr => ∃ (k : Nat), k ≤ f.blocks.length ∧ i = .int .i64 (k : Nat) ∧ Below w7.heap.size w7 wr ∧ ∀ j (hl : j < f.blocks.length), j < k → ∀ x ∈ f.blocks[j].ins, InsM m x) (fun i _ => f.blocks.length - (intOf i).toNat)
          case atStart => exact ⟨0, by omega, rfl, Below.refl _ _, fun j hl hj => by omega⟩
          case round =>
            obtain ⟨k3, hk3, rfl, hB, hn⟩ := hrel
            have HB8 := Lib.hid hB
            have HK3 := Lib.hid hn
            have HBW8 : Hid (Below w.heap.size w wr) := Lib.hid (HBW7.out.trans (hB.mono HBW7.out.size))
            have HB38 : Hid (Below w3.heap.size w3 wr) := Lib.hid (HB37.out.trans (hB.mono HB37.out.size))
            clear hB hn
            by_cases hlt3 : k3 < f.blocks.length
            · obtain ⟨b, hbe⟩ : ∃ b, b = f.blocks[k3] := ⟨_, rfl⟩
              obtain ⟨gb, offb, A3, c3, rfl, hgb, hok, hsub, b0, b1, b2, b3, b4⟩ := blk_at (blks_below HSUB7.out HB8.out) k3 hlt3 b hbe
              have hil : b.ins.length ≤ 9223372036854775807 := by have := hok.nins; unfold maxLen at this; omega
              have HBE := Lib.hid hbe
              have HSUB8 := Lib.hid hsub
              clear hok hsub hbe
              go_wp2_with fail
              obtain ⟨w9, hw9, hb9, hlt9, hc⟩ := box_new wr #[.slice A3 b.ins.length c3, .int .i64 b.kind, .int .i64 b.a, .int .i64 b.to, .int .i64 b.els] 58
              rw [← hw9]
              have HB9 : Hid (Below w7.heap.size w7 w9) := Lib.hid (HB8.out.trans (hb9.mono HB8.out.size))
              have HBW9 : Hid (Below w.heap.size w w9) := Lib.hid (HBW8.out.trans (hb9.mono HBW8.out.size))
              have HSUB9 := Lib.hid (inss_below HSUB8.out hb9)
              have HM9 := Lib.hid (mid_below HM7.out HB9.out)
              have n0 := (HB9.out.cell (p := ⟨w.heap.size, 0, none⟩) hlt7).trans d0
              have n1 := (HB9.out.cell (p := ⟨w.heap.size, 1, none⟩) hlt7).trans d1
              have hltw9 : w.heap.size < w9.heap.size := Nat.lt_of_lt_of_le hlt7 HB9.out.size
              clear hb9 hc hw9 b0 b1 b2 b3 b4 hgb hlt9
              go_loopw [108] (fun i wr => ∃ (k : Nat), k ≤ b.ins.length ∧ i = .int .i64 (k : Nat) ∧ Below w9.heap.size w9 wr ∧ ∀ j (hl : j < b.ins.length), j < k → InsM m b.ins[j]) (fun i _ => b.ins.length - (intOf i).toNat)
              case atStart => exact ⟨0, by omega, rfl, Below.refl _ _, fun j hl hj => by omega⟩
              case round =>
                obtain ⟨k4, hk4, rfl, hB, hn⟩ := hrel
                have HBX := Lib.hid hB
                have HK4 := Lib.hid hn
                have HBWX : Hid (Below w.heap.size w wr) := Lib.hid (HBW9.out.trans (hB.mono HBW9.out.size))
                have HB7X : Hid (Below w7.heap.size w7 wr) := Lib.hid (HB9.out.trans (hB.mono HB9.out.size))
                clear hB hn
                by_cases hlt4 : k4 < b.ins.length
                · obtain ⟨x, hxe⟩ : ∃ x, x = b.ins[k4] := ⟨_, rfl⟩
                  obtain ⟨gi, offi, A4, c4, rfl, hgi, hok, _, i0, i1, i2, i3, i4, i5, i6, i7⟩ := ins_at (inss_below HSUB9.out HBX.out) k4 hlt4 x hxe
                  have hal : x.args.length ≤ 9223372036854775807 := by have := hok.nargs; unfold maxLen at this; omega
                  have HXE := Lib.hid hxe
                  obtain ⟨wy, hwy, hby, hlty, hcb⟩ := box_new wr #[.int .i64 x.kind, .int .i64 x.op, .int .i64 x.d, .int .i64 x.a, .int .i64 x.b, .int .i32 x.num, .string x.name, .slice A4 x.args.length c4] 54
                  have HWY := Lib.hid hwy
                  have y0 := hcb 0
                  have y3 := hcb 3
                  have y6 := hcb 6
                  have y7 := hcb 7
                  simp only [List.getElem?_toArray, List.getElem?_cons_succ, List.getElem?_cons_zero] at y0 y3 y6 y7
                  have HBY : Hid (Below w9.heap.size w9 wy) := Lib.hid (HBX.out.trans (hby.mono HBX.out.size))
                  have HBWY : Hid (Below w.heap.size w wy) := Lib.hid (HBWX.out.trans (hby.mono HBWX.out.size))
                  have m0 := (HBY.out.cell (p := ⟨w.heap.size, 0, none⟩) hltw9).trans n0
                  have m1 := (HBY.out.cell (p := ⟨w.heap.size, 1, none⟩) hltw9).trans n1
                  have hltwr : w.heap.size < wr.heap.size := Nat.lt_of_lt_of_le hltw9 HBX.out.size
                  have p0' := (HBX.out.cell (p := ⟨w.heap.size, 0, none⟩) hltw9).trans n0
                  have p1' := (HBX.out.cell (p := ⟨w.heap.size, 1, none⟩) hltw9).trans n1
                  clear hok hxe hwy hby hcb
                  by_cases k5 : x.kind = 5
                  · have hkd := k5
                    clear k5
                    have q5 : (x.kind == 5) = true := by rw [hkd]; rfl
                    have q6 : (x.kind == 6) = false := by rw [hkd]; rfl
                    have q7 : (x.kind == 7) = false := by rw [hkd]; rfl
                    have HKD := Lib.hid hkd
                    clear hkd
                    go_wp2_with fail
                    rw [← HWY.out]
                    refine (GlobalAt_any m A _ c d x.name _ (mid_below HM9.out HBY.out)).mono ?_
                    rintro e wz ⟨rfl, hBz⟩
                    have HBZ : Hid (Below w9.heap.size w9 wz) := Lib.hid (HBY.out.trans (hBz.mono HBY.out.size))
                    have HBWZ : Hid (Below w.heap.size w wz) := Lib.hid (HBWY.out.trans (hBz.mono HBWY.out.size))
                    have z0 := (hBz.cell (p := ⟨wr.heap.size, 0, none⟩) hlty).trans y0
                    have z3 := (hBz.cell (p := ⟨wr.heap.size, 3, none⟩) hlty).trans y3
                    have o0 := (HBZ.out.cell (p := ⟨w.heap.size, 0, none⟩) hltw9).trans n0
                    clear hBz y0 y3 y6 y7 m0 m1
                    rcases globAt_cases m.globals x.name with h | ⟨kg, hkg, h⟩
                    · rw [h]
                      go_wp2_with fail; go_quiet (fail); go_wp2_with fail; go_ret; exact ⟨false, rfl, below_drewN HBWZ.out _, fun h => by cases h⟩
                    rw [h]
                    have HGX := Lib.hid h
                    clear h
                    obtain ⟨gl, hgl⟩ : ∃ gl, gl = m.globals[kg] := ⟨_, rfl⟩
                    obtain ⟨gg, offg, rfl, hgg, _, gl0, gl1⟩ := glob_at (globs_below HM9.out.globals HBZ.out) kg hkg gl hgl
                    have HGLX := Lib.hid hgl
                    clear hgl gl0
                    have hkg0 : ¬ ((kg : Int) < 0) := by omega
                    by_cases sz : 0 < gl.size
                    · have hsz : decide (0 < gl.size) = true := decide_eq_true (by omega)
                      by_cases ax : 0 ≤ x.a
                      · have hax : decide (0 ≤ x.a) = true := decide_eq_true (by omega)
                        go_wp2_with fail
                        go_quiet (fail)
                        go_wp2_with fail
                        go_roundw
                        case rel => exact ⟨k4 + 1, by omega, by go_num, below_drewN HBZ.out _, upto_succ (P := fun x : Ins => InsM m x) HK4.out hlt4 HXE.out ⟨fun _ => ⟨kg, hkg, HGX.out, by rw [← HGLX.out]; exact ⟨fun _ => ax, fun _ => sz⟩⟩, fun h => by rw [HKD.out] at h; cases h⟩⟩
                        case measure => simp [intOf]; omega
                      · have hax : decide (0 ≤ x.a) = false := decide_eq_false (by omega)
                        go_wp2_with fail; go_quiet (fail); go_wp2_with fail; go_ret; exact ⟨false, rfl, below_drewN HBWZ.out _, fun h => by cases h⟩
                    · have hsz : decide (0 < gl.size) = false := decide_eq_false (by omega)
                      by_cases ax : 0 ≤ x.a
                      · have hax : decide (0 ≤ x.a) = true := decide_eq_true (by omega)
                        go_wp2_with fail; go_quiet (fail); go_wp2_with fail; go_ret; exact ⟨false, rfl, below_drewN HBWZ.out _, fun h => by cases h⟩
                      · have hax : decide (0 ≤ x.a) = false := decide_eq_false (by omega)
                        go_wp2_with fail
                        go_quiet (fail)
                        go_wp2_with fail
                        go_roundw
                        case rel => exact ⟨k4 + 1, by omega, by go_num, below_drewN HBZ.out _, upto_succ (P := fun x : Ins => InsM m x) HK4.out hlt4 HXE.out ⟨fun _ => ⟨kg, hkg, HGX.out, by rw [← HGLX.out]; exact ⟨fun h => by omega, fun h => by omega⟩⟩, fun h => by rw [HKD.out] at h; cases h⟩⟩
                        case measure => simp [intOf]; omega
                  by_cases k6 : x.kind = 6
                  · have hkd := k6
                    clear k6 k5
                    have q5 : (x.kind == 5) = false := by rw [hkd]; rfl
                    have q6 : (x.kind == 6) = true := by rw [hkd]; rfl
                    have q7 : (x.kind == 7) = false := by rw [hkd]; rfl
                    have HKD := Lib.hid hkd
                    clear hkd
                    go_wp2_with fail
                    rw [← HWY.out]
                    refine (GlobalAt_any m A _ c d x.name _ (mid_below HM9.out HBY.out)).mono ?_
                    rintro e wz ⟨rfl, hBz⟩
                    have HBZ : Hid (Below w9.heap.size w9 wz) := Lib.hid (HBY.out.trans (hBz.mono HBY.out.size))
                    have HBWZ : Hid (Below w.heap.size w wz) := Lib.hid (HBWY.out.trans (hBz.mono HBWY.out.size))
                    have z0 := (hBz.cell (p := ⟨wr.heap.size, 0, none⟩) hlty).trans y0
                    have z3 := (hBz.cell (p := ⟨wr.heap.size, 3, none⟩) hlty).trans y3
                    have o0 := (HBZ.out.cell (p := ⟨w.heap.size, 0, none⟩) hltw9).trans n0
                    clear hBz y0 y3 y6 y7 m0 m1
                    rcases globAt_cases m.globals x.name with h | ⟨kg, hkg, h⟩
                    · rw [h]
                      go_wp2_with fail; go_quiet (fail); go_wp2_with fail; go_ret; exact ⟨false, rfl, below_drewN HBWZ.out _, fun h => by cases h⟩
                    rw [h]
                    have HGX := Lib.hid h
                    clear h
                    obtain ⟨gl, hgl⟩ : ∃ gl, gl = m.globals[kg] := ⟨_, rfl⟩
                    obtain ⟨gg, offg, rfl, hgg, _, gl0, gl1⟩ := glob_at (globs_below HM9.out.globals HBZ.out) kg hkg gl hgl
                    have HGLX := Lib.hid hgl
                    clear hgl gl0
                    have hkg0 : ¬ ((kg : Int) < 0) := by omega
                    by_cases sz : 0 < gl.size
                    · have hsz : decide (0 < gl.size) = true := decide_eq_true (by omega)
                      by_cases ax : 0 ≤ x.a
                      · have hax : decide (0 ≤ x.a) = true := decide_eq_true (by omega)
                        go_wp2_with fail
                        go_quiet (fail)
                        go_wp2_with fail
                        go_roundw
                        case rel => exact ⟨k4 + 1, by omega, by go_num, below_drewN HBZ.out _, upto_succ (P := fun x : Ins => InsM m x) HK4.out hlt4 HXE.out ⟨fun _ => ⟨kg, hkg, HGX.out, by rw [← HGLX.out]; exact ⟨fun _ => ax, fun _ => sz⟩⟩, fun h => by rw [HKD.out] at h; cases h⟩⟩
                        case measure => simp [intOf]; omega
                      · have hax : decide (0 ≤ x.a) = false := decide_eq_false (by omega)
                        go_wp2_with fail; go_quiet (fail); go_wp2_with fail; go_ret; exact ⟨false, rfl, below_drewN HBWZ.out _, fun h => by cases h⟩
                    · have hsz : decide (0 < gl.size) = false := decide_eq_false (by omega)
                      by_cases ax : 0 ≤ x.a
                      · have hax : decide (0 ≤ x.a) = true := decide_eq_true (by omega)
                        go_wp2_with fail; go_quiet (fail); go_wp2_with fail; go_ret; exact ⟨false, rfl, below_drewN HBWZ.out _, fun h => by cases h⟩
                      · have hax : decide (0 ≤ x.a) = false := decide_eq_false (by omega)
                        go_wp2_with fail
                        go_quiet (fail)
                        go_wp2_with fail
                        go_roundw
                        case rel => exact ⟨k4 + 1, by omega, by go_num, below_drewN HBZ.out _, upto_succ (P := fun x : Ins => InsM m x) HK4.out hlt4 HXE.out ⟨fun _ => ⟨kg, hkg, HGX.out, by rw [← HGLX.out]; exact ⟨fun h => by omega, fun h => by omega⟩⟩, fun h => by rw [HKD.out] at h; cases h⟩⟩
                        case measure => simp [intOf]; omega
                  by_cases k7 : x.kind = 7
                  · have hkd := k7
                    clear k7 k6 k5
                    have q5 : (x.kind == 5) = false := by rw [hkd]; rfl
                    have q6 : (x.kind == 6) = false := by rw [hkd]; rfl
                    have q7 : (x.kind == 7) = true := by rw [hkd]; rfl
                    have HKD := Lib.hid hkd
                    clear hkd
                    go_wp2_with fail
                    rw [← HWY.out]
                    refine (FnAt_any m A _ c d x.name _ (mid_below HM9.out HBY.out)).mono ?_
                    rintro e wz ⟨rfl, hBz⟩
                    have HBZ : Hid (Below w9.heap.size w9 wz) := Lib.hid (HBY.out.trans (hBz.mono HBY.out.size))
                    have HBWZ : Hid (Below w.heap.size w wz) := Lib.hid (HBWY.out.trans (hBz.mono HBWY.out.size))
                    have z7 := (hBz.cell (p := ⟨wr.heap.size, 7, none⟩) hlty).trans y7
                    have o1 := (HBZ.out.cell (p := ⟨w.heap.size, 1, none⟩) hltw9).trans n1
                    clear hBz y0 y3 y6 y7 m0 m1
                    rcases fnAt_cases m.fns x.name with h | ⟨kg, hkg, h⟩
                    · rw [h]
                      go_wp2_with fail; go_quiet (fail); go_wp2_with fail; go_ret; exact ⟨false, rfl, below_drewN HBWZ.out _, fun h => by cases h⟩
                    rw [h]
                    have HGX := Lib.hid h
                    clear h
                    obtain ⟨gl, hgl⟩ : ∃ gl, gl = m.fns[kg] := ⟨_, rfl⟩
                    obtain ⟨gg, offg, A5, c5, hAe, hgg, _, _, gl0, gl1, gl2, gl3⟩ := fn_at (fns_below HM9.out.fns HBZ.out) kg hkg gl hgl
                    injection hAe with hAe; injection hAe with r1 r2; subst r1; subst r2
                    have HGLX := Lib.hid hgl
                    clear hgl gl0 gl2 gl3
                    have hkg0 : ¬ ((kg : Int) < 0) := by omega
                    by_cases sz : gl.params = x.args.length
                    · have szf : (gl.params != (x.args.length : Int)) = false := by rw [sz]; simp
                      have HSZ := Lib.hid sz
                      clear sz
                      go_wp2_with fail
                      go_quiet (fail)
                      go_wp2_with fail
                      go_roundw
                      case rel => exact ⟨k4 + 1, by omega, by go_num, below_drewN HBZ.out _, upto_succ (P := fun x : Ins => InsM m x) HK4.out hlt4 HXE.out ⟨fun h => by rw [HKD.out] at h; omega, fun _ => ⟨kg, hkg, HGX.out, by rw [← HGLX.out]; exact HSZ.out⟩⟩⟩
                      case measure => simp [intOf]; omega
                    · have szf : (gl.params != (x.args.length : Int)) = true := bne_iff_ne.2 sz
                      go_wp2_with fail; go_quiet (fail); go_wp2_with fail; go_ret; exact ⟨false, rfl, below_drewN HBWZ.out _, fun h => by cases h⟩
                  have q5 : (x.kind == 5) = false := beq_eq_false_iff_ne.2 k5
                  have q6 : (x.kind == 6) = false := beq_eq_false_iff_ne.2 k6
                  have q7 : (x.kind == 7) = false := beq_eq_false_iff_ne.2 k7
                  clear y3 y6 y7 m0 m1
                  go_wp2_with fail
                  rw [← HWY.out]
                  go_roundw
                  case rel => exact ⟨k4 + 1, by omega, by go_num, HBY.out, upto_succ (P := fun x : Ins => InsM m x) HK4.out hlt4 HXE.out ⟨fun h => by omega, fun h => absurd h k7⟩⟩
                  case measure => simp [intOf]; omega
                · obtain rfl : k4 = b.ins.length := by omega
                  go_wp2_with fail
                  go_roundw
                  case rel => exact ⟨k3 + 1, by omega, by go_num, HB7X.out, upto_succ (P := fun b : Blk => ∀ x ∈ b.ins, InsM m x) HK3.out hlt3 HBE.out (fold_names fun j hl => HK4.out j hl hl)⟩
                  case measure => simp [intOf]; omega
            · obtain rfl : k3 = f.blocks.length := by omega
              go_wp2_with fail
              go_roundw
              case rel => exact ⟨k + 1, by omega, by go_num, HB38.out, upto_succ' HK.out hlt HFE.out ⟨HFV.out, HFK.out, HNG.out, fold_names fun j hl => HK3.out j hl hl⟩⟩
              case measure => simp [intOf]; omega
        · obtain rfl : k = m.fns.length := by omega
          go_wp2_with fail
          go_ret
          exact ⟨true, rfl, HBW.out, fun _ => ⟨by omega, HWD.out, HGL.out, ⟨km, hkm, HMAIN.out, by rw [← HFM.out]; omega⟩, fun j hl => HK.out j hl hl⟩⟩
end Go.Proofs.Ytnfneinonkpmeaa
