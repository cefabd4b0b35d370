/- Small: the programs that the laws of the middle layers look at. -/
import Derived.Test.YtlniohgnkihefaaMay
namespace Go.Proofs.Ytlniohgnkihefaa
open Go.RowKit
variable {T : Nat → Prop}

structure SmallV (m : Mid) : Prop where
  may : MayV m
  light : LightV m
  regs : ∀ f ∈ m.fns, f.regs ≤ 40

theorem Fine_any (m : Mid) (A B : Option Addr) (c d : Nat) (w : World) (h : RdMid w T m A c B d) :
    Calls Try.prog 15 #[.agg #[.slice A m.globals.length c, .slice B m.fns.length d]] w (Told w (MayV m ∧ LightV m)) := by
  obtain ⟨w1, hw1, hb1, hlt1, hc⟩ := box_new w #[.slice A m.globals.length c, .slice B m.fns.length d] 25
  have hc0 := hc 0
  have hc1 := hc 1
  simp only [List.getElem?_toArray, List.getElem?_cons_succ, List.getElem?_cons_zero] at hc0 hc1
  have HM := Lib.hid (mid_below h hb1)
  have HB1 := Lib.hid hb1
  have HW := Lib.hid hw1
  clear h hb1 hc hw1
  go_enter Try.func15, Try.ntmps15
  go_wp2_with fail
  rw [← HW.out]
  refine (Light_any m A B c d _ HM.out).mono ?_
  rintro e w2 ⟨t, rfl, hB2, hv⟩
  have d0 := (hB2.cell (p := ⟨w.heap.size, 0, none⟩) hlt1).trans hc0
  have d1 := (hB2.cell (p := ⟨w.heap.size, 1, none⟩) hlt1).trans hc1
  have HBW : Hid (Below w.heap.size w w2) := Lib.hid (HB1.out.trans (hB2.mono HB1.out.size))
  have HM2 := Lib.hid (mid_below HM.out hB2)
  have HV := Lib.hid hv
  clear hB2 hv
  cases t with
  | false =>
    go_wp2_with fail
    go_ret
    exact ⟨false, rfl, HBW.out, fun h => by cases h⟩
  | true =>
    go_wp2_with fail
    refine (May_any m A B c d _ HM2.out).mono ?_
    rintro e w3 ⟨t, rfl, hB3, hv⟩
    have HBW3 : Hid (Below w.heap.size w w3) := Lib.hid (HBW.out.trans (hB3.mono HBW.out.size))
    have HV3 := Lib.hid hv
    clear hB3 hv
    go_wp2_with fail
    go_ret
    exact ⟨t, rfl, HBW3.out, fun h => ⟨HV3.out h, by first | exact HV.out rfl | exact HV.out trivial⟩⟩

theorem Small_any (m : Mid) (A B : Option Addr) (c d : Nat) (w : World) (h : RdMid w T m A c B d) :
    Calls Try.prog 5 #[.agg #[.slice A m.globals.length c, .slice B m.fns.length d]] w (Told w (SmallV m)) := by
  have hlf : m.fns.length ≤ 9223372036854775807 := by have := h.nfns; unfold maxLen at this; omega
  obtain ⟨w1, hw1, hb1, hlt1, hc⟩ := box_new w #[.slice A m.globals.length c, .slice B m.fns.length d] 25
  have hc0 := hc 0
  have hc1 := hc 1
  simp only [List.getElem?_toArray, List.getElem?_cons_succ, List.getElem?_cons_zero] at hc0 hc1
  have HM := Lib.hid (mid_below h hb1)
  have HB1 := Lib.hid hb1
  have HW := Lib.hid hw1
  clear h hb1 hc hw1
  go_enter Try.func5, Try.ntmps5
  go_wp2_with fail
  rw [← HW.out]
  go_loopw [8] (fun i wr => ∃ (k : Nat), k ≤ m.fns.length ∧ i = .int .i64 (k : Nat) ∧ Below w1.heap.size w1 wr ∧ ∀ j (hl : j < m.fns.length), j < k → m.fns[j].regs ≤ 40) (fun i _ => m.fns.length - (intOf i).toNat)
  case atStart => exact ⟨0, by omega, rfl, Below.refl _ _, fun j hl hj => by omega⟩
  case round =>
    obtain ⟨k, hk, rfl, hB, hn⟩ := hrel
    have HB := Lib.hid hB
    have HK := Lib.hid hn
    have hd0 := (hB.cell (p := ⟨w.heap.size, 0, none⟩) hlt1).trans hc0
    have hd1 := (hB.cell (p := ⟨w.heap.size, 1, none⟩) hlt1).trans hc1
    have HBW : Hid (Below w.heap.size w wr) := Lib.hid (HB1.out.trans (hB.mono HB1.out.size))
    clear hB hn
    by_cases hlt : k < m.fns.length
    · obtain ⟨f, hfe⟩ : ∃ f, f = m.fns[k] := ⟨_, rfl⟩
      obtain ⟨g, off, A1, c1, rfl, hg, hok, hsub, g0, g1, g2, g3⟩ := fn_at (fns_below HM.out.fns HB.out) k hlt f hfe
      have HFE := Lib.hid hfe
      clear hok hsub hfe
      by_cases h40 : 40 < f.regs
      · go_wp2_with fail
        go_ret
        exact ⟨false, rfl, HBW.out.alloc HBW.out.size _, fun h => by cases h⟩
      · go_wp2_with fail
        go_roundw
        case rel => exact ⟨k + 1, by omega, by go_num, HB.out.alloc HB.out.size _, upto_succ (P := fun f : Fn => f.regs ≤ 40) HK.out hlt HFE.out (by show f.regs ≤ 40; omega)⟩
        case measure => simp [intOf]; omega
    · obtain rfl : k = m.fns.length := by omega
      go_wp2_with fail
      refine (Fine_any m A B c d _ (mid_below HM.out HB.out)).mono ?_
      rintro e w3 ⟨t, rfl, hB3, hv⟩
      have HBW3 : Hid (Below w.heap.size w w3) := Lib.hid (HBW.out.trans (hB3.mono HBW.out.size))
      have HV3 := Lib.hid hv
      clear hB3 hv
      go_wp2_with fail
      go_ret
      exact ⟨t, rfl, HBW3.out, fun h => ⟨(HV3.out h).1, (HV3.out h).2, fold_names fun j hl => HK.out j hl hl⟩⟩
end Go.Proofs.Ytlniohgnkihefaa
