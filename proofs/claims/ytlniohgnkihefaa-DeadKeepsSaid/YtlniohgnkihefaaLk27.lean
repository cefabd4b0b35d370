/- brazierref12.MayFn says yes to a function that may be. -/
import Derived.Test.YtlniohgnkihefaaLk26
import Derived.Test.YtlniohgnkihefaaLk20
namespace Go.Proofs.Ytlniohgnkihefaa
open Go.RowKit
variable {T : Nat → Prop}
theorem blkV_cases {nb n : Int} {ins : List Ins} {kind a t els : Int} (h : BlkV nb n ⟨ins, kind, a, t, els⟩) : (kind = 1 ∧ a = 0 ∧ els = 0 ∧ 0 ≤ t ∧ t < nb) ∨ (kind = 2 ∧ regB a n false = true ∧ 0 ≤ t ∧ t < nb ∧ 0 ≤ els ∧ els < nb) ∨ (kind = 3 ∧ t = 0 ∧ els = 0 ∧ regB a n false = true) := by
  cases h with
  | jump _ _ hi ht => exact .inl ⟨rfl, rfl, rfl, ht.1, ht.2⟩
  | branch _ _ _ _ hi ha ht he => exact .inr (.inl ⟨rfl, ha, ht.1, ht.2, he.1, he.2⟩)
  | leave _ _ hi ha => exact .inr (.inr ⟨rfl, rfl, rfl, ha⟩)
theorem blkV_insM {nb n : Int} {b : Blk} (h : BlkV nb n b) : ∀ x ∈ b.ins, InsV n x := by
  cases h with
  | jump ins tt hi _ => exact hi
  | branch ins a tt els hi _ _ _ => exact hi
  | leave ins a hi _ => exact hi
set_option maxRecDepth 100000 in
set_option maxHeartbeats 8000000 in
theorem MayFn_true (f : Fn) (hx : FnOk f) (hv : FnV f) (A : Option Addr) (c : Nat) (w : World) (hr : RdSl 5 (RdBlk w T) w T A f.blocks) :
    Calls Try.prog 29 #[.agg #[.string f.name, .int .i64 f.params, .int .i64 f.regs, .slice A f.blocks.length c]] w fun e w' => e = .returned (.bool true) ∧ Below w.heap.size w w' := by
  have hl : f.blocks.length ≤ 9223372036854775807 := by have := hx.nblocks; unfold maxLen at this; omega
  have HR := Lib.hid hr
  have HX := Lib.hid hx
  have HV := Lib.hid hv
  clear hr hx hv
  obtain ⟨name, params, regs, blocks⟩ := f
  simp only at hl
  have HB : Hid (Below w.heap.size w (w.alloc (.cells #[.string name, .int .i64 params, .int .i64 regs, .slice A blocks.length c] 31))) := Lib.hid ((Below.refl _ _).alloc (Nat.le_refl _) _)
  go_enter Try.func29, Try.ntmps29
  go_wp2_with fail
  refine (IsName_any name _ HX.out.name).mono ?_
  rintro e w1 ⟨rfl, hB⟩
  have hc0 := box_cell hB 0
  have hc1 := box_cell hB 1
  have hc2 := box_cell hB 2
  have hc3 := box_cell hB 3
  simp only [List.getElem?_toArray, List.getElem?_cons_succ, List.getElem?_cons_zero] at hc0 hc1 hc2 hc3
  have hw1 : w.heap.size < w1.heap.size := by have := hB.size; simp at this; omega
  have HB1 := Lib.hid (HB.out.trans (hB.mono HB.out.size))
  clear hB HB
  have hp := HV.out.params
  have hg := HV.out.regs
  have hb0 := HV.out.some
  dsimp only at hp hg hb0
  have h1 : ¬ params < 0 := by omega
  have h2 : ¬ 8 < params := by omega
  have h3 : ¬ regs < params := by omega
  have h4 : ¬ 4096 < regs := by omega
  have h5 : ¬ blocks.length = 0 := by omega
  clear hp hg hb0
  rw [show isName name = true from HV.out.name]
  have h6 : ((blocks.length : Int) == 0) = false := beq_eq_false_iff_ne.2 (by omega)
  go_wp2_with fail
  obtain ⟨wo, rfl⟩ : ∃ wo : World, wo = w1 := ⟨_, rfl⟩
  go_loopw [51] (fun i wr => ∃ k : Nat, k ≤ blocks.length ∧ i = .int .i64 (k : Nat) ∧ Below wo.heap.size wo wr) (fun i _ => blocks.length - (intOf i).toNat)
  case atStart => exact ⟨0, by omega, rfl, Below.refl _ _⟩
  case round =>
    obtain ⟨k, hk, rfl, hB⟩ := hrel
    have HBO := Lib.hid hB
    have hd2 := (hB.cell (p := ⟨w.heap.size, 2, none⟩) hw1).trans hc2
    clear hB
    by_cases hlt : k < blocks.length
    · obtain ⟨g, off, rfl, ht, hg, hcl⟩ := HR.out (by show 0 < blocks.length; omega)
      obtain ⟨cs, hcs, hrd, hat⟩ := hcl k _ (List.getElem?_eq_getElem hlt)
      obtain ⟨hok, A1, c1, rfl, hsub⟩ := hrd
      have hbl : Below w.heap.size w wr := HB1.out.trans (HBO.out.mono HB1.out.size)
      have h0 := (hbl.cell (p := ⟨g, off + k * 5 + 0, none⟩) hg).trans (hat 0 _ rfl)
      have h1 := (hbl.cell (p := ⟨g, off + k * 5 + 1, none⟩) hg).trans (hat 1 _ rfl)
      have h2 := (hbl.cell (p := ⟨g, off + k * 5 + 2, none⟩) hg).trans (hat 2 _ rfl)
      have h3 := (hbl.cell (p := ⟨g, off + k * 5 + 3, none⟩) hg).trans (hat 3 _ rfl)
      have h4 := (hbl.cell (p := ⟨g, off + k * 5 + 4, none⟩) hg).trans (hat 4 _ rfl)
      rw [add00] at h0
      have hll := hok.nins
      obtain ⟨b, hb⟩ : ∃ b, b = blocks[k] := ⟨_, rfl⟩
      rw [← hb] at h0 h1 h2 h3 h4 hok hsub hll
      have HSUB := Lib.hid hsub
      have HBV : Hid (BlkV blocks.length regs b) := Lib.hid (by rw [hb]; exact HV.out.blocks _ (List.getElem_mem hlt))
      obtain ⟨ins, kind, a, to, els⟩ := b
      have HBL := Lib.hid hbl
      have HIV : Hid (∀ x ∈ ins, InsV regs x) := Lib.hid (blkV_insM HBV.out)
      have hl2 : ins.length ≤ 9223372036854775807 := by have h := hll; unfold maxLen at h; exact h
      clear hcl hat hok hsub ht hcs hb hbl hll
      go_wp2_with fail
      obtain ⟨wq, rfl⟩ : ∃ wq : World, wq = wr := ⟨_, rfl⟩
      go_loopw [58] (fun i wi => ∃ k2 : Nat, k2 ≤ ins.length ∧ i = .int .i64 (k2 : Nat) ∧ Below (wq.alloc (.cells #[.slice A1 ins.length c1, .int .i64 kind, .int .i64 a, .int .i64 to, .int .i64 els] 45)).heap.size (wq.alloc (.cells #[.slice A1 ins.length c1, .int .i64 kind, .int .i64 a, .int .i64 to, .int .i64 els] 45)) wi) (fun i _ => ins.length - (intOf i).toNat)
      case atStart => exact ⟨0, by omega, rfl, Below.refl _ _⟩
      case round =>
        obtain ⟨k2, hk2, rfl, hB⟩ := hrel
        have hwq : w.heap.size < wq.heap.size := Nat.lt_of_lt_of_le hw1 HBO.out.size
        have hi2 := (hB.cell (p := ⟨w.heap.size, 2, none⟩) (by simp; omega)).trans (((Below.refl _ wq).alloc (Nat.le_refl _) _).cell (p := ⟨w.heap.size, 2, none⟩) hwq |>.trans hd2)
        have HBI0 : Hid (Below wq.heap.size wq wr) := Lib.hid (((Below.refl _ wq).alloc (Nat.le_refl _) _).trans (hB.mono (by simp)))
        have HBI : Hid (Below w.heap.size w wr) := Lib.hid (HBL.out.trans (HBI0.out.mono HBL.out.size))
        have HBI2 : Hid (Below wo.heap.size wo wr) := Lib.hid (HBO.out.trans (HBI0.out.mono HBO.out.size))
        have b0 := box_cell hB 0
        have b1 := box_cell hB 1
        have b2 := box_cell hB 2
        have b3 := box_cell hB 3
        have b4 := box_cell hB 4
        simp only [List.getElem?_toArray, List.getElem?_cons_succ, List.getElem?_cons_zero] at b0 b1 b2 b3 b4
        have HBQ := Lib.hid hB
        clear hB hd2 h0 h1 h2 h3 h4
        by_cases hlt2 : k2 < ins.length
        · obtain ⟨g2, off2, rfl, ht2, hg2, hcl2⟩ := HSUB.out (by show 0 < ins.length; omega)
          obtain ⟨cs, hcs, hrd, hat⟩ := hcl2 k2 _ (List.getElem?_eq_getElem hlt2)
          obtain ⟨hok, A2, c2, rfl, hsub⟩ := hrd
          have h0 := (HBI.out.cell (p := ⟨g2, off2 + k2 * 8 + 0, none⟩) hg2).trans (hat 0 _ rfl)
          have h1 := (HBI.out.cell (p := ⟨g2, off2 + k2 * 8 + 1, none⟩) hg2).trans (hat 1 _ rfl)
          have h2 := (HBI.out.cell (p := ⟨g2, off2 + k2 * 8 + 2, none⟩) hg2).trans (hat 2 _ rfl)
          have h3 := (HBI.out.cell (p := ⟨g2, off2 + k2 * 8 + 3, none⟩) hg2).trans (hat 3 _ rfl)
          have h4 := (HBI.out.cell (p := ⟨g2, off2 + k2 * 8 + 4, none⟩) hg2).trans (hat 4 _ rfl)
          have h5 := (HBI.out.cell (p := ⟨g2, off2 + k2 * 8 + 5, none⟩) hg2).trans (hat 5 _ rfl)
          have h6 := (HBI.out.cell (p := ⟨g2, off2 + k2 * 8 + 6, none⟩) hg2).trans (hat 6 _ rfl)
          have h7 := (HBI.out.cell (p := ⟨g2, off2 + k2 * 8 + 7, none⟩) hg2).trans (hat 7 _ rfl)
          rw [add00] at h0
          obtain ⟨x, hxe⟩ : ∃ x, x = ins[k2] := ⟨_, rfl⟩
          rw [← hxe] at h0 h1 h2 h3 h4 h5 h6 h7 hok hsub
          have HSU := Lib.hid hsub
          have HXE := Lib.hid hxe
          have HOK := Lib.hid hok
          clear hcl2 hat hok hsub ht2 hcs hxe
          have hlt3 : w.heap.size < wr.heap.size := Nat.lt_of_lt_of_le hwq HBI0.out.size
          go_wp2_with fail
          have hxi : InsV regs x := HIV.out x (by rw [HXE.out]; exact List.getElem_mem _)
          refine (mayIns_true x regs HOK.out hxi A2 c2 _ (HSU.out.kept (chg_of_below (HBI.out.alloc HBI.out.size _)) (fun k _ hk h => Nat.lt_irrefl _ (Nat.lt_of_lt_of_le hk h)))).mono ?_
          rintro e wj ⟨rfl, hbj⟩
          have HBJ := Lib.hid hbj
          clear hbj hxi
          go_wp2_with fail
          go_roundw
          case rel =>
            refine ⟨k2 + 1, by omega, by go_num, ?_⟩
            exact (HBQ.out.alloc HBQ.out.size _).trans (HBJ.out.mono (by have := HBQ.out.size; simp at this ⊢; omega))
          case measure => simp [intOf]; omega
        · obtain rfl : k2 = ins.length := by omega
          clear hc0 hc1 hc2 hc3
          rcases blkV_cases HBV.out with ⟨rfl, rfl, rfl, t1, t2⟩ | ⟨rfl, hra, t1, t2, t3, t4⟩ | ⟨rfl, rfl, rfl, hra⟩
          · go_wp2_with fail
            go_roundw
            case rel => exact ⟨k + 1, by omega, by go_num, HBI2.out⟩
            case measure => simp [intOf]; omega
          · have HA := Lib.hid hra
            clear hra
            go_wp2_with fail
            refine (reg12_any _ regs false _).mono ?_
            rintro e wj ⟨rfl, rfl⟩
            rw [HA.out]
            go_wp2_with fail
            go_roundw
            case rel => exact ⟨k + 1, by omega, by go_num, HBI2.out⟩
            case measure => simp [intOf]; omega
          · have HA := Lib.hid hra
            clear hra
            go_wp2_with fail
            refine (reg12_any _ regs false _).mono ?_
            rintro e wj ⟨rfl, rfl⟩
            rw [HA.out]
            go_wp2_with fail
            go_roundw
            case rel => exact ⟨k + 1, by omega, by go_num, HBI2.out⟩
            case measure => simp [intOf]; omega
    · obtain rfl : k = blocks.length := by omega
      go_wp2_with fail
      go_ret
      exact ⟨rfl, HB1.out.trans (HBO.out.mono HB1.out.size)⟩
end Go.Proofs.Ytlniohgnkihefaa
