/- Which functions may be (brazierref12.MayFn). -/
import Derived.Test.YtnfneinonkpmeaaLv8
import Derived.Test.YtnfneinonkpmeaaLv2
namespace Go.Proofs.Ytnfneinonkpmeaa
open Go.RowKit
variable {T : Nat → Prop}

inductive BlkV (nb regs : Int) : Blk → Prop
  | jump (ins : List Ins) (to : Int) (hi : ∀ x ∈ ins, InsV regs x) (ht : 0 ≤ to ∧ to < nb) : BlkV nb regs ⟨ins, 1, 0, to, 0⟩
  | branch (ins : List Ins) (a to els : Int) (hi : ∀ x ∈ ins, InsV regs x) (ha : regB a regs false = true) (ht : 0 ≤ to ∧ to < nb) (he : 0 ≤ els ∧ els < nb) : BlkV nb regs ⟨ins, 2, a, to, els⟩
  | leave (ins : List Ins) (a : Int) (hi : ∀ x ∈ ins, InsV regs x) (ha : regB a regs false = true) : BlkV nb regs ⟨ins, 3, a, 0, 0⟩
structure FnV (f : Fn) : Prop where
  name : isName f.name = true
  params : 0 ≤ f.params ∧ f.params ≤ 8
  regs : f.params ≤ f.regs ∧ f.regs ≤ 4096
  some : 0 < f.blocks.length
  blocks : ∀ b ∈ f.blocks, BlkV f.blocks.length f.regs b

set_option maxRecDepth 100000 in
set_option maxHeartbeats 8000000 in
theorem MayFn_any (f : Fn) (hx : FnOk f) (A : Option Addr) (c : Nat) (w : World) (hr : RdSl 5 (RdBlk w T) w T A f.blocks) :
    Calls Try.prog 48 #[.agg #[.string f.name, .int .i64 f.params, .int .i64 f.regs, .slice A f.blocks.length c]] w (Told w (FnV f)) := by
  have hl : f.blocks.length ≤ 9223372036854775807 := by have := hx.nblocks; unfold maxLen at this; omega
  have HR := Lib.hid hr
  have HX := Lib.hid hx
  clear hr hx
  obtain ⟨name, params, regs, blocks⟩ := f
  simp only at hl
  have HB : Hid (Below w.heap.size w (w.alloc (.cells #[.string name, .int .i64 params, .int .i64 regs, .slice A blocks.length c] 30))) := Lib.hid ((Below.refl _ _).alloc (Nat.le_refl _) _)
  go_enter Try.func48, Try.ntmps48
  go_wp2_with fail
  refine (IsName_any name _ HX.out.name).mono ?_
  rintro e w1 ⟨rfl, hB⟩
  have hc0 := box_cell hB 0
  have hc1 := box_cell hB 1
  have hc2 := box_cell hB 2
  have hc3 := box_cell hB 3
  simp only [List.getElem?_toArray, List.getElem?_cons_succ, List.getElem?_cons_zero] at hc0 hc1 hc2 hc3
  have hw1 : w.heap.size < w1.heap.size := by have := hB.size; simp at this; omega
  have HB1 := Lib.hid (HB.out.trans (hB.mono HB.out.size))
  clear hB HB
  rcases Bool.eq_false_or_eq_true (isName name) with h | h
  case' inr => rw [h]; go_wp2_with fail; go_ret; exact ⟨false, rfl, HB1.out, fun h => by cases h⟩
  rw [h]
  have HN := Lib.hid h
  clear h
  by_cases h1 : params < 0
  case' pos => go_wp2_with fail; go_ret; exact ⟨false, rfl, HB1.out, fun h => by cases h⟩
  by_cases h2 : 8 < params
  case' pos => go_wp2_with fail; go_ret; exact ⟨false, rfl, HB1.out, fun h => by cases h⟩
  by_cases h3 : regs < params
  case' pos => go_wp2_with fail; go_ret; exact ⟨false, rfl, HB1.out, fun h => by cases h⟩
  by_cases h4 : 4096 < regs
  case' pos => go_wp2_with fail; go_ret; exact ⟨false, rfl, HB1.out, fun h => by cases h⟩
  by_cases h5 : blocks.length = 0
  case' pos => go_wp2_with fail; go_ret; exact ⟨false, rfl, HB1.out, fun h => by cases h⟩
  have h6 : ((blocks.length : Int) == 0) = false := beq_eq_false_iff_ne.2 (by omega)
  go_wp2_with fail
  obtain ⟨wo, rfl⟩ : ∃ wo : World, wo = w1 := ⟨_, rfl⟩
  go_loopw [51] (fun i wr => ∃ k : Nat, k ≤ blocks.length ∧ i = .int .i64 (k : Nat) ∧ Below wo.heap.size wo wr ∧ ∀ j (hl : j < blocks.length), j < k → BlkV blocks.length regs blocks[j]) (fun i _ => blocks.length - (intOf i).toNat)
  case atStart => exact ⟨0, by omega, rfl, Below.refl _ _, fun j hj h => by omega⟩
  case round =>
    obtain ⟨k, hk, rfl, hB, hn⟩ := hrel
    have HBO := Lib.hid hB
    have HK := Lib.hid hn
    have hd2 := (hB.cell (p := ⟨w.heap.size, 2, none⟩) hw1).trans hc2
    clear hB hn
    by_cases hlt : k < blocks.length
    · obtain ⟨g, off, rfl, ht, hg, hcl⟩ := HR.out (by show 0 < blocks.length; omega)
      obtain ⟨cs, hcs, hrd, hat⟩ := hcl k _ (List.getElem?_eq_getElem hlt)
      obtain ⟨hok, A1, c1, rfl, hsub⟩ := hrd
      have hbl : Below w.heap.size w wr := HB1.out.trans (HBO.out.mono HB1.out.size)
      have h0 := (hbl.cell (p := ⟨g, off + k * 5 + 0, none⟩) hg).trans (hat 0 _ rfl)
      have h1 := (hbl.cell (p := ⟨g, off + k * 5 + 1, none⟩) hg).trans (hat 1 _ rfl)
      have h2 := (hbl.cell (p := ⟨g, off + k * 5 + 2, none⟩) hg).trans (hat 2 _ rfl)
      have h3 := (hbl.cell (p := ⟨g, off + k * 5 + 3, none⟩) hg).trans (hat 3 _ rfl)
      have h4 := (hbl.cell (p := ⟨g, off + k * 5 + 4, none⟩) hg).trans (hat 4 _ rfl)
      rw [add00] at h0
      have hll := hok.nins
      obtain ⟨b, hb⟩ : ∃ b, b = blocks[k] := ⟨_, rfl⟩
      rw [← hb] at h0 h1 h2 h3 h4 hok hsub hll
      have HSUB := Lib.hid hsub
      have HBE := Lib.hid hb
      obtain ⟨ins, kind, a, to, els⟩ := b
      have HBL := Lib.hid hbl
      have hl2 : ins.length ≤ 9223372036854775807 := by have h := hll; unfold maxLen at h; exact h
      clear hcl hat hok hsub ht hcs hb hbl hll
      go_wp2_with fail
      obtain ⟨wq, rfl⟩ : ∃ wq : World, wq = wr := ⟨_, rfl⟩
      go_loopw [58] (fun i wi => ∃ k2 : Nat, k2 ≤ ins.length ∧ i = .int .i64 (k2 : Nat) ∧ Below (wq.alloc (.cells #[.slice A1 ins.length c1, .int .i64 kind, .int .i64 a, .int .i64 to, .int .i64 els] 58)).heap.size (wq.alloc (.cells #[.slice A1 ins.length c1, .int .i64 kind, .int .i64 a, .int .i64 to, .int .i64 els] 58)) wi ∧ ∀ j (hl : j < ins.length), j < k2 → InsV regs ins[j]) (fun i _ => ins.length - (intOf i).toNat)
      case atStart => exact ⟨0, by omega, rfl, Below.refl _ _, fun j hj h => by omega⟩
      case round =>
        obtain ⟨k2, hk2, rfl, hB, hn⟩ := hrel
        have hwq : w.heap.size < wq.heap.size := Nat.lt_of_lt_of_le hw1 HBO.out.size
        have hi2 := (hB.cell (p := ⟨w.heap.size, 2, none⟩) (by simp; omega)).trans (((Below.refl _ wq).alloc (Nat.le_refl _) _).cell (p := ⟨w.heap.size, 2, none⟩) hwq |>.trans hd2)
        have HBI0 : Hid (Below wq.heap.size wq wr) := Lib.hid (((Below.refl _ wq).alloc (Nat.le_refl _) _).trans (hB.mono (by simp)))
        have HBI : Hid (Below w.heap.size w wr) := Lib.hid (HBL.out.trans (HBI0.out.mono HBL.out.size))
        have HBI2 : Hid (Below wo.heap.size wo wr) := Lib.hid (HBO.out.trans (HBI0.out.mono HBO.out.size))
        have HJ := Lib.hid hn
        have b0 := box_cell hB 0
        have b1 := box_cell hB 1
        have b2 := box_cell hB 2
        have b3 := box_cell hB 3
        have b4 := box_cell hB 4
        simp only [List.getElem?_toArray, List.getElem?_cons_succ, List.getElem?_cons_zero] at b0 b1 b2 b3 b4
        have HBQ := Lib.hid hB
        clear hB hn hd2 h0 h1 h2 h3 h4
        by_cases hlt2 : k2 < ins.length
        · obtain ⟨g2, off2, rfl, ht2, hg2, hcl2⟩ := HSUB.out (by show 0 < ins.length; omega)
          obtain ⟨cs, hcs, hrd, hat⟩ := hcl2 k2 _ (List.getElem?_eq_getElem hlt2)
          obtain ⟨hok, A2, c2, rfl, hsub⟩ := hrd
          have h0 := (HBI.out.cell (p := ⟨g2, off2 + k2 * 8 + 0, none⟩) hg2).trans (hat 0 _ rfl)
          have h1 := (HBI.out.cell (p := ⟨g2, off2 + k2 * 8 + 1, none⟩) hg2).trans (hat 1 _ rfl)
          have h2 := (HBI.out.cell (p := ⟨g2, off2 + k2 * 8 + 2, none⟩) hg2).trans (hat 2 _ rfl)
          have h3 := (HBI.out.cell (p := ⟨g2, off2 + k2 * 8 + 3, none⟩) hg2).trans (hat 3 _ rfl)
          have h4 := (HBI.out.cell (p := ⟨g2, off2 + k2 * 8 + 4, none⟩) hg2).trans (hat 4 _ rfl)
          have h5 := (HBI.out.cell (p := ⟨g2, off2 + k2 * 8 + 5, none⟩) hg2).trans (hat 5 _ rfl)
          have h6 := (HBI.out.cell (p := ⟨g2, off2 + k2 * 8 + 6, none⟩) hg2).trans (hat 6 _ rfl)
          have h7 := (HBI.out.cell (p := ⟨g2, off2 + k2 * 8 + 7, none⟩) hg2).trans (hat 7 _ rfl)
          rw [add00] at h0
          obtain ⟨x, hxe⟩ : ∃ x, x = ins[k2] := ⟨_, rfl⟩
          rw [← hxe] at h0 h1 h2 h3 h4 h5 h6 h7 hok hsub
          have HSU := Lib.hid hsub
          have HXE := Lib.hid hxe
          have HOK := Lib.hid hok
          clear hcl2 hat hok hsub ht2 hcs hxe
          have hlt3 : w.heap.size < wr.heap.size := Nat.lt_of_lt_of_le hwq HBI0.out.size
          go_wp2_with fail
          refine (mayIns_any x regs HOK.out A2 c2 _ (HSU.out.kept (chg_of_below (HBI.out.alloc HBI.out.size _)) (fun k _ hk h => Nat.lt_irrefl _ (Nat.lt_of_lt_of_le hk h)))).mono ?_
          rintro e wj ⟨t, rfl, hbj, hv⟩
          have HBJ := Lib.hid hbj
          have HV := Lib.hid hv
          clear hbj hv
          cases t with
          | false =>
            go_wp2_with fail
            go_ret
            exact ⟨false, rfl, (HBI.out.alloc HBI.out.size _).trans (HBJ.out.mono (by have := HBI.out.size; simp; omega)), fun h => by cases h⟩
          | true =>
            have HV' := Lib.hid (HV.out rfl)
            go_wp2_with fail
            go_roundw
            case rel =>
              refine ⟨k2 + 1, by omega, by go_num, ?_, fun j hl hj => ?_⟩
              · exact (HBQ.out.alloc HBQ.out.size _).trans (HBJ.out.mono (by have := HBQ.out.size; simp at this ⊢; omega))
              · rcases Nat.lt_succ_iff_lt_or_eq.1 hj with h | rfl
                · exact HJ.out j hl h
                · rw [← HXE.out]; exact HV'.out
            case measure => simp [intOf]; omega
        · obtain rfl : k2 = ins.length := by omega
          clear hc0 hc1 hc2 hc3
          have HINS : Hid (∀ x ∈ ins, InsV regs x) := Lib.hid (fun x hx => by
            obtain ⟨j, hj, rfl⟩ := List.getElem_of_mem hx
            exact HJ.out j hj hj)
          clear HJ
          by_cases k1 : kind = 1
          · subst k1
            by_cases t1 : 0 ≤ to
            case' neg =>
              by_cases e1 : 0 ≤ els
              · go_wp2_with fail; go_ret; exact ⟨false, rfl, HBI.out, fun h => by cases h⟩
              · go_wp2_with fail; go_ret; exact ⟨false, rfl, HBI.out, fun h => by cases h⟩
            by_cases t2 : to < blocks.length
            case' neg =>
              by_cases e1 : 0 ≤ els
              · go_wp2_with fail; go_ret; exact ⟨false, rfl, HBI.out, fun h => by cases h⟩
              · go_wp2_with fail; go_ret; exact ⟨false, rfl, HBI.out, fun h => by cases h⟩
            by_cases a0 : a = 0
            case' neg =>
              have a0f : (a == 0) = false := beq_eq_false_iff_ne.2 a0
              by_cases e1 : 0 ≤ els
              · go_wp2_with fail; go_ret; exact ⟨false, rfl, HBI.out, fun h => by cases h⟩
              · go_wp2_with fail; go_ret; exact ⟨false, rfl, HBI.out, fun h => by cases h⟩
            subst a0
            by_cases e0 : els = 0
            case' neg =>
              have e0f : (els == 0) = false := beq_eq_false_iff_ne.2 e0
              by_cases e1 : 0 ≤ els
              · go_wp2_with fail; go_ret; exact ⟨false, rfl, HBI.out, fun h => by cases h⟩
              · go_wp2_with fail; go_ret; exact ⟨false, rfl, HBI.out, fun h => by cases h⟩
            subst e0
            go_wp2_with fail
            go_roundw
            case rel => exact ⟨k + 1, by omega, by go_num, HBI2.out, fun j hl hj => by
              rcases Nat.lt_succ_iff_lt_or_eq.1 hj with h | rfl
              · exact HK.out j hl h
              · rw [← HBE.out]; exact .jump ins to HINS.out ⟨t1, t2⟩⟩
            case measure => simp [intOf]; omega
          by_cases k2 : kind = 2
          · subst k2
            by_cases t1 : 0 ≤ to
            case' neg =>
              by_cases e1 : 0 ≤ els
              · go_wp2_with fail; go_ret; exact ⟨false, rfl, HBI.out, fun h => by cases h⟩
              · go_wp2_with fail; go_ret; exact ⟨false, rfl, HBI.out, fun h => by cases h⟩
            by_cases t2 : to < blocks.length
            case' neg =>
              by_cases e1 : 0 ≤ els
              · go_wp2_with fail; go_ret; exact ⟨false, rfl, HBI.out, fun h => by cases h⟩
              · go_wp2_with fail; go_ret; exact ⟨false, rfl, HBI.out, fun h => by cases h⟩
            by_cases e1 : 0 ≤ els
            case' neg => go_wp2_with fail; go_ret; exact ⟨false, rfl, HBI.out, fun h => by cases h⟩
            by_cases e2 : els < blocks.length
            case' neg => go_wp2_with fail; go_ret; exact ⟨false, rfl, HBI.out, fun h => by cases h⟩
            go_wp2_with fail
            refine (reg12_any a regs false _).mono ?_
            rintro e wj ⟨rfl, rfl⟩
            rcases Bool.eq_false_or_eq_true (regB a regs false) with h | h
            case' inr => rw [h]; go_wp2_with fail; go_ret; exact ⟨false, rfl, HBI.out, fun h => by cases h⟩
            rw [h]
            have HA := Lib.hid h
            clear h
            go_wp2_with fail
            go_roundw
            case rel => exact ⟨k + 1, by omega, by go_num, HBI2.out, fun j hl hj => by
              rcases Nat.lt_succ_iff_lt_or_eq.1 hj with h | rfl
              · exact HK.out j hl h
              · rw [← HBE.out]; exact .branch ins a to els HINS.out HA.out ⟨t1, t2⟩ ⟨e1, e2⟩⟩
            case measure => simp [intOf]; omega
          by_cases k3 : kind = 3
          · subst k3
            by_cases t0 : to = 0
            case' neg =>
              have t0f : (to == 0) = false := beq_eq_false_iff_ne.2 t0
              by_cases t1 : 0 ≤ to
              · by_cases e1 : 0 ≤ els
                · go_wp2_with fail; go_ret; exact ⟨false, rfl, HBI.out, fun h => by cases h⟩
                · go_wp2_with fail; go_ret; exact ⟨false, rfl, HBI.out, fun h => by cases h⟩
              · by_cases e1 : 0 ≤ els
                · go_wp2_with fail; go_ret; exact ⟨false, rfl, HBI.out, fun h => by cases h⟩
                · go_wp2_with fail; go_ret; exact ⟨false, rfl, HBI.out, fun h => by cases h⟩
            subst t0
            by_cases e0 : els = 0
            case' neg =>
              have e0f : (els == 0) = false := beq_eq_false_iff_ne.2 e0
              by_cases e1 : 0 ≤ els
              · go_wp2_with fail; go_ret; exact ⟨false, rfl, HBI.out, fun h => by cases h⟩
              · go_wp2_with fail; go_ret; exact ⟨false, rfl, HBI.out, fun h => by cases h⟩
            subst e0
            go_wp2_with fail
            refine (reg12_any a regs false _).mono ?_
            rintro e wj ⟨rfl, rfl⟩
            rcases Bool.eq_false_or_eq_true (regB a regs false) with h | h
            case' inr => rw [h]; go_wp2_with fail; go_ret; exact ⟨false, rfl, HBI.out, fun h => by cases h⟩
            rw [h]
            have HA := Lib.hid h
            clear h
            go_wp2_with fail
            go_roundw
            case rel => exact ⟨k + 1, by omega, by go_num, HBI2.out, fun j hl hj => by
              rcases Nat.lt_succ_iff_lt_or_eq.1 hj with h | rfl
              · exact HK.out j hl h
              · rw [← HBE.out]; exact .leave ins a HINS.out HA.out⟩
            case measure => simp [intOf]; omega
          have q1 : (kind == 1) = false := beq_eq_false_iff_ne.2 k1
          have q2 : (kind == 2) = false := beq_eq_false_iff_ne.2 k2
          have q3 : (kind == 3) = false := beq_eq_false_iff_ne.2 k3
          by_cases t1 : 0 ≤ to
          · by_cases e1 : 0 ≤ els
            · go_wp2_with fail; go_ret; exact ⟨false, rfl, HBI.out, fun h => by cases h⟩
            · go_wp2_with fail; go_ret; exact ⟨false, rfl, HBI.out, fun h => by cases h⟩
          · by_cases e1 : 0 ≤ els
            · go_wp2_with fail; go_ret; exact ⟨false, rfl, HBI.out, fun h => by cases h⟩
            · go_wp2_with fail; go_ret; exact ⟨false, rfl, HBI.out, fun h => by cases h⟩
    · obtain rfl : k = blocks.length := by omega
      go_wp2_with fail
      go_ret
      refine ⟨true, rfl, HB1.out.trans (HBO.out.mono HB1.out.size), fun _ => ⟨HN.out, ⟨by show 0 ≤ params; omega, by show params ≤ 8; omega⟩, ⟨by show params ≤ regs; omega, by show regs ≤ 4096; omega⟩, by show 0 < blocks.length; omega, fun b hb => ?_⟩⟩
      obtain ⟨j, hj, rfl⟩ := List.getElem_of_mem hb
      exact HK.out j hj hj
end Go.Proofs.Ytnfneinonkpmeaa
