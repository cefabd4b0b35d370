/- (*Bits).Each: the loop over a set. -/
import Derived.RangeFuncNested
import Derived.RangeFuncBound
import Derived.RangeFuncCalls
import Derived.RangeFuncLeaves
import Derived.Shelf.Abstract
import Derived.Shelf.RegionOpen
import Derived.WalkKit
import Derived.OwnWalkIn
import Derived.TacticsInMore
import Derived.LoopNIn
import Derived.LoopIn
import Derived.Test.YtdnlgcomhgnegaaDoorTz
namespace Go.Proofs.YtdnlgcomhgnegaaDoor
open Go.RowKit Go.Shelf
attribute [local go_sem] Oper.semAt_some

/-- The block of the slice that block b holds. -/
def rowOf (W : World) (b : Nat) : Option Nat :=
  match W.heap[b]? with
  | some (Obj.cells cs _ _) => match cs[0]? with
    | some (Value.slice (some a) _ _) => some a.block
    | _ => none
  | _ => none
/-- What a round keeps: words, but those of the set at b; the library's table. -/
def KpB (b : Nat) (W W' : World) : Prop := ∀ k, (U64At W k ∨ k = 0) → rowOf W b ≠ some k → W'.heap[k]? = W.heap[k]? ∧ rowOf W' b ≠ some k
theorem KpB.refl (b : Nat) (W : World) : KpB b W W := fun _ _ h => ⟨rfl, h⟩
theorem KpB.trans {b : Nat} {A B C : World} (h : KpB b A B) (k : KpB b B C) : KpB b A C := by
  intro i hi hr
  obtain ⟨h1, h2⟩ := h i hi hr
  obtain ⟨k1, k2⟩ := k i (hi.imp (fun ⟨c, hc⟩ => ⟨c, h1.trans hc⟩) id) h2
  exact ⟨k1.trans h1, k2⟩
theorem KpB.put {b n l : Nat} {o o' : Obj} {W : World} (hb : b < n) (hn : n ≤ l) (h : W.heap[l]? = some o) (ho : o.isCells = false) : KpB b W (W.putObj l o') := by
  intro k hk hr
  have hne : k ≠ l := by
    rintro rfl
    rcases hk with ⟨c, hc⟩ | rfl
    · rw [hc] at h; cases h; cases ho
    · omega
  refine ⟨World.putObj_heap_other hne, ?_⟩
  unfold rowOf at hr ⊢
  rw [World.putObj_heap_other (show b ≠ l by omega)]
  exact hr
theorem rowOf_bits {w : World} {b : Nat} {r : Option Nat} {ws : List Nat} (h : BitsAt w b r ws) : rowOf w b = r := by
  obtain ⟨v, h1, h2⟩ := h.ex
  unfold rowOf
  rw [h1]
  rcases h2.2 with ⟨rfl, rfl, _⟩ | ⟨g, off, cap, cur, rfl, rfl, _⟩ <;> rfl
theorem KpB.tab {b : Nat} {W W' : World} (h : KpB b W W') (hr : rowOf W b ≠ some 0) (hT : TabAt W) : TabAt W' := fun j hj => (World.cell?_of_block (h 0 (.inr rfl) hr).1).trans (hT j hj)
/-- A world that grew: nothing of what lay is turned. -/
theorem KpB.below {b : Nat} {W W' : World} (h : Below W.heap.size W W') (hb : b < W.heap.size) (h0 : 0 < W.heap.size) : KpB b W W' := by
  intro k hk hr
  have hlt : k < W.heap.size := by
    rcases hk with ⟨c, hc⟩ | rfl
    · exact lt_of_heap hc
    · exact h0
  refine ⟨h.block k hlt, ?_⟩
  unfold rowOf at hr ⊢
  rw [h.block b hb]
  exact hr
theorem grownBy_none {W W' : World} (h : Below W.heap.size W W') : W.grownBy W' none := ⟨h.os, h.tape, h.output, h.size, fun k hk _ => h.block k hk⟩

theorem memW_word (ws : List Nat) (i j : Nat) (hj : j < 64) : memW ws (64 * i + j) = (ws.getD i 0).testBit j := by
  unfold memW
  rw [show (64 * i + j) / 64 = i from by omega, show (64 * i + j) % 64 = j from by omega]

theorem word_less (x : Nat) (h : x < 18446744073709551616) (h0 : ¬ x = 0) : Value.int .u64 (bits BinOp.and IntKind.u64 (x : Int) ((x : Int) - 1)) = Value.int .u64 ((x &&& (x - 1) : Nat) : Int) := by
  have e1 : (x : Int) - 1 = ((x - 1 : Nat) : Int) := by omega
  rw [e1, bits_and_u64_nat x _ h (by omega)]
set_option maxRecDepth 100000 in
set_option maxHeartbeats 2000000 in
theorem each1_in (n : Nat) (hn : 1 ≤ n) (l Bn b : Nat) (r : Option Nat) (ws : List Nat) (J Jx : List Int → World → Prop)
    (hY : ∀ pre x W, J pre W → pre ++ [x] <+: listW ws → YieldAt Fence.wide (n - 1) Tryd.prog l #[.int .i64 x] W fun e W' =>
      (e = .returned (.bool true) ∧ J (pre ++ [x]) W' ∧ KpB b W W') ∨ (e = .returned (.bool false) ∧ Jx (pre ++ [x]) W'))
    (W : World) (hJ : AbidesFrom W.heap.size J) (hBn : W.cell? ⟨Bn, 0, none⟩ = some (.pointer (some ⟨b, 0, none⟩))) (hb : BitsAt W b r ws) (hr0 : r ≠ some 0) (hT : TabAt W) (h0 : J [] W) :
    CallsIn Fence.wide n Tryd.prog 34 #[.func (.yield l) #[] #[], .pointer (some ⟨Bn, 0, none⟩)] W fun e W' => (∃ v, e = .returned v) ∧
      ((∃ ys, ys = listW ws ∧ J ys W') ∨ (∃ pre, pre <+: listW ws ∧ Jx pre W')) := by
  obtain ⟨v, hv1, hv2⟩ := hb.ex
  have hvc : W.cell? ⟨b, 0, none⟩ = some v := cell_of_row _ _ _ _ _ _ hv1
  have hl1024 := hb.len
  have HB := Lib.hid hb
  have HV2 := Lib.hid hv2
  have HT := Lib.hid hT
  clear hb hv1 hv2 hT
  refine callsIn_of_wp Tryd.func34 rfl trivial ?_ rfl
  simp only [Tryd.ntmps34, List.size_toArray, List.length_cons, List.length_nil, Nat.reduceAdd, Nat.reduceSub, Array.replicate_succ, Array.replicate_zero, List.push_toArray, List.append_toArray, List.nil_append, List.cons_append]
  gi_wp2_with (first
    | (refine ⟨trivial, ?_⟩; gi_at_call 32; refine (callsIn_wide.2 (words_cell b v _ hvc)).mono ?_; rintro e w' ⟨rfl, rfl⟩)
    | (refine ⟨trivial, ?_⟩; gi_at_call 35; refine (callsIn_wide.2 (clone64_any v r ws _ hl1024 HV2.out)).mono ?_; rintro e Wc ⟨hBc, Ac, cc, rfl, hcl⟩; have HBC := Lib.hid hBc; have HCL := Lib.hid hcl; clear hBc hcl))
  have hJc := hJ [] W Wc none h0 (grownBy_none HBC.out) (fun r e => by cases e)
  have hbl := HB.out.blt
  have h0l : 0 < W.heap.size := World.block_lt_of_cell? W ⟨0, 0, none⟩ (HT.out 0 (by omega))
  have hkp := KpB.below HBC.out hbl h0l
  have hrow : rowOf Wc b = r := by
    have h1 := HB.out.kept (Chg.of_below HBC.out (fun _ => False)) (fun h => h) (fun _ _ h => h)
    exact rowOf_bits h1
  have HROW := Lib.hid hrow
  have HTC : Hid (TabAt Wc) := Lib.hid (hkp.tab (by rw [rowOf_bits HB.out]; exact hr0) HT.out)
  have HJC := Lib.hid hJc
  clear hJc hkp hrow hvc hBn h0 hbl h0l
  gi_loopw [9] (fun i wr => ∃ k : Nat, k ≤ ws.length ∧ i = .int .i64 k ∧ J (upToL ws (64 * k)) wr ∧ KpB b Wc wr) (fun i _ => ws.length - (intOf i).toNat)
  case atStart => exact ⟨0, Nat.zero_le _, rfl, HJC.out, KpB.refl _ _⟩
  case round =>
    obtain ⟨k, hk, rfl, hJk, hkp⟩ := hrel
    have HJK := Lib.hid hJk
    have HKP := Lib.hid hkp
    clear hJk hkp
    by_cases hlt : k < ws.length
    · obtain ⟨g, off, rfl, hgn, hgu, hgc⟩ := HCL.out (by omega)
      have hgr : rowOf Wc b ≠ some g := by
        rw [HROW.out]
        intro e
        have := HB.out.rlt g e
        omega
      have hcell := (World.cell?_of_block (a := ⟨g, off + k, none⟩) (HKP.out g (.inl hgu) hgr).1).trans (hgc k _ (cells64_at ws k hlt))
      have hwd := getD_lt HB.out.lt k
      have HGU := Lib.hid hgu
      have HGR := Lib.hid hgr
      obtain ⟨wd, hwde⟩ : ∃ wd, wd = ws.getD k 0 := ⟨_, rfl⟩
      rw [← hwde] at hcell hwd
      have HWD := Lib.hid hwde
      clear hgu hgc hgr hwde hgn
      gi_wp2
      obtain ⟨w3, hw3⟩ : ∃ w3 : World, w3 = wr := ⟨_, rfl⟩
      rw [← hw3] at HJK HKP
      rw [← hw3]
      clear hw3 hcell
      gi_loopw [4] (fun s4 wr => ∃ (x t : Nat), s4 = .int .u64 (x : Int) ∧ x < 18446744073709551616 ∧ t ≤ 64 ∧ (∀ j, x.testBit j = (decide (t ≤ j) && wd.testBit j)) ∧ J (upToL ws (64 * k + t)) wr ∧ KpB b Wc wr) (fun s4 _ => (intOf s4).toNat)
      case atStart => exact ⟨wd, 0, rfl, hwd, Nat.zero_le _, fun j => by simp, HJK.out, HKP.out⟩
      case round =>
        obtain ⟨x, t, rfl, hx64, ht, hbits, hJt, hkt⟩ := hrel
        have HBITS := Lib.hid hbits
        have HJT := Lib.hid hJt
        have HKT := Lib.hid hkt
        clear hbits hJt hkt
        by_cases hx0 : x = 0
        · subst hx0
          gi_wp2
          go_roundw
          case rel =>
            refine ⟨k + 1, by omega, by simp, ?_, HKT.out⟩
            have hg := upToL_gap ws (64 * k + t) (64 - t) fun m h1 h2 => by
              rw [show m = 64 * k + (m - 64 * k) from by omega, memW_word ws k _ (by omega), ← HWD.out]
              have := HBITS.out (m - 64 * k)
              simp only [Nat.zero_testBit] at this
              have ht2 : t ≤ m - 64 * k := by omega
              simpa [ht2] using this.symm
            rw [show 64 * (k + 1) = 64 * k + t + (64 - t) from by omega, hg]
            exact HJT.out
          case measure => simp [intOf]; omega
        · obtain ⟨hc64, hcb, hclow, hand, hax⟩ := low_bit x hx0 hx64
          have HTZ := fun w hT => tz_any x hx64 hx0 w hT
          obtain ⟨cz, hcz⟩ : ∃ cz, cz = Lib.ctz 64 x := ⟨_, rfl⟩
          rw [← hcz] at hc64 hcb hclow hax HTZ
          have HTAB : Hid (TabAt wr) := Lib.hid (HKT.out.tab (by rw [HROW.out]; exact hr0) HTC.out)
          have hb1 := HBITS.out cz
          rw [hcb] at hb1
          have htc : t ≤ cz := by
            rcases Nat.lt_or_ge cz t with h | h
            · have : ¬ t ≤ cz := by omega
              simp [this] at hb1
            · exact h
          have hwc : wd.testBit cz = true := by simpa [htc] using hb1.symm
          have hg := upToL_gap ws (64 * k + t) (cz - t) fun m h1 h2 => by
            rw [show m = 64 * k + (m - 64 * k) from by omega, memW_word ws k _ (by omega), ← HWD.out]
            have h3 := HBITS.out (m - 64 * k)
            rw [hclow _ (by omega)] at h3
            have ht2 : t ≤ m - 64 * k := by omega
            simpa [ht2] using h3.symm
          rw [show 64 * k + t + (cz - t) = 64 * k + cz from by omega] at hg
          have hmem : memW ws (64 * k + cz) = true := by rw [memW_word ws k _ hc64, ← HWD.out]; exact hwc
          have hhit := upToL_hit ws (64 * k + cz) hmem
          have hJc2 : J (upToL ws (64 * k + cz)) wr := by rw [hg]; exact HJT.out
          have hcast : ((64 * k + cz : Nat) : Int) = 64 * (k : Int) + (cz : Int) := by simp
          rw [hcast] at hhit
          have hpx := upToL_prefix ws (show 64 * k + cz + 1 ≤ 64 * ws.length by omega)
          rw [hhit] at hpx
          obtain ⟨fn, tmps, assign, body, hy, hR⟩ := hY _ (64 * (k : Int) + (cz : Int)) wr hJc2 hpx
          have HHIT := Lib.hid hhit
          have HAX := Lib.hid hax
          have HAND := Lib.hid hand
          have HCZ := Lib.hid hcz
          have HR := Lib.hid hR
          have HTZH := Lib.hid HTZ
          clear hcb hclow hax hb1 hwc hg hmem hpx hhit hJc2 hcast hand hcz hR HTZ
          gi_wp2_with (refine ⟨trivial, ?_⟩; gi_at_call 36; refine (callsIn_wide.2 (HTZH.out _ HTAB.out)).mono ?_; rintro e w' ⟨rfl, rfl⟩)
          refine HR.out.mono ?_
          rintro e W3 (⟨rfl, hJ3, hk3⟩ | ⟨rfl, hJx3⟩)
          · have HJ3 := Lib.hid hJ3
            have HK3 := Lib.hid hk3
            clear hJ3 hk3 hy
            gi_wp2
            go_roundw
            case rel => exact ⟨x &&& (x - 1), cz + 1, by rw [word_less x hx64 hx0], by have := HAND.out; omega, by omega, fun j => by
              rw [HAX.out j, HBITS.out j]
              by_cases h : cz + 1 ≤ j
              · have : t ≤ j := by omega
                simp [h, this]
              · simp [h], by rw [← Nat.add_assoc, HHIT.out]; exact HJ3.out, HKT.out.trans HK3.out⟩
            case measure => rw [word_less x hx64 hx0]; simp only [intOf]; have := HAND.out; omega
          · have HJX := Lib.hid hJx3
            clear hJx3 hy
            gi_wp2
            refine bodyPost_ret (results_none rfl _ _ _) rfl ?_
            have hp := upToL_prefix ws (show 64 * k + cz + 1 ≤ 64 * ws.length by omega)
            rw [HHIT.out] at hp
            exact ⟨⟨_, rfl⟩, .inr ⟨_, hp, HJX.out⟩⟩
    · obtain rfl : k = ws.length := by omega
      gi_wp2
      go_end0
      exact ⟨⟨_, rfl⟩, .inl ⟨_, rfl, HJK.out⟩⟩
end Go.Proofs.YtdnlgcomhgnegaaDoor
