/- slices.Backward over a row of blocks and over a row of instructions. (Written by wip/genback.py.) -/
import Derived.Test.YtlniohgnkihefaaDeadA
import Derived.RangeFuncNested
import Derived.RangeFuncBound
import Derived.RangeFuncCalls
import Derived.RangeFuncLeaves
import Derived.RangeFuncBox
import Derived.Shelf.Abstract
import Derived.Shelf.RegionOpen
import Derived.WalkKit
import Derived.OwnWalkIn
import Derived.TacticsInMore
import Derived.LoopNIn
import Derived.LoopIn
namespace Go.Proofs.Ytlniohgnkihefaa
open Go.RowKit Go.Shelf
attribute [local go_sem] Oper.semAt_some

/-- A row's elements with their places, from the last one on. -/
def revI {β : Type} (bs : List β) : List (Nat × β) := ((List.range bs.length).zip bs).reverse
theorem revI_len {β : Type} (bs : List β) : (revI bs).length = bs.length := by simp [revI]
theorem revI_at {β : Type} (bs : List β) (k : Nat) (h : k < bs.length) (h' : bs.length - 1 - k < bs.length) : (revI bs)[k]? = some (bs.length - 1 - k, bs[bs.length - 1 - k]) := by
  unfold revI
  have hl : ((List.range bs.length).zip bs).length = bs.length := by simp
  rw [List.getElem?_reverse (by omega), hl, List.getElem?_eq_getElem (by omega)]
  simp
/-- An element, as it lies: its own slice's address and capacity. -/
structure BlkQ where
  k : Blk
  A : Option Addr
  c : Nat
structure InsQ where
  k : Ins
  A : Option Addr
  c : Nat
/-- What a round must keep: the box of the slice, and the row. -/
def KpW (Bn : Nat) (A : Option Addr) (W W' : World) : Prop := W'.heap[Bn]? = W.heap[Bn]? ∧ ∀ g off, A = some ⟨g, off, none⟩ → W'.heap[g]? = W.heap[g]?
theorem KpW.refl (Bn : Nat) (A : Option Addr) (W : World) : KpW Bn A W W := ⟨rfl, fun _ _ _ => rfl⟩
theorem KpW.trans {Bn : Nat} {A : Option Addr} {X Y Z : World} (h : KpW Bn A X Y) (k : KpW Bn A Y Z) : KpW Bn A X Z := ⟨k.1.trans h.1, fun g off e => (k.2 g off e).trans (h.2 g off e)⟩
theorem int_back (k : Nat) (h : 0 < k) : ((k : Int) - 1 : Int) = ((k - 1 : Nat) : Int) := by omega

/-- A row of blocks in memory. -/
def BlkRow (w : World) (A : Option Addr) (bs : List BlkQ) : Prop := 0 < bs.length → ∃ g off, A = some ⟨g, off, none⟩ ∧ g < w.heap.size ∧ ∀ i (h : i < bs.length) j v, (blkCells bs[i].k (.slice bs[i].A bs[i].k.ins.length bs[i].c))[j]? = some v → w.cell? ⟨g, off + i * 5 + j, none⟩ = some v
theorem backB_fn (A : Option Addr) (n c : Nat) (w : World) :
    Calls Try.prog 37 #[.slice A n c] w fun e w' => e = .returned (.func (.func 54) #[] #[.pointer (some ⟨w.heap.size, 0, none⟩)]) ∧ w' = w.alloc (.cells #[.slice A n c] 29) := by
  go_enter Try.func37, Try.ntmps37
  go_wp2
  go_ret
  exact ⟨rfl, rfl⟩
set_option maxRecDepth 100000 in
set_option maxHeartbeats 2000000 in
theorem backB_in (n : Nat) (hn : 1 ≤ n) (l Bn : Nat) (A : Option Addr) (c : Nat) (bs : List BlkQ) (hl : bs.length ≤ 9223372036854775807) (J Jx : List (Nat × BlkQ) → World → Prop)
    (hY : ∀ pre x W, J pre W → pre ++ [x] <+: revI bs → YieldAt Fence.wide (n - 1) Try.prog l #[.int .i64 (x.1 : Nat), blkAgg x.2.k x.2.A x.2.c] W fun e W' =>
      (e = .returned (.bool true) ∧ J (pre ++ [x]) W' ∧ KpW Bn A W W') ∨ (e = .returned (.bool false) ∧ Jx (pre ++ [x]) W'))
    (W : World) (hBn : W.cell? ⟨Bn, 0, none⟩ = some (.slice A bs.length c)) (hR : BlkRow W A bs) (h0 : J [] W) :
    CallsIn Fence.wide n Try.prog 54 #[.func (.yield l) #[] #[], .pointer (some ⟨Bn, 0, none⟩)] W fun e W' => (∃ v, e = .returned v) ∧
      ((∃ ys, ys = revI bs ∧ J ys W') ∨ (∃ pre, pre <+: revI bs ∧ Jx pre W')) := by
  obtain ⟨m, hm⟩ : ∃ m, m = bs.length := ⟨_, rfl⟩
  rw [← hm] at hl hBn
  have HM := Lib.hid hm
  have HY := Lib.hid hY
  have HR := Lib.hid hR
  have HBN := Lib.hid hBn
  have HJ0 := Lib.hid h0
  clear hm hY hR h0
  refine callsIn_of_wp Try.func54 rfl trivial ?_ rfl
  simp only [Try.ntmps54, List.size_toArray, List.length_cons, List.length_nil, Nat.reduceAdd, Nat.reduceSub, Array.replicate_succ, Array.replicate_zero, List.push_toArray, List.append_toArray, List.nil_append, List.cons_append]
  gi_wp2_with fail
  gi_loopw [3] (fun i wr => ∃ k : Nat, k ≤ m ∧ i = .int .i64 (((m - k : Nat) : Int) - 1) ∧ J ((revI bs).take k) wr ∧ KpW Bn A W wr) (fun i _ => (intOf i + 1).toNat)
  case atStart => exact ⟨0, Nat.zero_le _, by simp, HJ0.out, KpW.refl _ _ _⟩
  case round =>
    obtain ⟨k, hk, rfl, hJk, hkp⟩ := hrel
    have HJK := Lib.hid hJk
    have HKP := Lib.hid hkp
    clear hJk hkp
    have hBn2 : wr.cell? ⟨Bn, 0, none⟩ = some (.slice A m c) := (World.cell?_of_block (a := ⟨Bn, 0, none⟩) HKP.out.1).trans HBN.out
    obtain ⟨q, hq⟩ : ∃ q, q = m - k := ⟨_, rfl⟩
    rw [← hq]
    by_cases hlt : k < m
    · obtain ⟨g, off, rfl, hg, hcell⟩ := HR.out (by rw [← HM.out]; omega)
      obtain ⟨p, hp⟩ : ∃ p, p = q - 1 := ⟨_, rfl⟩
      rw [int_back q (by omega), ← hp]
      have hpl : p < bs.length := by rw [← HM.out]; omega
      have hpm : p < m := by omega
      obtain ⟨x, hx⟩ : ∃ x, x = bs[p] := ⟨_, rfl⟩
      have hcx : ∀ j v, (blkCells x.k (.slice x.A x.k.ins.length x.c))[j]? = some v → wr.cell? ⟨g, off + p * 5 + j, none⟩ = some v := fun j v hv => (World.cell?_of_block (a := ⟨g, off + p * 5 + j, none⟩) (HKP.out.2 g off rfl)).trans (hcell p hpl j v (by rw [← hx]; exact hv))
      have hc0 : wr.cell? ⟨g, off + p * 5, none⟩ = some (.slice x.A x.k.ins.length x.c) := hcx 0 _ rfl
      have hc1 : wr.cell? ⟨g, off + p * 5 + 1, none⟩ = some (.int .i64 x.k.kind) := hcx 1 _ rfl
      have hc2 : wr.cell? ⟨g, off + p * 5 + 2, none⟩ = some (.int .i64 x.k.a) := hcx 2 _ rfl
      have hc3 : wr.cell? ⟨g, off + p * 5 + 3, none⟩ = some (.int .i64 x.k.to) := hcx 3 _ rfl
      have hc4 : wr.cell? ⟨g, off + p * 5 + 4, none⟩ = some (.int .i64 x.k.els) := hcx 4 _ rfl
      have htk : (revI bs).take (k + 1) = (revI bs).take k ++ [(p, x)] := by
        have hkl : k < (revI bs).length := by rw [revI_len, ← HM.out]; exact hlt
        rw [List.take_succ_eq_append_getElem hkl]
        have h1 := revI_at bs k (by rw [← HM.out]; exact hlt) (by rw [← HM.out]; omega)
        rw [List.getElem?_eq_getElem hkl] at h1
        injection h1 with h1
        have hpe : bs.length - 1 - k = p := by rw [← HM.out]; omega
        rw [h1]
        simp only [hpe]
        rw [hx]
      obtain ⟨fn, tmps, assign, body, hy, hRd⟩ := HY.out ((revI bs).take k) (p, x) wr HJK.out (by rw [← htk]; exact List.take_prefix _ _)
      have HR2 := Lib.hid hRd
      have HTK := Lib.hid htk
      have hq1 : (0 : Int) ≤ (p : Int) := by omega
      have hq2 : (p : Int) < (m : Int) := by omega
      have HPQ := Lib.hid (And.intro hp hq)
      unfold blkAgg at hy
      clear hcx htk hRd hx hcell hp hq
      gi_wp2_with fail
      refine HR2.out.mono ?_
      rintro e W3 (⟨rfl, hJ3, hk3⟩ | ⟨rfl, hJx3⟩)
      · have hJ4 : J ((revI bs).take (k + 1)) W3 := by rw [HTK.out]; exact hJ3
        have HJ3 := Lib.hid hJ4
        have HK3 := Lib.hid hk3
        clear hJ3 hJ4 hk3 hy
        gi_wp2_with fail
        go_roundw
        case rel => exact ⟨k + 1, by omega, by have h1 := HPQ.out; (try rw [IntWalk.i64_in ((p : Int) - 1) (by omega)]); congr 1; omega, HJ3.out, HKP.out.trans HK3.out⟩
        case measure => (try rw [IntWalk.i64_in ((p : Int) - 1) (by omega)]); simp only [intOf]; omega
      · have HJX := Lib.hid hJx3
        have hpre : (revI bs).take k ++ [(p, x)] <+: revI bs := by rw [← HTK.out]; exact List.take_prefix _ _
        clear hJx3 hy
        gi_wp2_with fail
        refine bodyPost_ret (results_none rfl _ _ _) rfl ?_
        exact ⟨⟨_, rfl⟩, .inr ⟨_, hpre, HJX.out⟩⟩
    · obtain rfl : k = m := by omega
      obtain rfl : q = 0 := by omega
      have hall : J (revI bs) wr := by
        have h := HJK.out
        rw [List.take_of_length_le (by rw [revI_len, ← HM.out]; omega)] at h
        exact h
      have HALL := Lib.hid hall
      clear hall hq
      gi_wp2_with fail
      go_end0
      exact ⟨⟨_, rfl⟩, .inl ⟨_, rfl, HALL.out⟩⟩

/-- A row of instructions in memory. -/
def InsRow (w : World) (A : Option Addr) (bs : List InsQ) : Prop := 0 < bs.length → ∃ g off, A = some ⟨g, off, none⟩ ∧ g < w.heap.size ∧ ∀ i (h : i < bs.length) j v, (insCells bs[i].k (.slice bs[i].A bs[i].k.args.length bs[i].c))[j]? = some v → w.cell? ⟨g, off + i * 8 + j, none⟩ = some v
theorem backI_fn (A : Option Addr) (n c : Nat) (w : World) :
    Calls Try.prog 41 #[.slice A n c] w fun e w' => e = .returned (.func (.func 58) #[] #[.pointer (some ⟨w.heap.size, 0, none⟩)]) ∧ w' = w.alloc (.cells #[.slice A n c] 43) := by
  go_enter Try.func41, Try.ntmps41
  go_wp2
  go_ret
  exact ⟨rfl, rfl⟩
set_option maxRecDepth 100000 in
set_option maxHeartbeats 2000000 in
theorem backI_in (n : Nat) (hn : 1 ≤ n) (l Bn : Nat) (A : Option Addr) (c : Nat) (bs : List InsQ) (hl : bs.length ≤ 9223372036854775807) (J Jx : List (Nat × InsQ) → World → Prop)
    (hY : ∀ pre x W, J pre W → pre ++ [x] <+: revI bs → YieldAt Fence.wide (n - 1) Try.prog l #[.int .i64 (x.1 : Nat), insAgg x.2.k x.2.A x.2.c] W fun e W' =>
      (e = .returned (.bool true) ∧ J (pre ++ [x]) W' ∧ KpW Bn A W W') ∨ (e = .returned (.bool false) ∧ Jx (pre ++ [x]) W'))
    (W : World) (hBn : W.cell? ⟨Bn, 0, none⟩ = some (.slice A bs.length c)) (hR : InsRow W A bs) (h0 : J [] W) :
    CallsIn Fence.wide n Try.prog 58 #[.func (.yield l) #[] #[], .pointer (some ⟨Bn, 0, none⟩)] W fun e W' => (∃ v, e = .returned v) ∧
      ((∃ ys, ys = revI bs ∧ J ys W') ∨ (∃ pre, pre <+: revI bs ∧ Jx pre W')) := by
  obtain ⟨m, hm⟩ : ∃ m, m = bs.length := ⟨_, rfl⟩
  rw [← hm] at hl hBn
  have HM := Lib.hid hm
  have HY := Lib.hid hY
  have HR := Lib.hid hR
  have HBN := Lib.hid hBn
  have HJ0 := Lib.hid h0
  clear hm hY hR h0
  refine callsIn_of_wp Try.func58 rfl trivial ?_ rfl
  simp only [Try.ntmps58, List.size_toArray, List.length_cons, List.length_nil, Nat.reduceAdd, Nat.reduceSub, Array.replicate_succ, Array.replicate_zero, List.push_toArray, List.append_toArray, List.nil_append, List.cons_append]
  gi_wp2_with fail
  gi_loopw [3] (fun i wr => ∃ k : Nat, k ≤ m ∧ i = .int .i64 (((m - k : Nat) : Int) - 1) ∧ J ((revI bs).take k) wr ∧ KpW Bn A W wr) (fun i _ => (intOf i + 1).toNat)
  case atStart => exact ⟨0, Nat.zero_le _, by simp, HJ0.out, KpW.refl _ _ _⟩
  case round =>
    obtain ⟨k, hk, rfl, hJk, hkp⟩ := hrel
    have HJK := Lib.hid hJk
    have HKP := Lib.hid hkp
    clear hJk hkp
    have hBn2 : wr.cell? ⟨Bn, 0, none⟩ = some (.slice A m c) := (World.cell?_of_block (a := ⟨Bn, 0, none⟩) HKP.out.1).trans HBN.out
    obtain ⟨q, hq⟩ : ∃ q, q = m - k := ⟨_, rfl⟩
    rw [← hq]
    by_cases hlt : k < m
    · obtain ⟨g, off, rfl, hg, hcell⟩ := HR.out (by rw [← HM.out]; omega)
      obtain ⟨p, hp⟩ : ∃ p, p = q - 1 := ⟨_, rfl⟩
      rw [int_back q (by omega), ← hp]
      have hpl : p < bs.length := by rw [← HM.out]; omega
      have hpm : p < m := by omega
      obtain ⟨x, hx⟩ : ∃ x, x = bs[p] := ⟨_, rfl⟩
      have hcx : ∀ j v, (insCells x.k (.slice x.A x.k.args.length x.c))[j]? = some v → wr.cell? ⟨g, off + p * 8 + j, none⟩ = some v := fun j v hv => (World.cell?_of_block (a := ⟨g, off + p * 8 + j, none⟩) (HKP.out.2 g off rfl)).trans (hcell p hpl j v (by rw [← hx]; exact hv))
      have hc0 : wr.cell? ⟨g, off + p * 8, none⟩ = some (.int .i64 x.k.kind) := hcx 0 _ rfl
      have hc1 : wr.cell? ⟨g, off + p * 8 + 1, none⟩ = some (.int .i64 x.k.op) := hcx 1 _ rfl
      have hc2 : wr.cell? ⟨g, off + p * 8 + 2, none⟩ = some (.int .i64 x.k.d) := hcx 2 _ rfl
      have hc3 : wr.cell? ⟨g, off + p * 8 + 3, none⟩ = some (.int .i64 x.k.a) := hcx 3 _ rfl
      have hc4 : wr.cell? ⟨g, off + p * 8 + 4, none⟩ = some (.int .i64 x.k.b) := hcx 4 _ rfl
      have hc5 : wr.cell? ⟨g, off + p * 8 + 5, none⟩ = some (.int .i32 x.k.num) := hcx 5 _ rfl
      have hc6 : wr.cell? ⟨g, off + p * 8 + 6, none⟩ = some (.string x.k.name) := hcx 6 _ rfl
      have hc7 : wr.cell? ⟨g, off + p * 8 + 7, none⟩ = some (.slice x.A x.k.args.length x.c) := hcx 7 _ rfl
      have htk : (revI bs).take (k + 1) = (revI bs).take k ++ [(p, x)] := by
        have hkl : k < (revI bs).length := by rw [revI_len, ← HM.out]; exact hlt
        rw [List.take_succ_eq_append_getElem hkl]
        have h1 := revI_at bs k (by rw [← HM.out]; exact hlt) (by rw [← HM.out]; omega)
        rw [List.getElem?_eq_getElem hkl] at h1
        injection h1 with h1
        have hpe : bs.length - 1 - k = p := by rw [← HM.out]; omega
        rw [h1]
        simp only [hpe]
        rw [hx]
      obtain ⟨fn, tmps, assign, body, hy, hRd⟩ := HY.out ((revI bs).take k) (p, x) wr HJK.out (by rw [← htk]; exact List.take_prefix _ _)
      have HR2 := Lib.hid hRd
      have HTK := Lib.hid htk
      have hq1 : (0 : Int) ≤ (p : Int) := by omega
      have hq2 : (p : Int) < (m : Int) := by omega
      have HPQ := Lib.hid (And.intro hp hq)
      unfold insAgg at hy
      clear hcx htk hRd hx hcell hp hq
      gi_wp2_with fail
      refine HR2.out.mono ?_
      rintro e W3 (⟨rfl, hJ3, hk3⟩ | ⟨rfl, hJx3⟩)
      · have hJ4 : J ((revI bs).take (k + 1)) W3 := by rw [HTK.out]; exact hJ3
        have HJ3 := Lib.hid hJ4
        have HK3 := Lib.hid hk3
        clear hJ3 hJ4 hk3 hy
        gi_wp2_with fail
        go_roundw
        case rel => exact ⟨k + 1, by omega, by have h1 := HPQ.out; (try rw [IntWalk.i64_in ((p : Int) - 1) (by omega)]); congr 1; omega, HJ3.out, HKP.out.trans HK3.out⟩
        case measure => (try rw [IntWalk.i64_in ((p : Int) - 1) (by omega)]); simp only [intOf]; omega
      · have HJX := Lib.hid hJx3
        have hpre : (revI bs).take k ++ [(p, x)] <+: revI bs := by rw [← HTK.out]; exact List.take_prefix _ _
        clear hJx3 hy
        gi_wp2_with fail
        refine bodyPost_ret (results_none rfl _ _ _) rfl ?_
        exact ⟨⟨_, rfl⟩, .inr ⟨_, hpre, HJX.out⟩⟩
    · obtain rfl : k = m := by omega
      obtain rfl : q = 0 := by omega
      have hall : J (revI bs) wr := by
        have h := HJK.out
        rw [List.take_of_length_le (by rw [revI_len, ← HM.out]; omega)] at h
        exact h
      have HALL := Lib.hid hall
      clear hall hq
      gi_wp2_with fail
      go_end0
      exact ⟨⟨_, rfl⟩, .inl ⟨_, rfl, HALL.out⟩⟩
end Go.Proofs.Ytlniohgnkihefaa
