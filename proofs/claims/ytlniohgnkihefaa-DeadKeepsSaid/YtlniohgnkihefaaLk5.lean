/- slices.Backward over a row of blocks and over a row of instructions. (Written by wip/genback.py.) -/
import Derived.RangeFuncNested
import Derived.RangeFuncBound
import Derived.RangeFuncCalls
import Derived.RangeFuncLeaves
import Derived.RangeFuncBox
import Derived.Shelf.Abstract
import Derived.Shelf.RegionOpen
import Derived.WalkKit
import Derived.OwnWalkIn
import Derived.TacticsInMore
import Derived.LoopNIn
import Derived.LoopIn
import Derived.Test.YtlniohgnkihefaaLk4
import Derived.BigQuiet
import Derived.Deep.QuietTactic
import Derived.Test.YtlniohgnkihefaaLk2
namespace Go.Proofs.Ytlniohgnkihefaa
open Go.RowKit Go.Shelf
attribute [local go_sem] Oper.semAt_some

/-- A row's elements with their places, from the last one on. -/
def revI {β : Type} (bs : List β) : List (Nat × β) := ((List.range bs.length).zip bs).reverse
theorem revI_len {β : Type} (bs : List β) : (revI bs).length = bs.length := by simp [revI]
theorem revI_at {β : Type} (bs : List β) (k : Nat) (h : k < bs.length) (h' : bs.length - 1 - k < bs.length) : (revI bs)[k]? = some (bs.length - 1 - k, bs[bs.length - 1 - k]) := by
  unfold revI
  have hl : ((List.range bs.length).zip bs).length = bs.length := by simp
  rw [List.getElem?_reverse (by omega), hl, List.getElem?_eq_getElem (by omega)]
  simp
/-- An element, as it lies: its own slice's address and capacity. -/
structure BlkQ where
  k : Blk
  A : Option Addr
  c : Nat
structure InsQ where
  k : Ins
  A : Option Addr
  c : Nat
/-- What a round must keep: the box of the slice, and the row. -/
def KpW (Bn : Nat) (A : Option Addr) (W W' : World) : Prop := W'.heap[Bn]? = W.heap[Bn]? ∧ ∀ g off, A = some ⟨g, off, none⟩ → W'.heap[g]? = W.heap[g]?
theorem KpW.refl (Bn : Nat) (A : Option Addr) (W : World) : KpW Bn A W W := ⟨rfl, fun _ _ _ => rfl⟩
theorem KpW.trans {Bn : Nat} {A : Option Addr} {X Y Z : World} (h : KpW Bn A X Y) (k : KpW Bn A Y Z) : KpW Bn A X Z := ⟨k.1.trans h.1, fun g off e => (k.2 g off e).trans (h.2 g off e)⟩
theorem int_back (k : Nat) (h : 0 < k) : ((k : Int) - 1 : Int) = ((k - 1 : Nat) : Int) := by omega

/-- A row of blocks in memory. -/
def BlkRow (w : World) (A : Option Addr) (bs : List BlkQ) : Prop := 0 < bs.length → ∃ g off, A = some ⟨g, off, none⟩ ∧ g < w.heap.size ∧ ∀ i (h : i < bs.length) j v, (blkCells bs[i].k (.slice bs[i].A bs[i].k.ins.length bs[i].c))[j]? = some v → w.cell? ⟨g, off + i * 5 + j, none⟩ = some v
theorem backB_fn (A : Option Addr) (n c : Nat) (w : World) :
    Calls Try.prog 37 #[.slice A n c] w fun e w' => e = .returned (.func (.func 54) #[] #[.pointer (some ⟨w.heap.size, 0, none⟩)]) ∧ w' = w.alloc (.cells #[.slice A n c] 29) := by
  go_enter Try.func37, Try.ntmps37
  go_wp2
  go_ret
  exact ⟨rfl, rfl⟩
set_option maxRecDepth 100000 in
set_option maxHeartbeats 2000000 in
theorem backB_in (n : Nat) (hn : 1 ≤ n) (l Bn : Nat) (A : Option Addr) (c : Nat) (bs : List BlkQ) (hl : bs.length ≤ 9223372036854775807) (J Jx : List (Nat × BlkQ) → World → Prop)
    (hY : ∀ pre x W, J pre W → pre ++ [x] <+: revI bs → YieldAt Fence.wide (n - 1) Try.prog l #[.int .i64 (x.1 : Nat), blkAgg x.2.k x.2.A x.2.c] W fun e W' =>
      (e = .returned (.bool true) ∧ J (pre ++ [x]) W' ∧ KpW Bn A W W') ∨ (e = .returned (.bool false) ∧ Jx (pre ++ [x]) W'))
    (W : World) (hBn : W.cell? ⟨Bn, 0, none⟩ = some (.slice A bs.length c)) (hR : BlkRow W A bs) (h0 : J [] W) :
    CallsIn Fence.wide n Try.prog 54 #[.func (.yield l) #[] #[], .pointer (some ⟨Bn, 0, none⟩)] W fun e W' => (∃ v, e = .returned v) ∧
      ((∃ ys, ys = revI bs ∧ J ys W') ∨ (∃ pre, pre <+: revI bs ∧ Jx pre W')) := by
  obtain ⟨m, hm⟩ : ∃ m, m = bs.length := ⟨_, rfl⟩
  rw [← hm] at hl hBn
  have HM := Lib.hid hm
  have HY := Lib.hid hY
  have HR := Lib.hid hR
  have HBN := Lib.hid hBn
  have HJ0 := Lib.hid h0
  clear hm hY hR h0
  refine callsIn_of_wp Try.func54 rfl trivial ?_ rfl
  simp only [Try.ntmps54, List.size_toArray, List.length_cons, List.length_nil, Nat.reduceAdd, Nat.reduceSub, Array.replicate_succ, Array.replicate_zero, List.push_toArray, List.append_toArray, List.nil_append, List.cons_append]
  gi_wp2_with fail
  gi_loopw [3] (fun i wr => ∃ k : Nat, k ≤ m ∧ i = .int .i64 (((m - k : Nat) : Int) - 1) ∧ J ((revI bs).take k) wr ∧ KpW Bn A W wr) (fun i _ => (intOf i + 1).toNat)
  case atStart => exact ⟨0, Nat.zero_le _, by simp, HJ0.out, KpW.refl _ _ _⟩
  case round =>
    obtain ⟨k, hk, rfl, hJk, hkp⟩ := hrel
    have HJK := Lib.hid hJk
    have HKP := Lib.hid hkp
    clear hJk hkp
    have hBn2 : wr.cell? ⟨Bn, 0, none⟩ = some (.slice A m c) := (World.cell?_of_block (a := ⟨Bn, 0, none⟩) HKP.out.1).trans HBN.out
    obtain ⟨q, hq⟩ : ∃ q, q = m - k := ⟨_, rfl⟩
    rw [← hq]
    by_cases hlt : k < m
    · obtain ⟨g, off, rfl, hg, hcell⟩ := HR.out (by rw [← HM.out]; omega)
      obtain ⟨p, hp⟩ : ∃ p, p = q - 1 := ⟨_, rfl⟩
      rw [int_back q (by omega), ← hp]
      have hpl : p < bs.length := by rw [← HM.out]; omega
      have hpm : p < m := by omega
      obtain ⟨x, hx⟩ : ∃ x, x = bs[p] := ⟨_, rfl⟩
      have hcx : ∀ j v, (blkCells x.k (.slice x.A x.k.ins.length x.c))[j]? = some v → wr.cell? ⟨g, off + p * 5 + j, none⟩ = some v := fun j v hv => (World.cell?_of_block (a := ⟨g, off + p * 5 + j, none⟩) (HKP.out.2 g off rfl)).trans (hcell p hpl j v (by rw [← hx]; exact hv))
      have hc0 : wr.cell? ⟨g, off + p * 5, none⟩ = some (.slice x.A x.k.ins.length x.c) := hcx 0 _ rfl
      have hc1 : wr.cell? ⟨g, off + p * 5 + 1, none⟩ = some (.int .i64 x.k.kind) := hcx 1 _ rfl
      have hc2 : wr.cell? ⟨g, off + p * 5 + 2, none⟩ = some (.int .i64 x.k.a) := hcx 2 _ rfl
      have hc3 : wr.cell? ⟨g, off + p * 5 + 3, none⟩ = some (.int .i64 x.k.to) := hcx 3 _ rfl
      have hc4 : wr.cell? ⟨g, off + p * 5 + 4, none⟩ = some (.int .i64 x.k.els) := hcx 4 _ rfl
      have htk : (revI bs).take (k + 1) = (revI bs).take k ++ [(p, x)] := by
        have hkl : k < (revI bs).length := by rw [revI_len, ← HM.out]; exact hlt
        rw [List.take_succ_eq_append_getElem hkl]
        have h1 := revI_at bs k (by rw [← HM.out]; exact hlt) (by rw [← HM.out]; omega)
        rw [List.getElem?_eq_getElem hkl] at h1
        injection h1 with h1
        have hpe : bs.length - 1 - k = p := by rw [← HM.out]; omega
        rw [h1]
        simp only [hpe]
        rw [hx]
      obtain ⟨fn, tmps, assign, body, hy, hRd⟩ := HY.out ((revI bs).take k) (p, x) wr HJK.out (by rw [← htk]; exact List.take_prefix _ _)
      have HR2 := Lib.hid hRd
      have HTK := Lib.hid htk
      have hq1 : (0 : Int) ≤ (p : Int) := by omega
      have hq2 : (p : Int) < (m : Int) := by omega
      have HPQ := Lib.hid (And.intro hp hq)
      unfold blkAgg at hy
      clear hcx htk hRd hx hcell hp hq
      gi_wp2_with fail
      refine HR2.out.mono ?_
      rintro e W3 (⟨rfl, hJ3, hk3⟩ | ⟨rfl, hJx3⟩)
      · have hJ4 : J ((revI bs).take (k + 1)) W3 := by rw [HTK.out]; exact hJ3
        have HJ3 := Lib.hid hJ4
        have HK3 := Lib.hid hk3
        clear hJ3 hJ4 hk3 hy
        gi_wp2_with fail
        go_roundw
        case rel => exact ⟨k + 1, by omega, by have h1 := HPQ.out; (try rw [IntWalk.i64_in ((p : Int) - 1) (by omega)]); congr 1; omega, HJ3.out, HKP.out.trans HK3.out⟩
        case measure => (try rw [IntWalk.i64_in ((p : Int) - 1) (by omega)]); simp only [intOf]; omega
      · have HJX := Lib.hid hJx3
        have hpre : (revI bs).take k ++ [(p, x)] <+: revI bs := by rw [← HTK.out]; exact List.take_prefix _ _
        clear hJx3 hy
        gi_wp2_with fail
        refine bodyPost_ret (results_none rfl _ _ _) rfl ?_
        exact ⟨⟨_, rfl⟩, .inr ⟨_, hpre, HJX.out⟩⟩
    · obtain rfl : k = m := by omega
      obtain rfl : q = 0 := by omega
      have hall : J (revI bs) wr := by
        have h := HJK.out
        rw [List.take_of_length_le (by rw [revI_len, ← HM.out]; omega)] at h
        exact h
      have HALL := Lib.hid hall
      clear hall hq
      gi_wp2_with fail
      go_end0
      exact ⟨⟨_, rfl⟩, .inl ⟨_, rfl, HALL.out⟩⟩

/-- A row of instructions in memory. -/
def InsRow (w : World) (A : Option Addr) (bs : List InsQ) : Prop := 0 < bs.length → ∃ g off, A = some ⟨g, off, none⟩ ∧ g < w.heap.size ∧ ∀ i (h : i < bs.length) j v, (insCells bs[i].k (.slice bs[i].A bs[i].k.args.length bs[i].c))[j]? = some v → w.cell? ⟨g, off + i * 8 + j, none⟩ = some v
theorem backI_fn (A : Option Addr) (n c : Nat) (w : World) :
    Calls Try.prog 41 #[.slice A n c] w fun e w' => e = .returned (.func (.func 58) #[] #[.pointer (some ⟨w.heap.size, 0, none⟩)]) ∧ w' = w.alloc (.cells #[.slice A n c] 43) := by
  go_enter Try.func41, Try.ntmps41
  go_wp2
  go_ret
  exact ⟨rfl, rfl⟩
set_option maxRecDepth 100000 in
set_option maxHeartbeats 2000000 in
theorem backI_in (n : Nat) (hn : 1 ≤ n) (l Bn : Nat) (A : Option Addr) (c : Nat) (bs : List InsQ) (hl : bs.length ≤ 9223372036854775807) (J Jx : List (Nat × InsQ) → World → Prop)
    (hY : ∀ pre x W, J pre W → pre ++ [x] <+: revI bs → YieldAt Fence.wide (n - 1) Try.prog l #[.int .i64 (x.1 : Nat), insAgg x.2.k x.2.A x.2.c] W fun e W' =>
      (e = .returned (.bool true) ∧ J (pre ++ [x]) W' ∧ KpW Bn A W W') ∨ (e = .returned (.bool false) ∧ Jx (pre ++ [x]) W'))
    (W : World) (hBn : W.cell? ⟨Bn, 0, none⟩ = some (.slice A bs.length c)) (hR : InsRow W A bs) (h0 : J [] W) :
    CallsIn Fence.wide n Try.prog 58 #[.func (.yield l) #[] #[], .pointer (some ⟨Bn, 0, none⟩)] W fun e W' => (∃ v, e = .returned v) ∧
      ((∃ ys, ys = revI bs ∧ J ys W') ∨ (∃ pre, pre <+: revI bs ∧ Jx pre W')) := by
  obtain ⟨m, hm⟩ : ∃ m, m = bs.length := ⟨_, rfl⟩
  rw [← hm] at hl hBn
  have HM := Lib.hid hm
  have HY := Lib.hid hY
  have HR := Lib.hid hR
  have HBN := Lib.hid hBn
  have HJ0 := Lib.hid h0
  clear hm hY hR h0
  refine callsIn_of_wp Try.func58 rfl trivial ?_ rfl
  simp only [Try.ntmps58, List.size_toArray, List.length_cons, List.length_nil, Nat.reduceAdd, Nat.reduceSub, Array.replicate_succ, Array.replicate_zero, List.push_toArray, List.append_toArray, List.nil_append, List.cons_append]
  gi_wp2_with fail
  gi_loopw [3] (fun i wr => ∃ k : Nat, k ≤ m ∧ i = .int .i64 (((m - k : Nat) : Int) - 1) ∧ J ((revI bs).take k) wr ∧ KpW Bn A W wr) (fun i _ => (intOf i + 1).toNat)
  case atStart => exact ⟨0, Nat.zero_le _, by simp, HJ0.out, KpW.refl _ _ _⟩
  case round =>
    obtain ⟨k, hk, rfl, hJk, hkp⟩ := hrel
    have HJK := Lib.hid hJk
    have HKP := Lib.hid hkp
    clear hJk hkp
    have hBn2 : wr.cell? ⟨Bn, 0, none⟩ = some (.slice A m c) := (World.cell?_of_block (a := ⟨Bn, 0, none⟩) HKP.out.1).trans HBN.out
    obtain ⟨q, hq⟩ : ∃ q, q = m - k := ⟨_, rfl⟩
    rw [← hq]
    by_cases hlt : k < m
    · obtain ⟨g, off, rfl, hg, hcell⟩ := HR.out (by rw [← HM.out]; omega)
      obtain ⟨p, hp⟩ : ∃ p, p = q - 1 := ⟨_, rfl⟩
      rw [int_back q (by omega), ← hp]
      have hpl : p < bs.length := by rw [← HM.out]; omega
      have hpm : p < m := by omega
      obtain ⟨x, hx⟩ : ∃ x, x = bs[p] := ⟨_, rfl⟩
      have hcx : ∀ j v, (insCells x.k (.slice x.A x.k.args.length x.c))[j]? = some v → wr.cell? ⟨g, off + p * 8 + j, none⟩ = some v := fun j v hv => (World.cell?_of_block (a := ⟨g, off + p * 8 + j, none⟩) (HKP.out.2 g off rfl)).trans (hcell p hpl j v (by rw [← hx]; exact hv))
      have hc0 : wr.cell? ⟨g, off + p * 8, none⟩ = some (.int .i64 x.k.kind) := hcx 0 _ rfl
      have hc1 : wr.cell? ⟨g, off + p * 8 + 1, none⟩ = some (.int .i64 x.k.op) := hcx 1 _ rfl
      have hc2 : wr.cell? ⟨g, off + p * 8 + 2, none⟩ = some (.int .i64 x.k.d) := hcx 2 _ rfl
      have hc3 : wr.cell? ⟨g, off + p * 8 + 3, none⟩ = some (.int .i64 x.k.a) := hcx 3 _ rfl
      have hc4 : wr.cell? ⟨g, off + p * 8 + 4, none⟩ = some (.int .i64 x.k.b) := hcx 4 _ rfl
      have hc5 : wr.cell? ⟨g, off + p * 8 + 5, none⟩ = some (.int .i32 x.k.num) := hcx 5 _ rfl
      have hc6 : wr.cell? ⟨g, off + p * 8 + 6, none⟩ = some (.string x.k.name) := hcx 6 _ rfl
      have hc7 : wr.cell? ⟨g, off + p * 8 + 7, none⟩ = some (.slice x.A x.k.args.length x.c) := hcx 7 _ rfl
      have htk : (revI bs).take (k + 1) = (revI bs).take k ++ [(p, x)] := by
        have hkl : k < (revI bs).length := by rw [revI_len, ← HM.out]; exact hlt
        rw [List.take_succ_eq_append_getElem hkl]
        have h1 := revI_at bs k (by rw [← HM.out]; exact hlt) (by rw [← HM.out]; omega)
        rw [List.getElem?_eq_getElem hkl] at h1
        injection h1 with h1
        have hpe : bs.length - 1 - k = p := by rw [← HM.out]; omega
        rw [h1]
        simp only [hpe]
        rw [hx]
      obtain ⟨fn, tmps, assign, body, hy, hRd⟩ := HY.out ((revI bs).take k) (p, x) wr HJK.out (by rw [← htk]; exact List.take_prefix _ _)
      have HR2 := Lib.hid hRd
      have HTK := Lib.hid htk
      have hq1 : (0 : Int) ≤ (p : Int) := by omega
      have hq2 : (p : Int) < (m : Int) := by omega
      have HPQ := Lib.hid (And.intro hp hq)
      unfold insAgg at hy
      clear hcx htk hRd hx hcell hp hq
      gi_wp2_with fail
      refine HR2.out.mono ?_
      rintro e W3 (⟨rfl, hJ3, hk3⟩ | ⟨rfl, hJx3⟩)
      · have hJ4 : J ((revI bs).take (k + 1)) W3 := by rw [HTK.out]; exact hJ3
        have HJ3 := Lib.hid hJ4
        have HK3 := Lib.hid hk3
        clear hJ3 hJ4 hk3 hy
        gi_wp2_with fail
        go_roundw
        case rel => exact ⟨k + 1, by omega, by have h1 := HPQ.out; (try rw [IntWalk.i64_in ((p : Int) - 1) (by omega)]); congr 1; omega, HJ3.out, HKP.out.trans HK3.out⟩
        case measure => (try rw [IntWalk.i64_in ((p : Int) - 1) (by omega)]); simp only [intOf]; omega
      · have HJX := Lib.hid hJx3
        have hpre : (revI bs).take k ++ [(p, x)] <+: revI bs := by rw [← HTK.out]; exact List.take_prefix _ _
        clear hJx3 hy
        gi_wp2_with fail
        refine bodyPost_ret (results_none rfl _ _ _) rfl ?_
        exact ⟨⟨_, rfl⟩, .inr ⟨_, hpre, HJX.out⟩⟩
    · obtain rfl : k = m := by omega
      obtain rfl : q = 0 := by omega
      have hall : J (revI bs) wr := by
        have h := HJK.out
        rw [List.take_of_length_le (by rw [revI_len, ← HM.out]; omega)] at h
        exact h
      have HALL := Lib.hid hall
      clear hall hq
      gi_wp2_with fail
      go_end0
      exact ⟨⟨_, rfl⟩, .inl ⟨_, rfl, HALL.out⟩⟩
end Go.Proofs.Ytlniohgnkihefaa
namespace Go.Proofs.Ytlniohgnkihefaa
open Go.RowKit

def hasL (l : List Int) (n : Int) : Bool := l.any fun x => decide (x = n)
def putL (l : List Int) (n : Int) : List Int := if n < 0 ∨ hasL l n = true then l else l.filter (fun x => decide (x < n)) ++ [n] ++ l.filter (fun x => decide (n < x))
/-- A row that a call hands back. -/
def GiveL (w : World) (A0 : Option Addr) (l : List Int) (e : Ending) (w' : World) : Prop := ∃ A c, e = .returned (.slice A l.length c) ∧ Below w.heap.size w w' ∧ ReadsAt w' A (ints l) ∧ ∀ g off, A = some ⟨g, off, none⟩ → (w.heap.size ≤ g ∧ g < w'.heap.size) ∨ A0 = some ⟨g, off, none⟩

theorem hasL_none {l : List Int} {n : Int} (h : ∀ j (hj : j < l.length), l[j] ≠ n) : hasL l n = false := by
  unfold hasL
  rw [List.any_eq_false]
  intro x hx
  obtain ⟨j, hj, rfl⟩ := List.getElem_of_mem hx
  simpa using h j hj
theorem hasL_at {l : List Int} {n : Int} (k : Nat) (hk : k < l.length) (h : l[k] = n) : hasL l n = true := by
  unfold hasL
  exact List.any_eq_true.2 ⟨_, List.getElem_mem hk, by simpa using h⟩
theorem reads_len0 {w : World} {A : Option Addr} {l : List Int} (h : ReadsAt w A (ints l)) (k : Nat) (hk : k < l.length) (x : Int) (hx : x = l[k]) : ∃ g off, A = some ⟨g, off, none⟩ ∧ g < w.heap.size ∧ w.cell? ⟨g, off + k, none⟩ = some (.int .i64 x) := by
  obtain ⟨g, off, hA, hg, hc⟩ := h (by rw [ints_length]; omega)
  exact ⟨g, off, hA, hg, by rw [hx]; exact hc k _ (by simp [ints, hk])⟩

theorem has14_any (l : List Int) (A : Option Addr) (c : Nat) (n : Int) (w : World) (hl : l.length ≤ 9223372036854775807) (hr : ReadsAt w A (ints l)) :
    Calls Try.prog 21 #[.slice A l.length c, .int .i64 n] w fun e w' => e = .returned (.bool (hasL l n)) ∧ w = w' := by
  have HR := Lib.hid hr
  clear hr
  go_enter Try.func21, Try.ntmps21
  go_wp2_with fail
  go_loop [9] (fun i => ∃ k : Nat, k ≤ l.length ∧ i = .int .i64 (k : Nat) ∧ ∀ j (hj : j < l.length), j < k → l[j] ≠ n) (fun i => l.length - (intOf i).toNat)
  case atStart => exact ⟨0, by omega, rfl, fun j hj h => by omega⟩
  case round =>
    obtain ⟨k, hk, rfl, hn⟩ := hrel
    have HN := Lib.hid hn
    clear hn
    by_cases hlt : k < l.length
    · obtain ⟨x, hxe⟩ : ∃ x, x = l[k] := ⟨_, rfl⟩
      obtain ⟨g, off, rfl, hg, hx⟩ := reads_len0 HR.out k hlt x hxe
      have HX := Lib.hid hxe
      clear hxe
      by_cases q : x = n
      · have qf : (x == n) = true := by rw [q]; simp
        have HQ := Lib.hid q
        clear q
        go_wp2_with fail
        go_ret
        exact ⟨ret_bool (hasL_at k hlt (by rw [← HX.out]; exact HQ.out)).symm, rfl⟩
      · have qf : (x == n) = false := beq_eq_false_iff_ne.2 q
        have HQ := Lib.hid q
        clear q
        go_wp2_with fail
        go_round
        case rel => exact ⟨k + 1, by omega, by go_num, fun j hj h => by
          rcases Nat.lt_succ_iff_lt_or_eq.1 h with h | rfl
          · exact HN.out j hj h
          · rw [← HX.out]; exact HQ.out⟩
        case measure => simp [intOf]; omega
    · obtain rfl : k = l.length := by omega
      go_wp2_with fail
      go_ret
      exact ⟨ret_bool (hasL_none fun j hj => HN.out j hj hj).symm, rfl⟩
/-- What a loop has gathered so far. -/
structure Gath (w : World) (l : List Int) (v : Value) (wr : World) : Prop where
  below : Below w.heap.size w wr
  row : ∃ r, RowAt wr 3 1 v r l.length (ints l) ∧ ∀ k, r = some k → w.heap.size ≤ k
theorem Gath.nil (w : World) : Gath w [] (.slice none 0 0) w := ⟨Below.refl _ _, none, .nil _ _ _, by simp⟩
theorem Gath.add {w wr w2 : World} {l : List Int} {v v' : Value} {r r' : Option Nat} (h : Gath w l v wr) (x : Int) (hr : ∀ k, r = some k → w.heap.size ≤ k)
    (hR : RowAt w2 3 1 v' r' (l.length + 1) (ints l ++ [.int .i64 x])) (hC : Chg (fun k => some k = r) wr w2) (hN : NewOr wr r r') : Gath w (l ++ [x]) v' w2 :=
  ⟨h.below.trans (hC.below h.below.size fun k e => hr k e.symm), r', by simpa [ints] using hR, hN.ge h.below.size hr⟩
theorem Gath.give {w wr : World} {l : List Int} {A A0 : Option Addr} {c : Nat} (h : Gath w l (.slice A l.length c) wr) : GiveL w A0 l (.returned (.slice A l.length c)) wr := by
  obtain ⟨r, h1, h2⟩ := h.row
  refine ⟨A, c, rfl, h.below, h1.reads, fun g off hA => .inl ?_⟩
  rcases h1.2 with ⟨h0, _⟩ | ⟨g', off', cap, cur, hv, hr, _⟩
  · injection h0 with h0 _ _; rw [h0] at hA; cases hA
  · injection hv with hv _ _
    rw [hv] at hA; cases hA
    exact ⟨h2 _ hr, h1.lt _ hr⟩
/-- The same, with the capacity. -/
def GiveC (C : Prop) (w : World) (A0 : Option Addr) (l : List Int) (e : Ending) (w' : World) : Prop := ∃ A c, e = .returned (.slice A l.length c) ∧ Below w.heap.size w w' ∧ ReadsAt w' A (ints l) ∧ (∀ g off, A = some ⟨g, off, none⟩ → (w.heap.size ≤ g ∧ g < w'.heap.size) ∨ A0 = some ⟨g, off, none⟩) ∧ (C → l.length ≤ c)
theorem GiveC.give {C : Prop} {w : World} {A0 : Option Addr} {l : List Int} {e : Ending} {w' : World} (h : GiveC C w A0 l e w') : GiveL w A0 l e w' := by
  obtain ⟨A, c, h1, h2, h3, h4, _⟩ := h
  exact ⟨A, c, h1, h2, h3, h4⟩
theorem Gath.giveC {w wr : World} {l : List Int} {A A0 : Option Addr} {c : Nat} (C : Prop) (h : Gath w l (.slice A l.length c) wr) : GiveC C w A0 l (.returned (.slice A l.length c)) wr := by
  obtain ⟨A', c', h1, h2, h3, h4⟩ := h.give (A0 := A0)
  cases h1
  obtain ⟨r, h5, _⟩ := h.row
  exact ⟨A, c, rfl, h2, h3, h4, fun _ => h5.cap_le⟩
theorem Gath.shape {w wr : World} {l : List Int} {v : Value} (h : Gath w l v wr) : ∃ A c, v = .slice A l.length c := by
  obtain ⟨r, h1, _⟩ := h.row
  obtain ⟨A, c, e, _⟩ := h1.shape
  exact ⟨A, c, e⟩
theorem bd8 {n : Nat} (h : n ≤ 100000) : (n + 1) * 8 ≤ 140737488355328 := by omega
theorem bdm {n : Nat} (h : n ≤ 100000) : n < maxLen := by unfold maxLen; omega
theorem bd8' {n : Nat} (h : n ≤ 300000) : (n + 1) * 8 ≤ 140737488355328 := by omega
theorem bdm' {n : Nat} (h : n ≤ 300000) : n < maxLen := by unfold maxLen; omega
theorem ret_int3 : (Try.prog.info? 3).map (fun i => (i.zero, i.size, i.bytes)) = some (some (.int .i64 0), 1, 8) := by kernel_rfl
theorem take_keep (p : Int → Bool) (l : List Int) (k : Nat) (h : k < l.length) (x : Int) (hx : x = l[k]) (hp : p x = true) : (l.take (k + 1)).filter p = (l.take k).filter p ++ [x] := by
  subst hx
  rw [List.take_succ_eq_append_getElem h, List.filter_append]; simp [hp]
theorem take_skip (p : Int → Bool) (l : List Int) (k : Nat) (h : k < l.length) (x : Int) (hx : x = l[k]) (hp : p x = false) : (l.take (k + 1)).filter p = (l.take k).filter p := by
  subst hx
  rw [List.take_succ_eq_append_getElem h, List.filter_append]; simp [hp]
theorem filter_take_len (p : Int → Bool) (l : List Int) (k : Nat) : ((l.take k).filter p).length ≤ l.length := by
  have h1 := List.length_filter_le p (l.take k)
  have h2 : (l.take k).length ≤ l.length := by rw [List.length_take]; omega
  omega

set_option maxHeartbeats 2000000 in
set_option maxRecDepth 100000 in
theorem put14_anyC (l : List Int) (A : Option Addr) (c : Nat) (n : Int) (w : World) (hl : l.length ≤ 100000) (hr : ReadsAt w A (ints l)) :
    Calls Try.prog 35 #[.slice A l.length c, .int .i64 n] w (GiveC (l.length ≤ c) w A (putL l n)) := by
  have HHAS := Lib.hid fun w' hl hr => has14_any l A c n w' hl hr
  have HR := Lib.hid hr
  clear hr
  by_cases h0 : n < 0
  · have he : putL l n = l := by unfold putL; rw [if_pos (.inl h0)]
    rw [he]
    clear he
    go_enter Try.func35, Try.ntmps35
    go_wp2_with fail
    go_ret
    exact ⟨A, c, rfl, Below.refl _ _, HR.out, fun _ _ h => .inr h, id⟩
  have HH := HHAS.out w (by omega) HR.out
  clear HHAS
  cases hh : hasL l n with
  | true =>
    have he : putL l n = l := by unfold putL; rw [if_pos (.inr hh)]
    rw [he]
    rw [hh] at HH
    have HHH := Lib.hid HH
    clear he HH hh
    go_enter Try.func35, Try.ntmps35
    go_wp2_with fail
    refine HHH.out.mono ?_
    rintro e w' ⟨rfl, rfl⟩
    go_wp2_with fail
    go_ret
    exact ⟨A, c, rfl, Below.refl _ _, HR.out, fun _ _ h => .inr h, id⟩
  | false =>
    have he : putL l n = l.filter (fun x => decide (x < n)) ++ [n] ++ l.filter (fun x => decide (n < x)) := by
      unfold putL
      rw [if_neg]
      intro h
      rcases h with h | h
      · exact h0 h
      · rw [hh] at h; cases h
    have HE := Lib.hid he
    rw [hh] at HH
    have HHH := Lib.hid HH
    clear he HH hh
    go_enter Try.func35, Try.ntmps35
    go_wp2_with fail
    refine HHH.out.mono ?_
    rintro e w' ⟨rfl, rfl⟩
    go_wp2_with fail
    go_loopw [5, 20] (fun v i wr => ∃ k : Nat, k ≤ l.length ∧ i = .int .i64 (k : Nat) ∧ Gath w ((l.take k).filter fun x => decide (x < n)) v wr) (fun _ i _ => l.length - (intOf i).toNat)
    case atStart => exact ⟨0, by omega, rfl, Gath.nil w⟩
    case round =>
      obtain ⟨k, hk, rfl, hG⟩ := hrel
      have hfl := filter_take_len (fun x => decide (x < n)) l k
      obtain ⟨m, hme⟩ : ∃ m, m = (l.take k).filter fun x => decide (x < n) := ⟨_, rfl⟩
      have hml : m.length ≤ 300000 := by rw [hme]; omega
      rw [← hme] at hG
      obtain ⟨Av, cv, rfl⟩ := hG.shape
      obtain ⟨r, hrow, hrn⟩ := hG.row
      have HME := Lib.hid hme
      have HG := Lib.hid hG
      have HROW := Lib.hid hrow
      have HRN := Lib.hid hrn
      clear hme hG hrow hrn hfl
      by_cases hlt : k < l.length
      · obtain ⟨x, hxe⟩ : ∃ x, x = l[k] := ⟨_, rfl⟩
        obtain ⟨g, off, rfl, hg, hx⟩ := reads_len0 HR.out k hlt x hxe
        have hx2 := (HG.out.below.cell (p := ⟨g, off + k, none⟩) hg).trans hx
        have HX := Lib.hid hxe
        have HB1 : Hid ((m.length + 1) * 8 ≤ 140737488355328) := Lib.hid (bd8' hml)
        have HB2 : Hid (m.length < maxLen) := Lib.hid (bdm' hml)
        clear hxe hx hml
        by_cases q : x < n
        · have HQ := Lib.hid q
          go_wp2_with (at_builtin; refine wpList_append_one _ rfl _ _ 46 3 (.int .i64 0) 8 rfl Try.underlying46 ret_int3 rfl HROW.out _ rfl rfl rfl HB1.out HB2.out ?_; intro v' r' w' hR' hC hN; obtain ⟨A', c', rfl, _⟩ := hR'.shape; have HR' := Lib.hid hR'; have HC := Lib.hid hC; have HN := Lib.hid hN; clear hR' hC hN)
          go_roundw
          case rel => exact ⟨k + 1, by omega, by go_num, by rw [take_keep (fun x => decide (x < n)) l k hlt x HX.out (decide_eq_true HQ.out), ← HME.out]; exact HG.out.add x HRN.out HR'.out HC.out HN.out⟩
          case measure => simp [intOf]; omega
        · have HQ := Lib.hid q
          have q' : n ≤ x := by omega
          clear q
          go_wp2_with fail
          go_roundw
          case rel => exact ⟨k + 1, by omega, by go_num, by rw [take_skip (fun x => decide (x < n)) l k hlt x HX.out (decide_eq_false HQ.out), ← HME.out]; exact HG.out⟩
          case measure => simp [intOf]; omega
      · obtain rfl : k = l.length := by omega
        have hm1 : m = l.filter (fun x => decide (x < n)) := by rw [HME.out, List.take_length]
        have HM1 := Lib.hid hm1
        have HB1 : Hid ((m.length + 1) * 8 ≤ 140737488355328) := Lib.hid (bd8' hml)
        have HB2 : Hid (m.length < maxLen) := Lib.hid (bdm' hml)
        clear hm1 hml
        go_wp2_with (at_builtin; refine wpList_append_one _ rfl _ _ 46 3 (.int .i64 0) 8 rfl Try.underlying46 ret_int3 rfl HROW.out _ rfl rfl rfl HB1.out HB2.out ?_; intro v' r' w' hR' hC hN; obtain ⟨A', c', rfl, _⟩ := hR'.shape; have HR' := Lib.hid hR'; have HC := Lib.hid hC; have HN := Lib.hid hN; clear hR' hC hN)
        have HG9 : Hid (Gath w (l.filter (fun x => decide (x < n)) ++ [n]) (.slice A' (m.length + 1) c') w') := Lib.hid (by rw [← HM1.out]; exact HG.out.add n HRN.out HR'.out HC.out HN.out)
        clear hlt
        go_loopw [5, 38] (fun v i wr => ∃ k : Nat, k ≤ l.length ∧ i = .int .i64 (k : Nat) ∧ Gath w (l.filter (fun x => decide (x < n)) ++ [n] ++ (l.take k).filter fun x => decide (n < x)) v wr) (fun _ i _ => l.length - (intOf i).toNat)
        case atStart => exact ⟨0, by omega, rfl, by rw [List.take_zero, List.filter_nil, List.append_nil]; exact HG9.out⟩
        case round =>
          obtain ⟨k, hk, rfl, hG⟩ := hrel
          have hfl := filter_take_len (fun x => decide (n < x)) l k
          obtain ⟨m, hme⟩ : ∃ m, m = l.filter (fun x => decide (x < n)) ++ [n] ++ (l.take k).filter fun x => decide (n < x) := ⟨_, rfl⟩
          have hml : m.length ≤ 300000 := by rw [hme]; rw [List.length_append, List.length_append, List.length_singleton]; have := List.length_filter_le (fun x => decide (x < n)) l; omega
          rw [← hme] at hG
          obtain ⟨Av, cv, rfl⟩ := hG.shape
          obtain ⟨r, hrow, hrn⟩ := hG.row
          have HME := Lib.hid hme
          have HG := Lib.hid hG
          have HROW := Lib.hid hrow
          have HRN := Lib.hid hrn
          clear hme hG hrow hrn hfl
          by_cases hlt : k < l.length
          · obtain ⟨x, hxe⟩ : ∃ x, x = l[k] := ⟨_, rfl⟩
            obtain ⟨g, off, rfl, hg, hx⟩ := reads_len0 HR.out k hlt x hxe
            have hx2 := (HG.out.below.cell (p := ⟨g, off + k, none⟩) hg).trans hx
            have HX := Lib.hid hxe
            have HB1 : Hid ((m.length + 1) * 8 ≤ 140737488355328) := Lib.hid (bd8' hml)
            have HB2 : Hid (m.length < maxLen) := Lib.hid (bdm' hml)
            clear hxe hx hml
            by_cases q : n < x
            · have HQ := Lib.hid q
              go_wp2_with (at_builtin; refine wpList_append_one _ rfl _ _ 46 3 (.int .i64 0) 8 rfl Try.underlying46 ret_int3 rfl HROW.out _ rfl rfl rfl HB1.out HB2.out ?_; intro v' r' w' hR' hC hN; obtain ⟨A', c', rfl, _⟩ := hR'.shape; have HR' := Lib.hid hR'; have HC := Lib.hid hC; have HN := Lib.hid hN; clear hR' hC hN)
              go_roundw
              case rel => exact ⟨k + 1, by omega, by go_num, by rw [take_keep (fun x => decide (n < x)) l k hlt x HX.out (decide_eq_true HQ.out), ← List.append_assoc, ← HME.out]; exact HG.out.add x HRN.out HR'.out HC.out HN.out⟩
              case measure => simp [intOf]; omega
            · have HQ := Lib.hid q
              have q' : x ≤ n := by omega
              clear q
              go_wp2_with fail
              go_roundw
              case rel => exact ⟨k + 1, by omega, by go_num, by rw [take_skip (fun x => decide (n < x)) l k hlt x HX.out (decide_eq_false HQ.out), ← HME.out]; exact HG.out⟩
              case measure => simp [intOf]; omega
          · obtain rfl : k = l.length := by omega
            have he2 : l.filter (fun x => decide (x < n)) ++ [n] ++ l.filter (fun x => decide (n < x)) = m := by rw [HME.out, List.take_length]
            have HE2 := Lib.hid he2
            clear he2
            go_wp2_with fail
            go_ret
            rw [HE.out, HE2.out]
            exact HG.out.giveC _
theorem put14_any (l : List Int) (A : Option Addr) (c : Nat) (n : Int) (w : World) (hl : l.length ≤ 100000) (hr : ReadsAt w A (ints l)) :
    Calls Try.prog 35 #[.slice A l.length c, .int .i64 n] w (GiveL w A (putL l n)) := (put14_anyC l A c n w hl hr).mono fun _ _ h => h.give
end Go.Proofs.Ytlniohgnkihefaa
