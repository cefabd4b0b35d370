/- slices.Clone of ints. -/
import Derived.Lib.SliceRun
import Derived.Test.YtnfneinonkpmeaaLv13
namespace Go.Proofs.Ytnfneinonkpmeaa
open Go.RowKit
variable {T : Nat → Prop}
theorem info_int : (Try.prog.info? 3).map (fun i => (i.zero, i.size, i.bytes)) = some (some (.int .i64 0), 1, 8) := by kernel_rfl
theorem ints_plain (zs : List Int) : ∀ u ∈ ints zs, u.oneCell' = true := by
  intro u hu
  obtain ⟨z, _, rfl⟩ := List.mem_map.1 hu
  rfl
set_option maxHeartbeats 1000000 in
set_option maxRecDepth 100000 in
theorem Clone_any (A : Option Addr) (c : Nat) (zs : List Int) (w : World) (hl : zs.length ≤ 1000) (h : RdT w T A (ints zs)) :
    Calls Try.prog 38 #[.slice A zs.length c] w fun e w' => ∃ A' c', e = .returned (.slice A' zs.length c') ∧ Below w.heap.size w w' ∧ RdT w' (fun k => w.heap.size ≤ k) A' (ints zs) := by
  have qS : ∀ (w : World) (a : Option Addr) (n c n' c' : Nat), (binOp .eql 52 (.slice a n c) (.slice none n' c')).run Try.prog w = .ok (.bool a.isNone) w := fun w a n c n' c' => Go.Lib.run_eql_slice_nil (P := Try.prog) w 52 3 a n c n' c' Try.underlying52
  cases A with
  | none =>
    have h0 : zs = [] := by
      cases zs with
      | nil => rfl
      | cons z zs => obtain ⟨g, off, hA, _⟩ := h (by simp [ints]); cases hA
    subst h0
    clear h
    go_enter Try.func38, Try.ntmps38
    go_wp2_with fail
    go_ret
    exact ⟨none, 0, rfl, Below.refl _ _, RdT.nil⟩
  | some ad =>
    cases zs with
    | nil =>
      clear h
      go_enter Try.func38, Try.ntmps38
      go_wp2_with fail
      go_ret
      exact ⟨_, _, rfl, (Below.refl _ _).alloc (Nat.le_refl _) _, RdT.nil⟩
    | cons z zs =>
      obtain ⟨g, off, hA, ht, hg, hx⟩ := h (by simp [ints])
      cases hA
      have HX := Lib.hid hx
      clear hx h
      have hrow : RowAt (w.alloc (.cells #[] 3)) 3 1 (.slice (some ⟨w.heap.size, 0, none⟩) 0 0) (some w.heap.size) 0 [] := ⟨rfl, .inr ⟨w.heap.size, 0, 0, #[], rfl, rfl, heap_alloc_new w _, Nat.le_refl _, Nat.zero_le _, by simp, by simp⟩⟩
      have HROW := Lib.hid hrow
      clear hrow
      go_enter Try.func38, Try.ntmps38
      go_wp2_with (at_builtin; go_must (refine wpList_append_row _ rfl _ _ 52 3 _ 1 8 rfl Try.underlying52 info_int rfl HROW.out ⟨g, off, none⟩ (zs.length + 1) c (ints (z :: zs)) (by simp [ints]) (fun j u hu => by rw [Addr.add_lit]; exact ((Below.refl w.heap.size w).alloc (Nat.le_refl _) _).cell (p := ⟨g, off + j, none⟩) hg |>.trans (HX.out j u hu)) (ints_plain _) rfl rfl (by simp at hl; omega) (by simp at hl; unfold maxLen; omega) (by omega) ?_); intro v' r' w2 hR hC hN; obtain ⟨A', c', rfl, _⟩ := hR.shape; have HR := Lib.hid hR; have HC := Lib.hid hC; have HN := Lib.hid hN; clear hR hC hN)
      go_ret
      have hb : Below w.heap.size w w2 := ((Below.refl w.heap.size w).alloc (Nat.le_refl _) _).trans (HC.out.below (by simp) fun k e => by injection e with e; omega)
      refine ⟨A', c', by simp, hb, fun hp => ?_⟩
      have hR := HR.out
      rw [List.nil_append] at hR
      obtain ⟨g', off', cap, hv, hr, _, _, hg', hcell, _⟩ := hR.form (by omega)
      injection hv with h1 _ _
      exact ⟨g', off', h1, HN.out.ge (B := w.heap.size) (by simp) (fun k e => by injection e with e; omega) _ hr, hg', hcell⟩
end Go.Proofs.Ytnfneinonkpmeaa
namespace Go.Proofs.Ytnfneinonkpmeaa
open Go.RowKit
variable {w w1 : World} {pb mb : Nat} {v : Value} {r : Option Nat} {f : Fn} {l : List Vins} {n : Nat} {kn : Lit → Option Lit}
/-- What a block's end becomes. -/
def jumpS (n : Int) : Vins := ⟨51, -1, -1, -1, n, ⟨#[]⟩, []⟩
def endS (b : Blk) (next : Int) : List Vins :=
  if b.kind = 1 then (if b.to = next then [] else [jumpS b.to])
  else if b.kind = 2 then (if b.to = next then [⟨53, -1, b.a, -1, b.els, ⟨#[]⟩, []⟩] else ⟨52, -1, b.a, -1, b.to, ⟨#[]⟩, []⟩ :: (if b.els = next then [] else [jumpS b.els]))
  else [threeS 49 (-1) b.a (-1)]

structure BlkI32 (b : Blk) : Prop where
  «to» : I32 b.to
  els : I32 b.els
set_option maxHeartbeats 4000000 in
set_option maxRecDepth 100000 in
theorem end_any (h : PickAt w pb mb v r f l n kn) (hb : l.length + 2 ≤ 1000000000) (b : Blk) (next : Int) (hk : 1 ≤ b.kind ∧ b.kind ≤ 3) (h32 : BlkI32 b) (s : Value) :
    Calls Try.prog 23 #[.pointer (some ⟨pb, 0, none⟩), .agg #[s, .int .i64 b.kind, .int .i64 b.a, .int .i64 b.to, .int .i64 b.els], .int .i64 next] w
      fun e w' => e = .returned (.tuple #[]) ∧ Picked w pb mb r f (l ++ endS b next) n kn w' := by
  have HH := Lib.hid h
  clear h
  obtain ⟨ins, kind, a, «to», els⟩ := b
  have ht := h32.to
  have he := h32.els
  have HT := Lib.hid (show I32 «to» from ht)
  have HE := Lib.hid (show I32 els from he)
  clear ht he h32
  simp only at hk
  unfold endS
  simp only
  obtain ⟨w0, hw0, hb0, hlt0, hc⟩ := box_new w #[s, .int .i64 kind, .int .i64 a, .int .i64 «to», .int .i64 els] 58
  have HW := Lib.hid hw0
  have HB := Lib.hid hb0
  have c2 := hc 2
  have c3 := hc 3
  have c4 := hc 4
  simp only [List.getElem?_toArray, List.getElem?_cons_succ, List.getElem?_cons_zero] at c2 c3 c4
  clear hw0 hb0 hc
  have hkk : kind = 1 ∨ kind = 2 ∨ kind = 3 := by omega
  rcases hkk with rfl | rfl | rfl
  · by_cases q : «to» = next
    · have qf : («to» != next) = false := by rw [q]; simp
      rw [if_pos rfl, if_pos q]
      have Q := Lib.hid q
      clear q
      go_enter Try.func23, Try.ntmps23
      go_wp2_with fail
      rw [← HW.out]
      go_returns
      exact ⟨rfl, v, r, by rw [List.append_nil]; exact HH.out.kept HB.out, PStep.ofBelow HB.out⟩
    · have qf : («to» != next) = true := bne_iff_ne.2 q
      rw [if_pos rfl, if_neg q]
      have Q := Lib.hid q
      clear q
      go_enter Try.func23, Try.ntmps23
      go_wp2_with fail
      rw [← HW.out]
      refine (to_any 51 (-1) «to» HT.out _).mono ?_
      rintro e w2 ⟨rfl, hB2⟩
      have HB2 := Lib.hid (HB.out.trans (hB2.mono HB.out.size))
      clear hB2
      go_wp2_with fail
      refine (put_one HH.out HB2.out 51 (-1) (-1) (-1) «to» ⟨#[]⟩ (by omega)).mono ?_
      rintro e w3 ⟨rfl, hP⟩
      go_wp2_with fail
      go_returns
      exact ⟨rfl, hP⟩
  · rw [if_neg (by omega), if_pos rfl]
    by_cases q : «to» = next
    · have qf : («to» == next) = true := by rw [q]; simp
      rw [if_pos q]
      have Q := Lib.hid q
      clear q
      go_enter Try.func23, Try.ntmps23
      go_wp2_with fail
      rw [← HW.out]
      refine (to_any 53 a els HE.out _).mono ?_
      rintro e w2 ⟨rfl, hB2⟩
      have HB2 := Lib.hid (HB.out.trans (hB2.mono HB.out.size))
      clear hB2
      go_wp2_with fail
      refine (put_one HH.out HB2.out 53 (-1) a (-1) els ⟨#[]⟩ (by omega)).mono ?_
      rintro e w3 ⟨rfl, hP⟩
      go_wp2_with fail
      go_returns
      exact ⟨rfl, hP⟩
    · have qf : («to» == next) = false := beq_eq_false_iff_ne.2 q
      rw [if_neg q]
      have Q := Lib.hid q
      clear q
      by_cases p : els = next
      · have pf : (els != next) = false := by rw [p]; simp
        rw [if_pos p]
        have PP := Lib.hid p
        clear p
        go_enter Try.func23, Try.ntmps23
        go_wp2_with fail
        rw [← HW.out]
        refine (to_any 52 a «to» HT.out _).mono ?_
        rintro e w2 ⟨rfl, hB2⟩
        have HB2 := Lib.hid (HB.out.trans (hB2.mono HB.out.size))
        have e4 := (hB2.cell (p := ⟨w.heap.size, 4, none⟩) hlt0).trans c4
        have hlt2 : w.heap.size < w2.heap.size := Nat.lt_of_lt_of_le hlt0 hB2.size
        clear hB2
        go_wp2_with fail
        have hnf : ¬ FootP pb mb r w.heap.size := fun hf => Nat.lt_irrefl _ (HH.out.lt _ hf)
        refine (put_one (HH.out.kept HB2.out) (Below.refl _ _) 52 (-1) a (-1) «to» ⟨#[]⟩ (by omega)).mono ?_
        rintro e w3 ⟨rfl, v3, r3, hp3, hs3⟩
        have HP3 := Lib.hid hp3
        have HS3 := Lib.hid ((PStep.ofBelow HB2.out).trans hs3)
        have g4 := hs3.chg.cell e4 hnf
        clear hp3 hs3 hnf
        go_wp2_with fail
        go_returns
        exact ⟨rfl, v3, r3, HP3.out, HS3.out⟩
      · have pf : (els != next) = true := bne_iff_ne.2 p
        rw [if_neg p]
        have PP := Lib.hid p
        clear p
        go_enter Try.func23, Try.ntmps23
        go_wp2_with fail
        rw [← HW.out]
        refine (to_any 52 a «to» HT.out _).mono ?_
        rintro e w2 ⟨rfl, hB2⟩
        have HB2 := Lib.hid (HB.out.trans (hB2.mono HB.out.size))
        have e4 := (hB2.cell (p := ⟨w.heap.size, 4, none⟩) hlt0).trans c4
        have hlt2 : w.heap.size < w2.heap.size := Nat.lt_of_lt_of_le hlt0 hB2.size
        clear hB2
        go_wp2_with fail
        have hnf : ¬ FootP pb mb r w.heap.size := fun hf => Nat.lt_irrefl _ (HH.out.lt _ hf)
        refine (put_one (HH.out.kept HB2.out) (Below.refl _ _) 52 (-1) a (-1) «to» ⟨#[]⟩ (by omega)).mono ?_
        rintro e w3 ⟨rfl, v3, r3, hp3, hs3⟩
        have HP3 := Lib.hid hp3
        have HS3 := Lib.hid ((PStep.ofBelow HB2.out).trans hs3)
        have g4 := hs3.chg.cell e4 hnf
        clear hp3 hs3 hnf
        go_wp2_with fail
        refine (to_any 51 (-1) els HE.out _).mono ?_
        rintro e w4 ⟨rfl, hB4⟩
        have HB4 := Lib.hid hB4
        clear hB4
        go_wp2_with fail
        refine (put_one HP3.out HB4.out 51 (-1) (-1) (-1) els ⟨#[]⟩ (by simp; omega)).mono ?_
        rintro e w5 ⟨rfl, v5, r5, hp5, hs5⟩
        go_wp2_with fail
        go_returns
        exact ⟨rfl, v5, r5, by have := hp5; rw [List.append_assoc] at this; exact this, HS3.out.trans hs5⟩
  · rw [if_neg (by omega), if_neg (by omega)]
    go_enter Try.func23, Try.ntmps23
    go_wp2_with fail
    rw [← HW.out]
    refine (three_any 49 (-1) a (-1) _).mono ?_
    rintro e w2 ⟨rfl, hB2⟩
    have HB2 := Lib.hid (HB.out.trans (hB2.mono HB.out.size))
    clear hB2
    go_wp2_with fail
    refine (put_one HH.out HB2.out 49 (-1) a (-1) 0 ⟨#[]⟩ (by omega)).mono ?_
    rintro e w3 ⟨rfl, hP⟩
    go_wp2_with fail
    go_returns
    exact ⟨rfl, hP⟩
end Go.Proofs.Ytnfneinonkpmeaa
namespace Go.Proofs.Ytnfneinonkpmeaa
open Go.RowKit
variable {w w1 : World} {pb mb : Nat} {v : Value} {r : Option Nat} {f : Fn} {l : List Vins} {n : Nat} {kn : Lit → Option Lit}
set_option maxHeartbeats 4000000 in
set_option maxRecDepth 100000 in
theorem memory_any (h : PickAt w pb mb v r f l n kn) (hb : l.length + 1 ≤ 1000000000) (single array kind op d a b num : Int) (name : ByteArray) (s : Value) :
    Calls Try.prog 37 #[.pointer (some ⟨pb, 0, none⟩), .int .i64 single, .int .i64 array, .agg #[.int .i64 kind, .int .i64 op, .int .i64 d, .int .i64 a, .int .i64 b, .int .i32 num, .string name, s]] w
      fun e w' => e = .returned (.tuple #[]) ∧ Picked w pb mb r f (l ++ [⟨if a = -1 then single else array, d, a, b, 0, name, []⟩]) n kn w' := by
  have HH := Lib.hid h
  clear h
  obtain ⟨w0, hw0, hb0, hlt0, hc⟩ := box_new w #[.int .i64 kind, .int .i64 op, .int .i64 d, .int .i64 a, .int .i64 b, .int .i32 num, .string name, s] 54
  have HW := Lib.hid hw0
  have HB := Lib.hid hb0
  have hsz0 : w0.heap.size = w.heap.size + 1 := by rw [hw0]; simp
  have HSZ := Lib.hid hsz0
  clear hw0 hb0 hc hsz0
  by_cases ha : a = -1
  · have haf : (a != -1) = false := by rw [ha]; rfl
    rw [if_pos ha]
    have HA := Lib.hid ha
    clear ha
    go_enter Try.func37, Try.ntmps37
    go_wp2_with fail
    rw [← HW.out, ← HSZ.out]
    refine (put_one HH.out HB.out single d a b 0 name hb).mono ?_
    rintro e w3 ⟨rfl, hP⟩
    go_wp2_with fail
    go_returns
    exact ⟨rfl, hP⟩
  · have haf : (a != -1) = true := bne_iff_ne.2 ha
    rw [if_neg ha]
    have HA := Lib.hid ha
    clear ha
    go_enter Try.func37, Try.ntmps37
    go_wp2_with fail
    rw [← HW.out, ← HSZ.out]
    refine (put_one HH.out HB.out array d a b 0 name hb).mono ?_
    rintro e w3 ⟨rfl, hP⟩
    go_wp2_with fail
    go_returns
    exact ⟨rfl, hP⟩

end Go.Proofs.Ytnfneinonkpmeaa
namespace Go.Proofs.Ytnfneinonkpmeaa
open Go.RowKit
variable {w w1 : World} {pb mb : Nat} {v : Value} {r : Option Nat} {f : Fn} {l : List Vins} {n : Nat} {kn : Lit → Option Lit}
def unS (op d a : Int) : Vins := if op = 19 then threeS 12 d (-1) a else if op = 20 then withS 4 d a 1 else withS 5 d a (-1)
set_option maxHeartbeats 4000000 in
set_option maxRecDepth 100000 in
theorem unary_any (h : PickAt w pb mb v r f l n kn) (hb : l.length + 1 ≤ 1000000000) (kind op d a b num : Int) (name : ByteArray) (s : Value) (ho : 19 ≤ op ∧ op ≤ 21) :
    Calls Try.prog 35 #[.pointer (some ⟨pb, 0, none⟩), .agg #[.int .i64 kind, .int .i64 op, .int .i64 d, .int .i64 a, .int .i64 b, .int .i32 num, .string name, s]] w
      fun e w' => e = .returned (.tuple #[]) ∧ Picked w pb mb r f (l ++ [unS op d a]) n kn w' := by
  have HH := Lib.hid h
  clear h
  obtain ⟨w0, hw0, hb0, hlt0, hc⟩ := box_new w #[.int .i64 kind, .int .i64 op, .int .i64 d, .int .i64 a, .int .i64 b, .int .i32 num, .string name, s] 54
  have HW := Lib.hid hw0
  have HB := Lib.hid hb0
  clear hw0 hb0 hc
  have hop : op = 19 ∨ op = 20 ∨ op = 21 := by omega
  rcases hop with rfl | rfl | rfl
  · go_enter Try.func35, Try.ntmps35
    go_wp2_with fail
    rw [← HW.out]
    refine (three_any 12 d (-1) a _).mono ?_
    rintro e w2 ⟨rfl, hB2⟩
    have HB2 := Lib.hid (HB.out.trans (hB2.mono HB.out.size))
    clear hB2
    go_wp2_with fail
    refine (put_one HH.out HB2.out 12 d (-1) a 0 ⟨#[]⟩ hb).mono ?_
    rintro e w3 ⟨rfl, hP⟩
    go_wp2_with fail
    go_returns
    exact ⟨rfl, hP⟩
  · go_enter Try.func35, Try.ntmps35
    go_wp2_with fail
    rw [← HW.out]
    refine (with_any 4 d a 1 _).mono ?_
    rintro e w2 ⟨rfl, hB2⟩
    have HB2 := Lib.hid (HB.out.trans (hB2.mono HB.out.size))
    clear hB2
    go_wp2_with fail
    refine (put_one HH.out HB2.out 4 d a (-1) 1 ⟨#[]⟩ hb).mono ?_
    rintro e w3 ⟨rfl, hP⟩
    go_wp2_with fail
    go_returns
    exact ⟨rfl, hP⟩
  · go_enter Try.func35, Try.ntmps35
    go_wp2_with fail
    rw [← HW.out]
    refine (with_any 5 d a (-1) _).mono ?_
    rintro e w2 ⟨rfl, hB2⟩
    have HB2 := Lib.hid (HB.out.trans (hB2.mono HB.out.size))
    clear hB2
    go_wp2_with fail
    refine (put_one HH.out HB2.out 5 d a (-1) (-1) ⟨#[]⟩ hb).mono ?_
    rintro e w3 ⟨rfl, hP⟩
    go_wp2_with fail
    go_returns
    exact ⟨rfl, hP⟩

end Go.Proofs.Ytnfneinonkpmeaa
namespace Go.Proofs.Ytnfneinonkpmeaa
open Go.RowKit

def low5 (n : Int) : Int := bits BinOp.and .i32 n 31
def shortS (op d a n : Int) : Option Vins :=
  if op = 6 then some (withS 8 d a (low5 n)) else if op = 7 then some (withS 10 d a (low5 n))
  else if op = 15 then (if n = 0 then some (withS 4 d a 1) else none)
  else if op = 16 then (if n = 0 then some (threeS 15 d (-1) a) else none)
  else if op = 1 then (if fits12 n then some (withS 2 d a n) else none)
  else if op = 2 then (if fits12 (-n) then some (withS 2 d a (-n)) else none)
  else if op = 8 then (if fits12 n then some (withS 7 d a n) else none)
  else if op = 9 then (if fits12 n then some (withS 6 d a n) else none)
  else if op = 10 then (if fits12 n then some (withS 5 d a n) else none)
  else if op = 11 then (if fits12 n then some (withS 3 d a n) else none)
  else none
theorem res_cell {w w1 : World} {cs : Array Value} {e : Nat} (hB : Below (w.alloc (.cells cs e)).heap.size (w.alloc (.cells cs e)) w1) : w1.heap[w.heap.size]? = some (.cells cs e (0, 0)) := by
  rw [hB.block _ (by simp)]; exact heap_alloc_new w _
theorem wrap32_i32 (z : Int) : I32 (wrap32 z) := by unfold I32 wrap32; omega
theorem wrap_fits {z : Int} (h : fits12 z = true) : wrap32 z = z := by
  unfold fits12 at h; simp at h; unfold wrap32; omega
theorem fits_wrap {n : Int} (hn : I32 n) : fits12 (wrap32 (-n)) = fits12 (-n) := by
  unfold I32 at hn
  by_cases h : n = -2147483648
  · subst h; unfold fits12 wrap32; refine Bool.eq_iff_iff.2 ?_; simp only [Bool.and_eq_true, decide_eq_true_eq]; omega
  · have : wrap32 (-n) = -n := by unfold wrap32; omega
    rw [this]
def Shorted (op d a n : Int) (w : World) (e : Ending) (w' : World) : Prop :=
  ∃ y : Vins, e = .returned (.tuple #[.agg #[.int .i64 y.op, .int .i64 y.d, .int .i64 y.a, .int .i64 y.b, .int .i32 y.num, .string y.name, .slice none 0 0], .bool (shortS op d a n).isSome]) ∧ Below w.heap.size w w' ∧ ∀ s, shortS op d a n = some s → y = s

theorem len7 {α : Type} {cs : List α} (h : cs.length = 7) : ∃ a b c d e f g, cs = [a, b, c, d, e, f, g] := by
  match cs, h with
  | [a, b, c, d, e, f, g], _ => exact ⟨a, b, c, d, e, f, g, rfl⟩
/-- Seven cells stored, one behind the other. -/
theorem store7 (w1 : World) (b : Nat) (cs : Array Value) (e : Nat) (h : w1.heap[b]? = some (.cells cs e (0, 0))) (hs : cs.size = 7) (v0 v1 v2 v3 v4 v5 v6 : Value) :
    ∃ W, W = (((((((w1.setCell ⟨b, 0, none⟩ v0).setCell ⟨b, 1, none⟩ v1).setCell ⟨b, 2, none⟩ v2).setCell ⟨b, 3, none⟩ v3).setCell ⟨b, 4, none⟩ v4).setCell ⟨b, 5, none⟩ v5).setCell ⟨b, 6, none⟩ v6) ∧
      W.heap[b]? = some (.cells #[v0, v1, v2, v3, v4, v5, v6] e (0, 0)) ∧ Chg (fun k => k = b) w1 W ∧ ∀ j, W.cell? ⟨b, j, none⟩ = #[v0, v1, v2, v3, v4, v5, v6][j]? := by
  obtain ⟨l⟩ := cs
  obtain ⟨a0, a1, a2, a3, a4, a5, a6, rfl⟩ := len7 (by simpa using hs)
  have h0 := heap_setCell_same w1 b 0 _ e v0 h
  have h1 := heap_setCell_same _ b 1 _ e v1 h0
  have h2 := heap_setCell_same _ b 2 _ e v2 h1
  have h3 := heap_setCell_same _ b 3 _ e v3 h2
  have h4 := heap_setCell_same _ b 4 _ e v4 h3
  have h5 := heap_setCell_same _ b 5 _ e v5 h4
  have h6 := heap_setCell_same _ b 6 _ e v6 h5
  have hf : (((((((w1.setCell ⟨b, 0, none⟩ v0).setCell ⟨b, 1, none⟩ v1).setCell ⟨b, 2, none⟩ v2).setCell ⟨b, 3, none⟩ v3).setCell ⟨b, 4, none⟩ v4).setCell ⟨b, 5, none⟩ v5).setCell ⟨b, 6, none⟩ v6).heap[b]? = some (.cells #[v0, v1, v2, v3, v4, v5, v6] e (0, 0)) := h6.trans (by simp)
  refine ⟨_, rfl, hf, ?_, fun j => cell_of_row _ _ _ _ _ _ hf⟩
  have t : ∀ {a b' c : World}, Chg (fun k => k = b) a b' → Chg (fun k => k = b) b' c → Chg (fun k => k = b) a c := fun h k => h.trans k fun _ _ e => e
  exact t (t (t (t (t (t (Chg.store _ _ _ _) (Chg.store _ _ _ _)) (Chg.store _ _ _ _)) (Chg.store _ _ _ _)) (Chg.store _ _ _ _)) (Chg.store _ _ _ _)) (Chg.store _ _ _ _)
/-- What the walk must know of a block of seven cells to store them. -/
structure Res7 (w : World) (b : Nat) (a0 a1 a2 a3 a4 a5 a6 : Value) : Prop where
  heap : w.heap[b]? = some (.cells #[a0, a1, a2, a3, a4, a5, a6] 61 (0, 0))
  c0 : w.cell? ⟨b, 0, none⟩ = some a0
  c1 : w.cell? ⟨b, 1, none⟩ = some a1
  c2 : w.cell? ⟨b, 2, none⟩ = some a2
  c3 : w.cell? ⟨b, 3, none⟩ = some a3
  c4 : w.cell? ⟨b, 4, none⟩ = some a4
  c5 : w.cell? ⟨b, 5, none⟩ = some a5
  c6 : w.cell? ⟨b, 6, none⟩ = some a6
  f0 : w.frozen? ⟨b, 0, none⟩ = false
  f1 : w.frozen? ⟨b, 1, none⟩ = false
  f2 : w.frozen? ⟨b, 2, none⟩ = false
  f3 : w.frozen? ⟨b, 3, none⟩ = false
  f4 : w.frozen? ⟨b, 4, none⟩ = false
  f5 : w.frozen? ⟨b, 5, none⟩ = false
  f6 : w.frozen? ⟨b, 6, none⟩ = false
theorem Res7.of {w : World} {b : Nat} {a0 a1 a2 a3 a4 a5 a6 : Value} (h : w.heap[b]? = some (.cells #[a0, a1, a2, a3, a4, a5, a6] 61 (0, 0))) : Res7 w b a0 a1 a2 a3 a4 a5 a6 := by
  have hf : ∀ j, w.frozen? ⟨b, j, none⟩ = false := fun j => by simp [World.frozen?, h]
  have hc : ∀ j, w.cell? ⟨b, j, none⟩ = #[a0, a1, a2, a3, a4, a5, a6][j]? := fun j => cell_of_row _ _ _ _ _ _ h
  exact ⟨h, hc 0, hc 1, hc 2, hc 3, hc 4, hc 5, hc 6, hf 0, hf 1, hf 2, hf 3, hf 4, hf 5, hf 6⟩
theorem Res7.made (w : World) : Res7 (w.alloc (.cells #[.int .i64 0, .int .i64 0, .int .i64 0, .int .i64 0, .int .i32 0, .string ⟨#[]⟩, .slice none 0 0] 61)) w.heap.size (.int .i64 0) (.int .i64 0) (.int .i64 0) (.int .i64 0) (.int .i32 0) (.string ⟨#[]⟩) (.slice none 0 0) := .of (heap_alloc_new w _)
theorem Res7.below {w w' : World} {b : Nat} {a0 a1 a2 a3 a4 a5 a6 : Value} (h : Res7 w b a0 a1 a2 a3 a4 a5 a6) (hB : Below w.heap.size w w') : Res7 w' b a0 a1 a2 a3 a4 a5 a6 :=
  .of (by rw [hB.block b (lt_of_heap h.heap)]; exact h.heap)
/-- Behind the store: the world by a name, with its seven cells. -/
theorem Res7.stored {w : World} {b : Nat} {a0 a1 a2 a3 a4 a5 a6 : Value} (h : Res7 w b a0 a1 a2 a3 a4 a5 a6) (v0 v1 v2 v3 v4 v5 v6 : Value) :
    ∃ W, (((((((w.setCell ⟨b, 0, none⟩ v0).setCell ⟨b, 1, none⟩ v1).setCell ⟨b, 2, none⟩ v2).setCell ⟨b, 3, none⟩ v3).setCell ⟨b, 4, none⟩ v4).setCell ⟨b, 5, none⟩ v5).setCell ⟨b, 6, none⟩ v6) = W ∧ Res7 W b v0 v1 v2 v3 v4 v5 v6 ∧ Chg (fun k => k = b) w W := by
  obtain ⟨W, h1, h2, h3, _⟩ := store7 w b _ _ h.heap rfl v0 v1 v2 v3 v4 v5 v6
  exact ⟨W, h1.symm, .of h2, h3⟩


theorem three15_any (op d a b : Int) (w : World) :
    Calls Try.prog 25 #[.int .i64 op, .int .i64 d, .int .i64 a, .int .i64 b] w fun e w' => e = .returned (.agg #[.int .i64 op, .int .i64 d, .int .i64 a, .int .i64 b, .int .i32 0, .string ⟨#[]⟩, .slice none 0 0]) ∧ Below w.heap.size w w' := by
  go_enter Try.func25, Try.ntmps25
  go_wp2
  go_returns
  exact ⟨rfl, (Below.refl _ _).alloc (Nat.le_refl _) _⟩
theorem with15_any (op d a n : Int) (w : World) :
    Calls Try.prog 39 #[.int .i64 op, .int .i64 d, .int .i64 a, .int .i32 n] w fun e w' => e = .returned (.agg #[.int .i64 op, .int .i64 d, .int .i64 a, .int .i64 (-1), .int .i32 n, .string ⟨#[]⟩, .slice none 0 0]) ∧ Below w.heap.size w w' := by
  go_enter Try.func39, Try.ntmps39
  go_wp2
  go_returns
  exact ⟨rfl, (Below.refl _ _).alloc (Nat.le_refl _) _⟩
end Go.Proofs.Ytnfneinonkpmeaa
namespace Go.Proofs.Ytnfneinonkpmeaa
open Go.RowKit
set_option maxHeartbeats 4000000 in
set_option maxRecDepth 100000 in
theorem short_1 (d a n : Int) (hn : I32 n) (w : World) : Calls Try.prog 50 #[.int .i64 1, .int .i64 d, .int .i64 a, .int .i32 n] w (Shorted 1 d a n w) := by
  have hn1 := hn.1
  have hn2 := hn.2
  go_enter Try.func50, Try.ntmps50
  go_wp2_with fail
  refine (Fits_any n hn _).mono ?_
  rintro e w1 ⟨rfl, rfl⟩
  go_wp2_with fail
  refine (with_any 2 d a n _).mono ?_
  rintro e w1 ⟨rfl, hB⟩
  obtain ⟨hb, c0, c1, c2, c3, c4, c5, c6, f0, f1, f2, f3, f4, f5, f6⟩ := (Res7.made w).below hB
  have HBW := Lib.hid (((Below.refl w.heap.size w).alloc (Nat.le_refl _) _).trans (hB.mono (by simp)))
  have HHB := Lib.hid hb
  clear hb hB
  go_wp2_with fail
  obtain ⟨W, hW, ⟨hb, d0, d1, d2, d3, d4, d5, d6, -, -, -, -, -, -, -⟩, hch⟩ := (Res7.of HHB.out).stored (.int .i64 2) (.int .i64 d) (.int .i64 a) (.int .i64 (-1)) (.int .i32 n) (.string ⟨#[]⟩) (.slice none 0 0)
  rw [hW]
  clear hW hb
  refine bodyPost_ret (by simp [results, Try.results50, go_sem, d0, d1, d2, d3, d4, d5, d6]; try rfl) rfl ?_
  have hsome : (shortS 1 d a n).isSome = fits12 n := by unfold shortS; simp; split <;> simp_all
  refine ⟨⟨_, _, _, _, _, _, []⟩, by rw [hsome], ?_, fun s hs => ?_⟩
  · exact HBW.out.trans (hch.below HBW.out.size fun k e => by omega)
  · unfold shortS at hs; simp at hs; exact hs.2
set_option maxHeartbeats 4000000 in
set_option maxRecDepth 100000 in
theorem short_2 (d a n : Int) (hn : I32 n) (w : World) : Calls Try.prog 50 #[.int .i64 2, .int .i64 d, .int .i64 a, .int .i32 n] w (Shorted 2 d a n w) := by
  have hm : I32 (wrap32 (-n)) := wrap32_i32 _
  go_enter Try.func50, Try.ntmps50
  go_wp2_with fail
  refine (Fits_any n hn _).mono ?_
  rintro e w1 ⟨rfl, rfl⟩
  go_wp2_with fail
  refine (with_any 2 d a (wrap32 (-n)) _).mono ?_
  rintro e w1 ⟨rfl, hB⟩
  obtain ⟨hb, c0, c1, c2, c3, c4, c5, c6, f0, f1, f2, f3, f4, f5, f6⟩ := (Res7.made w).below hB
  have HBW := Lib.hid (((Below.refl w.heap.size w).alloc (Nat.le_refl _) _).trans (hB.mono (by simp)))
  have HHB := Lib.hid hb
  clear hb hB
  go_wp2_with fail
  refine (Fits_any (wrap32 (-n)) hm _).mono ?_
  rintro e w2 ⟨rfl, rfl⟩
  go_wp2_with fail
  obtain ⟨W, hW, ⟨hb, d0, d1, d2, d3, d4, d5, d6, -, -, -, -, -, -, -⟩, hch⟩ := (Res7.of HHB.out).stored (.int .i64 2) (.int .i64 d) (.int .i64 a) (.int .i64 (-1)) (.int .i32 (wrap32 (-n))) (.string ⟨#[]⟩) (.slice none 0 0)
  rw [hW]
  clear hW hb
  refine bodyPost_ret (by simp [results, Try.results50, go_sem, d0, d1, d2, d3, d4, d5, d6]; try rfl) rfl ?_
  have hsome : (shortS 2 d a n).isSome = fits12 (wrap32 (-n)) := by rw [fits_wrap hn]; unfold shortS; simp; split <;> simp_all
  refine ⟨⟨_, _, _, _, _, _, []⟩, by rw [hsome], ?_, fun s hs => ?_⟩
  · exact HBW.out.trans (hch.below HBW.out.size fun k e => by omega)
  · unfold shortS at hs; simp at hs
    obtain ⟨h1, h2⟩ := hs
    rw [← h2, wrap_fits h1]; rfl
set_option maxHeartbeats 4000000 in
set_option maxRecDepth 100000 in
theorem short_3 (d a n : Int) (hn : I32 n) (w : World) : Calls Try.prog 50 #[.int .i64 3, .int .i64 d, .int .i64 a, .int .i32 n] w (Shorted 3 d a n w) := by
  have hn1 := hn.1
  have hn2 := hn.2
  go_enter Try.func50, Try.ntmps50
  go_wp2_with fail
  refine (Fits_any n hn _).mono ?_
  rintro e w1 ⟨rfl, rfl⟩
  have HBW : Hid (Below w.heap.size w (w.alloc (.cells #[.int .i64 0, .int .i64 0, .int .i64 0, .int .i64 0, .int .i32 0, .string ⟨#[]⟩, .slice none 0 0] 61))) := Lib.hid ((Below.refl w.heap.size w).alloc (Nat.le_refl _) _)
  have HHB := Lib.hid (Res7.made w).heap
  have ⟨_, c0, c1, c2, c3, c4, c5, c6, f0, f1, f2, f3, f4, f5, f6⟩ := Res7.made w
  go_wp2_with fail
  refine bodyPost_ret (by simp [results, Try.results50, go_sem]; try rfl) rfl ?_
  refine ⟨⟨_, _, _, _, _, _, []⟩, rfl, ?_, fun s hs => ?_⟩
  · exact HBW.out
  · exact absurd hs (by unfold shortS; simp)
set_option maxHeartbeats 4000000 in
set_option maxRecDepth 100000 in
theorem short_4 (d a n : Int) (hn : I32 n) (w : World) : Calls Try.prog 50 #[.int .i64 4, .int .i64 d, .int .i64 a, .int .i32 n] w (Shorted 4 d a n w) := by
  have hn1 := hn.1
  have hn2 := hn.2
  go_enter Try.func50, Try.ntmps50
  go_wp2_with fail
  refine (Fits_any n hn _).mono ?_
  rintro e w1 ⟨rfl, rfl⟩
  have HBW : Hid (Below w.heap.size w (w.alloc (.cells #[.int .i64 0, .int .i64 0, .int .i64 0, .int .i64 0, .int .i32 0, .string ⟨#[]⟩, .slice none 0 0] 61))) := Lib.hid ((Below.refl w.heap.size w).alloc (Nat.le_refl _) _)
  have HHB := Lib.hid (Res7.made w).heap
  have ⟨_, c0, c1, c2, c3, c4, c5, c6, f0, f1, f2, f3, f4, f5, f6⟩ := Res7.made w
  go_wp2_with fail
  refine bodyPost_ret (by simp [results, Try.results50, go_sem]; try rfl) rfl ?_
  refine ⟨⟨_, _, _, _, _, _, []⟩, rfl, ?_, fun s hs => ?_⟩
  · exact HBW.out
  · exact absurd hs (by unfold shortS; simp)
set_option maxHeartbeats 4000000 in
set_option maxRecDepth 100000 in
theorem short_5 (d a n : Int) (hn : I32 n) (w : World) : Calls Try.prog 50 #[.int .i64 5, .int .i64 d, .int .i64 a, .int .i32 n] w (Shorted 5 d a n w) := by
  have hn1 := hn.1
  have hn2 := hn.2
  go_enter Try.func50, Try.ntmps50
  go_wp2_with fail
  refine (Fits_any n hn _).mono ?_
  rintro e w1 ⟨rfl, rfl⟩
  have HBW : Hid (Below w.heap.size w (w.alloc (.cells #[.int .i64 0, .int .i64 0, .int .i64 0, .int .i64 0, .int .i32 0, .string ⟨#[]⟩, .slice none 0 0] 61))) := Lib.hid ((Below.refl w.heap.size w).alloc (Nat.le_refl _) _)
  have HHB := Lib.hid (Res7.made w).heap
  have ⟨_, c0, c1, c2, c3, c4, c5, c6, f0, f1, f2, f3, f4, f5, f6⟩ := Res7.made w
  go_wp2_with fail
  refine bodyPost_ret (by simp [results, Try.results50, go_sem]; try rfl) rfl ?_
  refine ⟨⟨_, _, _, _, _, _, []⟩, rfl, ?_, fun s hs => ?_⟩
  · exact HBW.out
  · exact absurd hs (by unfold shortS; simp)
set_option maxHeartbeats 4000000 in
set_option maxRecDepth 100000 in
theorem short_6 (d a n : Int) (hn : I32 n) (w : World) : Calls Try.prog 50 #[.int .i64 6, .int .i64 d, .int .i64 a, .int .i32 n] w (Shorted 6 d a n w) := by
  have hn1 := hn.1
  have hn2 := hn.2
  go_enter Try.func50, Try.ntmps50
  go_wp2_with fail
  refine (Fits_any n hn _).mono ?_
  rintro e w1 ⟨rfl, rfl⟩
  go_wp2_with fail
  refine (with_any 8 d a (low5 n) _).mono ?_
  rintro e w1 ⟨rfl, hB⟩
  obtain ⟨hb, c0, c1, c2, c3, c4, c5, c6, f0, f1, f2, f3, f4, f5, f6⟩ := (Res7.made w).below hB
  have HBW := Lib.hid (((Below.refl w.heap.size w).alloc (Nat.le_refl _) _).trans (hB.mono (by simp)))
  have HHB := Lib.hid hb
  clear hb hB
  go_wp2_with fail
  obtain ⟨W, hW, ⟨hb, d0, d1, d2, d3, d4, d5, d6, -, -, -, -, -, -, -⟩, hch⟩ := (Res7.of HHB.out).stored (.int .i64 8) (.int .i64 d) (.int .i64 a) (.int .i64 (-1)) (.int .i32 (low5 n)) (.string ⟨#[]⟩) (.slice none 0 0)
  rw [hW]
  clear hW hb
  refine bodyPost_ret (by simp [results, Try.results50, go_sem, d0, d1, d2, d3, d4, d5, d6]; try rfl) rfl ?_
  refine ⟨⟨_, _, _, _, _, _, []⟩, rfl, ?_, fun s hs => ?_⟩
  · exact HBW.out.trans (hch.below HBW.out.size fun k e => by omega)
  · unfold shortS at hs; simp at hs; exact hs
set_option maxHeartbeats 4000000 in
set_option maxRecDepth 100000 in
theorem short_7 (d a n : Int) (hn : I32 n) (w : World) : Calls Try.prog 50 #[.int .i64 7, .int .i64 d, .int .i64 a, .int .i32 n] w (Shorted 7 d a n w) := by
  have hn1 := hn.1
  have hn2 := hn.2
  go_enter Try.func50, Try.ntmps50
  go_wp2_with fail
  refine (Fits_any n hn _).mono ?_
  rintro e w1 ⟨rfl, rfl⟩
  go_wp2_with fail
  refine (with_any 10 d a (low5 n) _).mono ?_
  rintro e w1 ⟨rfl, hB⟩
  obtain ⟨hb, c0, c1, c2, c3, c4, c5, c6, f0, f1, f2, f3, f4, f5, f6⟩ := (Res7.made w).below hB
  have HBW := Lib.hid (((Below.refl w.heap.size w).alloc (Nat.le_refl _) _).trans (hB.mono (by simp)))
  have HHB := Lib.hid hb
  clear hb hB
  go_wp2_with fail
  obtain ⟨W, hW, ⟨hb, d0, d1, d2, d3, d4, d5, d6, -, -, -, -, -, -, -⟩, hch⟩ := (Res7.of HHB.out).stored (.int .i64 10) (.int .i64 d) (.int .i64 a) (.int .i64 (-1)) (.int .i32 (low5 n)) (.string ⟨#[]⟩) (.slice none 0 0)
  rw [hW]
  clear hW hb
  refine bodyPost_ret (by simp [results, Try.results50, go_sem, d0, d1, d2, d3, d4, d5, d6]; try rfl) rfl ?_
  refine ⟨⟨_, _, _, _, _, _, []⟩, rfl, ?_, fun s hs => ?_⟩
  · exact HBW.out.trans (hch.below HBW.out.size fun k e => by omega)
  · unfold shortS at hs; simp at hs; exact hs
set_option maxHeartbeats 4000000 in
set_option maxRecDepth 100000 in
theorem short_8 (d a n : Int) (hn : I32 n) (w : World) : Calls Try.prog 50 #[.int .i64 8, .int .i64 d, .int .i64 a, .int .i32 n] w (Shorted 8 d a n w) := by
  have hn1 := hn.1
  have hn2 := hn.2
  go_enter Try.func50, Try.ntmps50
  go_wp2_with fail
  refine (Fits_any n hn _).mono ?_
  rintro e w1 ⟨rfl, rfl⟩
  go_wp2_with fail
  refine (with_any 7 d a n _).mono ?_
  rintro e w1 ⟨rfl, hB⟩
  obtain ⟨hb, c0, c1, c2, c3, c4, c5, c6, f0, f1, f2, f3, f4, f5, f6⟩ := (Res7.made w).below hB
  have HBW := Lib.hid (((Below.refl w.heap.size w).alloc (Nat.le_refl _) _).trans (hB.mono (by simp)))
  have HHB := Lib.hid hb
  clear hb hB
  go_wp2_with fail
  obtain ⟨W, hW, ⟨hb, d0, d1, d2, d3, d4, d5, d6, -, -, -, -, -, -, -⟩, hch⟩ := (Res7.of HHB.out).stored (.int .i64 7) (.int .i64 d) (.int .i64 a) (.int .i64 (-1)) (.int .i32 n) (.string ⟨#[]⟩) (.slice none 0 0)
  rw [hW]
  clear hW hb
  refine bodyPost_ret (by simp [results, Try.results50, go_sem, d0, d1, d2, d3, d4, d5, d6]; try rfl) rfl ?_
  have hsome : (shortS 8 d a n).isSome = fits12 n := by unfold shortS; simp; split <;> simp_all
  refine ⟨⟨_, _, _, _, _, _, []⟩, by rw [hsome], ?_, fun s hs => ?_⟩
  · exact HBW.out.trans (hch.below HBW.out.size fun k e => by omega)
  · unfold shortS at hs; simp at hs; exact hs.2
set_option maxHeartbeats 4000000 in
set_option maxRecDepth 100000 in
theorem short_9 (d a n : Int) (hn : I32 n) (w : World) : Calls Try.prog 50 #[.int .i64 9, .int .i64 d, .int .i64 a, .int .i32 n] w (Shorted 9 d a n w) := by
  have hn1 := hn.1
  have hn2 := hn.2
  go_enter Try.func50, Try.ntmps50
  go_wp2_with fail
  refine (Fits_any n hn _).mono ?_
  rintro e w1 ⟨rfl, rfl⟩
  go_wp2_with fail
  refine (with_any 6 d a n _).mono ?_
  rintro e w1 ⟨rfl, hB⟩
  obtain ⟨hb, c0, c1, c2, c3, c4, c5, c6, f0, f1, f2, f3, f4, f5, f6⟩ := (Res7.made w).below hB
  have HBW := Lib.hid (((Below.refl w.heap.size w).alloc (Nat.le_refl _) _).trans (hB.mono (by simp)))
  have HHB := Lib.hid hb
  clear hb hB
  go_wp2_with fail
  obtain ⟨W, hW, ⟨hb, d0, d1, d2, d3, d4, d5, d6, -, -, -, -, -, -, -⟩, hch⟩ := (Res7.of HHB.out).stored (.int .i64 6) (.int .i64 d) (.int .i64 a) (.int .i64 (-1)) (.int .i32 n) (.string ⟨#[]⟩) (.slice none 0 0)
  rw [hW]
  clear hW hb
  refine bodyPost_ret (by simp [results, Try.results50, go_sem, d0, d1, d2, d3, d4, d5, d6]; try rfl) rfl ?_
  have hsome : (shortS 9 d a n).isSome = fits12 n := by unfold shortS; simp; split <;> simp_all
  refine ⟨⟨_, _, _, _, _, _, []⟩, by rw [hsome], ?_, fun s hs => ?_⟩
  · exact HBW.out.trans (hch.below HBW.out.size fun k e => by omega)
  · unfold shortS at hs; simp at hs; exact hs.2
set_option maxHeartbeats 4000000 in
set_option maxRecDepth 100000 in
theorem short_10 (d a n : Int) (hn : I32 n) (w : World) : Calls Try.prog 50 #[.int .i64 10, .int .i64 d, .int .i64 a, .int .i32 n] w (Shorted 10 d a n w) := by
  have hn1 := hn.1
  have hn2 := hn.2
  go_enter Try.func50, Try.ntmps50
  go_wp2_with fail
  refine (Fits_any n hn _).mono ?_
  rintro e w1 ⟨rfl, rfl⟩
  go_wp2_with fail
  refine (with_any 5 d a n _).mono ?_
  rintro e w1 ⟨rfl, hB⟩
  obtain ⟨hb, c0, c1, c2, c3, c4, c5, c6, f0, f1, f2, f3, f4, f5, f6⟩ := (Res7.made w).below hB
  have HBW := Lib.hid (((Below.refl w.heap.size w).alloc (Nat.le_refl _) _).trans (hB.mono (by simp)))
  have HHB := Lib.hid hb
  clear hb hB
  go_wp2_with fail
  obtain ⟨W, hW, ⟨hb, d0, d1, d2, d3, d4, d5, d6, -, -, -, -, -, -, -⟩, hch⟩ := (Res7.of HHB.out).stored (.int .i64 5) (.int .i64 d) (.int .i64 a) (.int .i64 (-1)) (.int .i32 n) (.string ⟨#[]⟩) (.slice none 0 0)
  rw [hW]
  clear hW hb
  refine bodyPost_ret (by simp [results, Try.results50, go_sem, d0, d1, d2, d3, d4, d5, d6]; try rfl) rfl ?_
  have hsome : (shortS 10 d a n).isSome = fits12 n := by unfold shortS; simp; split <;> simp_all
  refine ⟨⟨_, _, _, _, _, _, []⟩, by rw [hsome], ?_, fun s hs => ?_⟩
  · exact HBW.out.trans (hch.below HBW.out.size fun k e => by omega)
  · unfold shortS at hs; simp at hs; exact hs.2
set_option maxHeartbeats 4000000 in
set_option maxRecDepth 100000 in
theorem short_11 (d a n : Int) (hn : I32 n) (w : World) : Calls Try.prog 50 #[.int .i64 11, .int .i64 d, .int .i64 a, .int .i32 n] w (Shorted 11 d a n w) := by
  have hn1 := hn.1
  have hn2 := hn.2
  go_enter Try.func50, Try.ntmps50
  go_wp2_with fail
  refine (Fits_any n hn _).mono ?_
  rintro e w1 ⟨rfl, rfl⟩
  go_wp2_with fail
  refine (with_any 3 d a n _).mono ?_
  rintro e w1 ⟨rfl, hB⟩
  obtain ⟨hb, c0, c1, c2, c3, c4, c5, c6, f0, f1, f2, f3, f4, f5, f6⟩ := (Res7.made w).below hB
  have HBW := Lib.hid (((Below.refl w.heap.size w).alloc (Nat.le_refl _) _).trans (hB.mono (by simp)))
  have HHB := Lib.hid hb
  clear hb hB
  go_wp2_with fail
  obtain ⟨W, hW, ⟨hb, d0, d1, d2, d3, d4, d5, d6, -, -, -, -, -, -, -⟩, hch⟩ := (Res7.of HHB.out).stored (.int .i64 3) (.int .i64 d) (.int .i64 a) (.int .i64 (-1)) (.int .i32 n) (.string ⟨#[]⟩) (.slice none 0 0)
  rw [hW]
  clear hW hb
  refine bodyPost_ret (by simp [results, Try.results50, go_sem, d0, d1, d2, d3, d4, d5, d6]; try rfl) rfl ?_
  have hsome : (shortS 11 d a n).isSome = fits12 n := by unfold shortS; simp; split <;> simp_all
  refine ⟨⟨_, _, _, _, _, _, []⟩, by rw [hsome], ?_, fun s hs => ?_⟩
  · exact HBW.out.trans (hch.below HBW.out.size fun k e => by omega)
  · unfold shortS at hs; simp at hs; exact hs.2
set_option maxHeartbeats 4000000 in
set_option maxRecDepth 100000 in
theorem short_12 (d a n : Int) (hn : I32 n) (w : World) : Calls Try.prog 50 #[.int .i64 12, .int .i64 d, .int .i64 a, .int .i32 n] w (Shorted 12 d a n w) := by
  have hn1 := hn.1
  have hn2 := hn.2
  go_enter Try.func50, Try.ntmps50
  go_wp2_with fail
  refine (Fits_any n hn _).mono ?_
  rintro e w1 ⟨rfl, rfl⟩
  have HBW : Hid (Below w.heap.size w (w.alloc (.cells #[.int .i64 0, .int .i64 0, .int .i64 0, .int .i64 0, .int .i32 0, .string ⟨#[]⟩, .slice none 0 0] 61))) := Lib.hid ((Below.refl w.heap.size w).alloc (Nat.le_refl _) _)
  have HHB := Lib.hid (Res7.made w).heap
  have ⟨_, c0, c1, c2, c3, c4, c5, c6, f0, f1, f2, f3, f4, f5, f6⟩ := Res7.made w
  go_wp2_with fail
  refine bodyPost_ret (by simp [results, Try.results50, go_sem]; try rfl) rfl ?_
  refine ⟨⟨_, _, _, _, _, _, []⟩, rfl, ?_, fun s hs => ?_⟩
  · exact HBW.out
  · exact absurd hs (by unfold shortS; simp)
set_option maxHeartbeats 4000000 in
set_option maxRecDepth 100000 in
theorem short_13 (d a n : Int) (hn : I32 n) (w : World) : Calls Try.prog 50 #[.int .i64 13, .int .i64 d, .int .i64 a, .int .i32 n] w (Shorted 13 d a n w) := by
  have hn1 := hn.1
  have hn2 := hn.2
  go_enter Try.func50, Try.ntmps50
  go_wp2_with fail
  refine (Fits_any n hn _).mono ?_
  rintro e w1 ⟨rfl, rfl⟩
  have HBW : Hid (Below w.heap.size w (w.alloc (.cells #[.int .i64 0, .int .i64 0, .int .i64 0, .int .i64 0, .int .i32 0, .string ⟨#[]⟩, .slice none 0 0] 61))) := Lib.hid ((Below.refl w.heap.size w).alloc (Nat.le_refl _) _)
  have HHB := Lib.hid (Res7.made w).heap
  have ⟨_, c0, c1, c2, c3, c4, c5, c6, f0, f1, f2, f3, f4, f5, f6⟩ := Res7.made w
  go_wp2_with fail
  refine bodyPost_ret (by simp [results, Try.results50, go_sem]; try rfl) rfl ?_
  refine ⟨⟨_, _, _, _, _, _, []⟩, rfl, ?_, fun s hs => ?_⟩
  · exact HBW.out
  · exact absurd hs (by unfold shortS; simp)
set_option maxHeartbeats 4000000 in
set_option maxRecDepth 100000 in
theorem short_14 (d a n : Int) (hn : I32 n) (w : World) : Calls Try.prog 50 #[.int .i64 14, .int .i64 d, .int .i64 a, .int .i32 n] w (Shorted 14 d a n w) := by
  have hn1 := hn.1
  have hn2 := hn.2
  go_enter Try.func50, Try.ntmps50
  go_wp2_with fail
  refine (Fits_any n hn _).mono ?_
  rintro e w1 ⟨rfl, rfl⟩
  have HBW : Hid (Below w.heap.size w (w.alloc (.cells #[.int .i64 0, .int .i64 0, .int .i64 0, .int .i64 0, .int .i32 0, .string ⟨#[]⟩, .slice none 0 0] 61))) := Lib.hid ((Below.refl w.heap.size w).alloc (Nat.le_refl _) _)
  have HHB := Lib.hid (Res7.made w).heap
  have ⟨_, c0, c1, c2, c3, c4, c5, c6, f0, f1, f2, f3, f4, f5, f6⟩ := Res7.made w
  go_wp2_with fail
  refine bodyPost_ret (by simp [results, Try.results50, go_sem]; try rfl) rfl ?_
  refine ⟨⟨_, _, _, _, _, _, []⟩, rfl, ?_, fun s hs => ?_⟩
  · exact HBW.out
  · exact absurd hs (by unfold shortS; simp)
set_option maxHeartbeats 4000000 in
set_option maxRecDepth 100000 in
theorem short_15 (d a n : Int) (hn : I32 n) (w : World) : Calls Try.prog 50 #[.int .i64 15, .int .i64 d, .int .i64 a, .int .i32 n] w (Shorted 15 d a n w) := by
  have hn1 := hn.1
  have hn2 := hn.2
  go_enter Try.func50, Try.ntmps50
  go_wp2_with fail
  refine (Fits_any n hn _).mono ?_
  rintro e w1 ⟨rfl, rfl⟩
  go_wp2_with fail
  refine (with_any 4 d a 1 _).mono ?_
  rintro e w1 ⟨rfl, hB⟩
  obtain ⟨hb, c0, c1, c2, c3, c4, c5, c6, f0, f1, f2, f3, f4, f5, f6⟩ := (Res7.made w).below hB
  have HBW := Lib.hid (((Below.refl w.heap.size w).alloc (Nat.le_refl _) _).trans (hB.mono (by simp)))
  have HHB := Lib.hid hb
  clear hb hB
  go_wp2_with fail
  obtain ⟨W, hW, ⟨hb, d0, d1, d2, d3, d4, d5, d6, -, -, -, -, -, -, -⟩, hch⟩ := (Res7.of HHB.out).stored (.int .i64 4) (.int .i64 d) (.int .i64 a) (.int .i64 (-1)) (.int .i32 1) (.string ⟨#[]⟩) (.slice none 0 0)
  rw [hW]
  clear hW hb
  refine bodyPost_ret (by simp [results, Try.results50, go_sem, d0, d1, d2, d3, d4, d5, d6]; try rfl) rfl ?_
  have hsome : (shortS 15 d a n).isSome = (n == 0) := by unfold shortS; simp; split <;> simp_all
  refine ⟨⟨_, _, _, _, _, _, []⟩, by rw [hsome], ?_, fun s hs => ?_⟩
  · exact HBW.out.trans (hch.below HBW.out.size fun k e => by omega)
  · unfold shortS at hs; simp at hs; exact hs.2
set_option maxHeartbeats 4000000 in
set_option maxRecDepth 100000 in
theorem short_16 (d a n : Int) (hn : I32 n) (w : World) : Calls Try.prog 50 #[.int .i64 16, .int .i64 d, .int .i64 a, .int .i32 n] w (Shorted 16 d a n w) := by
  have hn1 := hn.1
  have hn2 := hn.2
  go_enter Try.func50, Try.ntmps50
  go_wp2_with fail
  refine (Fits_any n hn _).mono ?_
  rintro e w1 ⟨rfl, rfl⟩
  go_wp2_with fail
  refine (three_any 15 d (-1) a _).mono ?_
  rintro e w1 ⟨rfl, hB⟩
  obtain ⟨hb, c0, c1, c2, c3, c4, c5, c6, f0, f1, f2, f3, f4, f5, f6⟩ := (Res7.made w).below hB
  have HBW := Lib.hid (((Below.refl w.heap.size w).alloc (Nat.le_refl _) _).trans (hB.mono (by simp)))
  have HHB := Lib.hid hb
  clear hb hB
  go_wp2_with fail
  obtain ⟨W, hW, ⟨hb, d0, d1, d2, d3, d4, d5, d6, -, -, -, -, -, -, -⟩, hch⟩ := (Res7.of HHB.out).stored (.int .i64 15) (.int .i64 d) (.int .i64 (-1)) (.int .i64 a) (.int .i32 0) (.string ⟨#[]⟩) (.slice none 0 0)
  rw [hW]
  clear hW hb
  refine bodyPost_ret (by simp [results, Try.results50, go_sem, d0, d1, d2, d3, d4, d5, d6]; try rfl) rfl ?_
  have hsome : (shortS 16 d a n).isSome = (n == 0) := by unfold shortS; simp; split <;> simp_all
  refine ⟨⟨_, _, _, _, _, _, []⟩, by rw [hsome], ?_, fun s hs => ?_⟩
  · exact HBW.out.trans (hch.below HBW.out.size fun k e => by omega)
  · unfold shortS at hs; simp at hs; exact hs.2
theorem short_any (op d a n : Int) (ho : 1 ≤ op ∧ op ≤ 16) (hn : I32 n) (w : World) : Calls Try.prog 50 #[.int .i64 op, .int .i64 d, .int .i64 a, .int .i32 n] w (Shorted op d a n w) := by
  rcases op_cases ho with rfl | rfl | rfl | rfl | rfl | rfl | rfl | rfl | rfl | rfl | rfl | rfl | rfl | rfl | rfl | rfl
  · exact short_1 d a n hn w
  · exact short_2 d a n hn w
  · exact short_3 d a n hn w
  · exact short_4 d a n hn w
  · exact short_5 d a n hn w
  · exact short_6 d a n hn w
  · exact short_7 d a n hn w
  · exact short_8 d a n hn w
  · exact short_9 d a n hn w
  · exact short_10 d a n hn w
  · exact short_11 d a n hn w
  · exact short_12 d a n hn w
  · exact short_13 d a n hn w
  · exact short_14 d a n hn w
  · exact short_15 d a n hn w
  · exact short_16 d a n hn w
end Go.Proofs.Ytnfneinonkpmeaa
namespace Go.Proofs.Ytnfneinonkpmeaa
open Go.RowKit Go.Maps

/-- A register's known number, as the map has it. -/
def kl (K : Int → Option Int) : Lit → Option Lit
  | .int .i64 r => (K r).map (Lit.int .i32)
  | _ => none
def updK (K : Int → Option Int) (r : Int) (n : Option Int) : Int → Option Int := fun x => if x = r then n else K x
theorem kl_upd (K : Int → Option Int) (r : Int) (n : Option Int) (k : Lit) : upd (kl K) (.int .i64 r) (n.map (Lit.int .i32)) k = kl (updK K r n) k := by
  by_cases e : k = .int .i64 r
  · subst e; rw [upd_same]; simp [kl, updK]
  · rw [upd_other _ _ e]
    unfold kl
    split
    · rename_i x
      have : x ≠ r := fun h => e (by rw [h])
      simp [updK, this]
    · rfl
theorem kl_none (k : Lit) : (none : Option Lit) = kl (fun _ => none) k := by unfold kl; split <;> rfl
def KOk (K : Int → Option Int) : Prop := ∀ r n, K r = some n → I32 n ∧ 0 ≤ r
theorem lawI : Keyed Try.prog 3 := int_keyed Try.underlying3
theorem zero32 (w : World) : (zeroValue 21).run Try.prog w = .ok (.int .i32 0) w := by kernel_rfl
theorem lookK {w : World} {mb n : Nat} {K : Int → Option Int} (h : MapAt Try.prog 3 21 w mb n (kl K)) (r : Int) (hr : I64 r) :
    (Instr.lookup 63 (.map (some mb)) (.int .i64 r) true).run Try.prog w = .ok (.tuple #[.int .i32 ((K r).getD 0), .bool (K r).isSome]) w := by
  have hz : plainElem (H := Unit) Try.prog 21 (.int .i32 0) = some (.lit (.int .i32 0), []) := plainElem_int Try.underlying21 rfl
  rw [MapAt.look_ok h lawI Try.underlying63 (zero32 w) hz (keyOf_int_mk Try.underlying3 (WalkArith.wf_i64 hr))]
  simp only [kl]
  cases K r <;> rfl

def firstOf (o : Option Vins) (l : List Vins) : List Vins := match o with | some y => [y] | none => l
def binRest (op d a b : Int) : List Vins :=
  if op = 13 then [threeS 14 d b a] else if op = 12 then [threeS 14 d b a, withS 5 d d 1] else if op = 14 then [threeS 14 d a b, withS 5 d d 1]
  else if op = 15 then [threeS 12 d a b, withS 4 d d 1] else if op = 16 then [threeS 12 d a b, threeS 15 d (-1) d] else [threeS (plainS op) d a b]
def binS (K : Int → Option Int) (op d a b : Int) : List Vins :=
  firstOf ((K b).bind fun n => shortS op d a n) (firstOf ((if turnsS op then K a else none).bind fun n => shortS op d b n) (binRest op d a b))
def insS (K : Int → Option Int) (x : Ins) : List Vins :=
  if x.kind = 1 then [⟨40, x.d, x.a, x.b, x.num, x.name, []⟩]
  else if x.kind = 2 then [⟨41, x.d, x.a, x.b, 0, x.name, []⟩]
  else if x.kind = 3 then [if x.op = 19 then threeS 12 x.d (-1) x.a else if x.op = 20 then withS 4 x.d x.a 1 else withS 5 x.d x.a (-1)]
  else if x.kind = 4 then binS K x.op x.d x.a x.b
  else if x.kind = 5 then [⟨if x.a = -1 then 42 else 44, x.d, x.a, x.b, 0, x.name, []⟩]
  else if x.kind = 6 then [⟨if x.a = -1 then 43 else 45, x.d, x.a, x.b, 0, x.name, []⟩]
  else if x.kind = 7 then [⟨46, x.d, x.a, x.b, 0, x.name, x.args⟩]
  else if x.kind = 8 then [⟨47, x.d, x.a, x.b, 0, x.name, []⟩]
  else [⟨48, x.d, x.a, x.b, 0, x.name, []⟩]
/-- What is known behind it. -/
def nextK (K : Int → Option Int) (x : Ins) : Int → Option Int := if x.kind = 1 then updK K x.d (some x.num) else updK K x.d none
end Go.Proofs.Ytnfneinonkpmeaa
