/- The picker: end. -/
import Derived.Test.YtnfneinonkpmeaaPickA0
namespace Go.Proofs.Ytnfneinonkpmeaa
open Go.RowKit
variable {w w1 : World} {pb mb : Nat} {v : Value} {r : Option Nat} {f : Fn} {l : List Vins} {n : Nat} {kn : Lit → Option Lit}
/-- What a block's end becomes. -/
def jumpS (n : Int) : Vins := ⟨51, -1, -1, -1, n, ⟨#[]⟩, []⟩
def endS (b : Blk) (next : Int) : List Vins :=
  if b.kind = 1 then (if b.to = next then [] else [jumpS b.to])
  else if b.kind = 2 then (if b.to = next then [⟨53, -1, b.a, -1, b.els, ⟨#[]⟩, []⟩] else ⟨52, -1, b.a, -1, b.to, ⟨#[]⟩, []⟩ :: (if b.els = next then [] else [jumpS b.els]))
  else [threeS 49 (-1) b.a (-1)]

structure BlkI32 (b : Blk) : Prop where
  to : I32 b.to
  els : I32 b.els
set_option maxHeartbeats 4000000 in
set_option maxRecDepth 100000 in
theorem end_any (h : PickAt w pb mb v r f l n kn) (hb : l.length + 2 ≤ 1000000000) (b : Blk) (next : Int) (hk : 1 ≤ b.kind ∧ b.kind ≤ 3) (h32 : BlkI32 b) (s : Value) :
    Calls Try.prog 23 #[.pointer (some ⟨pb, 0, none⟩), .agg #[s, .int .i64 b.kind, .int .i64 b.a, .int .i64 b.to, .int .i64 b.els], .int .i64 next] w
      fun e w' => e = .returned (.tuple #[]) ∧ Picked w pb mb r f (l ++ endS b next) n kn w' := by
  have HH := Lib.hid h
  clear h
  obtain ⟨ins, kind, a, to, els⟩ := b
  have ht := h32.to
  have he := h32.els
  have HT := Lib.hid (show I32 to from ht)
  have HE := Lib.hid (show I32 els from he)
  clear ht he h32
  simp only at hk
  unfold endS
  simp only
  obtain ⟨w0, hw0, hb0, hlt0, hc⟩ := box_new w #[s, .int .i64 kind, .int .i64 a, .int .i64 to, .int .i64 els] 58
  have HW := Lib.hid hw0
  have HB := Lib.hid hb0
  have c2 := hc 2
  have c3 := hc 3
  have c4 := hc 4
  simp only [List.getElem?_toArray, List.getElem?_cons_succ, List.getElem?_cons_zero] at c2 c3 c4
  clear hw0 hb0 hc
  have hkk : kind = 1 ∨ kind = 2 ∨ kind = 3 := by omega
  rcases hkk with rfl | rfl | rfl
  · by_cases q : to = next
    · have qf : (to != next) = false := by rw [q]; simp
      rw [if_pos rfl, if_pos q]
      have Q := Lib.hid q
      clear q
      go_enter Try.func23, Try.ntmps23
      go_wp2_with fail
      rw [← HW.out]
      go_returns
      exact ⟨rfl, v, r, by rw [List.append_nil]; exact HH.out.kept HB.out, PStep.ofBelow HB.out⟩
    · have qf : (to != next) = true := bne_iff_ne.2 q
      rw [if_pos rfl, if_neg q]
      have Q := Lib.hid q
      clear q
      go_enter Try.func23, Try.ntmps23
      go_wp2_with fail
      rw [← HW.out]
      refine (to_any 51 (-1) to HT.out _).mono ?_
      rintro e w2 ⟨rfl, hB2⟩
      have HB2 := Lib.hid (HB.out.trans (hB2.mono HB.out.size))
      clear hB2
      go_wp2_with fail
      refine (put_one HH.out HB2.out 51 (-1) (-1) (-1) to ⟨#[]⟩ (by omega)).mono ?_
      rintro e w3 ⟨rfl, hP⟩
      go_wp2_with fail
      go_returns
      exact ⟨rfl, hP⟩
  · rw [if_neg (by omega), if_pos rfl]
    by_cases q : to = next
    · have qf : (to == next) = true := by rw [q]; simp
      rw [if_pos q]
      have Q := Lib.hid q
      clear q
      go_enter Try.func23, Try.ntmps23
      go_wp2_with fail
      rw [← HW.out]
      refine (to_any 53 a els HE.out _).mono ?_
      rintro e w2 ⟨rfl, hB2⟩
      have HB2 := Lib.hid (HB.out.trans (hB2.mono HB.out.size))
      clear hB2
      go_wp2_with fail
      refine (put_one HH.out HB2.out 53 (-1) a (-1) els ⟨#[]⟩ (by omega)).mono ?_
      rintro e w3 ⟨rfl, hP⟩
      go_wp2_with fail
      go_returns
      exact ⟨rfl, hP⟩
    · have qf : (to == next) = false := beq_eq_false_iff_ne.2 q
      rw [if_neg q]
      have Q := Lib.hid q
      clear q
      by_cases p : els = next
      · have pf : (els != next) = false := by rw [p]; simp
        rw [if_pos p]
        have PP := Lib.hid p
        clear p
        go_enter Try.func23, Try.ntmps23
        go_wp2_with fail
        rw [← HW.out]
        refine (to_any 52 a to HT.out _).mono ?_
        rintro e w2 ⟨rfl, hB2⟩
        have HB2 := Lib.hid (HB.out.trans (hB2.mono HB.out.size))
        have e4 := (hB2.cell (p := ⟨w.heap.size, 4, none⟩) hlt0).trans c4
        have hlt2 : w.heap.size < w2.heap.size := Nat.lt_of_lt_of_le hlt0 hB2.size
        clear hB2
        go_wp2_with fail
        have hnf : ¬ FootP pb mb r w.heap.size := fun hf => Nat.lt_irrefl _ (HH.out.lt _ hf)
        refine (put_one (HH.out.kept HB2.out) (Below.refl _ _) 52 (-1) a (-1) to ⟨#[]⟩ (by omega)).mono ?_
        rintro e w3 ⟨rfl, v3, r3, hp3, hs3⟩
        have HP3 := Lib.hid hp3
        have HS3 := Lib.hid ((PStep.ofBelow HB2.out).trans hs3)
        have g4 := hs3.chg.cell e4 hnf
        clear hp3 hs3 hnf
        go_wp2_with fail
        go_returns
        exact ⟨rfl, v3, r3, HP3.out, HS3.out⟩
      · have pf : (els != next) = true := bne_iff_ne.2 p
        rw [if_neg p]
        have PP := Lib.hid p
        clear p
        go_enter Try.func23, Try.ntmps23
        go_wp2_with fail
        rw [← HW.out]
        refine (to_any 52 a to HT.out _).mono ?_
        rintro e w2 ⟨rfl, hB2⟩
        have HB2 := Lib.hid (HB.out.trans (hB2.mono HB.out.size))
        have e4 := (hB2.cell (p := ⟨w.heap.size, 4, none⟩) hlt0).trans c4
        have hlt2 : w.heap.size < w2.heap.size := Nat.lt_of_lt_of_le hlt0 hB2.size
        clear hB2
        go_wp2_with fail
        have hnf : ¬ FootP pb mb r w.heap.size := fun hf => Nat.lt_irrefl _ (HH.out.lt _ hf)
        refine (put_one (HH.out.kept HB2.out) (Below.refl _ _) 52 (-1) a (-1) to ⟨#[]⟩ (by omega)).mono ?_
        rintro e w3 ⟨rfl, v3, r3, hp3, hs3⟩
        have HP3 := Lib.hid hp3
        have HS3 := Lib.hid ((PStep.ofBelow HB2.out).trans hs3)
        have g4 := hs3.chg.cell e4 hnf
        clear hp3 hs3 hnf
        go_wp2_with fail
        refine (to_any 51 (-1) els HE.out _).mono ?_
        rintro e w4 ⟨rfl, hB4⟩
        have HB4 := Lib.hid hB4
        clear hB4
        go_wp2_with fail
        refine (put_one HP3.out HB4.out 51 (-1) (-1) (-1) els ⟨#[]⟩ (by simp; omega)).mono ?_
        rintro e w5 ⟨rfl, v5, r5, hp5, hs5⟩
        go_wp2_with fail
        go_returns
        exact ⟨rfl, v5, r5, by have := hp5; rw [List.append_assoc] at this; exact this, HS3.out.trans hs5⟩
  · rw [if_neg (by omega), if_neg (by omega)]
    go_enter Try.func23, Try.ntmps23
    go_wp2_with fail
    rw [← HW.out]
    refine (three_any 49 (-1) a (-1) _).mono ?_
    rintro e w2 ⟨rfl, hB2⟩
    have HB2 := Lib.hid (HB.out.trans (hB2.mono HB.out.size))
    clear hB2
    go_wp2_with fail
    refine (put_one HH.out HB2.out 49 (-1) a (-1) 0 ⟨#[]⟩ (by omega)).mono ?_
    rintro e w3 ⟨rfl, hP⟩
    go_wp2_with fail
    go_returns
    exact ⟨rfl, hP⟩
end Go.Proofs.Ytnfneinonkpmeaa
