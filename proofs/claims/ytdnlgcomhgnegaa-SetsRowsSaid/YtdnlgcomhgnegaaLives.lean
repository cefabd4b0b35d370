/- The document's examples on sets and queues are as it says. -/
import Derived.Test.YtdnlgcomhgnegaaBitsE
import Derived.Test.YtdnlgcomhgnegaaQueueI
namespace Go.Proofs.Ytdnlgcomhgnegaa
open Go.RowKit

theorem ret_bools {a b : Bool} (h : a = b) : Ending.returned (.bool a) = .returned (.bool b) := by rw [h]
theorem reads_new (W : World) (cs : Array Value) (e : Nat) (xs : List Value) (h : cs = xs.toArray) : ReadsAt (W.alloc (.cells cs e)) (some ⟨W.heap.size, 0, none⟩) xs := by
  intro _
  refine ⟨W.heap.size, 0, rfl, by simp, fun j u hu => ?_⟩
  subst h
  rw [Nat.zero_add, cell_of_row _ _ _ _ _ _ (heap_alloc_new W _)]
  simpa using hu

set_option maxRecDepth 100000 in
set_option maxHeartbeats 4000000 in
theorem lives_any (w : World) : Calls Try.prog 8 #[] w fun e w' => e = .returned (.bool true) ∧ Below w.heap.size w w' := by
  go_enter Try.func8, Try.ntmps8
  go_wp2_with fail
  refine (of_any (some ⟨w.heap.size, 0, none⟩) 3 [3, 1, 3] _ (by decide) (by simp [I64]) (reads_new w _ _ _ rfl)).mono ?_
  rintro e w1 ⟨b, r, ws, rfl, hN, hm⟩
  have hb0 := hN.below
  have HN := Lib.hid hN
  have HM := Lib.hid hm
  clear hN hm hb0
  go_wp2_with fail
  have hQ : QI.QAt (w1.alloc (.cells #[.slice none 0 0, .map none] 54)) w1.heap.size none none 0 [] := QI.QAt.made (heap_alloc_new w1 _)
  refine (QI.push_out hQ 1 (by simp [QI.okK, I64]) (by decide) (by decide) (by simp)).mono ?_
  rintro e w2 ⟨rfl, r2, m2, hS2⟩
  have HS2 := Lib.hid hS2
  clear hS2 hQ
  go_wp2_with fail
  refine (QI.push_out HS2.out.at_ 2 (by simp [QI.okK, I64]) (by decide) (by decide) (by simp)).mono ?_
  rintro e w3 ⟨rfl, r3, m3, hS3⟩
  have HS3 := Lib.hid (HS2.out.trans hS3)
  clear hS3
  go_wp2_with fail
  refine (QI.push_there HS3.out.at_ 1 (by simp [QI.okK, I64]) (by simp)).mono ?_
  rintro e w4 ⟨rfl, rfl⟩
  go_wp2_with fail
  have hp := QI.pop_some HS3.out.at_
  unfold QI.enc at hp
  refine hp.mono ?_
  clear hp
  rintro e w4 ⟨rfl, hS4⟩
  have HS4 := Lib.hid (HS3.out.trans hS4)
  clear hS4
  have hW1 : w1.heap.size ≤ (w1.alloc (.cells #[.slice none 0 0, .map none] 54)).heap.size := by simp
  have hbits : BitsAt w4 b r ws := by
    have h1 := (HN.out.at_.kept ((Chg.refl (fun _ => False) w1).alloc (.cells #[.slice none 0 0, .map none] 54)) (fun h => h) (fun _ _ h => h))
    refine h1.kept HS4.out.chg ?_ ?_
    · rintro (e | e | e)
      · have := HN.out.at_.blt; omega
      · cases e
      · cases e
    · rintro k hk (e | e | e)
      · have := HN.out.at_.rlt k hk; omega
      · cases e
      · cases e
  have hbel : Below w.heap.size w w4 := by
    have h0 : Below w.heap.size w w1 := ((Below.refl w.heap.size w).alloc (Nat.le_refl _) _).trans (HN.out.below.mono (by simp))
    refine (h0.alloc h0.size _).trans (HS4.out.chg.below (by have := h0.size; simp; omega) ?_)
    rintro k (e | e | e)
    · have := h0.size; omega
    · cases e
    · cases e
  have hlen : lenW ws = 2 := lenW_list hbits [1, 3] (by decide) (by decide) (fun m => by
    rw [HM.out]; unfold ofSet; simp [inR]; omega)
  have HB := Lib.hid hbits
  have HBL := Lib.hid hbel
  have hl := len_any hbits
  rw [hlen] at hl
  have HL := Lib.hid hl
  clear hbits hbel hlen hl hW1
  go_wp2_with fail
  refine HL.out.mono ?_
  rintro e w5 ⟨rfl, rfl⟩
  go_wp2_with fail
  have hh1 := has_any HB.out 1 (by decide)
  rw [show hasW ws 1 = true from by unfold hasW; rw [HM.out]; simp [ofSet, inR]] at hh1
  refine hh1.mono ?_
  rintro e w5 ⟨rfl, rfl⟩
  clear hh1
  go_wp2_with fail
  have hh3 := has_any HB.out 3 (by decide)
  rw [show hasW ws 3 = true from by unfold hasW; rw [HM.out]; simp [ofSet, inR]] at hh3
  refine hh3.mono ?_
  rintro e w5 ⟨rfl, rfl⟩
  clear hh3
  go_wp2_with fail
  refine (of_any (some ⟨w4.heap.size, 0, none⟩) 1 [1] _ (by decide) (by simp [I64]) (reads_new w4 _ _ _ rfl)).mono ?_
  rintro e w5 ⟨b5, r5, ws5, rfl, hN5, hm5⟩
  have hB5 : BitsAt w5 b r ws := by
    have h1 := (HB.out.kept ((Chg.refl (fun _ => False) w4).alloc (.cells #[.int .i64 1] 3)) (fun h => h) (fun _ _ h => h))
    exact h1.kept (Chg.of_below hN5.below (fun _ => False)) (fun h => h) (fun _ _ h => h)
  have hdis : ∀ k, r5 = some k → r ≠ some k := by
    intro k hk e
    have := hN5.nr k hk
    have := HB.out.rlt k e
    simp at *
    omega
  have hj := join_any hB5 hN5.at_ hdis
  rw [show newTo ws ws5 ws5.length = false from by
    unfold newTo
    rw [List.any_eq_false]
    intro n _
    rw [hm5, HM.out]
    simp [ofSet, inR]
    omega] at hj
  have HJ := Lib.hid hj
  have HN5 := Lib.hid hN5
  have HB5 := Lib.hid hB5
  clear hj hN5 hB5 hdis hm5
  go_wp2_with fail
  refine HJ.out.mono ?_
  rintro e w6 ⟨rfl, r6, ws6, hG6, _⟩
  have hQ6 : QI.QAt w6 w1.heap.size r3 m3 2 [2] := by
    have h1 := HS4.out.at_.kept ((Chg.refl (fun _ => False) w4).alloc (.cells #[.int .i64 1] 3)) (fun _ _ h => h)
    have h2 := h1.kept (Chg.of_below HN5.out.below (fun _ => False)) (fun _ _ h => h)
    refine h2.kept hG6.chg ?_
    have hb1 := HN.out.at_.blt
    have hr1 := HN.out.at_.rlt
    have hge : ∀ k, QI.FootQ w1.heap.size r3 m3 k → w1.heap.size ≤ k := by
      rintro k (e | e | e)
      · omega
      · rcases HS4.out.nr with h | ⟨j, h, hj⟩
        · rw [h] at e; cases e
        · rw [h] at e; cases e; simp at hj; omega
      · rcases HS4.out.nm with h | ⟨j, h, hj⟩
        · rw [h] at e; cases e
        · rw [h] at e; cases e; simp at hj; omega
    rintro k hk (e | e)
    · have := hge k hk; omega
    · have := hge k hk
      have := hr1 k e.symm
      omega
  have hbel6 : Below w.heap.size w w6 := by
    have h1 := HBL.out.alloc HBL.out.size (.cells #[.int .i64 1] 3)
    have h2 := h1.trans (HN5.out.below.mono (by have := HBL.out.size; simp; omega))
    refine h2.trans (hG6.chg.below h2.size ?_)
    have hnb := HN.out.nb
    have hnr := HN.out.nr
    simp at hnb hnr
    rintro k (e | e)
    · omega
    · have := hnr k e.symm; omega
  have hl6 := QI.len_any hQ6
  have HL6 := Lib.hid hl6
  have HBE := Lib.hid hbel6
  clear hl6 hbel6 hQ6 hG6
  go_wp2_with fail
  refine HL6.out.mono ?_
  rintro e w7 ⟨rfl, rfl⟩
  go_wp2_with fail
  go_ret
  exact ⟨rfl, HBE.out⟩
end Go.Proofs.Ytdnlgcomhgnegaa
