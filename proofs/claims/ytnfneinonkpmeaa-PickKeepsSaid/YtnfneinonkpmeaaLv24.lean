/- brazierlaw10.Cut and brazierref10.Begins. -/
import Derived.Deep.RegionHeld3
import Derived.Test.YtnfneinonkpmeaaLv23
namespace Go.Proofs.Ytnfneinonkpmeaa
open Go.RowKit
/-- How one result begins another. -/
def KeepsB (r r' : MS) : Prop := (r.fin ≠ 5 → r'.fin = r.fin ∧ r'.value = r.value ∧ r'.trace = r.trace ∧ r'.reads = r.reads) ∧ (r.fin = 5 → r.trace <+: r'.trace)
theorem cellBg {W W' : World} (hb : Below W.heap.size W W') {a : Addr} {v : Value} (h : W.cell? a = some v) : W'.cell? a = some v := (hb.cell (p := a) (World.block_lt_of_cell? W a h)).trans h
def cutN (inp : List Int) : Nat := min inp.length 30
def cutF (fuel : Int) : Int := max 0 (min fuel 400)
theorem cutF_ok (fuel : Int) : 0 ≤ cutF fuel ∧ cutF fuel ≤ 400 := by unfold cutF; omega
set_option maxHeartbeats 2000000 in
theorem cut_any (n : Nat) (fuel : Int) (A : Option Addr) (c : Nat) (w : World) (hl : n ≤ c) (hm : n ≤ maxLen) (hc : c ≤ maxLen) :
    Calls Try.prog 11 #[.slice A n c, .int .i64 fuel] w fun e w' => e = .returned (.tuple #[.slice A (min n 30) c, .int .i64 (cutF fuel)]) ∧ w' = w := by
  unfold maxLen at hm hc
  have h1 : (n : Int) ≤ 9223372036854775807 := by omega
  go_enter Try.func11, Try.ntmps11
  rcases Nat.lt_trichotomy 30 n with hn | hn | hn
  · have e1 : min n 30 = 30 := by omega
    rw [e1]
    have f1 : ¬ (n : Int) < 30 := by omega
    have f2 : (30 : Nat) ≤ c := by omega
    rcases Int.lt_or_le fuel 0 with h | h
    · have e2 : cutF fuel = 0 := by unfold cutF; omega
      rw [e2]
      go_wp2_with fail
      all_goals go_ret2
      all_goals exact ⟨rfl, rfl⟩
    · rcases Int.lt_or_le 400 fuel with h' | h'
      · have e2 : cutF fuel = 400 := by unfold cutF; omega
        rw [e2]
        go_wp2_with fail
        all_goals go_ret2
        all_goals exact ⟨rfl, rfl⟩
      · have e2 : cutF fuel = fuel := by unfold cutF; omega
        rw [e2]
        rcases Int.lt_or_eq_of_le h' with h'' | h''
        · rcases Int.lt_or_eq_of_le h with h3 | h3
          · go_wp2_with fail
            all_goals go_ret2
            all_goals exact ⟨rfl, rfl⟩
          · subst h3
            go_wp2_with fail
            all_goals go_ret2
            all_goals exact ⟨rfl, rfl⟩
        · subst h''
          go_wp2_with fail
          all_goals go_ret2
          all_goals exact ⟨rfl, rfl⟩
  · subst hn
    rw [show min 30 30 = 30 from rfl]
    rcases Int.lt_or_le fuel 0 with h | h
    · have e2 : cutF fuel = 0 := by unfold cutF; omega
      rw [e2]
      go_wp2_with fail
      all_goals go_ret2
      all_goals exact ⟨rfl, rfl⟩
    · rcases Int.lt_or_le 400 fuel with h' | h'
      · have e2 : cutF fuel = 400 := by unfold cutF; omega
        rw [e2]
        go_wp2_with fail
        all_goals go_ret2
        all_goals exact ⟨rfl, rfl⟩
      · have e2 : cutF fuel = fuel := by unfold cutF; omega
        rw [e2]
        rcases Int.lt_or_eq_of_le h' with h'' | h''
        · rcases Int.lt_or_eq_of_le h with h3 | h3
          · go_wp2_with fail
            all_goals go_ret2
            all_goals exact ⟨rfl, rfl⟩
          · subst h3
            go_wp2_with fail
            all_goals go_ret2
            all_goals exact ⟨rfl, rfl⟩
        · subst h''
          go_wp2_with fail
          all_goals go_ret2
          all_goals exact ⟨rfl, rfl⟩
  · have e1 : min n 30 = n := by omega
    rw [e1]
    have f1 : (n : Int) < 30 := by omega
    rcases Int.lt_or_le fuel 0 with h | h
    · have e2 : cutF fuel = 0 := by unfold cutF; omega
      rw [e2]
      go_wp2_with fail
      all_goals go_ret2
      all_goals exact ⟨rfl, rfl⟩
    · rcases Int.lt_or_le 400 fuel with h' | h'
      · have e2 : cutF fuel = 400 := by unfold cutF; omega
        rw [e2]
        go_wp2_with fail
        all_goals go_ret2
        all_goals exact ⟨rfl, rfl⟩
      · have e2 : cutF fuel = fuel := by unfold cutF; omega
        rw [e2]
        rcases Int.lt_or_eq_of_le h' with h'' | h''
        · rcases Int.lt_or_eq_of_le h with h3 | h3
          · go_wp2_with fail
            all_goals go_ret2
            all_goals exact ⟨rfl, rfl⟩
          · subst h3
            go_wp2_with fail
            all_goals go_ret2
            all_goals exact ⟨rfl, rfl⟩
        · subst h''
          go_wp2_with fail
          all_goals go_ret2
          all_goals exact ⟨rfl, rfl⟩

set_option maxHeartbeats 2000000 in
theorem begins_true (r r' : MS) (A B : Option Addr) (c d : Nat) (w : World) (hK : KeepsB r r') (hl : r.trace.length ≤ 100000) (hl' : r'.trace.length ≤ 100000) (hd : r'.trace.length ≤ d) (ha : ReadsAt w A (i32s r.trace)) (hb : ReadsAt w B (i32s r'.trace)) :
    Calls Try.prog 16 #[resAgg r' B d, resAgg r A c] w fun e w' => e = .returned (.bool true) ∧ Below w.heap.size w w' := by
  have hS := same10_true r r' A B c d
  obtain ⟨k1, k2⟩ := hK
  unfold resAgg at hS ⊢
  obtain ⟨fin, hf⟩ : ∃ x, x = r.fin := ⟨_, rfl⟩
  obtain ⟨fin', hf'⟩ : ∃ x, x = r'.fin := ⟨_, rfl⟩
  obtain ⟨val, hv⟩ : ∃ x, x = r.value := ⟨_, rfl⟩
  obtain ⟨val', hv'⟩ : ∃ x, x = r'.value := ⟨_, rfl⟩
  obtain ⟨rds, hr⟩ : ∃ x : Int, x = (r.reads : Int) := ⟨_, rfl⟩
  obtain ⟨rds', hr'⟩ : ∃ x : Int, x = (r'.reads : Int) := ⟨_, rfl⟩
  obtain ⟨tr, ht⟩ : ∃ x, x = r.trace := ⟨_, rfl⟩
  obtain ⟨tr', ht'⟩ : ∃ x, x = r'.trace := ⟨_, rfl⟩
  obtain ⟨st, hs⟩ : ∃ x : Int, x = (r.steps : Int) := ⟨_, rfl⟩
  obtain ⟨st', hs'⟩ : ∃ x : Int, x = (r'.steps : Int) := ⟨_, rfl⟩
  obtain ⟨w1, hw1, hb1, hlt1, hc1⟩ := box_new w #[.int .i64 fin', .int .i32 val', .slice B tr'.length d, .int .i64 st', .int .i64 rds'] 45
  obtain ⟨w2, hw2, hb2, hlt2, hc2⟩ := box_new w1 #[.int .i64 fin, .int .i32 val, .slice A tr.length c, .int .i64 st, .int .i64 rds] 45
  have e1 : w1.heap.size = w.heap.size + 1 := by rw [hw1]; simp
  have HBW : Hid (Below w.heap.size w w2) := Lib.hid (hb1.trans (hb2.mono hb1.size))
  have HA := Lib.hid (readsBelow7 ha HBW.out)
  have HB := Lib.hid (readsBelow7 hb HBW.out)
  have HS := Lib.hid (hS w2)
  have HK := Lib.hid (And.intro k1 k2)
  have a0 := (hb2.cell (p := ⟨w.heap.size, 0, none⟩) hlt1).trans (hc1 0)
  have a1 := (hb2.cell (p := ⟨w.heap.size, 1, none⟩) hlt1).trans (hc1 1)
  have a2 := (hb2.cell (p := ⟨w.heap.size, 2, none⟩) hlt1).trans (hc1 2)
  have a3 := (hb2.cell (p := ⟨w.heap.size, 3, none⟩) hlt1).trans (hc1 3)
  have a4 := (hb2.cell (p := ⟨w.heap.size, 4, none⟩) hlt1).trans (hc1 4)
  have b0 := hc2 0
  have b2 := hc2 2
  rw [e1] at b0 b2
  simp only [List.getElem?_toArray, List.getElem?_cons_succ, List.getElem?_cons_zero] at a0 a1 a2 a3 a4 b0 b2
  have HW := Lib.hid hw2
  have HW1 := Lib.hid hw1
  have HL := Lib.hid (And.intro hl (And.intro hl' hd))
  rw [← ht] at HA HL
  rw [← ht'] at HB HL
  rw [← hf, ← hf', ← hv, ← hv', ← hr, ← hr', ← ht, ← ht', ← hs, ← hs']
  rw [← hf, ← hf', ← hv, ← hv', ← hr, ← hr', ← ht, ← ht', ← hs, ← hs'] at HS
  have E := Lib.hid (And.intro hf (And.intro hf' (And.intro hv (And.intro hv' (And.intro ht (And.intro ht' (And.intro hr (And.intro hr' (And.intro hs hs')))))))))
  clear hb1 hlt1 hc1 hb2 hlt2 hc2 hw1 hw2 e1 hS k1 k2 ha hb hl hl' hd hf hf' hv hv' hr hr' ht ht' hs hs'
  go_enter Try.func16, Try.ntmps16
  by_cases h5 : fin = 5
  · have q5 : (fin != 5) = false := by simp [h5]
    have hpre := HK.out.2 (by rw [← E.out.1]; exact h5)
    rw [← E.out.2.2.2.2.1, ← E.out.2.2.2.2.2.1] at hpre
    have hle : tr.length ≤ tr'.length := hpre.length_le
    have hD := HL.out
    have hda : decide ((tr.length : Int) ≤ (tr'.length : Int)) = true := decide_eq_true (by omega)
    have hleI : (tr.length : Int) ≤ (tr'.length : Int) := by omega
    have hdd : tr.length ≤ d := by omega
    have hbig : (tr.length : Int) ≤ 9223372036854775807 := by omega
    have hbig' : (tr'.length : Int) ≤ 9223372036854775807 := by omega
    have HBP : Hid (ReadsAt w2 B (i32s tr)) := Lib.hid (by
      obtain ⟨ys, hys⟩ := hpre
      intro hp
      obtain ⟨g, off, e, hg, hx⟩ := HB.out (by rw [i32s_len] at hp ⊢; omega)
      refine ⟨g, off, e, hg, fun j u hu => hx j u ?_⟩
      rw [← hys]
      unfold i32s at hu ⊢
      rw [List.map_append, List.getElem?_append_left (List.getElem?_eq_some_iff.1 hu).1]
      exact hu)
    clear hpre hD h5
    go_wp2_with fail
    rw [← HW1.out, ← HW.out]
    have HS2 := Lib.hid (words_same tr tr B A d c w2.drew rfl HL.out.1 (readsBelow7 HBP.out ⟨rfl, rfl, rfl, Nat.le_refl _, fun _ _ => rfl⟩) (readsBelow7 HA.out ⟨rfl, rfl, rfl, Nat.le_refl _, fun _ _ => rfl⟩))
    clear HS
    have a2 := cellBg (W' := w2.drew) ⟨rfl, rfl, rfl, Nat.le_refl _, fun _ _ => rfl⟩ a2
    have b2 := cellBg (W' := w2.drew) ⟨rfl, rfl, rfl, Nat.le_refl _, fun _ _ => rfl⟩ b2
    go_region_held3 (fun W => W.cell? ⟨w.heap.size, 2, none⟩ = some (.slice B tr'.length d) ∧ W.cell? ⟨w.heap.size + 1, 2, none⟩ = some (.slice A tr.length c)) (first | exact ⟨a2, b2⟩ | go_keep)
      (first | (go_at_call 31; refine HS2.out.mono ?_; rintro e wv ⟨rfl, hBv⟩; have a2 := cellBg hBv a2; have b2 := cellBg hBv b2; have HBV : Hid (Below w.heap.size w wv) := Lib.hid (HBW.out.trans ((Below.trans (a := w2) (b := w2.drew) ⟨rfl, rfl, rfl, Nat.le_refl _, fun _ _ => rfl⟩ hBv).mono HBW.out.size)); clear hBv))
    all_goals
      go_wp2_with fail
      go_ret
      exact ⟨rfl, HBV.out⟩
  · have q5 : (fin != 5) = true := bne_iff_ne.2 h5
    have HN := Lib.hid (HK.out.1 (by rw [← E.out.1]; exact h5))
    clear h5
    go_wp2_with fail
    rw [← HW1.out, ← HW.out]
    refine (HS.out ?_ ?_ HN.out.2.2.2 ?_ HL.out.1 HA.out HB.out).mono ?_
    · rw [E.out.1, E.out.2.1]; exact HN.out.1
    · rw [E.out.2.2.1, E.out.2.2.2.1]; exact HN.out.2.1
    · rw [E.out.2.2.2.2.1, E.out.2.2.2.2.2.1]; exact HN.out.2.2.1
    rintro e w3 ⟨rfl, hB3⟩
    have HB3 := Lib.hid (HBW.out.trans (hB3.mono HBW.out.size))
    clear hB3
    go_wp2_with fail
    go_ret
    exact ⟨rfl, HB3.out⟩
end Go.Proofs.Ytnfneinonkpmeaa
