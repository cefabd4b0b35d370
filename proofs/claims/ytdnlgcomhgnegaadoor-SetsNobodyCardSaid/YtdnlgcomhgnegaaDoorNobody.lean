/- SetsNobody: the walk. -/
import Derived.Test.YtdnlgcomhgnegaaDoorNil
import Derived.Test.YtdnlgcomhgnegaaDoorJoins0
import Derived.Test.YtdnlgcomhgnegaaDoorPlays
namespace Go.Proofs.YtdnlgcomhgnegaaDoor
open Go.RowKit

theorem same_empty (ws : List Nat) (hlt : ∀ x ∈ ws, x < big64) (h : ∀ n, memW ws n = false) : sameTo [] ws (max ([] : List Nat).length ws.length) = true :=
  (sameTo_iff [] ws (by simp) hlt).2 fun n => by rw [h, memW_none [] n (Nat.zero_le _)]
theorem same_len (ws : List Nat) (hlt : ∀ x ∈ ws, x < big64) : sameTo ws [] (max ws.length ([] : List Nat).length) = decide (lenW ws = 0) := by
  rw [Bool.eq_iff_iff, sameTo_iff ws [] hlt (by simp), decide_eq_true_eq, lenW_listW]
  constructor
  · intro h
    rw [list_none ws fun n => by rw [h, memW_none [] n (Nat.zero_le _)]]; rfl
  · intro h n
    have h1 : listW ws = listW [] := by rw [List.eq_nil_of_length_eq_zero h]; rfl
    exact (listW_ext ws []).1 h1 n
set_option maxRecDepth 100000 in
set_option maxHeartbeats 8000000 in
theorem nobody_any (A : Option Addr) (c : Nat) (l : List Int) (n : Int) (w : World) (hl : l.length ≤ c) (hc : c ≤ maxLen) (hz : ∀ z ∈ l, I64 z) (hn : I64 n) (hr : ReadsAt w A (ints l)) (h0 : 0 < w.heap.size) :
    Calls Tryd.prog 6 #[.int .i64 n, .slice A l.length c] w fun e w' => e = .returned (.bool true) ∧ Below w.heap.size w w' := by
  have HR := Lib.hid (reads_take hr 50)
  have HZ : Hid (∀ z ∈ l.take 50, I64 z) := Lib.hid fun z h => hz z (List.mem_of_mem_take h)
  have hc' : c ≤ 9223372036854775807 := by unfold maxLen at hc; omega
  have he : (l.take 50).length = min 50 l.length := List.length_take
  have HN63 := Lib.hid hn
  have HW0 := Lib.hid h0
  by_cases h50 : l.length ≤ 50
  · have hlen : (l.take 50).length = l.length := by omega
    have HLEN := Lib.hid hlen
    have HL50 : Hid ((l.take 50).length ≤ 50) := Lib.hid (by omega)
    generalize l.take 50 = lc at HR HZ HLEN HL50
    clear he hc hz hn hr h0 hlen
    go_enter Tryd.func6, Tryd.ntmps6
    go_wp2_with fail
    refine (rget_nil n _).mono ?_
    rintro e w' ⟨rfl, rfl⟩
    go_wp2_with fail
    refine (QI.pop_nil _).mono ?_
    rintro e w' ⟨rfl, rfl⟩
    go_wp2_with fail
    refine (put_nil n _).mono ?_
    rintro e w' ⟨rfl, rfl⟩
    go_wp2_with fail
    refine (drop_nil n HN63.out.2 _).mono ?_
    rintro e w' ⟨rfl, rfl⟩
    go_wp2_with fail
    refine (has_nil n HN63.out.2 _).mono ?_
    rintro e w' ⟨rfl, rfl⟩
    go_wp2_with fail
    refine (len_nil _).mono ?_
    rintro e w' ⟨rfl, rfl⟩
    go_wp2_with fail
    have hO := of_any A c lc w (by have := HL50.out; omega) HZ.out HR.out
    rw [HLEN.out] at hO
    refine hO.mono ?_
    clear hO
    rintro e w1 ⟨b1, r1, ws1, rfl, hn1, _⟩
    have HB1 := Lib.hid hn1.below
    clear hn1
    go_wp2_with fail
    refine (join_nil _).mono ?_
    rintro e w' ⟨rfl, rfl⟩
    go_wp2_with fail
    refine (of_any (some ⟨w1.heap.size, 0, none⟩) 1 [n] _ (by simp) (by intro z hz; rw [List.mem_singleton] at hz; rw [hz]; exact HN63.out) (reads_new w1 _ _ _ rfl)).mono ?_
    rintro e w2 ⟨b2, r2, ws2, rfl, hn2, _⟩
    have HN2 := Lib.hid hn2
    have HB2 := Lib.hid ((HB1.out.alloc HB1.out.size (.cells #[.int .i64 n] 3)).trans (hn2.below.mono (by have := HB1.out.size; simp; omega)))
    clear hn2
    go_wp2_with fail
    refine (minus_nil HN2.out.at_).mono ?_
    rintro e w' ⟨rfl, rfl⟩
    go_wp2_with fail
    refine (clone_nil _).mono ?_
    rintro e w3 ⟨b3, r3, rfl, hn3⟩
    have HB3 := Lib.hid (HB2.out.trans (hn3.below.mono HB2.out.size))
    clear hn3
    go_wp2_with fail
    refine (clone_nil _).mono ?_
    rintro e w4 ⟨b4, r4, rfl, hn4⟩
    have hL := len_any hn4.at_
    rw [show (lenW ([] : List Nat) : Int) = 0 from rfl] at hL
    have HL := Lib.hid hL
    have HB4 := Lib.hid (HB3.out.trans (hn4.below.mono HB3.out.size))
    clear hn4 hL
    go_wp2_with fail
    refine HL.out.mono ?_
    rintro e w' ⟨rfl, rfl⟩
    go_wp2_with fail
    refine (rput_nil n n _).mono ?_
    rintro e w' ⟨rfl, rfl⟩
    go_wp2_with fail
    refine (rdrop_nil n _).mono ?_
    rintro e w' ⟨rfl, rfl⟩
    go_wp2_with fail
    refine (rlen_nil _).mono ?_
    rintro e w' ⟨rfl, rfl⟩
    go_wp2_with fail
    have hP := QI.push_nil n w4
    unfold QI.enc at hP
    refine hP.mono ?_
    clear hP
    rintro e w' ⟨rfl, rfl⟩
    go_wp2_with fail
    refine (QI.len_nil _).mono ?_
    rintro e w' ⟨rfl, rfl⟩
    go_wp2_with fail
    have hO := of_any A c lc w4 (by have := HL50.out; omega) HZ.out (reads_below HR.out HB4.out)
    rw [HLEN.out] at hO
    refine hO.mono ?_
    clear hO
    rintro e w5 ⟨bc, rc, wc, rfl, hn5, _⟩
    have HC5 := Lib.hid hn5.at_
    have HB5 := Lib.hid (HB4.out.trans (hn5.below.mono HB4.out.size))
    clear hn5
    go_wp2_with fail
    refine (all_nil _ (by have := HB5.out.size; have := HW0.out; omega)).mono ?_
    rintro e w6 ⟨Ag, cg, rfl, hb⟩
    have HC6 := Lib.hid (HC5.out.below hb)
    have HB6 := Lib.hid (HB5.out.trans (hb.mono HB5.out.size))
    clear hb HC5
    go_wp2_with fail
    refine (join_none bc).mono ?_
    rintro e w' ⟨rfl, rfl⟩
    go_wp2_with fail
    refine (minus_none bc).mono ?_
    rintro e w' ⟨rfl, rfl⟩
    go_wp2_with fail
    refine (same_sets (.inl ⟨rfl, rfl⟩) (.inl ⟨rfl, rfl⟩)).mono ?_
    rintro e w7 ⟨he, hb⟩
    obtain rfl : e = .returned (.bool true) := he.trans (by rfl)
    have HC7 := Lib.hid (HC6.out.below hb)
    have HB7 := Lib.hid (HB6.out.trans (hb.mono HB6.out.size))
    clear hb he HC6
    go_wp2_with fail
    refine (of_any none 0 [] _ (by decide) (by simp) (fun h => by cases h)).mono ?_
    rintro e w8 ⟨bq, rq, wq, rfl, hn8, hmq⟩
    have hS := same_sets (.inl ⟨rfl, rfl⟩) (.inr ⟨bq, rq, rfl, hn8.at_⟩)
    rw [same_empty wq hn8.at_.lt fun k => by rw [hmq]; rfl] at hS
    have HSQ := Lib.hid hS
    have HC8 := Lib.hid (HC7.out.below hn8.below)
    have HB8 := Lib.hid (HB7.out.trans (hn8.below.mono HB7.out.size))
    clear hS hn8 hmq HC7
    go_wp2_with fail
    refine HSQ.out.mono ?_
    rintro e w9 ⟨rfl, hb⟩
    have HC9 := Lib.hid (HC8.out.below hb)
    have HB9 := Lib.hid (HB8.out.trans (hb.mono HB8.out.size))
    clear hb HC8
    go_wp2_with fail
    have hS := same_sets (.inr ⟨bc, rc, rfl, HC9.out⟩) (.inl ⟨rfl, rfl⟩)
    rw [same_len wc HC9.out.lt] at hS
    by_cases hq : lenW wc = 0
    · rw [decide_eq_true hq] at hS
      refine hS.mono ?_
      clear hS
      rintro e x1 ⟨rfl, hb⟩
      have hL := len_any (HC9.out.below hb)
      rw [hq] at hL
      have HL1 := Lib.hid hL
      have HX1 := Lib.hid (HB9.out.trans (hb.mono HB9.out.size))
      clear hb hL hq
      go_wp2_with fail
      refine HL1.out.mono ?_
      rintro e w' ⟨rfl, rfl⟩
      go_wp2_with fail
      refine (lives_any _).mono ?_
      rintro e x2 ⟨rfl, hb⟩
      have HX2 := Lib.hid (HX1.out.trans (hb.mono HX1.out.size))
      clear hb
      go_wp2_with fail
      go_ret
      exact ⟨rfl, HX2.out⟩
    · rw [decide_eq_false hq] at hS
      refine hS.mono ?_
      clear hS
      rintro e x1 ⟨rfl, hb⟩
      have hL := len_any (HC9.out.below hb)
      obtain ⟨lw, hlw⟩ : ∃ lw, lw = lenW wc := ⟨_, rfl⟩
      rw [← hlw] at hL hq
      have hq2 : (lw == 0) = false := beq_eq_false_iff_ne.2 hq
      have hq3 : ((lw : Int) == 0) = false := beq_eq_false_iff_ne.2 (by omega)
      have HL1 := Lib.hid hL
      have HX1 := Lib.hid (HB9.out.trans (hb.mono HB9.out.size))
      clear hb hL hlw
      go_wp2_with fail
      refine HL1.out.mono ?_
      rintro e w' ⟨rfl, rfl⟩
      go_wp2_with fail
      refine (lives_any _).mono ?_
      rintro e x2 ⟨rfl, hb⟩
      have HX2 := Lib.hid (HX1.out.trans (hb.mono HX1.out.size))
      clear hb
      go_wp2_with fail
      go_ret
      exact ⟨rfl, HX2.out⟩
  · have hlen : (l.take 50).length = 50 := by omega
    have HLEN := Lib.hid hlen
    have HL50 : Hid ((l.take 50).length ≤ 50) := Lib.hid (by omega)
    generalize l.take 50 = lc at HR HZ HLEN HL50
    clear he hc hz hn hr h0 hlen
    go_enter Tryd.func6, Tryd.ntmps6
    go_wp2_with fail
    refine (rget_nil n _).mono ?_
    rintro e w' ⟨rfl, rfl⟩
    go_wp2_with fail
    refine (QI.pop_nil _).mono ?_
    rintro e w' ⟨rfl, rfl⟩
    go_wp2_with fail
    refine (put_nil n _).mono ?_
    rintro e w' ⟨rfl, rfl⟩
    go_wp2_with fail
    refine (drop_nil n HN63.out.2 _).mono ?_
    rintro e w' ⟨rfl, rfl⟩
    go_wp2_with fail
    refine (has_nil n HN63.out.2 _).mono ?_
    rintro e w' ⟨rfl, rfl⟩
    go_wp2_with fail
    refine (len_nil _).mono ?_
    rintro e w' ⟨rfl, rfl⟩
    go_wp2_with fail
    have hO := of_any A c lc w (by have := HL50.out; omega) HZ.out HR.out
    rw [HLEN.out] at hO
    refine hO.mono ?_
    clear hO
    rintro e w1 ⟨b1, r1, ws1, rfl, hn1, _⟩
    have HB1 := Lib.hid hn1.below
    clear hn1
    go_wp2_with fail
    refine (join_nil _).mono ?_
    rintro e w' ⟨rfl, rfl⟩
    go_wp2_with fail
    refine (of_any (some ⟨w1.heap.size, 0, none⟩) 1 [n] _ (by simp) (by intro z hz; rw [List.mem_singleton] at hz; rw [hz]; exact HN63.out) (reads_new w1 _ _ _ rfl)).mono ?_
    rintro e w2 ⟨b2, r2, ws2, rfl, hn2, _⟩
    have HN2 := Lib.hid hn2
    have HB2 := Lib.hid ((HB1.out.alloc HB1.out.size (.cells #[.int .i64 n] 3)).trans (hn2.below.mono (by have := HB1.out.size; simp; omega)))
    clear hn2
    go_wp2_with fail
    refine (minus_nil HN2.out.at_).mono ?_
    rintro e w' ⟨rfl, rfl⟩
    go_wp2_with fail
    refine (clone_nil _).mono ?_
    rintro e w3 ⟨b3, r3, rfl, hn3⟩
    have HB3 := Lib.hid (HB2.out.trans (hn3.below.mono HB2.out.size))
    clear hn3
    go_wp2_with fail
    refine (clone_nil _).mono ?_
    rintro e w4 ⟨b4, r4, rfl, hn4⟩
    have hL := len_any hn4.at_
    rw [show (lenW ([] : List Nat) : Int) = 0 from rfl] at hL
    have HL := Lib.hid hL
    have HB4 := Lib.hid (HB3.out.trans (hn4.below.mono HB3.out.size))
    clear hn4 hL
    go_wp2_with fail
    refine HL.out.mono ?_
    rintro e w' ⟨rfl, rfl⟩
    go_wp2_with fail
    refine (rput_nil n n _).mono ?_
    rintro e w' ⟨rfl, rfl⟩
    go_wp2_with fail
    refine (rdrop_nil n _).mono ?_
    rintro e w' ⟨rfl, rfl⟩
    go_wp2_with fail
    refine (rlen_nil _).mono ?_
    rintro e w' ⟨rfl, rfl⟩
    go_wp2_with fail
    have hP := QI.push_nil n w4
    unfold QI.enc at hP
    refine hP.mono ?_
    clear hP
    rintro e w' ⟨rfl, rfl⟩
    go_wp2_with fail
    refine (QI.len_nil _).mono ?_
    rintro e w' ⟨rfl, rfl⟩
    go_wp2_with fail
    have hO := of_any A c lc w4 (by have := HL50.out; omega) HZ.out (reads_below HR.out HB4.out)
    rw [HLEN.out] at hO
    refine hO.mono ?_
    clear hO
    rintro e w5 ⟨bc, rc, wc, rfl, hn5, _⟩
    have HC5 := Lib.hid hn5.at_
    have HB5 := Lib.hid (HB4.out.trans (hn5.below.mono HB4.out.size))
    clear hn5
    go_wp2_with fail
    refine (all_nil _ (by have := HB5.out.size; have := HW0.out; omega)).mono ?_
    rintro e w6 ⟨Ag, cg, rfl, hb⟩
    have HC6 := Lib.hid (HC5.out.below hb)
    have HB6 := Lib.hid (HB5.out.trans (hb.mono HB5.out.size))
    clear hb HC5
    go_wp2_with fail
    refine (join_none bc).mono ?_
    rintro e w' ⟨rfl, rfl⟩
    go_wp2_with fail
    refine (minus_none bc).mono ?_
    rintro e w' ⟨rfl, rfl⟩
    go_wp2_with fail
    refine (same_sets (.inl ⟨rfl, rfl⟩) (.inl ⟨rfl, rfl⟩)).mono ?_
    rintro e w7 ⟨he, hb⟩
    obtain rfl : e = .returned (.bool true) := he.trans (by rfl)
    have HC7 := Lib.hid (HC6.out.below hb)
    have HB7 := Lib.hid (HB6.out.trans (hb.mono HB6.out.size))
    clear hb he HC6
    go_wp2_with fail
    refine (of_any none 0 [] _ (by decide) (by simp) (fun h => by cases h)).mono ?_
    rintro e w8 ⟨bq, rq, wq, rfl, hn8, hmq⟩
    have hS := same_sets (.inl ⟨rfl, rfl⟩) (.inr ⟨bq, rq, rfl, hn8.at_⟩)
    rw [same_empty wq hn8.at_.lt fun k => by rw [hmq]; rfl] at hS
    have HSQ := Lib.hid hS
    have HC8 := Lib.hid (HC7.out.below hn8.below)
    have HB8 := Lib.hid (HB7.out.trans (hn8.below.mono HB7.out.size))
    clear hS hn8 hmq HC7
    go_wp2_with fail
    refine HSQ.out.mono ?_
    rintro e w9 ⟨rfl, hb⟩
    have HC9 := Lib.hid (HC8.out.below hb)
    have HB9 := Lib.hid (HB8.out.trans (hb.mono HB8.out.size))
    clear hb HC8
    go_wp2_with fail
    have hS := same_sets (.inr ⟨bc, rc, rfl, HC9.out⟩) (.inl ⟨rfl, rfl⟩)
    rw [same_len wc HC9.out.lt] at hS
    by_cases hq : lenW wc = 0
    · rw [decide_eq_true hq] at hS
      refine hS.mono ?_
      clear hS
      rintro e x1 ⟨rfl, hb⟩
      have hL := len_any (HC9.out.below hb)
      rw [hq] at hL
      have HL1 := Lib.hid hL
      have HX1 := Lib.hid (HB9.out.trans (hb.mono HB9.out.size))
      clear hb hL hq
      go_wp2_with fail
      refine HL1.out.mono ?_
      rintro e w' ⟨rfl, rfl⟩
      go_wp2_with fail
      refine (lives_any _).mono ?_
      rintro e x2 ⟨rfl, hb⟩
      have HX2 := Lib.hid (HX1.out.trans (hb.mono HX1.out.size))
      clear hb
      go_wp2_with fail
      go_ret
      exact ⟨rfl, HX2.out⟩
    · rw [decide_eq_false hq] at hS
      refine hS.mono ?_
      clear hS
      rintro e x1 ⟨rfl, hb⟩
      have hL := len_any (HC9.out.below hb)
      obtain ⟨lw, hlw⟩ : ∃ lw, lw = lenW wc := ⟨_, rfl⟩
      rw [← hlw] at hL hq
      have hq2 : (lw == 0) = false := beq_eq_false_iff_ne.2 hq
      have hq3 : ((lw : Int) == 0) = false := beq_eq_false_iff_ne.2 (by omega)
      have HL1 := Lib.hid hL
      have HX1 := Lib.hid (HB9.out.trans (hb.mono HB9.out.size))
      clear hb hL hlw
      go_wp2_with fail
      refine HL1.out.mono ?_
      rintro e w' ⟨rfl, rfl⟩
      go_wp2_with fail
      refine (lives_any _).mono ?_
      rintro e x2 ⟨rfl, hb⟩
      have HX2 := Lib.hid (HX1.out.trans (hb.mono HX1.out.size))
      clear hb
      go_wp2_with fail
      go_ret
      exact ⟨rfl, HX2.out⟩
end Go.Proofs.YtdnlgcomhgnegaaDoor
