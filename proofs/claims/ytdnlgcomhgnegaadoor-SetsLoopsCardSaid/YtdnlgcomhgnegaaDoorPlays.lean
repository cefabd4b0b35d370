/- SetsPlays: the walk. -/
import Derived.Test.YtdnlgcomhgnegaaDoorAll
import Derived.Test.YtdnlgcomhgnegaaDoorRow03
import Derived.Test.YtdnlgcomhgnegaaDoorLives
namespace Go.Proofs.YtdnlgcomhgnegaaDoor
open Go.RowKit

/-- What stands between two rounds: a set of the call's own, and its numbers in a row. -/
structure LoopP (w wr : World) (A : Option Addr) (b : Nat) (r : Option Nat) (ws : List Nat) : Prop where
  bits : BitsAt wr b r ws
  row : ReadsAt wr A (ints (listW ws))
  below : Below w.heap.size w wr
  gb : w.heap.size ≤ b
  gr : ∀ k, r = some k → w.heap.size ≤ k
  apart : ∀ g off, A = some ⟨g, off, none⟩ → g < wr.heap.size ∧ ¬ FootB b r g

theorem LoopP.step {w wr w1 w2 : World} {A A1 : Option Addr} {b : Nat} {r r2 : Option Nat} {ws ws2 : List Nat} (h : LoopP w wr A b r ws)
    (hB : Below wr.heap.size wr w1) (hR : ReadsAt w1 A1 (ints (listW ws2))) (hA : ∀ g off, A1 = some ⟨g, off, none⟩ → (wr.heap.size ≤ g ∧ g < w1.heap.size) ∨ A = some ⟨g, off, none⟩)
    (hG : GrowAt w1 b r ws w2 r2 ws2) : LoopP w w2 A1 b r2 ws2 := by
  have hb := h.bits.blt
  have hr := h.bits.rlt
  have hs := hB.size
  have hs2 := hG.chg.size
  have hap : ∀ g off, A1 = some ⟨g, off, none⟩ → g < w1.heap.size ∧ ¬ FootB b r g := fun g off e => by
    rcases hA g off e with ⟨h1, h2⟩ | h1
    · refine ⟨h2, ?_⟩
      rintro (e | e)
      · omega
      · have := hr g e.symm; omega
    · have := h.apart g off h1
      exact ⟨by omega, this.2⟩
  refine ⟨hG.at_, hR.kept hG.chg fun g off e _ => (hap g off e).2, (h.below.trans (hB.mono h.below.size)).trans (hG.chg.below (by have := h.below.size; omega) ?_), h.gb, ?_, ?_⟩
  · rintro k (e | e)
    · rw [e]; exact h.gb
    · exact h.gr k e.symm
  · rintro k e
    rcases hG.new with h1 | ⟨k', h1, h2⟩
    · exact h.gr k (by rw [← h1]; exact e)
    · rw [h1] at e; cases e
      have := h.below.size; omega
  · intro g off e
    have := hap g off e
    refine ⟨by omega, ?_⟩
    rintro (e2 | e2)
    · exact this.2 (.inl e2)
    · rcases hG.new with h1 | ⟨k', h1, h2⟩
      · exact this.2 (.inr (by rw [← h1]; exact e2))
      · rw [h1] at e2; cases e2; omega
theorem reads_take {w : World} {A : Option Addr} {l : List Int} (h : ReadsAt w A (ints l)) (k : Nat) : ReadsAt w A (ints (l.take k)) := by
  intro hp
  have h0 : 0 < (ints l).length := by rw [ints_length] at hp ⊢; rw [List.length_take] at hp; omega
  obtain ⟨g, off, hA, hg, hc⟩ := h h0
  refine ⟨g, off, hA, hg, fun j u hu => hc j u ?_⟩
  unfold ints at hu ⊢
  rw [List.map_take, List.getElem?_take] at hu
  split at hu
  · exact hu
  · cases hu

set_option maxRecDepth 100000 in
set_option maxHeartbeats 4000000 in
theorem plays_any (A : Option Addr) (c : Nat) (l : List Int) (n : Int) (w : World) (hl : l.length ≤ c) (hc : c ≤ maxLen) (hz : ∀ z ∈ l, I64 z) (hn : I64 n) (hr : ReadsAt w A (ints l)) (hT : TabAt w) :
    Calls Tryd.prog 3 #[.slice A l.length c, .int .i64 n] w fun e w' => e = .returned (.bool true) ∧ Below w.heap.size w w' := by
  have hR0 := reads_take hr 100
  have hZ0 : ∀ z ∈ l.take 100, I64 z := fun z h => hz z (List.mem_of_mem_take h)
  have hL0 : (l.take 100).length ≤ 100 := by rw [List.length_take]; omega
  have CUT := Lib.hid (cut_any l A c · hl hc)
  have hn63 := hn.2
  generalize l.take 100 = lc at CUT hR0 hZ0 hL0
  have HR := Lib.hid hR0
  have HZ := Lib.hid hZ0
  have HT := Lib.hid hT
  have HN63 := Lib.hid hn63
  clear hl hc hz hr hT hR0 hZ0 hn hn63
  go_enter Tryd.func3, Tryd.ntmps3
  go_wp2_with fail
  refine (of_any none 0 [] _ (by decide) (by simp) (fun h => by cases h)).mono ?_
  rintro e w1 ⟨b, r, ws, rfl, hN, hm⟩
  have hws : listW ws = [] := by
    rw [List.eq_nil_iff_forall_not_mem]
    intro z h
    rw [mem_listW] at h
    obtain ⟨k, _, h⟩ := h
    rw [hm] at h
    cases h
  have HL1 : Hid (LoopP w w1 none b r ws) := Lib.hid ⟨hN.at_, by rw [hws]; exact (fun h => by cases h), hN.below, hN.nb, hN.nr, fun _ _ e => by cases e⟩
  have HWS := Lib.hid hws
  clear hN hm hws
  go_wp2_with fail
  refine (CUT.out _).mono ?_
  rintro e w1' ⟨rfl, rfl⟩
  clear CUT
  go_wp2_with fail
  go_loopw [6, 17] (fun v i wr => ∃ (k : Nat) (Ax : Option Addr) (cx : Nat) (r : Option Nat) (ws : List Nat), k ≤ lc.length ∧ i = .int .i64 (k : Nat) ∧ v = .slice Ax (listW ws).length cx ∧ LoopP w wr Ax b r ws) (fun _ i _ => lc.length - (intOf i).toNat)
  case atStart => exact ⟨0, none, 0, r, ws, by omega, rfl, by rw [HWS.out]; rfl, HL1.out⟩
  case round =>
    clear HWS HL1
    obtain ⟨k, Ax, cx, r, ws, hk, rfl, rfl, hL⟩ := hrel
    have hlen := listW_len ws hL.bits.len
    obtain ⟨lx, hlx⟩ : ∃ lx, lx = (listW ws).length := ⟨_, rfl⟩
    rw [← hlx] at hlen ⊢
    have HLX := Lib.hid hlx
    have HL := Lib.hid hL
    clear hL hlx
    by_cases hlt : k < lc.length
    · obtain ⟨x, hxe⟩ : ∃ x, x = lc[k] := ⟨_, rfl⟩
      have hx63 : I64 x := by rw [hxe]; exact HZ.out _ (List.getElem_mem hlt)
      obtain ⟨g, off, rfl, hg, hx⟩ := reads_len0 HR.out k hlt x hxe
      have hx2 := (HL.out.below.cell (p := ⟨g, off + k, none⟩) hg).trans hx
      have hxa := hx63.1
      have hxb := hx63.2
      have HX63 := Lib.hid hx63
      clear hxe hx hx63
      by_cases q : 0 ≤ x
      · go_wp2_with fail
        have hP := put03_any (listW ws) Ax cx x wr (by have := HLX.out; omega) HL.out.row
        rw [← HLX.out] at hP
        refine hP.mono ?_
        clear hP
        rintro e wp ⟨Ay, cy, rfl, hB, hRy, hA⟩
        obtain ⟨ly, hly⟩ : ∃ ly, ly = (putL (listW ws) x).length := ⟨_, rfl⟩
        have hly2 : ly ≤ lx + 1 := by rw [hly, HLX.out]; exact putL_length_le _ _
        have hok := put_gain ws x
        rw [← HLX.out, ← hly] at hok
        rw [← hly]
        have HLY := Lib.hid hly
        have HB := Lib.hid hB
        have HRY := Lib.hid hRy
        have HA := Lib.hid hA
        clear hB hRy hA hly
        go_wp2_with fail
        refine (put_any (HL.out.bits.below HB.out) x ⟨hxa, hxb⟩).mono ?_
        rintro e wq ⟨rfl, r2, ws2, hG, hm2⟩
        have hrow := putL_listW ws ws2 x hm2
        have HG := Lib.hid hG
        have HROW := Lib.hid hrow
        clear hG hrow hm2
        have hne : (!(putOk ws x == decide (lx < ly))) = false := by rw [hok]; simp
        clear hok
        go_wp2_with fail
        go_roundw
        case rel => exact ⟨k + 1, Ay, cy, r2, ws2, by omega, by go_num, by rw [← HROW.out, ← HLY.out], HL.out.step HB.out (by rw [← HROW.out]; exact HRY.out) HA.out HG.out⟩
        case measure => simp [intOf]; omega
      · go_wp2_with fail
        have hP := drop03_any (listW ws) Ax cx (-1 - x) wr (by have := HLX.out; omega) HL.out.row
        rw [← HLX.out] at hP
        refine hP.mono ?_
        clear hP
        rintro e wp ⟨Ay, cy, rfl, hB, hRy, hA⟩
        obtain ⟨ly, hly⟩ : ∃ ly, ly = (dropL (listW ws) (-1 - x)).length := ⟨_, rfl⟩
        have hly2 : ly ≤ lx := by rw [hly, HLX.out]; exact List.length_filter_le _ _
        have hok := drop_loss ws (-1 - x)
        rw [← HLX.out, ← hly] at hok
        rw [← hly]
        have HLY := Lib.hid hly
        have HB := Lib.hid hB
        have HRY := Lib.hid hRy
        have HA := Lib.hid hA
        clear hB hRy hA hly
        go_wp2_with fail
        refine (drop_any (HL.out.bits.below HB.out) (-1 - x) (by omega)).mono ?_
        rintro e wq ⟨rfl, ws2, hG, hm2⟩
        have hrow := dropL_listW ws ws2 (-1 - x) hm2
        have HG := Lib.hid hG
        have HROW := Lib.hid hrow
        clear hG hrow hm2
        have hne : (!(hasW ws (-1 - x) == decide (ly < lx))) = false := by rw [hok]; simp
        clear hok
        go_wp2_with fail
        go_roundw
        case rel => exact ⟨k + 1, Ay, cy, r, ws2, by omega, by go_num, by rw [← HROW.out, ← HLY.out], HL.out.step HB.out (by rw [← HROW.out]; exact HRY.out) HA.out HG.out⟩
        case measure => simp [intOf]; omega
    · obtain rfl : k = lc.length := by omega
      clear hlt hk
      go_wp2_with fail
      have h0w : 0 < w.heap.size := World.block_lt_of_cell? w ⟨0, 0, none⟩ (HT.out 0 (by decide))
      refine (all_any b r ws wr HL.out.bits (fun e => by have := HL.out.gr 0 e; omega) (HT.out.below HL.out.below)).mono ?_
      rintro e wa ⟨Aa, ca, rfl, hRa, hBa⟩
      rw [← HLX.out]
      have hBits : BitsAt wa b r ws := HL.out.bits.below hBa
      have hRx : ReadsAt wa Ax (ints (listW ws)) := HL.out.row.below hBa fun g off e => (HL.out.apart g off e).1
      have hBw : Below w.heap.size w wa := HL.out.below.trans (hBa.mono HL.out.below.size)
      have HBITS := Lib.hid hBits
      have HRX := Lib.hid hRx
      have HBW := Lib.hid hBw
      have HRA := Lib.hid hRa
      clear hBits hRx hBw hRa hBa h0w
      go_wp2_with fail
      have hS := same03_any (listW ws) (listW ws) Aa Ax ca cx wa (by have := HLX.out; omega) (by have := HLX.out; omega) HRA.out HRX.out
      rw [← HLX.out, show sameL (listW ws) (listW ws) = true from decide_eq_true rfl] at hS
      refine hS.mono ?_
      clear hS
      rintro e wb ⟨rfl, hb⟩
      have HBITS2 := Lib.hid (HBITS.out.below hb)
      have HRX2 : Hid (ReadsAt wb Ax (ints (listW ws))) := Lib.hid (HRX.out.kept (S := fun _ => False) (Chg.of_below hb _) fun _ _ _ _ h => h)
      have HBW2 := Lib.hid (HBW.out.trans (hb.mono HBW.out.size))
      clear hb HBITS HRX HBW HRA
      go_wp2_with fail
      have hL := len_any HBITS2.out
      rw [lenW_listW, ← HLX.out] at hL
      refine hL.mono ?_
      clear hL
      rintro e wc ⟨rfl, rfl⟩
      go_wp2_with fail
      refine (has_any HBITS2.out n HN63.out).mono ?_
      rintro e wc ⟨rfl, rfl⟩
      go_wp2_with fail
      have hH := has03_any (listW ws) Ax cx n wb (by have := HLX.out; omega) HRX2.out
      rw [← HLX.out, hasL_listW] at hH
      refine hH.mono ?_
      clear hH
      rintro e wc ⟨rfl, rfl⟩
      have hq : (hasW ws n == hasW ws n) = true := by simp
      go_wp2_with fail
      refine (put_out HBITS2.out (-1) (by decide) (by unfold putOk; simp)).mono ?_
      rintro e wc ⟨rfl, rfl⟩
      go_wp2_with fail
      refine (put_out HBITS2.out 65536 (by decide) (by unfold putOk; simp)).mono ?_
      rintro e wc ⟨rfl, rfl⟩
      go_wp2_with fail
      refine (lives_any _).mono ?_
      rintro e wc ⟨rfl, hb⟩
      have HBW3 := Lib.hid (HBW2.out.trans (hb.mono HBW2.out.size))
      clear hb
      go_wp2_with fail
      go_ret
      exact ⟨rfl, HBW3.out⟩
end Go.Proofs.YtdnlgcomhgnegaaDoor
