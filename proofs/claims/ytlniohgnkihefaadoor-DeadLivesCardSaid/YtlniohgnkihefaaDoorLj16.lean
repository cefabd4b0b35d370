/- dead.Live: the walk. -/
import Derived.Test.YtlniohgnkihefaaDoorLj13
import Derived.Test.YtlniohgnkihefaaDoorLj7
import Derived.Test.YtlniohgnkihefaaDoorLj14
import Derived.Test.YtlniohgnkihefaaDoorLj2
import Derived.Outline
import Derived.Test.YtlniohgnkihefaaDoorLj12
import Derived.Test.YtlniohgnkihefaaDoorLj15
namespace Go.Proofs.YtlniohgnkihefaaDoor
open Go.RowKit Go.Maps
/-- What dead.Live hands back. -/
def LivD (w : World) (ks : List Blk) (e : Ending) (w' : World) : Prop := ∃ (F1 F2 : Nat → List Int) (v1 v2 : Value) (r1 r2 : Option Nat), e = .returned (.tuple #[v1, v2]) ∧ Below w.heap.size w w' ∧ RowsI w.heap.size F1 ks.length v1 r1 w' ∧ RowsI w.heap.size F2 ks.length v2 r2 w' ∧
  ∀ i, i < ks.length → ((F1 i).Pairwise (· < ·) ∧ ∀ z, z ∈ F1 i ↔ ∃ x : Nat, z = x ∧ LiveIn ks i x) ∧ (F2 i).Pairwise (· < ·) ∧ ∀ z, z ∈ F2 i ↔ ∃ x : Nat, z = x ∧ LiveOut ks i x
structure SelL (q4 gI oI gO oO k : Nat) (vI vO : Value) (bI bO : Nat) (Y : World) : Prop where
  e1 : Y.cell? ⟨q4, 0, none⟩ = some vI
  e2 : Y.cell? ⟨q4, 1, none⟩ = some vO
  e3 : Y.cell? ⟨gI, oI + k, none⟩ = some (.pointer (some ⟨bI, 0, none⟩))
  e4 : Y.cell? ⟨gO, oO + k, none⟩ = some (.pointer (some ⟨bO, 0, none⟩))
theorem cellB' {W W' : World} (hb : Below W.heap.size W W') {a : Addr} {v : Value} (h : W.cell? a = some v) : W'.cell? a = some v := (hb.cell (p := a) (World.block_lt_of_cell? W a h)).trans h
theorem SelL.below {q4 gI oI gO oO k : Nat} {vI vO : Value} {bI bO : Nat} {Y Y' : World} (h : SelL q4 gI oI gO oO k vI vO bI bO Y) (hb : Below Y.heap.size Y Y') : SelL q4 gI oI gO oO k vI vO bI bO Y' := ⟨cellB' hb h.e1, cellB' hb h.e2, cellB' hb h.e3, cellB' hb h.e4⟩
set_option maxRecDepth 100000 in
set_option maxHeartbeats 4000000 in
theorem deadLive_any (f : Fn) (hF : FlowF f.blocks) (hD : DataF f.blocks) (A : Option Addr) (c : Nat) (w : World) (hr : BlkMem w A f.blocks) (hT : TabAt w) :
    Calls Tryd.prog 7 #[fnAgg f A c] w (LivD w f.blocks) := by
  obtain ⟨nm, pa, re, ks⟩ := f
  dsimp only [fnAgg] at hF hD hr ⊢
  obtain ⟨n, hn⟩ : ∃ n, n = ks.length := ⟨_, rfl⟩
  have hnb : n ≤ 1000 := by rw [hn]; exact hF.nb
  obtain ⟨W0, hW0⟩ : ∃ W0, W0 = w.alloc (.cells #[.string nm, .int .i64 pa, .int .i64 re, .slice A n c] 30) := ⟨_, rfl⟩
  obtain ⟨bx, hbx⟩ : ∃ bx, bx = w.heap.size := ⟨_, rfl⟩
  have hb0 : Below w.heap.size w W0 := by rw [hW0]; exact (Below.refl _ _).alloc (Nat.le_refl _) _
  have hx0 : W0.heap[bx]? = some (.cells #[.string nm, .int .i64 pa, .int .i64 re, .slice A n c] 30 (0, 0)) := by rw [hW0, hbx]; exact heap_alloc_new w _
  have hlv := live_any ⟨nm, pa, re, ks⟩ hF hD A c W0 (hr.below hb0)
  dsimp only [fnAgg] at hlv
  rw [← hn] at hlv ⊢
  have HLV := Lib.hid hlv
  have HN := Lib.hid hn
  have HW0 := Lib.hid hW0
  have HBX := Lib.hid hbx
  have HB0 := Lib.hid hb0
  have HX0 := Lib.hid hx0
  have HT := Lib.hid hT
  clear hlv hn hW0 hbx hb0 hx0 hF hD hr hT
  go_enter Tryd.func7, Tryd.ntmps7
  go_wp2_with fail
  rw [← HW0.out]
  refine HLV.out.mono ?_
  rintro e Wl ⟨vI, vO, ps, bl, rfl, hFM, hLV⟩
  rw [← HN.out] at hFM hLV
  obtain ⟨rI, hrI⟩ := hFM.rI
  obtain ⟨rO, hrO⟩ := hFM.rO
  obtain ⟨AI, cI, rfl, _⟩ := hrI.shape
  obtain ⟨AO, cO, rfl, _⟩ := hrO.shape
  have hxl := (hFM.below.block bx (lt_of_heap HX0.out)).trans HX0.out
  have d3 : Wl.cell? ⟨bx, 3, none⟩ = some (.slice A n c) := cell_of_row _ _ _ _ _ _ hxl
  have hbl : bx < Wl.heap.size := lt_of_heap hxl
  rw [HBX.out] at d3 hbl
  have HFM := Lib.hid hFM
  have HLI := Lib.hid hLV
  have HRI := Lib.hid (And.intro hrI hrO)
  clear hFM hLV hxl hrI hrO
  go_wp2_with fail
  obtain ⟨q4, hq4⟩ : ∃ q4, q4 = Wl.heap.size := ⟨_, rfl⟩
  obtain ⟨Wm, hWm⟩ : ∃ Wm, Wm = Wl.alloc (.cells #[.slice AI n cI, .slice AO n cO] 55) := ⟨_, rfl⟩
  rw [← hWm, ← hq4]
  have hbm : Below Wl.heap.size Wl Wm := by rw [hWm]; exact (Below.refl _ _).alloc (Nat.le_refl _) _
  have hm4 : Wm.heap[q4]? = some (.cells #[.slice AI n cI, .slice AO n cO] 55 (0, 0)) := by rw [hWm, hq4]; exact heap_alloc_new Wl _
  have HBM := Lib.hid hbm
  have HM4 := Lib.hid hm4
  have HFMm := Lib.hid (HFM.out.below_ hbm)
  obtain ⟨F1, hF1⟩ : ∃ F1 : Nat → List Int, F1 = fun i => listW (wsAt ps i) := ⟨_, rfl⟩
  obtain ⟨F2, hF2⟩ : ∃ F2 : Nat → List Int, F2 = fun i => listW (wsAt ps (n + i)) := ⟨_, rfl⟩
  have HF1 := Lib.hid hF1
  have HF2 := Lib.hid hF2
  clear hq4 hWm hbm hm4 hF1 hF2 d3 hbl
  go_loopw [2, 3, 5, 11] (fun a b s i W => ∃ (k : Nat) (r1 r2 : Option Nat), k ≤ n ∧ i = .int .i64 (k : Nat) ∧ Below Wm.heap.size Wm W ∧ RowsI Wm.heap.size F1 k a r1 W ∧ RowsI Wm.heap.size F2 k b r2 W ∧ (∀ q, r1 = some q → r2 ≠ some q) ∧ ∀ q, r2 = some q → r1 ≠ some q) (fun _ _ _ i _ => n - (intOf i).toNat)
  case atStart => exact ⟨0, none, none, Nat.zero_le _, rfl, Below.refl _ _, RowsI.start _ _ _, RowsI.start _ _ _, (fun _ h => by cases h), fun _ h => by cases h⟩
  case round =>
    obtain ⟨k, r1, r2, hk, rfl, hB, hR1, hR2, hap1, hap2⟩ := hrel
    by_cases hlt : k < n
    · obtain ⟨gI, oI, cI', hvI, _⟩ := HRI.out.1.form (by omega)
      obtain ⟨gO, oO, cO', hvO, _⟩ := HRI.out.2.form (by omega)
      injection hvI with hvI _ hcI
      subst hvI
      injection hvO with hvO _ hcO
      subst hvO
      have hlp : k < ps.length := by have := HFM.out.len; omega
      have hlq : n + k < ps.length := by have := HFM.out.len; omega
      obtain ⟨bI, hbI⟩ : ∃ bI, bI = ps[k].b := ⟨_, rfl⟩
      obtain ⟨bO, hbO⟩ : ∃ bO, bO = ps[n + k].b := ⟨_, rfl⟩
      have hT1 : TabAt Wm := HT.out.below ((HB0.out.trans (HFM.out.below.mono HB0.out.size)).trans (HBM.out.mono (HB0.out.trans (HFM.out.below.mono HB0.out.size)).size))
      have hz : 0 < W0.heap.size := by have := lt_of_heap HX0.out; omega
      have hsel0 : SelL q4 gI oI gO oO k (.slice (some ⟨gI, oI, none⟩) n cI) (.slice (some ⟨gO, oO, none⟩) n cO) bI bO Wm := by
        refine ⟨cell_of_row _ _ _ _ _ _ HM4.out, cell_of_row _ _ _ _ _ _ HM4.out, ?_, ?_⟩
        · obtain ⟨r, hr⟩ := HFMm.out.rI
          refine row_cell hr (by omega) k _ ?_
          rw [List.getElem?_map, List.getElem?_take_of_lt hlt, List.getElem?_eq_getElem hlp, hbI]; rfl
        · obtain ⟨r, hr⟩ := HFMm.out.rO
          refine row_cell hr (by omega) k _ ?_
          rw [List.getElem?_map, List.getElem?_drop, List.getElem?_eq_getElem hlq, hbO]; rfl
      have HSEL : Hid (∀ W, Below Wm.heap.size Wm W → SelL q4 gI oI gO oO k (.slice (some ⟨gI, oI, none⟩) n cI) (.slice (some ⟨gO, oO, none⟩) n cO) bI bO W) := Lib.hid fun W hb => hsel0.below hb
      have HDL1 : Hid (∀ W, Below Wm.heap.size Wm W → Calls Tryd.prog 21 #[.pointer (some ⟨bI, 0, none⟩)] W fun e w' => ∃ A c, e = .returned (.slice A (F1 k).length c) ∧ IntsIn w' A (F1 k) ∧ Below W.heap.size W w') := Lib.hid fun W hb => by
        have h := dlist_any ps[k].b ps[k].r ps[k].ws W ((HFMm.out.at_ k hlp).below hb) (fun e => by have := (HFMm.out.low _ (List.mem_append_left _ (List.getElem_mem hlp))).2 0 e; omega) (hT1.below hb)
        have e : F1 k = listW ps[k].ws := by rw [HF1.out]; show listW (wsAt ps k) = _; rw [wsAt_eq ps k hlp]
        rw [e, hbI]
        exact h
      have HDL2 : Hid (∀ W, Below Wm.heap.size Wm W → Calls Tryd.prog 21 #[.pointer (some ⟨bO, 0, none⟩)] W fun e w' => ∃ A c, e = .returned (.slice A (F2 k).length c) ∧ IntsIn w' A (F2 k) ∧ Below W.heap.size W w') := Lib.hid fun W hb => by
        have h := dlist_any ps[n + k].b ps[n + k].r ps[n + k].ws W ((HFMm.out.at_ (n + k) hlq).below hb) (fun e => by have := (HFMm.out.low _ (List.mem_append_left _ (List.getElem_mem hlq))).2 0 e; omega) (hT1.below hb)
        have e : F2 k = listW ps[n + k].ws := by rw [HF2.out]; show listW (wsAt ps (n + k)) = _; rw [wsAt_eq ps (n + k) hlq]
        rw [e, hbO]
        exact h
      have HBW := Lib.hid hB
      have HR10 := Lib.hid hR1
      have HR20 := Lib.hid hR2
      have HAP := Lib.hid (And.intro hap1 hap2)
      clear hB hR1 hR2 hap1 hap2 hsel0 hT1 hz hbI hbO hlp hlq hcI hcO
      go_upto_region 5 with (fail)
      have hdw : Below wr.heap.size wr wr.drew := ⟨rfl, rfl, rfl, Nat.le_refl _, fun _ _ => rfl⟩
      have HBD := Lib.hid (HBW.out.trans (hdw.mono HBW.out.size))
      have HR1 := Lib.hid (HR10.out.below_ hdw)
      have HR2 := Lib.hid (HR20.out.below_ hdw)
      obtain ⟨wd, hwd⟩ : ∃ wd, wd = wr.drew := ⟨_, rfl⟩
      rw [← hwd] at HBD HR1 HR2
      have HWD := Lib.hid hwd
      clear hdw hwd HR10 HR20
      -- GENERATED: region 5
      refine wp_region_T (SelL q4 gI oI gO oO k (.slice (some ⟨gI, oI, none⟩) n cI) (.slice (some ⟨gO, oO, none⟩) n cO) bI bO) [] (by kernel_rfl) (by rw [← HWD.out]; exact HSEL.out _ HBD.out) (fun _ => ?_)
      rw [← HWD.out]
      refine wpAnyT_take (i := 0) (v := ?vc1) rfl (by kernel_rfl) (by kernel_rfl) (by kernel_rfl) rfl (fun _ _ _ h => h) (Or.inl ⟨by rfl, ?hyc1⟩) (DL.of (HSEL.out _ HBD.out)) ?restc1
      case hyc1 => (intro w hSw; go_simp; try rfl)
      try simp only [Act.put, List.setIfInBounds_toArray, List.set_cons_zero, List.set_cons_succ, List.getElem_toArray, List.getElem_cons_zero]
      refine wpAnyT_take (i := 1) (v := ?vc2) rfl (by kernel_rfl) (by kernel_rfl) (by kernel_rfl) rfl (fun _ _ _ h => h) (Or.inl ⟨by rfl, ?hyc2⟩) (DL.of (HSEL.out _ HBD.out)) ?restc2
      case hyc2 => (intro w hSw; go_simp; try rfl)
      try simp only [Act.put, List.setIfInBounds_toArray, List.set_cons_zero, List.set_cons_succ, List.getElem_toArray, List.getElem_cons_zero, List.getElem_cons_succ]
      refine wpAnyT_load (i := 2) (v := ?vc3) rfl (by kernel_rfl) (by kernel_rfl) (by kernel_rfl) rfl (by kernel_rfl) (by kernel_rfl) (fun _ _ _ h => h) (Or.inl ⟨by rfl, ?hyc3⟩) (DL.of (HSEL.out _ HBD.out)) ?restc3
      case hyc3 => (intro w hSw; obtain ⟨s1, s2, s3, s4⟩ := hSw rfl; go_simp; try rfl)
      try simp only [Act.put, List.setIfInBounds_toArray, List.set_cons_zero, List.set_cons_succ, List.getElem_toArray, List.getElem_cons_zero, List.getElem_cons_succ]
      refine wpAnyT_take (i := 3) (v := ?vc4) rfl (by kernel_rfl) (by kernel_rfl) (by kernel_rfl) rfl (fun _ _ _ h => h) (Or.inl ⟨by rfl, ?hyc4⟩) (DL.of (HSEL.out _ HBD.out)) ?restc4
      case hyc4 => (intro w hSw; go_simp; try rfl)
      try simp only [Act.put, List.setIfInBounds_toArray, List.set_cons_zero, List.set_cons_succ, List.getElem_toArray, List.getElem_cons_zero, List.getElem_cons_succ]
      refine wpAnyT_take (i := 4) (v := ?vc5) rfl (by kernel_rfl) (by kernel_rfl) (by kernel_rfl) rfl (fun _ _ _ h => h) (Or.inl ⟨by rfl, ?hyc5⟩) (DL.of (HSEL.out _ HBD.out)) ?restc5
      case hyc5 => (intro w hSw; go_simp; try rfl)
      try simp only [Act.put, List.setIfInBounds_toArray, List.set_cons_zero, List.set_cons_succ, List.getElem_toArray, List.getElem_cons_zero, List.getElem_cons_succ]
      refine wpAnyT_load (i := 5) (v := ?vc6) rfl (by kernel_rfl) (by kernel_rfl) (by kernel_rfl) rfl (by kernel_rfl) (by kernel_rfl) (fun _ _ _ h => h) (Or.inl ⟨by rfl, ?hyc6⟩) (DL.of (HSEL.out _ HBD.out)) ?restc6
      case hyc6 => (intro w hSw; obtain ⟨s1, s2, s3, s4⟩ := hSw rfl; go_simp; try rfl)
      try simp only [Act.put, List.setIfInBounds_toArray, List.set_cons_zero, List.set_cons_succ, List.getElem_toArray, List.getElem_cons_zero, List.getElem_cons_succ]
      refine wpAnyT_take (i := 9) (v := ?vc7) rfl (by kernel_rfl) (by kernel_rfl) (by kernel_rfl) rfl (fun _ _ _ h => h) (Or.inl ⟨by rfl, ?hyc7⟩) (DL.of (HSEL.out _ HBD.out)) ?restc7
      case hyc7 => (intro w hSw; go_simp; try rfl)
      try simp only [Act.put, List.setIfInBounds_toArray, List.set_cons_zero, List.set_cons_succ, List.getElem_toArray, List.getElem_cons_zero, List.getElem_cons_succ]
      refine wpAnyT_take (i := 10) (v := ?vc8) rfl (by kernel_rfl) (by kernel_rfl) (by kernel_rfl) rfl (fun _ _ _ h => h) (Or.inl ⟨by rfl, ?hyc8⟩) (DL.of (HSEL.out _ HBD.out)) ?restc8
      case hyc8 => (intro w hSw; go_simp; try rfl)
      try simp only [Act.put, List.setIfInBounds_toArray, List.set_cons_zero, List.set_cons_succ, List.getElem_toArray, List.getElem_cons_zero, List.getElem_cons_succ]
      refine wpAnyT_load (i := 11) (v := ?vc9) rfl (by kernel_rfl) (by kernel_rfl) (by kernel_rfl) rfl (by kernel_rfl) (by kernel_rfl) (fun _ _ _ h => h) (Or.inl ⟨by rfl, ?hyc9⟩) (DL.of (HSEL.out _ HBD.out)) ?restc9
      case hyc9 => (intro w hSw; obtain ⟨s1, s2, s3, s4⟩ := hSw rfl; go_simp; try rfl)
      try simp only [Act.put, List.setIfInBounds_toArray, List.set_cons_zero, List.set_cons_succ, List.getElem_toArray, List.getElem_cons_zero, List.getElem_cons_succ]
      refine wpAnyT_take (i := 12) (v := ?vc10) rfl (by kernel_rfl) (by kernel_rfl) (by kernel_rfl) rfl (fun _ _ _ h => h) (Or.inl ⟨by rfl, ?hyc10⟩) (DL.of (HSEL.out _ HBD.out)) ?restc10
      case hyc10 => (intro w hSw; go_simp; try rfl)
      try simp only [Act.put, List.setIfInBounds_toArray, List.set_cons_zero, List.set_cons_succ, List.getElem_toArray, List.getElem_cons_zero, List.getElem_cons_succ]
      refine wpAnyT_take (i := 13) (v := ?vc11) rfl (by kernel_rfl) (by kernel_rfl) (by kernel_rfl) rfl (fun _ _ _ h => h) (Or.inl ⟨by rfl, ?hyc11⟩) (DL.of (HSEL.out _ HBD.out)) ?restc11
      case hyc11 => (intro w hSw; go_simp; try rfl)
      try simp only [Act.put, List.setIfInBounds_toArray, List.set_cons_zero, List.set_cons_succ, List.getElem_toArray, List.getElem_cons_zero, List.getElem_cons_succ]
      refine wpAnyT_load (i := 14) (v := ?vc12) rfl (by kernel_rfl) (by kernel_rfl) (by kernel_rfl) rfl (by kernel_rfl) (by kernel_rfl) (fun _ _ _ h => h) (Or.inl ⟨by rfl, ?hyc12⟩) (DL.of (HSEL.out _ HBD.out)) ?restc12
      case hyc12 => (intro w hSw; obtain ⟨s1, s2, s3, s4⟩ := hSw rfl; go_simp; try rfl)
      try simp only [Act.put, List.setIfInBounds_toArray, List.set_cons_zero, List.set_cons_succ, List.getElem_toArray, List.getElem_cons_zero, List.getElem_cons_succ]
      refine wpAnyT_ready (rs := [6]) (by kernel_rfl) (by simp) ?_
      refine AllReadyT.cons rfl (fun K hK => ?_) AllReadyT.nil
      try simp only [Act.put, List.setIfInBounds_toArray, List.set_cons_zero, List.set_cons_succ, List.getElem_toArray, List.getElem_cons_zero, List.getElem_cons_succ]
      go_simp
      go_at_call 21
      refine (HDL1.out _ HBD.out).mono ?_
      rintro e WE ⟨A1, c1, rfl, hi1, hbE⟩
      have HBD := Lib.hid (HBD.out.trans (hbE.mono HBD.out.size))
      have HR1 := Lib.hid (HR1.out.below_ hbE)
      have HR2 := Lib.hid (HR2.out.below_ hbE)
      have HI1 := Lib.hid hi1
      clear hi1 hbE
      refine hK.out _ _ (DL.of (HSEL.out _ HBD.out)) (fun _ => ?_)
      clear hK K
      try simp only [Act.put, List.setIfInBounds_toArray, List.set_cons_zero, List.set_cons_succ, List.getElem_toArray, List.getElem_cons_zero, List.getElem_cons_succ]
      refine wpAnyT_ready (rs := [7]) (by kernel_rfl) (by simp) ?_
      refine AllReadyT.cons rfl (fun K hK => ?_) AllReadyT.nil
      try simp only [Act.put, List.setIfInBounds_toArray, List.set_cons_zero, List.set_cons_succ, List.getElem_toArray, List.getElem_cons_zero, List.getElem_cons_succ]
      go_simp
      obtain ⟨W6, hW6⟩ : ∃ W6, W6 = WE.alloc (.cells #[.slice A1 (F1 k).length c1] 35) := ⟨_, rfl⟩
      obtain ⟨q6, hq6⟩ : ∃ q6, q6 = WE.heap.size := ⟨_, rfl⟩
      have hal : Below WE.heap.size WE W6 := by rw [hW6]; exact (Below.refl _ _).alloc (Nat.le_refl _) _
      have hn6 : W6.cell? ⟨q6, 0, none⟩ = some (.slice A1 (F1 k).length c1) := by rw [hW6, hq6]; exact cell_of_row _ _ _ _ _ _ (heap_alloc_new WE _)
      have HBD := Lib.hid (HBD.out.trans (hal.mono HBD.out.size))
      have HR1 := Lib.hid (HR1.out.below_ hal)
      have HR2 := Lib.hid (HR2.out.below_ hal)
      have HI1 := Lib.hid (HI1.out.ki (KI.of_below hal))
      try rw [← hW6, ← hq6]
      clear hal hW6 hq6
      refine hK.out _ _ (DL.of (HSEL.out _ HBD.out)) (fun _ => ?_)
      clear hK K
      try simp only [Act.put, List.setIfInBounds_toArray, List.set_cons_zero, List.set_cons_succ, List.getElem_toArray, List.getElem_cons_zero, List.getElem_cons_succ]
      refine wpAnyT_ready (rs := [8]) (by kernel_rfl) (by simp) ?_
      refine AllReadyT.cons rfl (fun K hK => ?_) AllReadyT.nil
      obtain ⟨ms, hx1, hrow, hx3⟩ := HR1.out.row
      refine step_append_row _ (by rfl) _ _ 31 35 _ 1 24 (by rfl) Tryd.underlying31 info_ints rfl hrow ⟨q6, 0, none⟩ 1 1 [.slice A1 (F1 k).length c1] rfl (fun j u hu => by
        obtain ⟨rfl, rfl⟩ : j = 0 ∧ u = _ := by
          cases j with
          | zero => exact ⟨rfl, by simpa using hu.symm⟩
          | succ j => simp at hu
        exact hn6) (by intro u hu; rw [List.mem_singleton.1 hu]; rfl) (by rfl) (by rfl) (by omega) (by unfold maxLen; omega) (by omega) ?_
      intro v7 r71 W7 hR hC hN
      obtain ⟨A71, c71, rfl, _⟩ := hR.shape
      have HR2n := Lib.hid (HR2.out.chg hC (fun q hq e => HAP.out.2 q hq e.symm) (fun q e => HR1.out.typ q e.symm))
      have HAPn : Hid ((∀ q, r71 = some q → r2 ≠ some q) ∧ (∀ q, r2 = some q → r71 ≠ some q)) := Lib.hid ⟨apart_new HR2.out HAP.out.1 hN, fun q e e2 => apart_new HR2.out HAP.out.1 hN q e2 e⟩
      have HR1n := Lib.hid (HR1.out.push HBD.out.size hx1 hx3 HI1.out hR hC hN)
      have HBD := Lib.hid (HBD.out.trans (hC.below HBD.out.size fun q e => HR1.out.low q e.symm))
      clear hx1 hx3 hrow hR hC hN hn6 HR1 HR2 HAP
      have HR1 := HR1n
      have HR2 := HR2n
      have HAP := HAPn
      clear HR1n HR2n HAPn
      refine hK.out _ _ (DL.of (HSEL.out _ HBD.out)) (fun _ => ?_)
      clear hK K
      try simp only [Act.put, List.setIfInBounds_toArray, List.set_cons_zero, List.set_cons_succ, List.getElem_toArray, List.getElem_cons_zero, List.getElem_cons_succ]
      refine wpAnyT_ready (rs := [15]) (by kernel_rfl) (by simp) ?_
      refine AllReadyT.cons rfl (fun K hK => ?_) AllReadyT.nil
      try simp only [Act.put, List.setIfInBounds_toArray, List.set_cons_zero, List.set_cons_succ, List.getElem_toArray, List.getElem_cons_zero, List.getElem_cons_succ]
      go_simp
      go_at_call 21
      refine (HDL2.out _ HBD.out).mono ?_
      rintro e WE ⟨A2, c2, rfl, hi2, hbE⟩
      have HBD := Lib.hid (HBD.out.trans (hbE.mono HBD.out.size))
      have HR1 := Lib.hid (HR1.out.below_ hbE)
      have HR2 := Lib.hid (HR2.out.below_ hbE)
      have HI2 := Lib.hid hi2
      clear hi2 hbE
      refine hK.out _ _ (DL.of (HSEL.out _ HBD.out)) (fun _ => ?_)
      clear hK K
      try simp only [Act.put, List.setIfInBounds_toArray, List.set_cons_zero, List.set_cons_succ, List.getElem_toArray, List.getElem_cons_zero, List.getElem_cons_succ]
      refine wpAnyT_ready (rs := [16]) (by kernel_rfl) (by simp) ?_
      refine AllReadyT.cons rfl (fun K hK => ?_) AllReadyT.nil
      try simp only [Act.put, List.setIfInBounds_toArray, List.set_cons_zero, List.set_cons_succ, List.getElem_toArray, List.getElem_cons_zero, List.getElem_cons_succ]
      go_simp
      obtain ⟨W6, hW6⟩ : ∃ W6, W6 = WE.alloc (.cells #[.slice A2 (F2 k).length c2] 35) := ⟨_, rfl⟩
      obtain ⟨q6, hq6⟩ : ∃ q6, q6 = WE.heap.size := ⟨_, rfl⟩
      have hal : Below WE.heap.size WE W6 := by rw [hW6]; exact (Below.refl _ _).alloc (Nat.le_refl _) _
      have hn6 : W6.cell? ⟨q6, 0, none⟩ = some (.slice A2 (F2 k).length c2) := by rw [hW6, hq6]; exact cell_of_row _ _ _ _ _ _ (heap_alloc_new WE _)
      have HBD := Lib.hid (HBD.out.trans (hal.mono HBD.out.size))
      have HR1 := Lib.hid (HR1.out.below_ hal)
      have HR2 := Lib.hid (HR2.out.below_ hal)
      have HI2 := Lib.hid (HI2.out.ki (KI.of_below hal))
      try rw [← hW6, ← hq6]
      clear hal hW6 hq6
      refine hK.out _ _ (DL.of (HSEL.out _ HBD.out)) (fun _ => ?_)
      clear hK K
      try simp only [Act.put, List.setIfInBounds_toArray, List.set_cons_zero, List.set_cons_succ, List.getElem_toArray, List.getElem_cons_zero, List.getElem_cons_succ]
      refine wpAnyT_ready (rs := [17]) (by kernel_rfl) (by simp) ?_
      refine AllReadyT.cons rfl (fun K hK => ?_) AllReadyT.nil
      obtain ⟨ms, hx1, hrow, hx3⟩ := HR2.out.row
      refine step_append_row _ (by rfl) _ _ 31 35 _ 1 24 (by rfl) Tryd.underlying31 info_ints rfl hrow ⟨q6, 0, none⟩ 1 1 [.slice A2 (F2 k).length c2] rfl (fun j u hu => by
        obtain ⟨rfl, rfl⟩ : j = 0 ∧ u = _ := by
          cases j with
          | zero => exact ⟨rfl, by simpa using hu.symm⟩
          | succ j => simp at hu
        exact hn6) (by intro u hu; rw [List.mem_singleton.1 hu]; rfl) (by rfl) (by rfl) (by omega) (by unfold maxLen; omega) (by omega) ?_
      intro v7 r72 W7 hR hC hN
      obtain ⟨A72, c72, rfl, _⟩ := hR.shape
      have HR1n := Lib.hid (HR1.out.chg hC (fun q hq e => HAP.out.1 q hq e.symm) (fun q e => HR2.out.typ q e.symm))
      have HAPn : Hid ((∀ q, r71 = some q → r72 ≠ some q) ∧ (∀ q, r72 = some q → r71 ≠ some q)) := Lib.hid ⟨fun q e e2 => apart_new HR1.out HAP.out.2 hN q e2 e, apart_new HR1.out HAP.out.2 hN⟩
      have HR2n := Lib.hid (HR2.out.push HBD.out.size hx1 hx3 HI2.out hR hC hN)
      have HBD := Lib.hid (HBD.out.trans (hC.below HBD.out.size fun q e => HR2.out.low q e.symm))
      clear hx1 hx3 hrow hR hC hN hn6 HR1 HR2 HAP
      have HR1 := HR1n
      have HR2 := HR2n
      have HAP := HAPn
      clear HR1n HR2n HAPn
      refine hK.out _ _ (DL.of (HSEL.out _ HBD.out)) (fun _ => ?_)
      clear hK K
      try simp only [Act.put, List.setIfInBounds_toArray, List.set_cons_zero, List.set_cons_succ, List.getElem_toArray, List.getElem_cons_zero, List.getElem_cons_succ]
      refine wpAnyT_take (i := 18) (v := ?vc13) rfl (by kernel_rfl) (by kernel_rfl) (by kernel_rfl) rfl (fun _ _ _ h => h) (Or.inl ⟨by rfl, ?hyc13⟩) (DL.of (HSEL.out _ HBD.out)) ?restc13
      case hyc13 => (intro w hSw; go_simp; try rfl)
      try simp only [Act.put, List.setIfInBounds_toArray, List.set_cons_zero, List.set_cons_succ, List.getElem_toArray, List.getElem_cons_zero, List.getElem_cons_succ]
      refine wpAnyT_take (i := 19) (v := ?vc14) rfl (by kernel_rfl) (by kernel_rfl) (by kernel_rfl) rfl (fun _ _ _ h => h) (Or.inl ⟨by rfl, ?hyc14⟩) (DL.of (HSEL.out _ HBD.out)) ?restc14
      case hyc14 => (intro w hSw; go_simp; try rfl)
      try simp only [Act.put, List.setIfInBounds_toArray, List.set_cons_zero, List.set_cons_succ, List.getElem_toArray, List.getElem_cons_zero, List.getElem_cons_succ]
      refine wpAnyT_done (by kernel_rfl) ?_ _
      go_wp2_with fail
      go_roundw
      case rel => exact ⟨k + 1, r71, r72, hlt, by simp, HBD.out, HR1.out, HR2.out, HAP.out.1, HAP.out.2⟩
      case measure => simp [intOf]; omega
      -- END region 5
    · obtain rfl : k = n := by omega
      have hwm : Below w.heap.size w Wm := (HB0.out.trans (HFM.out.below.mono HB0.out.size)).trans (HBM.out.mono (HB0.out.trans (HFM.out.below.mono HB0.out.size)).size)
      have HFIN := Lib.hid (And.intro (hwm.trans (hB.mono hwm.size)) (And.intro hR1 (And.intro hR2 hwm.size)))
      clear hB hR1 hR2 hap1 hap2 hwm
      go_wp2_with fail
      refine bodyPost_ret (v := .tuple #[u2, u3]) (by simp [results, Tryd.results7, go_sem]) rfl ⟨F1, F2, u2, u3, r1, r2, rfl, HFIN.out.1, ?_, ?_, ?_⟩
      · rw [← HN.out]; exact ⟨HFIN.out.2.1.row, fun q h => Nat.le_trans HFIN.out.2.2.2 (HFIN.out.2.1.low q h)⟩
      · rw [← HN.out]; exact ⟨HFIN.out.2.2.1.row, fun q h => Nat.le_trans HFIN.out.2.2.2 (HFIN.out.2.2.1.low q h)⟩
      · intro i hi
        rw [← HN.out] at hi
        obtain ⟨h1, h2⟩ := HLI.out i hi
        rw [inS_at ps hi] at h1
        rw [outS_at ps hi] at h2
        rw [HF1.out, HF2.out]
        refine ⟨⟨upToL_rising _ _, fun z => ?_⟩, upToL_rising _ _, fun z => ?_⟩
        · show z ∈ listW (wsAt ps i) ↔ _
          rw [mem_listW]
          exact ⟨fun ⟨x, e, h⟩ => ⟨x, e, (h1 x).1 h⟩, fun ⟨x, e, h⟩ => ⟨x, e, (h1 x).2 h⟩⟩
        · show z ∈ listW (wsAt ps (k + i)) ↔ _
          rw [mem_listW]
          exact ⟨fun ⟨x, e, h⟩ => ⟨x, e, (h2 x).1 h⟩, fun ⟨x, e, h⟩ => ⟨x, e, (h2 x).2 h⟩⟩
end Go.Proofs.YtlniohgnkihefaaDoor
namespace Go.Proofs.YtlniohgnkihefaaDoor
open Go.RowKit Go.Maps
theorem exNum_any (d z : Int) (w : World) : Calls Tryd.prog 31 #[.int .i64 d, .int .i32 z] w fun e w' => e = .returned (.agg #[.int .i64 1, .int .i64 0, .int .i64 d, .int .i64 (-1), .int .i64 (-1), .int .i32 z, .string ⟨#[]⟩, .slice none 0 0]) ∧ Below w.heap.size w w' := by
  go_enter Tryd.func31, Tryd.ntmps31
  go_wp2_with fail
  obtain ⟨W1, hW1⟩ : ∃ W1, W1 = w.alloc (.cells #[.int .i64 1, .int .i64 0, .int .i64 d, .int .i64 (-1), .int .i64 (-1), .int .i32 z, .string ⟨#[]⟩, .slice none 0 0] 40) := ⟨_, rfl⟩
  rw [← hW1]
  have h0 : W1.heap[w.heap.size]? = some (.cells #[.int .i64 1, .int .i64 0, .int .i64 d, .int .i64 (-1), .int .i64 (-1), .int .i32 z, .string ⟨#[]⟩, .slice none 0 0] 40 (0, 0)) := by rw [hW1]; exact heap_alloc_new w _
  have c := fun j => cell_of_row W1 w.heap.size j _ _ _ h0
  refine bodyPost_ret (v := .agg #[.int .i64 1, .int .i64 0, .int .i64 d, .int .i64 (-1), .int .i64 (-1), .int .i32 z, .string ⟨#[]⟩, .slice none 0 0]) (by simp [results, Tryd.results31, go_sem, c]) rfl ⟨rfl, ?_⟩
  rw [hW1]
  exact (Below.refl _ _).alloc (Nat.le_refl _) _
def ExD (op : Int) (w : World) (e : Ending) (w' : World) : Prop := ∃ A c, e = .returned (fnAgg (exF op) A c) ∧ Below w.heap.size w w' ∧ BlkMem w' A (exF op).blocks
set_option maxHeartbeats 4000000 in
set_option maxRecDepth 100000 in
theorem example_any (op : Int) (w : World) : Calls Tryd.prog 19 #[.int .i64 op] w (ExD op w) := by
  go_enter Tryd.func19, Tryd.ntmps19
  go_wp2_with fail
  obtain ⟨bx, hbx⟩ : ∃ bx, bx = w.heap.size := ⟨_, rfl⟩
  obtain ⟨W0, hW0⟩ : ∃ W0, W0 = w.alloc (.cells #[.string ⟨#[]⟩, .int .i64 0, .int .i64 0, .slice none 0 0] 30) := ⟨_, rfl⟩
  rw [← hW0, ← hbx]
  have hb0 : Below w.heap.size w W0 := by rw [hW0]; exact (Below.refl _ w).alloc (Nat.le_refl _) _
  have hf0 : FnBox W0 bx ⟨#[]⟩ 0 0 (.slice none 0 0) := by rw [hW0, hbx]; exact heap_alloc_new w _
  have HBX := Lib.hid hbx
  clear hW0 hbx
  refine (exNum_any 0 1 W0).mono ?_
  rintro e W1 ⟨rfl, hb1⟩
  go_wp2_with fail
  refine (exNum_any 1 2 W1).mono ?_
  rintro e W2 ⟨rfl, hb2⟩
  have hb02 : Below W0.heap.size W0 W2 := hb1.trans (hb2.mono hb1.size)
  have hf2 := hf0.below hb02
  have HF2 := Lib.hid hf2
  obtain ⟨n0, n1, n2, n3⟩ := hf2.cells
  have nf := fun j => frozen_of_row W2 bx j _ _ hf2
  have hlt : bx < W2.heap.size := lt_of_heap hf2
  have HB2 : Hid (Below w.heap.size w W2) := Lib.hid (hb0.trans (hb02.mono hb0.size))
  clear hb0 hf0 hb1 hb2 hb02 hf2
  go_wp2_with fail
  obtain ⟨V, hV⟩ : ∃ V, V = (((W2.setCell ⟨bx, 0, none⟩ (.string ⟨#[109, 97, 105, 110]⟩)).setCell ⟨bx, 1, none⟩ (.int .i64 0)).setCell ⟨bx, 2, none⟩ (.int .i64 3)).setCell ⟨bx, 3, none⟩ (.slice (some ⟨W2.heap.size + 1, 0, none⟩) 1 1) := ⟨_, rfl⟩
  have hch : Chg (fun k => k = bx) W2 V := by rw [hV]; exact chg4
  have hb : FnBox V bx ⟨#[109, 97, 105, 110]⟩ 0 3 (.slice (some ⟨W2.heap.size + 1, 0, none⟩) 1 1) := by rw [hV]; exact box4 HF2.out
  have hsz : V.heap.size = W2.heap.size := by rw [hV]; simp
  rw [← hV, ← hsz]
  rw [← hsz] at hb
  obtain ⟨W6, hW6⟩ : ∃ W6, W6 = (V.alloc (.cells #[.int .i64 1, .int .i64 0, .int .i64 0, .int .i64 (-1), .int .i64 (-1), .int .i32 1, .string ⟨#[]⟩, .slice none 0 0, .int .i64 1, .int .i64 0, .int .i64 1, .int .i64 (-1), .int .i64 (-1), .int .i32 2, .string ⟨#[]⟩, .slice none 0 0, .int .i64 4, .int .i64 op, .int .i64 2, .int .i64 1, .int .i64 0, .int .i32 0, .string ⟨#[]⟩, .slice none 0 0] 40)).alloc (.cells #[.slice (some ⟨V.heap.size, 0, none⟩) 3 3, .int .i64 3, .int .i64 1, .int .i64 0, .int .i64 0] 43) := ⟨_, rfl⟩
  rw [← hW6]
  have h1 : W6.heap[V.heap.size]? = some (.cells #[.int .i64 1, .int .i64 0, .int .i64 0, .int .i64 (-1), .int .i64 (-1), .int .i32 1, .string ⟨#[]⟩, .slice none 0 0, .int .i64 1, .int .i64 0, .int .i64 1, .int .i64 (-1), .int .i64 (-1), .int .i32 2, .string ⟨#[]⟩, .slice none 0 0, .int .i64 4, .int .i64 op, .int .i64 2, .int .i64 1, .int .i64 0, .int .i32 0, .string ⟨#[]⟩, .slice none 0 0] 40 (0, 0)) := by
    rw [hW6]; exact (heap_alloc_old _ _ (by simp)).trans (heap_alloc_new V _)
  have h2 : W6.heap[V.heap.size + 1]? = some (.cells #[.slice (some ⟨V.heap.size, 0, none⟩) 3 3, .int .i64 3, .int .i64 1, .int .i64 0, .int .i64 0] 43 (0, 0)) := by
    rw [hW6]
    have h := heap_alloc_new (V.alloc (.cells #[.int .i64 1, .int .i64 0, .int .i64 0, .int .i64 (-1), .int .i64 (-1), .int .i32 1, .string ⟨#[]⟩, .slice none 0 0, .int .i64 1, .int .i64 0, .int .i64 1, .int .i64 (-1), .int .i64 (-1), .int .i32 2, .string ⟨#[]⟩, .slice none 0 0, .int .i64 4, .int .i64 op, .int .i64 2, .int .i64 1, .int .i64 0, .int .i32 0, .string ⟨#[]⟩, .slice none 0 0] 40)) (.cells #[.slice (some ⟨V.heap.size, 0, none⟩) 3 3, .int .i64 3, .int .i64 1, .int .i64 0, .int .i64 0] 43)
    rw [World.size_alloc] at h
    exact h
  have h6 : Below V.heap.size V W6 := by rw [hW6]; exact ((Below.refl _ V).alloc (Nat.le_refl _) _).alloc (by simp) _
  obtain ⟨e0, e1, e2, e3⟩ := (hb.below h6).cells
  have hbw : Below w.heap.size w W6 := (HB2.out.trans (hch.below HB2.out.size fun k e => by have := HBX.out; omega)).trans (h6.mono (by rw [hsz]; exact HB2.out.size))
  refine bodyPost_ret (v := .agg #[.string ⟨#[109, 97, 105, 110]⟩, .int .i64 0, .int .i64 3, .slice (some ⟨V.heap.size + 1, 0, none⟩) 1 1]) (by simp [results, Tryd.results19, go_sem, e0, e1, e2, e3]) rfl ⟨some ⟨V.heap.size + 1, 0, none⟩, 1, rfl, hbw, ex_mem op h1 h2⟩
set_option maxHeartbeats 4000000 in
set_option maxRecDepth 100000 in
theorem lives14_any (w : World) : Calls Tryd.prog 6 #[] w fun e w' => e = .returned (.bool true) ∧ Below w.heap.size w w' := by
  go_enter Tryd.func6, Tryd.ntmps6
  go_wp2_with fail
  refine (example_any 4 w).mono ?_
  rintro e w2 ⟨A2, c2, rfl, hb2, hm2⟩
  go_wp2_with fail
  refine (deadFn_any (exF 4) (ex_flow 4) (ex_data 4 (by omega)) A2 c2 w2 hm2).mono ?_
  rintro e w3 ⟨A3, c3, rfl, hb3, hm3⟩
  have HB3 : Hid (Below w.heap.size w w3) := Lib.hid (hb2.trans (hb3.mono hb2.size))
  have HM3 := Lib.hid hm3.mem
  clear hb2 hm2 hb3 hm3
  go_wp2_with fail
  refine (example_any 1 w3).mono ?_
  rintro e w4 ⟨A4, c4, rfl, hb4, hm4⟩
  have HB4 := Lib.hid hb4
  go_wp2_with fail
  refine (deadFn_any (exF 1) (ex_flow 1) (ex_data 1 (by omega)) A4 c4 w4 hm4).mono ?_
  rintro e w5 ⟨A5, c5, rfl, hb5, hm5⟩
  have HM35 := Lib.hid (HM3.out.below (HB4.out.trans (hb5.mono HB4.out.size)))
  have HB5 : Hid (Below w.heap.size w w5) := Lib.hid (HB3.out.trans ((HB4.out.trans (hb5.mono HB4.out.size)).mono HB3.out.size))
  have hm5' := hm5.mem
  rw [fin_add] at hm5' ⊢
  have h3 := HM35.out
  rw [fin_div] at h3 ⊢
  obtain ⟨g3, off3, A6, c6, rfl, hg3, hi3, x0, _⟩ := blkM_at h3 0 (by decide) (exB [insD 0 1, insD 1 2, insO 4]) rfl
  obtain ⟨g5, off5, A7, c7, rfl, hg5, hi5, y0, _⟩ := blkM_at hm5' 0 (by decide) (exB [insD 1 2]) rfl
  obtain ⟨g7, off7, _, _, rfl, hg7, _, _, _, z2, _⟩ := insM_at hi5 0 (by decide) (insD 1 2) rfl
  have x0 : w5.cell? ⟨g3, off3, none⟩ = some (.slice A6 3 c6) := x0
  have y0 : w5.cell? ⟨g5, off5, none⟩ = some (.slice (some ⟨g7, off7, none⟩) 1 c7) := y0
  have z2 : w5.cell? ⟨g7, off7 + 2, none⟩ = some (.int .i64 1) := z2
  simp only [fnAgg, exF, List.length_cons, List.length_nil, Nat.zero_add]
  clear hb4 hm4 hb5 hm5 HM35 HM3 hm5' h3 hi3 hi5 HB3 HB4
  go_wp2_with fail
  go_ret
  have hb := HB5.out.alloc HB5.out.size (.cells #[.string ⟨#[109, 97, 105, 110]⟩, .int .i64 0, .int .i64 3, .slice (some ⟨g3, off3, none⟩) 1 c3] 30)
  exact ⟨rfl, hb.alloc hb.size _⟩
end Go.Proofs.YtlniohgnkihefaaDoor
