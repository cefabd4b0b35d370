/- dead.Mid: the walk. -/
import Derived.Test.YtlniohgnkihefaaLk24
import Derived.Test.YtlniohgnkihefaaLk15
import Derived.Test.YtlniohgnkihefaaLk2
namespace Go.Proofs.Ytlniohgnkihefaa
open Go.RowKit Go.Maps
variable {T : Nat → Prop}
def MidBox (W : World) (q : Nat) (u v : Value) : Prop := W.heap[q]? = some (.cells #[u, v] 25 (0, 0))
theorem MidBox.below {W W' : World} {q : Nat} {u v : Value} (h : MidBox W q u v) (hb : Below W.heap.size W W') : MidBox W' q u v := (hb.block q (lt_of_heap h)).trans h
theorem MidBox.row7 {wC W W' : World} {l : List Fn} {k q : Nat} {u v v' : Value} {rr : Option Nat} (h : MidBox W q u v) (hi : MidI wC l k v' rr W) (hc : Chg (fun k => some k = rr) W W') : MidBox W' q u v :=
  hc.heap h fun e => by
    obtain ⟨c, hc⟩ := hi.typ q e.symm
    rw [show W.heap[q]? = _ from h] at hc
    cases hc
structure MidS (q3 q5 : Nat) (v : Value) (nm : ByteArray) (pa re : Int) (A : Option Addr) (n c : Nat) (Y : World) : Prop where
  e1 : Y.cell? ⟨q3, 1, none⟩ = some v
  e2 : Y.cell? ⟨q5, 0, none⟩ = some (.string nm)
  e3 : Y.cell? ⟨q5, 1, none⟩ = some (.int .i64 pa)
  e4 : Y.cell? ⟨q5, 2, none⟩ = some (.int .i64 re)
  e5 : Y.cell? ⟨q5, 3, none⟩ = some (.slice A n c)
theorem MidS.below {q3 q5 : Nat} {v : Value} {nm : ByteArray} {pa re : Int} {A : Option Addr} {n c : Nat} {Y Y' : World} (h : MidS q3 q5 v nm pa re A n c Y) (hl : q3 < Y.heap.size ∧ q5 < Y.heap.size) (hb : Below Y.heap.size Y Y') : MidS q3 q5 v nm pa re A n c Y' :=
  ⟨(hb.cell (p := ⟨q3, 1, none⟩) hl.1).trans h.e1, (hb.cell (p := ⟨q5, 0, none⟩) hl.2).trans h.e2, (hb.cell (p := ⟨q5, 1, none⟩) hl.2).trans h.e3, (hb.cell (p := ⟨q5, 2, none⟩) hl.2).trans h.e4, (hb.cell (p := ⟨q5, 3, none⟩) hl.2).trans h.e5⟩
theorem MidS.row7 {q3 q5 : Nat} {u v v' : Value} {nm : ByteArray} {pa re : Int} {A : Option Addr} {n c : Nat} {Y Y' : World} (h : MidS q3 q5 v nm pa re A n c Y) {wC : World} {l : List Fn} {k : Nat} {rr : Option Nat} (hm : MidBox Y q3 u v) (hi : MidI wC l k v' rr Y) (hc : Chg (fun k => some k = rr) Y Y') (h5 : some q5 ≠ rr) : MidS q3 q5 v nm pa re A n c Y' := by
  have h3 : some q3 ≠ rr := fun e => by
    obtain ⟨c, hc⟩ := hi.typ q3 e.symm
    rw [show Y.heap[q3]? = _ from hm] at hc
    cases hc
  exact ⟨hc.cell h.e1 h3, hc.cell h.e2 h5, hc.cell h.e3 h5, hc.cell h.e4 h5, hc.cell h.e5 h5⟩
theorem newFn {W : World} {q : Nat} {f : Fn} {A : Option Addr} {c : Nat} (h : W.heap[q]? = some (.cells #[.string f.name, .int .i64 f.params, .int .i64 f.regs, .slice A (finK f.blocks).length c] 31 (0, 0))) :
    ∀ j u, (fnQ ⟨finF f, A, c⟩)[j]? = some u → W.cell? ((⟨q, 0, none⟩ : Addr).add j) = some u := fun j u hu => by
  rw [show ((⟨q, 0, none⟩ : Addr).add j) = ⟨q, j, none⟩ from by by_cases e : j = 0 <;> simp [Addr.add, e], cell_of_row _ _ _ _ _ _ h, ← Array.getElem?_toList]
  exact hu
def MidD (w : World) (m : Mid) (e : Ending) (w' : World) : Prop := ∃ A c B d, e = .returned (.agg #[.slice A m.globals.length c, .slice B m.fns.length d]) ∧ Below w.heap.size w w' ∧ FnsMem w' B (m.fns.map finF) ∧ ReadsAt w' A (globC m.globals)
set_option maxRecDepth 100000 in
set_option maxHeartbeats 4000000 in
theorem deadMid_any (m : Mid) (hV : SmallV m) (A B : Option Addr) (c d : Nat) (w : World) (h : RdMid w T m A c B d) :
    Calls Try.prog 7 #[.agg #[.slice A m.globals.length c, .slice B m.fns.length d]] w (MidD w m) := by
  obtain ⟨n, hn⟩ : ∃ n, n = m.fns.length := ⟨_, rfl⟩
  obtain ⟨ng, hng⟩ : ∃ ng, ng = m.globals.length := ⟨_, rfl⟩
  have hn8 : n ≤ 8 := by rw [hn]; exact hV.light.nf
  rw [← hn, ← hng]
  have HN := Lib.hid hn
  have HNG := Lib.hid hng
  have HM := Lib.hid h
  have HSM := Lib.hid hV
  clear hn hng h hV
  go_enter Try.func7, Try.ntmps7
  go_wp2_with fail
  obtain ⟨bx, hbx⟩ : ∃ bx, bx = w.heap.size := ⟨_, rfl⟩
  obtain ⟨W0, hW0⟩ : ∃ W0, W0 = (w.alloc (.cells #[.slice A ng c, .slice B n d] 25)).alloc (.cells #[.slice none 0 0, .slice none 0 0] 25) := ⟨_, rfl⟩
  rw [← hW0, ← hbx]
  have hb0 : Below w.heap.size w W0 := by rw [hW0]; exact ((Below.refl _ w).alloc (Nat.le_refl _) _).alloc (by simp) _
  have hm0 : MidBox W0 bx (.slice A ng c) (.slice B n d) := by
    rw [hW0, hbx]; exact (heap_alloc_old _ _ (by simp)).trans (heap_alloc_new w _)
  have hr0 : MidBox W0 (bx + 1) (.slice none 0 0) (.slice none 0 0) := by
    rw [hW0, hbx]
    have h := heap_alloc_new (w.alloc (.cells #[.slice A ng c, .slice B n d] 25)) (.cells #[.slice none 0 0, .slice none 0 0] 25)
    rw [World.size_alloc] at h
    exact h
  have hcl := cloneG_any A c m.globals W0 HSM.out.may.ng (readsBelow (reads_globs HM.out.globals) hb0)
  rw [← HNG.out] at hcl
  refine hcl.mono ?_
  rintro e wC ⟨A', c', rg, rfl, hbC, hgC⟩
  have HBC : Hid (Below w.heap.size w wC) := Lib.hid (hb0.trans (hbC.mono hb0.size))
  have HMB : Hid (MidBox wC bx (.slice A ng c) (.slice B n d)) := Lib.hid (hm0.below hbC)
  have HRB : Hid (MidBox wC (bx + 1) (.slice none 0 0) (.slice none 0 0)) := Lib.hid (hr0.below hbC)
  have HGC := Lib.hid hgC
  have HBX := Lib.hid hbx
  have c0 : wC.cell? ⟨bx, 0, none⟩ = some (.slice A ng c) := cell_of_row _ _ _ _ _ _ HMB.out
  have c1 : wC.cell? ⟨bx, 1, none⟩ = some (.slice B n d) := cell_of_row _ _ _ _ _ _ HMB.out
  have hbl : bx < wC.heap.size := lt_of_heap HMB.out
  clear hbx hW0 hb0 hm0 hr0 hcl hbC hgC
  go_wp2_with fail
  clear c0 c1
  obtain ⟨q3, hq3⟩ : ∃ q3, q3 = wC.heap.size := ⟨_, rfl⟩
  obtain ⟨W1, hW1⟩ : ∃ W1, W1 = wC.alloc (.cells #[.slice A' ng c', .slice none 0 0] 25) := ⟨_, rfl⟩
  rw [← hW1, ← hq3]
  have hI0 : MidI wC m.fns 0 (.slice none 0 0) none W1 := MidI.start _ (by rw [hW1]; exact (Below.refl _ _).alloc (Nat.le_refl _) _)
  have hM1 : MidBox W1 q3 (.slice A' ng c') (.slice none 0 0) := by rw [hW1, hq3]; exact heap_alloc_new wC _
  have HI0 := Lib.hid (And.intro hI0 hM1)
  have HQ3 : Hid (wC.heap.size ≤ q3) := Lib.hid (by rw [hq3]; exact Nat.le_refl _)
  have hq3x : bx < q3 := by rw [hq3]; exact hbl
  clear hI0 hM1 hW1 hq3
  go_loopw [13] (fun i wr => ∃ (k : Nat) (v : Value) (rr : Option Nat), k ≤ n ∧ i = .int .i64 (k : Nat) ∧ MidI wC m.fns k v rr wr ∧ MidBox wr q3 (.slice A' ng c') v) (fun i _ => n - (intOf i).toNat)
  case atStart => exact ⟨0, _, _, Nat.zero_le _, rfl, HI0.out.1, HI0.out.2⟩
  case round =>
    obtain ⟨k, v, rr, hk, rfl, hI, hM⟩ := hrel
    clear HI0
    have HI1 := Lib.hid hI
    have HM1 := Lib.hid hM
    have hlw : Below w.heap.size w wr := HBC.out.trans (hI.below.mono HBC.out.size)
    by_cases hltn : k < n
    · have hlt : k < m.fns.length := by rw [← HN.out]; exact hltn
      obtain ⟨f, hfe⟩ : ∃ f, f = m.fns[k] := ⟨_, rfl⟩
      obtain ⟨g, off, A1, c1, rfl, hg, hok, hsub, g0, g1, g2, g3⟩ := fn_at (fns_below HM.out.fns hlw) k hlt f hfe
      have hfm : f ∈ m.fns := by rw [hfe]; exact List.getElem_mem hlt
      have hF := flow_of (by rw [hfe]; exact (HSM.out.may.fns k hlt).fn) (HSM.out.light.fns f hfm)
      have hD := data_of hsub
      have hbm := blkMem_of_rd hsub
      have HFK : Hid (f = m.fns[k]) := Lib.hid hfe
      obtain ⟨u3, hu3⟩ : ∃ u3, u3 = wr.heap.size := ⟨_, rfl⟩
      obtain ⟨W5, hW5⟩ : ∃ W5, W5 = wr.alloc (.cells #[.string f.name, .int .i64 f.params, .int .i64 f.regs, .slice A1 f.blocks.length c1] 31) := ⟨_, rfl⟩
      have hal : Below wr.heap.size wr W5 := by rw [hW5]; exact (Below.refl _ _).alloc (Nat.le_refl _) _
      have hfb : FnBox W5 u3 f.name f.params f.regs (.slice A1 f.blocks.length c1) := by rw [hW5, hu3]; exact heap_alloc_new wr _
      have hdf : ∀ wd : World, Below W5.heap.size W5 wd → Calls Try.prog 9 #[fnAgg f A1 c1] wd (FnD0 wd f) := fun wd hwd => deadFn_any f hF hD A1 c1 wd (hbm.below (hal.trans (hwd.mono hal.size)))
      have HDF0 := Lib.hid hdf
      have HW5 := Lib.hid hW5
      have HU3 := Lib.hid hu3
      have HAL := Lib.hid hal
      have HFB := Lib.hid hfb
      clear hI hM hlw hok hsub hfm hF hD hbm hfe hdf hW5 hu3 hal hfb
      go_upto_region 5 with (fail)
      rw [← HW5.out, ← HU3.out]
      clear g0 g1 g2 g3 hg
      have hdw : Below W5.heap.size W5 W5.drew := below_drewN (Below.refl _ W5) 1
      have hI5 := (HI1.out.below_ HAL.out).below_ hdw
      have hM5 := (HM1.out.below HAL.out).below hdw
      have hfb5 := HFB.out.below hdw
      have hdf5 := HDF0.out W5.drew hdw
      obtain ⟨b0, b1, b2, b3⟩ := hfb5.cells
      have hsel : MidS q3 u3 v f.name f.params f.regs A1 f.blocks.length c1 W5.drew := ⟨cell_of_row _ _ _ _ _ _ hM5, b0, b1, b2, b3⟩
      have hl5 : q3 < W5.drew.heap.size ∧ u3 < W5.drew.heap.size := ⟨lt_of_heap hM5, lt_of_heap hfb5⟩
      have hb6 : some u3 ≠ rr := fun e => by
        obtain ⟨c, hc⟩ := HI1.out.typ u3 e.symm
        have := lt_of_heap hc
        have := HU3.out
        omega
      obtain ⟨wd, hwd⟩ : ∃ wd, wd = W5.drew := ⟨_, rfl⟩
      rw [← hwd] at hI5 hM5 hdf5 hsel hl5
      have HWD := Lib.hid hwd
      have HI := Lib.hid hI5
      have HM3 := Lib.hid hM5
      have HDF := Lib.hid hdf5
      have HL5 := Lib.hid hl5
      have HB6 := Lib.hid hb6
      clear hdw hI5 hM5 hfb5 hdf5 b0 b1 b2 b3 hl5 hb6 hwd HDF0
      unfold fnAgg at HDF
      -- GENERATED: region 5
      refine wp_region_T (MidS q3 u3 v f.name f.params f.regs A1 f.blocks.length c1) [7] (by kernel_rfl) (by rw [← HWD.out]; exact hsel) (fun _ => ?_)
      rw [← HWD.out]
      refine wpAnyT_take (i := 0) (v := ?vc1) rfl (by kernel_rfl) (by kernel_rfl) (by kernel_rfl) rfl (fun _ _ _ h => h) (Or.inl ⟨by rfl, ?hyc1⟩) (DL.of hsel) ?restc1
      case hyc1 => (intro w hSw; go_simp; try rfl)
      try simp only [Act.put, List.setIfInBounds_toArray, List.set_cons_zero, List.set_cons_succ, List.getElem_toArray, List.getElem_cons_zero]
      refine wpAnyT_load (i := 1) (v := ?vc2) rfl (by kernel_rfl) (by kernel_rfl) (by kernel_rfl) rfl (by kernel_rfl) (by kernel_rfl) (fun _ _ _ h => h) (Or.inl ⟨by rfl, ?hyc2⟩) (DL.of hsel) ?restc2
      case hyc2 => (intro w hSw; obtain ⟨s1, s2, s3, s4, s5⟩ := hSw rfl; go_simp; try rfl)
      try simp only [Act.put, List.setIfInBounds_toArray, List.set_cons_zero, List.set_cons_succ, List.getElem_toArray, List.getElem_cons_zero, List.getElem_cons_succ]
      refine wpAnyT_load (i := 2) (v := ?vc3) rfl (by kernel_rfl) (by kernel_rfl) (by kernel_rfl) rfl (by kernel_rfl) (by kernel_rfl) (fun _ _ _ h => h) (Or.inl ⟨by rfl, ?hyc3⟩) (DL.of hsel) ?restc3
      case hyc3 => (intro w hSw; obtain ⟨s1, s2, s3, s4, s5⟩ := hSw rfl; go_simp; try rfl)
      try simp only [Act.put, List.setIfInBounds_toArray, List.set_cons_zero, List.set_cons_succ, List.getElem_toArray, List.getElem_cons_zero, List.getElem_cons_succ]
      refine wpAnyT_ready (rs := [3]) (by kernel_rfl) (by simp) ?_
      refine AllReadyT.cons rfl (fun K hK => ?_) AllReadyT.nil
      try simp only [Act.put, List.setIfInBounds_toArray, List.set_cons_zero, List.set_cons_succ, List.getElem_toArray, List.getElem_cons_zero, List.getElem_cons_succ]
      go_simp
      go_at_call 9
      refine HDF.out.mono ?_
      rintro e WE ⟨A2, c2, rfl, hbE, hiE⟩
      have hselE := hsel.below HL5.out hbE
      have HIE := Lib.hid (HI.out.below_ hbE)
      have HME := Lib.hid (HM3.out.below hbE)
      have HFE := Lib.hid hiE
      have hu3E : u3 < WE.heap.size := Nat.lt_of_lt_of_le HL5.out.2 hbE.size
      have hq3E : q3 < WE.heap.size := Nat.lt_of_lt_of_le HL5.out.1 hbE.size
      clear hbE hiE
      unfold fnAgg
      dsimp only
      refine hK.out _ _ (DL.of hselE) (fun _ => ?_)
      clear hK K
      try simp only [Act.put, List.setIfInBounds_toArray, List.set_cons_zero, List.set_cons_succ, List.getElem_toArray, List.getElem_cons_zero, List.getElem_cons_succ]
      refine wpAnyT_ready (rs := [4]) (by kernel_rfl) (by simp) ?_
      refine AllReadyT.cons rfl (fun K hK => ?_) AllReadyT.nil
      try simp only [Act.put, List.setIfInBounds_toArray, List.set_cons_zero, List.set_cons_succ, List.getElem_toArray, List.getElem_cons_zero, List.getElem_cons_succ]
      go_simp
      obtain ⟨W6, hW6⟩ : ∃ W6, W6 = WE.alloc (.cells #[.string f.name, .int .i64 f.params, .int .i64 f.regs, .slice A2 (finK f.blocks).length c2] 31) := ⟨_, rfl⟩
      have hal : Below WE.heap.size WE W6 := by rw [hW6]; exact (Below.refl _ _).alloc (Nat.le_refl _) _
      have hsel6 := hselE.below ⟨hq3E, hu3E⟩ hal
      have HN6 : Hid (W6.heap[WE.heap.size]? = some (.cells #[.string f.name, .int .i64 f.params, .int .i64 f.regs, .slice A2 (finK f.blocks).length c2] 31 (0, 0))) := Lib.hid (by rw [hW6]; exact heap_alloc_new WE _)
      have HI6 := Lib.hid (HIE.out.below_ hal)
      have HM6 := Lib.hid (HME.out.below hal)
      have HF6 := Lib.hid (HFE.out.ko (KO.of_below (b := true) hal (Nat.zero_le _)))
      try rw [← hW6]
      clear hal hW6
      refine hK.out _ _ (DL.of hsel6) (fun _ => ?_)
      clear hK K
      try simp only [Act.put, List.setIfInBounds_toArray, List.set_cons_zero, List.set_cons_succ, List.getElem_toArray, List.getElem_cons_zero, List.getElem_cons_succ]
      refine wpAnyT_ready (rs := [5]) (by kernel_rfl) (by simp) ?_
      refine AllReadyT.cons rfl (fun K hK => ?_) AllReadyT.nil
      obtain ⟨xs, hx1, hrow, hx3⟩ := HI6.out.row
      refine step_append_row _ (by rfl) _ _ 23 31 _ 4 56 (by rfl) Try.underlying23 info_fn rfl hrow ⟨WE.heap.size, 0, none⟩ 1 1 (fnQ ⟨finF f, A2, c2⟩) rfl (newFn HN6.out) (fnQ_plain _) (by rfl) (by rfl) (by omega) (by unfold maxLen; omega) (by omega) ?_
      intro v7 r7 W7 hR hC hN
      obtain ⟨A7, c7, rfl, _⟩ := hR.shape
      have HI7 : Hid (MidI wC m.fns (k + 1) (.slice A7 (k + 1) c7) r7 W7) := Lib.hid (HI6.out.push hlt (by rw [← HFK.out]; exact HF6.out) hx1 hx3 (by rw [← HFK.out]; exact hR) hC hN)
      have h37 := HM6.out.row7 HI6.out hC
      have HM7 := Lib.hid h37
      have h7 : W7.cell? ⟨q3, 1, none⟩ = some v := cell_of_row _ _ _ _ _ _ h37
      have h7f : W7.frozen? ⟨q3, 1, none⟩ = false := frozen_of_row W7 q3 1 _ _ h37
      have hsel7 := hsel6.row7 HM6.out HI6.out hC HB6.out
      clear hx1 hx3 hrow hR hC hN h37
      refine hK.out _ _ (DL.of hsel7) (fun _ => ?_)
      clear hK K
      try simp only [Act.put, List.setIfInBounds_toArray, List.set_cons_zero, List.set_cons_succ, List.getElem_toArray, List.getElem_cons_zero, List.getElem_cons_succ]
      refine wpAnyT_take (i := 6) (v := ?vc4) rfl (by kernel_rfl) (by kernel_rfl) (by kernel_rfl) rfl (fun _ _ _ h => h) (Or.inl ⟨by rfl, ?hyc4⟩) (DL.of hsel7) ?restc4
      case hyc4 => (intro w hSw; go_simp; try rfl)
      try simp only [Act.put, List.setIfInBounds_toArray, List.set_cons_zero, List.set_cons_succ, List.getElem_toArray, List.getElem_cons_zero, List.getElem_cons_succ]
      refine wpAnyT_ready (rs := [7]) (by kernel_rfl) (by simp) ?_
      refine AllReadyT.cons rfl (fun K hK => ?_) AllReadyT.nil
      try simp only [Act.put, List.getElem_toArray, List.getElem_cons_zero, List.getElem_cons_succ]
      go_simp
      refine hK.out _ _ (DL.late (by kernel_rfl)) (fun _ => ?_)
      clear hK K
      try simp only [Act.put, List.setIfInBounds_toArray, List.set_cons_zero, List.set_cons_succ, List.getElem_toArray, List.getElem_cons_zero, List.getElem_cons_succ]
      refine wpAnyT_done (by kernel_rfl) ?_ _
      go_wp2_with fail
      go_roundw
      case rel => exact ⟨k + 1, .slice A7 (k + 1) c7, r7, hltn, by simp, HI7.out.store HM7.out HQ3.out 1 _, heap_setCell_same W7 q3 1 _ 25 (.slice A7 (k + 1) c7) HM7.out⟩
      case measure => simp [intOf]; omega
      -- END region 5
    · obtain rfl : k = n := by omega
      have hmr := HRB.out.below HI1.out.below
      have m0 : wr.cell? ⟨q3, 0, none⟩ = some (.slice A' ng c') := cell_of_row _ _ _ _ _ _ HM1.out
      have m1 : wr.cell? ⟨q3, 1, none⟩ = some v := cell_of_row _ _ _ _ _ _ HM1.out
      have r0 : wr.cell? ⟨bx + 1, 0, none⟩ = some (.slice none 0 0) := cell_of_row _ _ _ _ _ _ hmr
      have r1 : wr.cell? ⟨bx + 1, 1, none⟩ = some (.slice none 0 0) := cell_of_row _ _ _ _ _ _ hmr
      have rf := fun j => frozen_of_row wr (bx + 1) j _ _ hmr
      have HMR := Lib.hid hmr
      obtain ⟨Wf, hWf⟩ : ∃ Wf, Wf = (wr.setCell ⟨bx + 1, 0, none⟩ (.slice A' ng c')).setCell ⟨bx + 1, 1, none⟩ v := ⟨_, rfl⟩
      have hch : Chg (fun q => q = bx + 1) wr Wf := by rw [hWf]; exact (Chg.store wr (bx + 1) 0 _).trans (Chg.store _ (bx + 1) 1 _) (fun _ _ h => h)
      have hbf : MidBox Wf (bx + 1) (.slice A' ng c') v := by
        rw [hWf]
        have h0 := heap_setCell_same wr (bx + 1) 0 _ 25 (.slice A' ng c') hmr
        have h1 := heap_setCell_same _ (bx + 1) 1 _ 25 v h0
        exact h1
      obtain ⟨A9, c9, hv9, hfm⟩ := MidI.done (W' := Wf) (HN.out ▸ HI1.out) hmr hch
      have hgr := (HGC.out.kept (Chg.of_below HI1.out.below (fun _ => False)) (fun _ _ h => h)).kept hch fun q hq e => row_ne_of_type (HGC.out.kept (Chg.of_below HI1.out.below (fun _ => False)) (fun _ _ h => h)) hmr (by decide) (by rw [hq, e])
      have hbw : Below w.heap.size w Wf := (HBC.out.trans (HI1.out.below.mono HBC.out.size)).trans (hch.below (HBC.out.trans (HI1.out.below.mono HBC.out.size)).size fun q e => by have := HBX.out; omega)
      have f0 : Wf.cell? ⟨bx + 1, 0, none⟩ = some (.slice A' ng c') := cell_of_row _ _ _ _ _ _ hbf
      have f1 : Wf.cell? ⟨bx + 1, 1, none⟩ = some v := cell_of_row _ _ _ _ _ _ hbf
      have HFIN := Lib.hid (And.intro hbw (And.intro hfm hgr.reads))
      have HWF := Lib.hid hWf
      clear hmr hI hM hWf hch hbf hfm hgr hbw
      rw [← HN.out] at hv9
      subst hv9
      go_wp2_with fail
      rw [← HWF.out]
      refine bodyPost_ret (v := .agg #[.slice A' ng c', .slice A9 k c9]) (by simp [results, Try.results7, go_sem, f0, f1]) rfl ⟨A', c', A9, c9, ?_, HFIN.out.1, HFIN.out.2.1, HFIN.out.2.2⟩
      rw [← HN.out, ← HNG.out]
end Go.Proofs.Ytlniohgnkihefaa
