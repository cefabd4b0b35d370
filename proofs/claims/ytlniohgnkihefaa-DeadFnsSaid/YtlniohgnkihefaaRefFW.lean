/- brazierref14.Fn: the walk. -/
import Derived.Test.YtlniohgnkihefaaRefFM
namespace Go.Proofs.Ytlniohgnkihefaa
open Go.RowKit
set_option maxRecDepth 100000 in
set_option maxHeartbeats 4000000 in
theorem refFn_any (f : Fn) (hF : FlowF f.blocks) (hD : DataF f.blocks) (A : Option Addr) (c : Nat) (w : World) (hr : BlkMem w A f.blocks) :
    Calls Try.prog 8 #[fnAgg f A c] w (FnD w f) := by
  obtain ⟨nm, pa, re, ks0⟩ := f
  dsimp only [fnAgg] at hF hD hr ⊢
  obtain ⟨n, hn⟩ : ∃ n, n = ks0.length := ⟨_, rfl⟩
  rw [← hn]
  have HN := Lib.hid hn
  have HF := Lib.hid hF
  have HDA := Lib.hid hD
  have HR := Lib.hid hr
  clear hn hF hD hr
  go_enter Try.func8, Try.ntmps8
  go_wp2_with fail
  obtain ⟨bx, hbx⟩ : ∃ bx, bx = w.heap.size := ⟨_, rfl⟩
  obtain ⟨W0, hW0⟩ : ∃ W0, W0 = (w.alloc (.cells #[.string nm, .int .i64 pa, .int .i64 re, .slice A n c] 31)).alloc (.cells #[.string ⟨#[]⟩, .int .i64 0, .int .i64 0, .slice none 0 0] 31) := ⟨_, rfl⟩
  rw [← hW0, ← hbx]
  have hI0 : FnR w bx ⟨nm, pa, re, ks0⟩ ks0 A c W0 := by
    have hb0 : Below w.heap.size w W0 := by rw [hW0]; exact ((Below.refl _ w).alloc (Nat.le_refl _) _).alloc (by simp) _
    refine ⟨hb0, ?_, ?_, (blkMA_of_mem HR.out).below (Nat.le_refl _) hb0, HF.out, HDA.out, rfl, rfl⟩
    · rw [← HN.out, hW0, hbx]; exact (heap_alloc_old _ _ (by simp)).trans (heap_alloc_new w _)
    · rw [hW0, hbx]
      have h := heap_alloc_new (w.alloc (.cells #[.string nm, .int .i64 pa, .int .i64 re, .slice A n c] 31)) (.cells #[.string ⟨#[]⟩, .int .i64 0, .int .i64 0, .slice none 0 0] 31)
      rw [World.size_alloc] at h
      exact h
  have HI0 := Lib.hid hI0
  have HBX := Lib.hid hbx
  clear hI0 hbx hW0
  go_loopg [] (costK ks0) (fun gk W => ∃ (ks : List Blk) (A : Option Addr) (c : Nat), FnR w bx ⟨nm, pa, re, ks0⟩ ks A c W ∧ gk = costK ks)
  case atStart => exact ⟨ks0, A, c, HI0.out, rfl⟩
  case round =>
    clear HI0
    obtain ⟨ks, A, c, hI, hgk⟩ := hrel
    obtain ⟨wo, rfl⟩ : ∃ wo : World, wo = wr := ⟨_, rfl⟩
    have hlen : ks.length = n := by rw [hI.len, HN.out]
    obtain ⟨x0, x1, x2, x3⟩ := hI.box.cells
    dsimp only at x0 x1 x2 x3
    rw [hlen] at x3
    have hlv := live14_any ⟨nm, pa, re, ks⟩ hI.flow A c wo hI.mem.mem
    dsimp only [fnAgg] at hlv
    rw [hlen] at hlv
    have HLV := Lib.hid hlv
    have HI := Lib.hid hI
    have HGK := Lib.hid (And.intro hgk hlen)
    clear hI hgk hlen hlv
    go_wp2_with fail
    refine HLV.out.mono ?_
    rintro e Wl ⟨gi, go, is, os, rfl, hL1, hLV⟩
    obtain ⟨hO1, hO2⟩ := stOf_outOf (ks := ks) (is := is) (os := os) (by rw [HGK.out.2]; exact hLV)
    rw [HGK.out.2] at hO2
    obtain ⟨O, hO⟩ : ∃ O, O = stOf os := ⟨_, rfl⟩
    rw [← hO] at hO1 hO2
    have HO := Lib.hid (And.intro hO (And.intro hO1 hO2))
    obtain ⟨q5, hq5⟩ : ∃ q5, q5 = Wl.heap.size := ⟨_, rfl⟩
    obtain ⟨W1, hW1⟩ : ∃ W1, W1 = Wl.alloc (.cells #[.string nm, .int .i64 pa, .int .i64 re, .slice none 0 0] 31) := ⟨_, rfl⟩
    have hal : Below Wl.heap.size Wl W1 := by rw [hW1]; exact (Below.refl _ _).alloc (Nat.le_refl _) _
    have hb1 := hL1.below
    have y0 := (hb1.cell (p := ⟨bx, 0, none⟩) (World.block_lt_of_cell? wo _ x0)).trans x0
    have y1 := (hb1.cell (p := ⟨bx, 1, none⟩) (World.block_lt_of_cell? wo _ x1)).trans x1
    have y2 := (hb1.cell (p := ⟨bx, 2, none⟩) (World.block_lt_of_cell? wo _ x2)).trans x2
    have k3 : W1.cell? ⟨bx, 3, none⟩ = some (.slice A n c) := by
      have h := (hb1.cell (p := ⟨bx, 3, none⟩) (World.block_lt_of_cell? wo _ x3)).trans x3
      exact (hal.cell (p := ⟨bx, 3, none⟩) (World.block_lt_of_cell? Wl _ h)).trans h
    have hbn : FnBox W1 q5 nm pa re (.slice none 0 0) := by rw [hW1, hq5]; exact heap_alloc_new Wl _
    have HL1 := Lib.hid hL1
    have HQ5 := Lib.hid (And.intro hq5 (And.intro hal hbn))
    have HW1 := Lib.hid hW1
    rw [hW1] at k3
    clear hO1 hO2 hO hL1 hb1 hal hLV x0 x1 x2 x3 hW1 hbn hq5
    go_wp2_with fail
    rw [← HW1.out, ← HQ5.out.1]
    have hBW : w.heap.size ≤ Wl.heap.size := Nat.le_trans HI.out.below.size HL1.out.below.size
    go_loopw [6, 29] (fun a i W => ∃ (k : Nat) (v : Value) (rr : Option Nat), k ≤ n ∧ i = .int .i64 (k : Nat) ∧ a = .bool (trnO O ks k) ∧ BlkI2 Wl w.heap.size ks O k v rr W ∧ FnBox W q5 nm pa re v) (fun _ i _ => n - (intOf i).toNat)
    case atStart => exact ⟨0, _, none, Nat.zero_le _, rfl, by rw [trnO_zero], (BlkI2.start Wl _ _ _).below_ hBW HQ5.out.2.1, HQ5.out.2.2⟩
    case round =>
      obtain ⟨k, v, rr, hk, rfl, rfl, hB, hbn⟩ := hrel
      have HB := Lib.hid (And.intro hB hbn)
      clear hB hbn
      by_cases hlt : k < n
      · have hkk : k < ks.length := by rw [HGK.out.2]; exact hlt
        obtain ⟨g, off, x, xs, rfl, hxk, hxs, hxr, hxa, hgl, hc0, hc1, hc2, hc3, hc4⟩ := blkMA_at HI.out.mem k hkk
        have hbw : Below wo.heap.size wo wr := HL1.out.below.trans (HB.out.1.below.mono HL1.out.below.size)
        have hcw : ∀ j v, wo.cell? ⟨g, off + k * 5 + j, none⟩ = some v → wr.cell? ⟨g, off + k * 5 + j, none⟩ = some v := fun j v h => (hbw.cell (p := ⟨g, off + k * 5 + j, none⟩) hgl).trans h
        replace hc0 := hcw 0 _ hc0
        replace hc1 := hcw 1 _ hc1
        replace hc2 := hcw 2 _ hc2
        replace hc3 := hcw 3 _ hc3
        replace hc4 := hcw 4 _ hc4
        rw [Nat.add_zero] at hc0
        have hko : k < os.length := by rw [HL1.out.ol]; exact hkk
        obtain ⟨m, hm⟩ : ∃ m, m = os[k] := ⟨_, rfl⟩
        have hmc := (HL1.out.O.cell k hko).1
        have hmr := HL1.out.O.reads _ (List.getElem_mem hko)
        have hmb := HL1.out.bo _ (List.getElem_mem hko)
        have hOk : O k = listP m.l := by rw [HO.out.1, stOf_at os k hko, hm]
        rw [← hm] at hmc hmr hmb
        obtain ⟨wd, hwd⟩ : ∃ wd, wd = (wr.alloc (.cells #[.slice x.A x.k.ins.length x.c, .int .i64 x.k.kind, .int .i64 x.k.a, .int .i64 x.k.to, .int .i64 x.k.els] 45)).drew := ⟨_, rfl⟩
        have hwr : Below wr.heap.size wr wd := by rw [hwd]; exact ((Below.refl _ _).alloc (Nat.le_refl _) _).drew
        obtain ⟨q8, hq8⟩ : ∃ q8, q8 = wr.heap.size := ⟨_, rfl⟩
        have hqd : BlkBox wd q8 x := by rw [hwd, hq8]; exact heap_alloc_new wr _
        have hmd : ∀ W', Below wd.heap.size wd W' → W'.cell? ⟨go, k, none⟩ = some (.slice m.A m.l.length m.c) := fun W' hb' => by
          have hb2 : Below Wl.heap.size Wl W' := (HB.out.1.below.trans (hwr.mono HB.out.1.below.size)).trans (hb'.mono (Nat.le_trans HB.out.1.below.size hwr.size))
          exact (hb2.cell (p := ⟨go, k, none⟩) (World.block_lt_of_cell? Wl _ hmc)).trans hmc
        have hself : ∀ W', Below wd.heap.size wd W' → (W'.cell? ⟨q8, 0, none⟩ = some (.slice x.A x.k.ins.length x.c) ∧ W'.cell? ⟨q8, 1, none⟩ = some (.int .i64 x.k.kind) ∧ W'.cell? ⟨q8, 2, none⟩ = some (.int .i64 x.k.a) ∧ W'.cell? ⟨q8, 3, none⟩ = some (.int .i64 x.k.to) ∧ W'.cell? ⟨q8, 4, none⟩ = some (.int .i64 x.k.els)) ∧ W'.cell? ⟨go, k, none⟩ = some (.slice m.A m.l.length m.c) := fun W' hb' =>
          ⟨(hqd.kt (KT.of_below hb')).cells, hmd W' hb'⟩
        have hsel := hself wd (Below.refl _ _)
        have hml : m.l.length ≤ 65536 := hmb.len
        have HBF := Lib.hid (before_any x.k x.A x.c m.l m.A m.c wd (by omega) (readsBelow hmr (HB.out.1.below.trans (hwr.mono HB.out.1.below.size))))
        have HK := Lib.hid (And.intro hxk (And.intro hOk (And.intro hmb hqd)))
        have HX := Lib.hid (And.intro hxs (And.intro hxr hxa))
        have HWR := Lib.hid (And.intro hwr hbw)
        have HWD := Lib.hid hwd
        have HQ8 := Lib.hid hq8
        clear hcw hmc hmr hmb hOk hm hwd hwr hqd hmd hml hxs hxr hxa hxk hgl hbw hq8
        go_wp2_with fail
        rw [← HQ8.out]
        go_cut [9] (fun s9 wz => ∃ (A9 : Option Addr) (c9 : Nat), s9 = .slice A9 (beforeL x.k m.l).length c9 ∧ Below wd.heap.size wd wz ∧ ReadsAt wz A9 (ints (beforeL x.k m.l)))
        case first =>
            -- GENERATED: region 7
            refine wp_region_T (fun Y => (Y.cell? ⟨q8, 0, none⟩ = some (.slice x.A x.k.ins.length x.c) ∧ Y.cell? ⟨q8, 1, none⟩ = some (.int .i64 x.k.kind) ∧ Y.cell? ⟨q8, 2, none⟩ = some (.int .i64 x.k.a) ∧ Y.cell? ⟨q8, 3, none⟩ = some (.int .i64 x.k.to) ∧ Y.cell? ⟨q8, 4, none⟩ = some (.int .i64 x.k.els)) ∧ Y.cell? ⟨go, k, none⟩ = some (.slice m.A m.l.length m.c)) [] (by kernel_rfl) (by rw [← HWD.out]; exact hsel) (fun _ => ?_)
            rw [← HWD.out]
            refine wpAnyT_load (i := 0) (v := ?vc1) rfl (by kernel_rfl) (by kernel_rfl) (by kernel_rfl) rfl (by kernel_rfl) (by kernel_rfl) (fun _ _ _ h => h) (Or.inl ⟨by rfl, ?hyc1⟩) (DL.of hsel) ?restc1
            case hyc1 => (intro w hSw; obtain ⟨⟨s1, s2, s3, s4, s5⟩, s6⟩ := hSw rfl; go_simp; try rfl)
            try simp only [Act.put, List.setIfInBounds_toArray, List.set_cons_zero, List.set_cons_succ, List.getElem_toArray, List.getElem_cons_zero]
            refine wpAnyT_take (i := 1) (v := ?vc2) rfl (by kernel_rfl) (by kernel_rfl) (by kernel_rfl) rfl (fun _ _ _ h => h) (Or.inl ⟨by rfl, ?hyc2⟩) (DL.of hsel) ?restc2
            case hyc2 => (intro w hSw; go_simp; try rfl)
            try simp only [Act.put, List.setIfInBounds_toArray, List.set_cons_zero, List.set_cons_succ, List.getElem_toArray, List.getElem_cons_zero, List.getElem_cons_succ]
            refine wpAnyT_take (i := 2) (v := ?vc3) rfl (by kernel_rfl) (by kernel_rfl) (by kernel_rfl) rfl (fun _ _ _ h => h) (Or.inl ⟨by rfl, ?hyc3⟩) (DL.of hsel) ?restc3
            case hyc3 => (intro w hSw; go_simp; try rfl)
            try simp only [Act.put, List.setIfInBounds_toArray, List.set_cons_zero, List.set_cons_succ, List.getElem_toArray, List.getElem_cons_zero, List.getElem_cons_succ]
            refine wpAnyT_take (i := 3) (v := ?vc4) rfl (by kernel_rfl) (by kernel_rfl) (by kernel_rfl) rfl (fun _ _ _ h => h) (Or.inl ⟨by rfl, ?hyc4⟩) (DL.of hsel) ?restc4
            case hyc4 => (intro w hSw; go_simp; try rfl)
            try simp only [Act.put, List.setIfInBounds_toArray, List.set_cons_zero, List.set_cons_succ, List.getElem_toArray, List.getElem_cons_zero, List.getElem_cons_succ]
            refine wpAnyT_load (i := 4) (v := ?vc5) rfl (by kernel_rfl) (by kernel_rfl) (by kernel_rfl) rfl (by kernel_rfl) (by kernel_rfl) (fun _ _ _ h => h) (Or.inl ⟨by rfl, ?hyc5⟩) (DL.of hsel) ?restc5
            case hyc5 => (intro w hSw; obtain ⟨⟨s1, s2, s3, s4, s5⟩, s6⟩ := hSw rfl; go_simp; try rfl)
            try simp only [Act.put, List.setIfInBounds_toArray, List.set_cons_zero, List.set_cons_succ, List.getElem_toArray, List.getElem_cons_zero, List.getElem_cons_succ]
            refine wpAnyT_ready (rs := [5]) (by kernel_rfl) (by simp) ?_
            refine AllReadyT.cons rfl (fun K hK => ?_) AllReadyT.nil
            try simp only [Act.put, List.setIfInBounds_toArray, List.set_cons_zero, List.set_cons_succ, List.getElem_toArray, List.getElem_cons_zero, List.getElem_cons_succ]
            go_simp
            go_at_call 19
            refine HBF.out.mono ?_
            rintro e WE ⟨A9, c9, rfl, hbE, hrE, _⟩
            have hselE := hself WE hbE
            have HBE := Lib.hid (And.intro hbE hrE)
            clear hbE hrE
            refine hK.out _ _ (DL.of hselE) (fun _ => ?_)
            clear hK K
            try simp only [Act.put, List.setIfInBounds_toArray, List.set_cons_zero, List.set_cons_succ, List.getElem_toArray, List.getElem_cons_zero, List.getElem_cons_succ]
            refine wpAnyT_take (i := 6) (v := ?vc6) rfl (by kernel_rfl) (by kernel_rfl) (by kernel_rfl) rfl (fun _ _ _ h => h) (Or.inl ⟨by rfl, ?hyc6⟩) (DL.of hselE) ?restc6
            case hyc6 => (intro w hSw; go_simp; try rfl)
            try simp only [Act.put, List.setIfInBounds_toArray, List.set_cons_zero, List.set_cons_succ, List.getElem_toArray, List.getElem_cons_zero, List.getElem_cons_succ]
            refine wpAnyT_done (by kernel_rfl) ?_ _
            clear hsel hselE hself
            go_wp2_with fail
            go_meet
            exact ⟨A9, c9, rfl, HBE.out.1, HBE.out.2⟩
            -- END region 7
        case rest =>
          obtain ⟨A9, c9, rfl, hbz, hrz⟩ := hcut
          have hqz := HK.out.2.2.2.kt (KT.of_below hbz)
          have hxf : BlkF ks.length x.k := by rw [HK.out.1]; exact HI.out.flow.blk _ (List.getElem_mem hkk)
          have hxd := HI.out.data x.k (by rw [HK.out.1]; exact List.getElem_mem hkk)
          have hst := RefL.start (B := w.heap.size) (x := x) (tk := trnO O ks k) (c9 := c9) hrz HK.out.2.2.1 hxf.a
          obtain ⟨Wa, hWa⟩ : ∃ Wa, Wa = wc.alloc (.cells #[.slice none 0 0, .int .i64 x.k.kind, .int .i64 x.k.a, .int .i64 x.k.to, .int .i64 x.k.els] 45) := ⟨_, rfl⟩
          have hba : Below wc.heap.size wc Wa := by rw [hWa]; exact (Below.refl _ _).alloc (Nat.le_refl _) _
          have hqa := hqz.kt (KT.of_below hba)
          obtain ⟨q10, hq10⟩ : ∃ q10, q10 = wc.heap.size := ⟨_, rfl⟩
          obtain ⟨d0, d1, d2, d3, d4⟩ := hqz.cells
          have e0 := hqa.cells.1
          have hni : x.k.ins.length ≤ 1000 := hxf.nins
          rw [← hWa, ← hq10] at hst
          have hwc : Below wr.heap.size wr wc := HWR.out.1.trans (hbz.mono HWR.out.1.size)
          have hBc : w.heap.size ≤ wc.heap.size := Nat.le_trans (Nat.le_trans hBW HB.out.1.below.size) hwc.size
          have HST := Lib.hid hst
          have HXF := Lib.hid (And.intro hxf hxd)
          have HQA := Lib.hid hqz
          have HWA := Lib.hid (And.intro hWa (And.intro hq10 hwc))
          rw [hWa] at e0
          clear hbz hrz hqz hxf hxd hst hWa hba hqa hq10 hc0 hc1 hc2 hc3 hc4 hsel hself hwc
          go_wp2_with fail
          rw [← HWA.out.1, ← HWA.out.2.1]
          obtain ⟨wm, rfl⟩ : ∃ wm : World, wm = wr := ⟨_, rfl⟩
          go_loopw [6, 9, 11] (RefL wc w.heap.size q10 x (O k) (trnO O ks k)) (fun _ _ v _ => (intOf v + 1).toNat)
          case atStart => rw [HK.out.2.1]; exact HST.out
          case round =>
            obtain ⟨m', A9, c9, l, vc, rr9, hv, rfl, rfl, hR⟩ := hrel
            obtain ⟨Av, cv, hvc⟩ : ∃ Av cv, vc = .slice Av (swRun x.k (O k) (x.k.ins.reverse.take m')).left.length cv := by
              obtain ⟨ys, h1, h2, _⟩ := hR.row
              obtain ⟨A1, c1, e1, _⟩ := h2.shape
              have hl := congrArg List.length h1
              rw [List.length_map, List.length_reverse] at hl
              exact ⟨A1, c1, by rw [e1, hl]⟩
            have HR := Lib.hid hR
            clear hR
            rcases hv with ⟨p, rfl, hp⟩ | ⟨rfl, hp⟩
            · have hpl : p < xs.length := by have := congrArg List.length HX.out.1; rw [List.length_map] at this; omega
              have hpi : p < x.k.ins.length := by omega
              obtain ⟨gx, ox, hA, hgx, helt⟩ := insRow_at HX.out.2.1 p hpl
              have hyk : xs[p].k = x.k.ins[p] := by simp only [← HX.out.1, List.getElem_map]
              have harg := HX.out.2.2 _ (List.getElem_mem hpl)
              have hreg := HXF.out.1.regs _ (List.getElem_mem hpi)
              have hbo : Below wo.heap.size wo wr := (HWR.out.2.trans (HWA.out.2.2.mono HWR.out.2.size)).trans (HR.out.below.mono (Nat.le_trans HWR.out.2.size HWA.out.2.2.size))
              have hel := helt.below hbo
              have hargw := harg.ko (KO.of_below (b := false) hbo HI.out.below.size)
              have hnx := rev_take x.k.ins m' p (by omega) hpi
              rw [← hyk] at hreg hnx
              obtain ⟨⟨⟨kd, op, d, a2, b2, num, nm2, args⟩, Aa, ca⟩, hy⟩ : ∃ y, y = xs[p] := ⟨_, rfl⟩
              rw [← hy] at hel hargw hreg hnx
              dsimp only at hel hargw hreg hnx
              obtain ⟨st, hst⟩ : ∃ st, st = swRun x.k (O k) (x.k.ins.reverse.take m') := ⟨_, rfl⟩
              have hnext : swRun x.k (O k) (x.k.ins.reverse.take (m' + 1)) = swStep st ⟨kd, op, d, a2, b2, num, nm2, args⟩ := by rw [hnx, swRun_snoc, hst]
              have hll : st.left.length ≤ 1000 := by
                have h1 := sw_len x.k (O k) (x.k.ins.reverse.take m')
                rw [← hst] at h1
                have h2 : (x.k.ins.reverse.take m').length ≤ 1000 := by rw [List.length_take]; omega
                omega
              rw [← hst] at HR hvc ⊢
              obtain ⟨tk, htk⟩ : ∃ tk, tk = trnO O ks k := ⟨_, rfl⟩
              rw [← htk]
              have e0 := ((HQA.out.kt (KT.of_below (HR.out.below))).cells.1)
              rw [hA] at e0
              obtain ⟨l0, l1, l2, l3, l4, l5, l6, l7⟩ := hel
              dsimp only at l0 l1 l2 l3 l4 l5 l6 l7
              obtain ⟨bh, hbh⟩ : ∃ bh, bh = hasP st.S d := ⟨_, rfl⟩
              obtain ⟨bp, hbp⟩ : ∃ bp, bp = pureP ⟨kd, op, d, a2, b2, num, nm2, args⟩ := ⟨_, rfl⟩
              have hlen9 := HR.out.bnd.len
              have hhas := fun W hr => has14_any l A9 c9 d W (by omega) hr
              rw [hasL_hasP HR.out.bnd d, HR.out.set, ← hbh] at hhas
              have hpure := fun W => pure14_any ⟨kd, op, d, a2, b2, num, nm2, args⟩ Aa ca W
              rw [← hbp] at hpure
              have hcs := ref_cases ⟨kd, op, d, a2, b2, num, nm2, args⟩ st.S
              dsimp only at hcs
              rw [← hbh, ← hbp] at hcs
              obtain ⟨q12, hq12⟩ : ∃ q12, q12 = wr.heap.size := ⟨_, rfl⟩
              have hstep : ∀ W1, Below (wr.alloc (.cells #[.int .i64 kd, .int .i64 op, .int .i64 d, .int .i64 a2, .int .i64 b2, .int .i32 num, .string nm2, .slice Aa args.length ca] 48)).heap.size (wr.alloc (.cells #[.int .i64 kd, .int .i64 op, .int .i64 d, .int .i64 a2, .int .i64 b2, .int .i32 num, .string nm2, .slice Aa args.length ca] 48)) W1 →
                  Hid (Below wr.heap.size wr W1 ∧ InsBox W1 q12 ⟨⟨kd, op, d, a2, b2, num, nm2, args⟩, Aa, ca⟩) ∧ Hid (W1.cell? ⟨q12, 0, none⟩ = some (.int .i64 kd) ∧ W1.cell? ⟨q12, 1, none⟩ = some (.int .i64 op) ∧ W1.cell? ⟨q12, 2, none⟩ = some (.int .i64 d) ∧ W1.cell? ⟨q12, 3, none⟩ = some (.int .i64 a2) ∧ W1.cell? ⟨q12, 4, none⟩ = some (.int .i64 b2) ∧ W1.cell? ⟨q12, 5, none⟩ = some (.int .i32 num) ∧ W1.cell? ⟨q12, 6, none⟩ = some (.string nm2) ∧ W1.cell? ⟨q12, 7, none⟩ = some (.slice Aa args.length ca)) := fun W1 hB1 => by
                have hi : InsBox W1 q12 ⟨⟨kd, op, d, a2, b2, num, nm2, args⟩, Aa, ca⟩ := by
                  rw [hq12]
                  exact (hB1.block _ (by simp)).trans (heap_alloc_new wr _)
                exact ⟨Lib.hid ⟨((Below.refl _ wr).alloc (Nat.le_refl _) _).trans (hB1.mono (by simp)), hi⟩, Lib.hid hi.cells⟩
              have HHAS := Lib.hid hhas
              have HPURE := Lib.hid hpure
              have HCS := Lib.hid hcs
              have HBB := Lib.hid (And.intro hbh hbp)
              have HSTEP := Lib.hid hstep
              have HQ12 := Lib.hid hq12
              have HARG := Lib.hid (And.intro hargw (And.intro hreg.1 hreg.2))
              have HNEXT := Lib.hid hnext
              have HTK := Lib.hid htk
              have HVC := Lib.hid hvc
              have HLL := Lib.hid hll
              have HPX := Lib.hid hp
              clear hhas hpure hcs hbh hbp hstep hargw hreg hnext htk hvc hq12 hA hgx helt hyk harg hbo hnx hy hst hll hlen9 hp
              rw [HTK.out]
              rw [← HTK.out]
              rcases HCS.out with ⟨hp, k2, ha⟩ | ⟨hp, k2, ha, hh⟩ | ⟨hp, k2, hh⟩ | ⟨hp, k2, ha, hh⟩ | ⟨hp, k2, k7, hh⟩ | ⟨hp, k7, hd, hh⟩ | ⟨hp, k7, hd, hh⟩ | ⟨hp, k7, hd, hh⟩ | ⟨hp, k7, k2⟩
              · subst hp
                have z1 : (kd == 2) = true := by rw [k2]; rfl
                have z2 : (a2 == d) = true := beq_iff_eq.2 ha
                have hgo : goesP ⟨kd, op, d, a2, b2, num, nm2, args⟩ st.S = true := by unfold goesP; rw [← HBB.out.2]; simp [k2, ha]
                have HT := Lib.hid (sw_goes hgo)
                clear hgo k2 ha
                go_wp2_with fail
                refine (HPURE.out _).mono ?_
                rintro e W1 ⟨rfl, hB1⟩
                rw [← HQ12.out]
                obtain ⟨HW1, HW1C⟩ := HSTEP.out W1 hB1
                obtain ⟨v0, v1, v2, v3, v4, v5, v6, v7⟩ := HW1C.out
                have vf := fun j => frozen_of_row W1 q12 j _ _ HW1.out.2
                clear hB1 HW1C
                go_wp2_with fail
                go_roundw
                case rel =>
                  exact RefL.next HPX.out (st := { st with t := true }) (by rw [HNEXT.out, HT.out]) (by simp) (HR.out.below_ hBc HW1.out.1)
                case measure => simp [intOf] <;> omega
              · subst hp hh
                have z1 : (kd == 2) = true := by rw [k2]; rfl
                have z2 : (a2 == d) = false := beq_eq_false_iff_ne.2 ha
                have hgo : goesP ⟨kd, op, d, a2, b2, num, nm2, args⟩ st.S = true := by unfold goesP; rw [← HBB.out.2, ← HBB.out.1]; rfl
                have HT := Lib.hid (sw_goes hgo)
                clear hgo k2 ha
                go_wp2_with fail
                refine (HPURE.out _).mono ?_
                rintro e W1 ⟨rfl, hB1⟩
                rw [← HQ12.out]
                obtain ⟨HW1, HW1C⟩ := HSTEP.out W1 hB1
                obtain ⟨v0, v1, v2, v3, v4, v5, v6, v7⟩ := HW1C.out
                have vf := fun j => frozen_of_row W1 q12 j _ _ HW1.out.2
                clear hB1 HW1C
                go_wp2_with fail
                refine (HHAS.out W1 (readsBelow HR.out.reads HW1.out.1)).mono ?_
                rintro e w' ⟨rfl, rfl⟩
                go_wp2_with fail
                go_roundw
                case rel =>
                  exact RefL.next HPX.out (st := { st with t := true }) (by rw [HNEXT.out, HT.out]) (by simp) (HR.out.below_ hBc HW1.out.1)
                case measure => simp [intOf] <;> omega
              · subst hp hh
                have z1 : (kd == 2) = false := beq_eq_false_iff_ne.2 k2
                have hgo : goesP ⟨kd, op, d, a2, b2, num, nm2, args⟩ st.S = true := by unfold goesP; rw [← HBB.out.2, ← HBB.out.1]; rfl
                have HT := Lib.hid (sw_goes hgo)
                clear hgo k2
                go_wp2_with fail
                refine (HPURE.out _).mono ?_
                rintro e W1 ⟨rfl, hB1⟩
                rw [← HQ12.out]
                obtain ⟨HW1, HW1C⟩ := HSTEP.out W1 hB1
                obtain ⟨v0, v1, v2, v3, v4, v5, v6, v7⟩ := HW1C.out
                have vf := fun j => frozen_of_row W1 q12 j _ _ HW1.out.2
                clear hB1 HW1C
                go_wp2_with fail
                refine (HHAS.out W1 (readsBelow HR.out.reads HW1.out.1)).mono ?_
                rintro e w' ⟨rfl, rfl⟩
                go_wp2_with fail
                go_roundw
                case rel =>
                  exact RefL.next HPX.out (st := { st with t := true }) (by rw [HNEXT.out, HT.out]) (by simp) (HR.out.below_ hBc HW1.out.1)
                case measure => simp [intOf] <;> omega
              · subst hp hh
                have z1 : (kd == 2) = true := by rw [k2]; rfl
                have z2 : (a2 == d) = false := beq_eq_false_iff_ne.2 ha
                have z3 : (kd == 7) = false := by rw [k2]; rfl
                have hgo : goesP ⟨kd, op, d, a2, b2, num, nm2, args⟩ st.S = false := by unfold goesP; rw [← HBB.out.1, ← HBB.out.2]; simp [ha]
                have hle : lessP ⟨kd, op, d, a2, b2, num, nm2, args⟩ st.S = false := by unfold lessP; simp [k2]
                clear k2 ha
                go_wp2_with fail
                refine (HPURE.out _).mono ?_
                rintro e W1 ⟨rfl, hB1⟩
                rw [← HQ12.out]
                obtain ⟨HW1, HW1C⟩ := HSTEP.out W1 hB1
                obtain ⟨v0, v1, v2, v3, v4, v5, v6, v7⟩ := HW1C.out
                have vf := fun j => frozen_of_row W1 q12 j _ _ HW1.out.2
                clear hB1 HW1C
                go_wp2_with fail
                refine (HHAS.out W1 (readsBelow HR.out.reads HW1.out.1)).mono ?_
                rintro e w' ⟨rfl, rfl⟩
                go_wp2_with fail
                have HT := Lib.hid (sw_stays hgo hle)
                obtain ⟨d', hd'⟩ : ∃ d' : Int, d' = d := ⟨_, rfl⟩
                obtain ⟨WT, hWT⟩ : ∃ WT, WT = W1 := ⟨_, rfl⟩
                obtain ⟨tt, htt⟩ : ∃ tt, tt = st.t := ⟨_, rfl⟩
                have HTc : Hid (swStep st ⟨kd, op, d, a2, b2, num, nm2, args⟩ = ⟨aheadP ⟨kd, op, d', a2, b2, num, nm2, args⟩ st.S, st.left ++ [⟨kd, op, d', a2, b2, num, nm2, args⟩], tt⟩) := Lib.hid (by rw [hd', htt]; exact HT.out)
                have HTC : Hid ((tk || st.t) = (tk || tt)) := Lib.hid (by rw [htt])
                have HBT : Hid (Below wr.heap.size wr WT) := Lib.hid (by rw [hWT]; exact HW1.out.1)
                have HQT : Hid (InsBox WT q12 ⟨⟨kd, op, d', a2, b2, num, nm2, args⟩, Aa, ca⟩) := Lib.hid (by rw [hd', hWT]; exact HW1.out.2)
                rw [← hWT, ← hd']
                clear hgo hle htt hd' HT hWT v0 v1 v2 v3 v4 v5 v6 v7 vf
                -- TAIL
                have hRT := HR.out.below_ hBc HBT.out
                have hat := HARG.out.1.ko (KO.of_below (b := false) HBT.out (Nat.le_trans hBc HR.out.below.size))
                have hlb := HR.out.bnd.len
                refine (ahead14_any ⟨kd, op, d', a2, b2, num, nm2, args⟩ HARG.out.2.2 Aa ca l A9 c9 WT (by omega) hat.reads hRT.reads).mono ?_
                rintro e W2 ⟨A8, c8, rfl, hb2, hr2, _⟩
                have hq2 : InsBox W2 q12 ⟨⟨kd, op, d', a2, b2, num, nm2, args⟩, Aa, ca⟩ := (hb2.block _ (lt_of_heap HQT.out)).trans HQT.out
                have hR2 := (hRT.below_ hBc hb2).list hr2 (HR.out.bnd.ahead (x := ⟨kd, op, d', a2, b2, num, nm2, args⟩) HARG.out.2.1) (S1 := aheadP ⟨kd, op, d', a2, b2, num, nm2, args⟩ st.S) (by rw [← HR.out.set]; exact funext fun n => listP_ahead ⟨kd, op, d', a2, b2, num, nm2, args⟩ HARG.out.2.1 l n)
                have ha2 := hat.ko (KO.of_below (b := false) hb2 (Nat.le_trans hBc hRT.below.size))
                obtain ⟨t0, t1, t2, t3, t4, t5, t6, t7⟩ := hq2.cells
                dsimp only at t0 t1 t2 t3 t4 t5 t6 t7
                obtain ⟨ys, h1, hrow, h3⟩ := hR2.row
                have hyl : ys.length = st.left.length := by have := congrArg List.length h1; rwa [List.length_map, List.length_reverse] at this
                have hal : Below W2.heap.size W2 (W2.alloc (.cells #[.int .i64 kd, .int .i64 op, .int .i64 d', .int .i64 a2, .int .i64 b2, .int .i32 num, .string nm2, .slice Aa args.length ca] 48)) := (Below.refl _ _).alloc (Nat.le_refl _) _
                have hcb := (hal.block q10 (lt_of_heap hR2.cbox)).trans hR2.cbox
                have c10 : (W2.alloc (.cells #[.int .i64 kd, .int .i64 op, .int .i64 d', .int .i64 a2, .int .i64 b2, .int .i32 num, .string nm2, .slice Aa args.length ca] 48)).cell? ⟨q10, 0, none⟩ = some (.slice Av st.left.length cv) := by rw [cell_of_row _ _ _ _ _ _ hcb, HVC.out]; rfl
                have hq10 : q10 < W2.heap.size := lt_of_heap hR2.cbox
                have hll := HLL.out
                rw [HVC.out, hyl] at hrow
                have HRD := Lib.hid (row_reads (hrow.alloc (.cells #[.int .i64 kd, .int .i64 op, .int .i64 d', .int .i64 a2, .int .i64 b2, .int .i32 num, .string nm2, .slice Aa args.length ca] 48)))
                have HYS := Lib.hid (And.intro hyl (And.intro h1 h3))
                have HR2 := Lib.hid hR2
                have HA2 := Lib.hid ha2
                have HCB := Lib.hid hcb
                clear hRT hat hb2 hr2 hq2 hR2 ha2 h1 hrow h3 hyl hal hcb e0 l0 l1 l2 l3 l4 l5 l6 l7 hlb
                go_wp2_with (at_builtin; refine wpList_append_any _ rfl _ _ 43 48 _ 8 88 rfl Try.underlying43 info_ins rfl (rowAt_new W2 ⟨⟨kd, op, d', a2, b2, num, nm2, args⟩, Aa, ca⟩) Av st.left.length cv (insRowC ys) (by rw [insRowC_len, HYS.out.1]) HRD.out (insRowC_plain ys) rfl rfl (by omega) (by unfold maxLen; omega) ?_; intro v' rr' W3 hR hC hN; obtain ⟨A5, c5, rfl, _⟩ := hR.shape; have hb3 := hC.heap HCB.out (fun e => by injection e with e; omega); have c103 := cell_of_row _ _ 0 _ _ _ hb3; have f103 := frozen_of_row W3 q10 0 _ _ hb3; have HR3 := Lib.hid hR; have HC3 := Lib.hid hC; have HN3 := Lib.hid hN; clear hR hC hN hb3 c10 t0 t1 t2 t3 t4 t5 t6 t7)
                go_roundw
                case rel =>
                  have hp := HR2.out.push (W' := W3) hBc HYS.out.2.1 HYS.out.2.2 (y := ⟨⟨kd, op, d', a2, b2, num, nm2, args⟩, Aa, ca⟩) HA2.out (nb := W2.heap.size) (Nat.le_refl _) (v' := .slice A5 (1 + st.left.length) c5) (rr' := rr') (n' := 1 + st.left.length) (by rw [List.length_cons, HYS.out.1]; omega) HR3.out ((((Chg.refl (fun k => k = W2.heap.size) W2).alloc _).trans HC3.out fun _ _ e => by injection e)) (nor_of HN3.out) HVC.out
                  exact RefL.next HPX.out (st := ⟨aheadP ⟨kd, op, d', a2, b2, num, nm2, args⟩ st.S, st.left ++ [⟨kd, op, d', a2, b2, num, nm2, args⟩], tt⟩) (by rw [HNEXT.out, HTc.out]) HTC.out hp
                case measure => simp [intOf] <;> omega
                -- /TAIL
              · subst hp hh
                have z1 : (kd == 2) = false := beq_eq_false_iff_ne.2 k2
                have z3 : (kd == 7) = false := beq_eq_false_iff_ne.2 k7
                have hgo : goesP ⟨kd, op, d, a2, b2, num, nm2, args⟩ st.S = false := by unfold goesP; rw [← HBB.out.1, ← HBB.out.2]; simp [k2]
                have hle : lessP ⟨kd, op, d, a2, b2, num, nm2, args⟩ st.S = false := by unfold lessP; simp [k7]
                clear k2 k7
                go_wp2_with fail
                refine (HPURE.out _).mono ?_
                rintro e W1 ⟨rfl, hB1⟩
                rw [← HQ12.out]
                obtain ⟨HW1, HW1C⟩ := HSTEP.out W1 hB1
                obtain ⟨v0, v1, v2, v3, v4, v5, v6, v7⟩ := HW1C.out
                have vf := fun j => frozen_of_row W1 q12 j _ _ HW1.out.2
                clear hB1 HW1C
                go_wp2_with fail
                refine (HHAS.out W1 (readsBelow HR.out.reads HW1.out.1)).mono ?_
                rintro e w' ⟨rfl, rfl⟩
                go_wp2_with fail
                have HT := Lib.hid (sw_stays hgo hle)
                obtain ⟨d', hd'⟩ : ∃ d' : Int, d' = d := ⟨_, rfl⟩
                obtain ⟨WT, hWT⟩ : ∃ WT, WT = W1 := ⟨_, rfl⟩
                obtain ⟨tt, htt⟩ : ∃ tt, tt = st.t := ⟨_, rfl⟩
                have HTc : Hid (swStep st ⟨kd, op, d, a2, b2, num, nm2, args⟩ = ⟨aheadP ⟨kd, op, d', a2, b2, num, nm2, args⟩ st.S, st.left ++ [⟨kd, op, d', a2, b2, num, nm2, args⟩], tt⟩) := Lib.hid (by rw [hd', htt]; exact HT.out)
                have HTC : Hid ((tk || st.t) = (tk || tt)) := Lib.hid (by rw [htt])
                have HBT : Hid (Below wr.heap.size wr WT) := Lib.hid (by rw [hWT]; exact HW1.out.1)
                have HQT : Hid (InsBox WT q12 ⟨⟨kd, op, d', a2, b2, num, nm2, args⟩, Aa, ca⟩) := Lib.hid (by rw [hd', hWT]; exact HW1.out.2)
                rw [← hWT, ← hd']
                clear hgo hle htt hd' HT hWT v0 v1 v2 v3 v4 v5 v6 v7 vf
                -- TAIL
                have hRT := HR.out.below_ hBc HBT.out
                have hat := HARG.out.1.ko (KO.of_below (b := false) HBT.out (Nat.le_trans hBc HR.out.below.size))
                have hlb := HR.out.bnd.len
                refine (ahead14_any ⟨kd, op, d', a2, b2, num, nm2, args⟩ HARG.out.2.2 Aa ca l A9 c9 WT (by omega) hat.reads hRT.reads).mono ?_
                rintro e W2 ⟨A8, c8, rfl, hb2, hr2, _⟩
                have hq2 : InsBox W2 q12 ⟨⟨kd, op, d', a2, b2, num, nm2, args⟩, Aa, ca⟩ := (hb2.block _ (lt_of_heap HQT.out)).trans HQT.out
                have hR2 := (hRT.below_ hBc hb2).list hr2 (HR.out.bnd.ahead (x := ⟨kd, op, d', a2, b2, num, nm2, args⟩) HARG.out.2.1) (S1 := aheadP ⟨kd, op, d', a2, b2, num, nm2, args⟩ st.S) (by rw [← HR.out.set]; exact funext fun n => listP_ahead ⟨kd, op, d', a2, b2, num, nm2, args⟩ HARG.out.2.1 l n)
                have ha2 := hat.ko (KO.of_below (b := false) hb2 (Nat.le_trans hBc hRT.below.size))
                obtain ⟨t0, t1, t2, t3, t4, t5, t6, t7⟩ := hq2.cells
                dsimp only at t0 t1 t2 t3 t4 t5 t6 t7
                obtain ⟨ys, h1, hrow, h3⟩ := hR2.row
                have hyl : ys.length = st.left.length := by have := congrArg List.length h1; rwa [List.length_map, List.length_reverse] at this
                have hal : Below W2.heap.size W2 (W2.alloc (.cells #[.int .i64 kd, .int .i64 op, .int .i64 d', .int .i64 a2, .int .i64 b2, .int .i32 num, .string nm2, .slice Aa args.length ca] 48)) := (Below.refl _ _).alloc (Nat.le_refl _) _
                have hcb := (hal.block q10 (lt_of_heap hR2.cbox)).trans hR2.cbox
                have c10 : (W2.alloc (.cells #[.int .i64 kd, .int .i64 op, .int .i64 d', .int .i64 a2, .int .i64 b2, .int .i32 num, .string nm2, .slice Aa args.length ca] 48)).cell? ⟨q10, 0, none⟩ = some (.slice Av st.left.length cv) := by rw [cell_of_row _ _ _ _ _ _ hcb, HVC.out]; rfl
                have hq10 : q10 < W2.heap.size := lt_of_heap hR2.cbox
                have hll := HLL.out
                rw [HVC.out, hyl] at hrow
                have HRD := Lib.hid (row_reads (hrow.alloc (.cells #[.int .i64 kd, .int .i64 op, .int .i64 d', .int .i64 a2, .int .i64 b2, .int .i32 num, .string nm2, .slice Aa args.length ca] 48)))
                have HYS := Lib.hid (And.intro hyl (And.intro h1 h3))
                have HR2 := Lib.hid hR2
                have HA2 := Lib.hid ha2
                have HCB := Lib.hid hcb
                clear hRT hat hb2 hr2 hq2 hR2 ha2 h1 hrow h3 hyl hal hcb e0 l0 l1 l2 l3 l4 l5 l6 l7 hlb
                go_wp2_with (at_builtin; refine wpList_append_any _ rfl _ _ 43 48 _ 8 88 rfl Try.underlying43 info_ins rfl (rowAt_new W2 ⟨⟨kd, op, d', a2, b2, num, nm2, args⟩, Aa, ca⟩) Av st.left.length cv (insRowC ys) (by rw [insRowC_len, HYS.out.1]) HRD.out (insRowC_plain ys) rfl rfl (by omega) (by unfold maxLen; omega) ?_; intro v' rr' W3 hR hC hN; obtain ⟨A5, c5, rfl, _⟩ := hR.shape; have hb3 := hC.heap HCB.out (fun e => by injection e with e; omega); have c103 := cell_of_row _ _ 0 _ _ _ hb3; have f103 := frozen_of_row W3 q10 0 _ _ hb3; have HR3 := Lib.hid hR; have HC3 := Lib.hid hC; have HN3 := Lib.hid hN; clear hR hC hN hb3 c10 t0 t1 t2 t3 t4 t5 t6 t7)
                go_roundw
                case rel =>
                  have hp := HR2.out.push (W' := W3) hBc HYS.out.2.1 HYS.out.2.2 (y := ⟨⟨kd, op, d', a2, b2, num, nm2, args⟩, Aa, ca⟩) HA2.out (nb := W2.heap.size) (Nat.le_refl _) (v' := .slice A5 (1 + st.left.length) c5) (rr' := rr') (n' := 1 + st.left.length) (by rw [List.length_cons, HYS.out.1]; omega) HR3.out ((((Chg.refl (fun k => k = W2.heap.size) W2).alloc _).trans HC3.out fun _ _ e => by injection e)) (nor_of HN3.out) HVC.out
                  exact RefL.next HPX.out (st := ⟨aheadP ⟨kd, op, d', a2, b2, num, nm2, args⟩ st.S, st.left ++ [⟨kd, op, d', a2, b2, num, nm2, args⟩], tt⟩) (by rw [HNEXT.out, HTc.out]) HTC.out hp
                case measure => simp [intOf] <;> omega
                -- /TAIL
              · subst hp hh
                have z1 : (kd == 2) = false := by rw [k7]; rfl
                have z3 : (kd == 7) = true := by rw [k7]; rfl
                have hgo : goesP ⟨kd, op, d, a2, b2, num, nm2, args⟩ st.S = false := by unfold goesP; rw [← HBB.out.2]; rfl
                have hle : lessP ⟨kd, op, d, a2, b2, num, nm2, args⟩ st.S = true := by unfold lessP; rw [← HBB.out.1]; simp [hd, k7]
                clear k7
                go_wp2_with fail
                refine (HPURE.out _).mono ?_
                rintro e W1 ⟨rfl, hB1⟩
                rw [← HQ12.out]
                obtain ⟨HW1, HW1C⟩ := HSTEP.out W1 hB1
                obtain ⟨v0, v1, v2, v3, v4, v5, v6, v7⟩ := HW1C.out
                have vf := fun j => frozen_of_row W1 q12 j _ _ HW1.out.2
                clear hB1 HW1C
                go_wp2_with fail
                refine (HHAS.out W1 (readsBelow HR.out.reads HW1.out.1)).mono ?_
                rintro e w' ⟨rfl, rfl⟩
                go_wp2_with fail
                have HT := Lib.hid (sw_less hgo hle)
                obtain ⟨d', hd'⟩ : ∃ d' : Int, d' = -1 := ⟨_, rfl⟩
                obtain ⟨WT, hWT⟩ : ∃ WT, WT = W1.setCell ⟨q12, 2, none⟩ (.int .i64 (-1)) := ⟨_, rfl⟩
                obtain ⟨tt, htt⟩ : ∃ tt, tt = true := ⟨_, rfl⟩
                have HTc : Hid (swStep st ⟨kd, op, d, a2, b2, num, nm2, args⟩ = ⟨aheadP ⟨kd, op, d', a2, b2, num, nm2, args⟩ st.S, st.left ++ [⟨kd, op, d', a2, b2, num, nm2, args⟩], tt⟩) := Lib.hid (by rw [hd', htt]; exact HT.out)
                have HTC : Hid (true = (tk || tt)) := Lib.hid (by rw [htt]; simp)
                have HBT : Hid (Below wr.heap.size wr WT) := Lib.hid (by rw [hWT]; exact HW1.out.1.trans ((Chg.store W1 q12 2 _).below HW1.out.1.size fun i e => by rw [e, HQ12.out]; exact Nat.le_refl _))
                have HQT : Hid (InsBox WT q12 ⟨⟨kd, op, d', a2, b2, num, nm2, args⟩, Aa, ca⟩) := Lib.hid (by rw [hd', hWT]; exact heap_setCell_same W1 q12 2 _ 48 (.int .i64 (-1)) HW1.out.2)
                rw [← hWT, ← hd']
                clear hgo hle htt hd' HT hWT v0 v1 v2 v3 v4 v5 v6 v7 vf
                -- TAIL
                have hRT := HR.out.below_ hBc HBT.out
                have hat := HARG.out.1.ko (KO.of_below (b := false) HBT.out (Nat.le_trans hBc HR.out.below.size))
                have hlb := HR.out.bnd.len
                refine (ahead14_any ⟨kd, op, d', a2, b2, num, nm2, args⟩ HARG.out.2.2 Aa ca l A9 c9 WT (by omega) hat.reads hRT.reads).mono ?_
                rintro e W2 ⟨A8, c8, rfl, hb2, hr2, _⟩
                have hq2 : InsBox W2 q12 ⟨⟨kd, op, d', a2, b2, num, nm2, args⟩, Aa, ca⟩ := (hb2.block _ (lt_of_heap HQT.out)).trans HQT.out
                have hR2 := (hRT.below_ hBc hb2).list hr2 (HR.out.bnd.ahead (x := ⟨kd, op, d', a2, b2, num, nm2, args⟩) HARG.out.2.1) (S1 := aheadP ⟨kd, op, d', a2, b2, num, nm2, args⟩ st.S) (by rw [← HR.out.set]; exact funext fun n => listP_ahead ⟨kd, op, d', a2, b2, num, nm2, args⟩ HARG.out.2.1 l n)
                have ha2 := hat.ko (KO.of_below (b := false) hb2 (Nat.le_trans hBc hRT.below.size))
                obtain ⟨t0, t1, t2, t3, t4, t5, t6, t7⟩ := hq2.cells
                dsimp only at t0 t1 t2 t3 t4 t5 t6 t7
                obtain ⟨ys, h1, hrow, h3⟩ := hR2.row
                have hyl : ys.length = st.left.length := by have := congrArg List.length h1; rwa [List.length_map, List.length_reverse] at this
                have hal : Below W2.heap.size W2 (W2.alloc (.cells #[.int .i64 kd, .int .i64 op, .int .i64 d', .int .i64 a2, .int .i64 b2, .int .i32 num, .string nm2, .slice Aa args.length ca] 48)) := (Below.refl _ _).alloc (Nat.le_refl _) _
                have hcb := (hal.block q10 (lt_of_heap hR2.cbox)).trans hR2.cbox
                have c10 : (W2.alloc (.cells #[.int .i64 kd, .int .i64 op, .int .i64 d', .int .i64 a2, .int .i64 b2, .int .i32 num, .string nm2, .slice Aa args.length ca] 48)).cell? ⟨q10, 0, none⟩ = some (.slice Av st.left.length cv) := by rw [cell_of_row _ _ _ _ _ _ hcb, HVC.out]; rfl
                have hq10 : q10 < W2.heap.size := lt_of_heap hR2.cbox
                have hll := HLL.out
                rw [HVC.out, hyl] at hrow
                have HRD := Lib.hid (row_reads (hrow.alloc (.cells #[.int .i64 kd, .int .i64 op, .int .i64 d', .int .i64 a2, .int .i64 b2, .int .i32 num, .string nm2, .slice Aa args.length ca] 48)))
                have HYS := Lib.hid (And.intro hyl (And.intro h1 h3))
                have HR2 := Lib.hid hR2
                have HA2 := Lib.hid ha2
                have HCB := Lib.hid hcb
                clear hRT hat hb2 hr2 hq2 hR2 ha2 h1 hrow h3 hyl hal hcb e0 l0 l1 l2 l3 l4 l5 l6 l7 hlb
                go_wp2_with (at_builtin; refine wpList_append_any _ rfl _ _ 43 48 _ 8 88 rfl Try.underlying43 info_ins rfl (rowAt_new W2 ⟨⟨kd, op, d', a2, b2, num, nm2, args⟩, Aa, ca⟩) Av st.left.length cv (insRowC ys) (by rw [insRowC_len, HYS.out.1]) HRD.out (insRowC_plain ys) rfl rfl (by omega) (by unfold maxLen; omega) ?_; intro v' rr' W3 hR hC hN; obtain ⟨A5, c5, rfl, _⟩ := hR.shape; have hb3 := hC.heap HCB.out (fun e => by injection e with e; omega); have c103 := cell_of_row _ _ 0 _ _ _ hb3; have f103 := frozen_of_row W3 q10 0 _ _ hb3; have HR3 := Lib.hid hR; have HC3 := Lib.hid hC; have HN3 := Lib.hid hN; clear hR hC hN hb3 c10 t0 t1 t2 t3 t4 t5 t6 t7)
                go_roundw
                case rel =>
                  have hp := HR2.out.push (W' := W3) hBc HYS.out.2.1 HYS.out.2.2 (y := ⟨⟨kd, op, d', a2, b2, num, nm2, args⟩, Aa, ca⟩) HA2.out (nb := W2.heap.size) (Nat.le_refl _) (v' := .slice A5 (1 + st.left.length) c5) (rr' := rr') (n' := 1 + st.left.length) (by rw [List.length_cons, HYS.out.1]; omega) HR3.out ((((Chg.refl (fun k => k = W2.heap.size) W2).alloc _).trans HC3.out fun _ _ e => by injection e)) (nor_of HN3.out) HVC.out
                  exact RefL.next HPX.out (st := ⟨aheadP ⟨kd, op, d', a2, b2, num, nm2, args⟩ st.S, st.left ++ [⟨kd, op, d', a2, b2, num, nm2, args⟩], tt⟩) (by rw [HNEXT.out, HTc.out]) HTC.out hp
                case measure => simp [intOf] <;> omega
                -- /TAIL
              · subst hp hh
                have z1 : (kd == 2) = false := by rw [k7]; rfl
                have z3 : (kd == 7) = true := by rw [k7]; rfl
                have hgo : goesP ⟨kd, op, d, a2, b2, num, nm2, args⟩ st.S = false := by unfold goesP; rw [← HBB.out.2]; rfl
                have hle : lessP ⟨kd, op, d, a2, b2, num, nm2, args⟩ st.S = false := by unfold lessP; rw [← HBB.out.1]; simp
                clear k7
                go_wp2_with fail
                refine (HPURE.out _).mono ?_
                rintro e W1 ⟨rfl, hB1⟩
                rw [← HQ12.out]
                obtain ⟨HW1, HW1C⟩ := HSTEP.out W1 hB1
                obtain ⟨v0, v1, v2, v3, v4, v5, v6, v7⟩ := HW1C.out
                have vf := fun j => frozen_of_row W1 q12 j _ _ HW1.out.2
                clear hB1 HW1C
                go_wp2_with fail
                refine (HHAS.out W1 (readsBelow HR.out.reads HW1.out.1)).mono ?_
                rintro e w' ⟨rfl, rfl⟩
                go_wp2_with fail
                have HT := Lib.hid (sw_stays hgo hle)
                obtain ⟨d', hd'⟩ : ∃ d' : Int, d' = d := ⟨_, rfl⟩
                obtain ⟨WT, hWT⟩ : ∃ WT, WT = W1 := ⟨_, rfl⟩
                obtain ⟨tt, htt⟩ : ∃ tt, tt = st.t := ⟨_, rfl⟩
                have HTc : Hid (swStep st ⟨kd, op, d, a2, b2, num, nm2, args⟩ = ⟨aheadP ⟨kd, op, d', a2, b2, num, nm2, args⟩ st.S, st.left ++ [⟨kd, op, d', a2, b2, num, nm2, args⟩], tt⟩) := Lib.hid (by rw [hd', htt]; exact HT.out)
                have HTC : Hid ((tk || st.t) = (tk || tt)) := Lib.hid (by rw [htt])
                have HBT : Hid (Below wr.heap.size wr WT) := Lib.hid (by rw [hWT]; exact HW1.out.1)
                have HQT : Hid (InsBox WT q12 ⟨⟨kd, op, d', a2, b2, num, nm2, args⟩, Aa, ca⟩) := Lib.hid (by rw [hd', hWT]; exact HW1.out.2)
                rw [← hWT, ← hd']
                clear hgo hle htt hd' HT hWT v0 v1 v2 v3 v4 v5 v6 v7 vf
                -- TAIL
                have hRT := HR.out.below_ hBc HBT.out
                have hat := HARG.out.1.ko (KO.of_below (b := false) HBT.out (Nat.le_trans hBc HR.out.below.size))
                have hlb := HR.out.bnd.len
                refine (ahead14_any ⟨kd, op, d', a2, b2, num, nm2, args⟩ HARG.out.2.2 Aa ca l A9 c9 WT (by omega) hat.reads hRT.reads).mono ?_
                rintro e W2 ⟨A8, c8, rfl, hb2, hr2, _⟩
                have hq2 : InsBox W2 q12 ⟨⟨kd, op, d', a2, b2, num, nm2, args⟩, Aa, ca⟩ := (hb2.block _ (lt_of_heap HQT.out)).trans HQT.out
                have hR2 := (hRT.below_ hBc hb2).list hr2 (HR.out.bnd.ahead (x := ⟨kd, op, d', a2, b2, num, nm2, args⟩) HARG.out.2.1) (S1 := aheadP ⟨kd, op, d', a2, b2, num, nm2, args⟩ st.S) (by rw [← HR.out.set]; exact funext fun n => listP_ahead ⟨kd, op, d', a2, b2, num, nm2, args⟩ HARG.out.2.1 l n)
                have ha2 := hat.ko (KO.of_below (b := false) hb2 (Nat.le_trans hBc hRT.below.size))
                obtain ⟨t0, t1, t2, t3, t4, t5, t6, t7⟩ := hq2.cells
                dsimp only at t0 t1 t2 t3 t4 t5 t6 t7
                obtain ⟨ys, h1, hrow, h3⟩ := hR2.row
                have hyl : ys.length = st.left.length := by have := congrArg List.length h1; rwa [List.length_map, List.length_reverse] at this
                have hal : Below W2.heap.size W2 (W2.alloc (.cells #[.int .i64 kd, .int .i64 op, .int .i64 d', .int .i64 a2, .int .i64 b2, .int .i32 num, .string nm2, .slice Aa args.length ca] 48)) := (Below.refl _ _).alloc (Nat.le_refl _) _
                have hcb := (hal.block q10 (lt_of_heap hR2.cbox)).trans hR2.cbox
                have c10 : (W2.alloc (.cells #[.int .i64 kd, .int .i64 op, .int .i64 d', .int .i64 a2, .int .i64 b2, .int .i32 num, .string nm2, .slice Aa args.length ca] 48)).cell? ⟨q10, 0, none⟩ = some (.slice Av st.left.length cv) := by rw [cell_of_row _ _ _ _ _ _ hcb, HVC.out]; rfl
                have hq10 : q10 < W2.heap.size := lt_of_heap hR2.cbox
                have hll := HLL.out
                rw [HVC.out, hyl] at hrow
                have HRD := Lib.hid (row_reads (hrow.alloc (.cells #[.int .i64 kd, .int .i64 op, .int .i64 d', .int .i64 a2, .int .i64 b2, .int .i32 num, .string nm2, .slice Aa args.length ca] 48)))
                have HYS := Lib.hid (And.intro hyl (And.intro h1 h3))
                have HR2 := Lib.hid hR2
                have HA2 := Lib.hid ha2
                have HCB := Lib.hid hcb
                clear hRT hat hb2 hr2 hq2 hR2 ha2 h1 hrow h3 hyl hal hcb e0 l0 l1 l2 l3 l4 l5 l6 l7 hlb
                go_wp2_with (at_builtin; refine wpList_append_any _ rfl _ _ 43 48 _ 8 88 rfl Try.underlying43 info_ins rfl (rowAt_new W2 ⟨⟨kd, op, d', a2, b2, num, nm2, args⟩, Aa, ca⟩) Av st.left.length cv (insRowC ys) (by rw [insRowC_len, HYS.out.1]) HRD.out (insRowC_plain ys) rfl rfl (by omega) (by unfold maxLen; omega) ?_; intro v' rr' W3 hR hC hN; obtain ⟨A5, c5, rfl, _⟩ := hR.shape; have hb3 := hC.heap HCB.out (fun e => by injection e with e; omega); have c103 := cell_of_row _ _ 0 _ _ _ hb3; have f103 := frozen_of_row W3 q10 0 _ _ hb3; have HR3 := Lib.hid hR; have HC3 := Lib.hid hC; have HN3 := Lib.hid hN; clear hR hC hN hb3 c10 t0 t1 t2 t3 t4 t5 t6 t7)
                go_roundw
                case rel =>
                  have hp := HR2.out.push (W' := W3) hBc HYS.out.2.1 HYS.out.2.2 (y := ⟨⟨kd, op, d', a2, b2, num, nm2, args⟩, Aa, ca⟩) HA2.out (nb := W2.heap.size) (Nat.le_refl _) (v' := .slice A5 (1 + st.left.length) c5) (rr' := rr') (n' := 1 + st.left.length) (by rw [List.length_cons, HYS.out.1]; omega) HR3.out ((((Chg.refl (fun k => k = W2.heap.size) W2).alloc _).trans HC3.out fun _ _ e => by injection e)) (nor_of HN3.out) HVC.out
                  exact RefL.next HPX.out (st := ⟨aheadP ⟨kd, op, d', a2, b2, num, nm2, args⟩ st.S, st.left ++ [⟨kd, op, d', a2, b2, num, nm2, args⟩], tt⟩) (by rw [HNEXT.out, HTc.out]) HTC.out hp
                case measure => simp [intOf] <;> omega
                -- /TAIL
              · subst hp hh
                have z1 : (kd == 2) = false := by rw [k7]; rfl
                have z3 : (kd == 7) = true := by rw [k7]; rfl
                have z4 : decide ((0 : Int) ≤ d) = false := decide_eq_false (by omega)
                have hgo : goesP ⟨kd, op, d, a2, b2, num, nm2, args⟩ st.S = false := by unfold goesP; rw [← HBB.out.2]; rfl
                have hle : lessP ⟨kd, op, d, a2, b2, num, nm2, args⟩ st.S = false := by unfold lessP; rw [decide_eq_false (show ¬ (0 : Int) ≤ d by omega)]; simp
                clear k7
                go_wp2_with fail
                refine (HPURE.out _).mono ?_
                rintro e W1 ⟨rfl, hB1⟩
                rw [← HQ12.out]
                obtain ⟨HW1, HW1C⟩ := HSTEP.out W1 hB1
                obtain ⟨v0, v1, v2, v3, v4, v5, v6, v7⟩ := HW1C.out
                have vf := fun j => frozen_of_row W1 q12 j _ _ HW1.out.2
                clear hB1 HW1C
                go_wp2_with fail
                have HT := Lib.hid (sw_stays hgo hle)
                obtain ⟨d', hd'⟩ : ∃ d' : Int, d' = d := ⟨_, rfl⟩
                obtain ⟨WT, hWT⟩ : ∃ WT, WT = W1 := ⟨_, rfl⟩
                obtain ⟨tt, htt⟩ : ∃ tt, tt = st.t := ⟨_, rfl⟩
                have HTc : Hid (swStep st ⟨kd, op, d, a2, b2, num, nm2, args⟩ = ⟨aheadP ⟨kd, op, d', a2, b2, num, nm2, args⟩ st.S, st.left ++ [⟨kd, op, d', a2, b2, num, nm2, args⟩], tt⟩) := Lib.hid (by rw [hd', htt]; exact HT.out)
                have HTC : Hid ((tk || st.t) = (tk || tt)) := Lib.hid (by rw [htt])
                have HBT : Hid (Below wr.heap.size wr WT) := Lib.hid (by rw [hWT]; exact HW1.out.1)
                have HQT : Hid (InsBox WT q12 ⟨⟨kd, op, d', a2, b2, num, nm2, args⟩, Aa, ca⟩) := Lib.hid (by rw [hd', hWT]; exact HW1.out.2)
                rw [← hWT, ← hd']
                clear hgo hle htt hd' HT hWT v0 v1 v2 v3 v4 v5 v6 v7 vf
                -- TAIL
                have hRT := HR.out.below_ hBc HBT.out
                have hat := HARG.out.1.ko (KO.of_below (b := false) HBT.out (Nat.le_trans hBc HR.out.below.size))
                have hlb := HR.out.bnd.len
                refine (ahead14_any ⟨kd, op, d', a2, b2, num, nm2, args⟩ HARG.out.2.2 Aa ca l A9 c9 WT (by omega) hat.reads hRT.reads).mono ?_
                rintro e W2 ⟨A8, c8, rfl, hb2, hr2, _⟩
                have hq2 : InsBox W2 q12 ⟨⟨kd, op, d', a2, b2, num, nm2, args⟩, Aa, ca⟩ := (hb2.block _ (lt_of_heap HQT.out)).trans HQT.out
                have hR2 := (hRT.below_ hBc hb2).list hr2 (HR.out.bnd.ahead (x := ⟨kd, op, d', a2, b2, num, nm2, args⟩) HARG.out.2.1) (S1 := aheadP ⟨kd, op, d', a2, b2, num, nm2, args⟩ st.S) (by rw [← HR.out.set]; exact funext fun n => listP_ahead ⟨kd, op, d', a2, b2, num, nm2, args⟩ HARG.out.2.1 l n)
                have ha2 := hat.ko (KO.of_below (b := false) hb2 (Nat.le_trans hBc hRT.below.size))
                obtain ⟨t0, t1, t2, t3, t4, t5, t6, t7⟩ := hq2.cells
                dsimp only at t0 t1 t2 t3 t4 t5 t6 t7
                obtain ⟨ys, h1, hrow, h3⟩ := hR2.row
                have hyl : ys.length = st.left.length := by have := congrArg List.length h1; rwa [List.length_map, List.length_reverse] at this
                have hal : Below W2.heap.size W2 (W2.alloc (.cells #[.int .i64 kd, .int .i64 op, .int .i64 d', .int .i64 a2, .int .i64 b2, .int .i32 num, .string nm2, .slice Aa args.length ca] 48)) := (Below.refl _ _).alloc (Nat.le_refl _) _
                have hcb := (hal.block q10 (lt_of_heap hR2.cbox)).trans hR2.cbox
                have c10 : (W2.alloc (.cells #[.int .i64 kd, .int .i64 op, .int .i64 d', .int .i64 a2, .int .i64 b2, .int .i32 num, .string nm2, .slice Aa args.length ca] 48)).cell? ⟨q10, 0, none⟩ = some (.slice Av st.left.length cv) := by rw [cell_of_row _ _ _ _ _ _ hcb, HVC.out]; rfl
                have hq10 : q10 < W2.heap.size := lt_of_heap hR2.cbox
                have hll := HLL.out
                rw [HVC.out, hyl] at hrow
                have HRD := Lib.hid (row_reads (hrow.alloc (.cells #[.int .i64 kd, .int .i64 op, .int .i64 d', .int .i64 a2, .int .i64 b2, .int .i32 num, .string nm2, .slice Aa args.length ca] 48)))
                have HYS := Lib.hid (And.intro hyl (And.intro h1 h3))
                have HR2 := Lib.hid hR2
                have HA2 := Lib.hid ha2
                have HCB := Lib.hid hcb
                clear hRT hat hb2 hr2 hq2 hR2 ha2 h1 hrow h3 hyl hal hcb e0 l0 l1 l2 l3 l4 l5 l6 l7 hlb
                go_wp2_with (at_builtin; refine wpList_append_any _ rfl _ _ 43 48 _ 8 88 rfl Try.underlying43 info_ins rfl (rowAt_new W2 ⟨⟨kd, op, d', a2, b2, num, nm2, args⟩, Aa, ca⟩) Av st.left.length cv (insRowC ys) (by rw [insRowC_len, HYS.out.1]) HRD.out (insRowC_plain ys) rfl rfl (by omega) (by unfold maxLen; omega) ?_; intro v' rr' W3 hR hC hN; obtain ⟨A5, c5, rfl, _⟩ := hR.shape; have hb3 := hC.heap HCB.out (fun e => by injection e with e; omega); have c103 := cell_of_row _ _ 0 _ _ _ hb3; have f103 := frozen_of_row W3 q10 0 _ _ hb3; have HR3 := Lib.hid hR; have HC3 := Lib.hid hC; have HN3 := Lib.hid hN; clear hR hC hN hb3 c10 t0 t1 t2 t3 t4 t5 t6 t7)
                go_roundw
                case rel =>
                  have hp := HR2.out.push (W' := W3) hBc HYS.out.2.1 HYS.out.2.2 (y := ⟨⟨kd, op, d', a2, b2, num, nm2, args⟩, Aa, ca⟩) HA2.out (nb := W2.heap.size) (Nat.le_refl _) (v' := .slice A5 (1 + st.left.length) c5) (rr' := rr') (n' := 1 + st.left.length) (by rw [List.length_cons, HYS.out.1]; omega) HR3.out ((((Chg.refl (fun k => k = W2.heap.size) W2).alloc _).trans HC3.out fun _ _ e => by injection e)) (nor_of HN3.out) HVC.out
                  exact RefL.next HPX.out (st := ⟨aheadP ⟨kd, op, d', a2, b2, num, nm2, args⟩ st.S, st.left ++ [⟨kd, op, d', a2, b2, num, nm2, args⟩], tt⟩) (by rw [HNEXT.out, HTc.out]) HTC.out hp
                case measure => simp [intOf] <;> omega
                -- /TAIL
              · subst hp
                have z1 : (kd == 2) = false := beq_eq_false_iff_ne.2 k2
                have z3 : (kd == 7) = false := beq_eq_false_iff_ne.2 k7
                have hgo : goesP ⟨kd, op, d, a2, b2, num, nm2, args⟩ st.S = false := by unfold goesP; rw [← HBB.out.2]; rfl
                have hle : lessP ⟨kd, op, d, a2, b2, num, nm2, args⟩ st.S = false := by unfold lessP; simp [k7]
                clear k7 k2
                go_wp2_with fail
                refine (HPURE.out _).mono ?_
                rintro e W1 ⟨rfl, hB1⟩
                rw [← HQ12.out]
                obtain ⟨HW1, HW1C⟩ := HSTEP.out W1 hB1
                obtain ⟨v0, v1, v2, v3, v4, v5, v6, v7⟩ := HW1C.out
                have vf := fun j => frozen_of_row W1 q12 j _ _ HW1.out.2
                clear hB1 HW1C
                go_wp2_with fail
                have HT := Lib.hid (sw_stays hgo hle)
                obtain ⟨d', hd'⟩ : ∃ d' : Int, d' = d := ⟨_, rfl⟩
                obtain ⟨WT, hWT⟩ : ∃ WT, WT = W1 := ⟨_, rfl⟩
                obtain ⟨tt, htt⟩ : ∃ tt, tt = st.t := ⟨_, rfl⟩
                have HTc : Hid (swStep st ⟨kd, op, d, a2, b2, num, nm2, args⟩ = ⟨aheadP ⟨kd, op, d', a2, b2, num, nm2, args⟩ st.S, st.left ++ [⟨kd, op, d', a2, b2, num, nm2, args⟩], tt⟩) := Lib.hid (by rw [hd', htt]; exact HT.out)
                have HTC : Hid ((tk || st.t) = (tk || tt)) := Lib.hid (by rw [htt])
                have HBT : Hid (Below wr.heap.size wr WT) := Lib.hid (by rw [hWT]; exact HW1.out.1)
                have HQT : Hid (InsBox WT q12 ⟨⟨kd, op, d', a2, b2, num, nm2, args⟩, Aa, ca⟩) := Lib.hid (by rw [hd', hWT]; exact HW1.out.2)
                rw [← hWT, ← hd']
                clear hgo hle htt hd' HT hWT v0 v1 v2 v3 v4 v5 v6 v7 vf
                -- TAIL
                have hRT := HR.out.below_ hBc HBT.out
                have hat := HARG.out.1.ko (KO.of_below (b := false) HBT.out (Nat.le_trans hBc HR.out.below.size))
                have hlb := HR.out.bnd.len
                refine (ahead14_any ⟨kd, op, d', a2, b2, num, nm2, args⟩ HARG.out.2.2 Aa ca l A9 c9 WT (by omega) hat.reads hRT.reads).mono ?_
                rintro e W2 ⟨A8, c8, rfl, hb2, hr2, _⟩
                have hq2 : InsBox W2 q12 ⟨⟨kd, op, d', a2, b2, num, nm2, args⟩, Aa, ca⟩ := (hb2.block _ (lt_of_heap HQT.out)).trans HQT.out
                have hR2 := (hRT.below_ hBc hb2).list hr2 (HR.out.bnd.ahead (x := ⟨kd, op, d', a2, b2, num, nm2, args⟩) HARG.out.2.1) (S1 := aheadP ⟨kd, op, d', a2, b2, num, nm2, args⟩ st.S) (by rw [← HR.out.set]; exact funext fun n => listP_ahead ⟨kd, op, d', a2, b2, num, nm2, args⟩ HARG.out.2.1 l n)
                have ha2 := hat.ko (KO.of_below (b := false) hb2 (Nat.le_trans hBc hRT.below.size))
                obtain ⟨t0, t1, t2, t3, t4, t5, t6, t7⟩ := hq2.cells
                dsimp only at t0 t1 t2 t3 t4 t5 t6 t7
                obtain ⟨ys, h1, hrow, h3⟩ := hR2.row
                have hyl : ys.length = st.left.length := by have := congrArg List.length h1; rwa [List.length_map, List.length_reverse] at this
                have hal : Below W2.heap.size W2 (W2.alloc (.cells #[.int .i64 kd, .int .i64 op, .int .i64 d', .int .i64 a2, .int .i64 b2, .int .i32 num, .string nm2, .slice Aa args.length ca] 48)) := (Below.refl _ _).alloc (Nat.le_refl _) _
                have hcb := (hal.block q10 (lt_of_heap hR2.cbox)).trans hR2.cbox
                have c10 : (W2.alloc (.cells #[.int .i64 kd, .int .i64 op, .int .i64 d', .int .i64 a2, .int .i64 b2, .int .i32 num, .string nm2, .slice Aa args.length ca] 48)).cell? ⟨q10, 0, none⟩ = some (.slice Av st.left.length cv) := by rw [cell_of_row _ _ _ _ _ _ hcb, HVC.out]; rfl
                have hq10 : q10 < W2.heap.size := lt_of_heap hR2.cbox
                have hll := HLL.out
                rw [HVC.out, hyl] at hrow
                have HRD := Lib.hid (row_reads (hrow.alloc (.cells #[.int .i64 kd, .int .i64 op, .int .i64 d', .int .i64 a2, .int .i64 b2, .int .i32 num, .string nm2, .slice Aa args.length ca] 48)))
                have HYS := Lib.hid (And.intro hyl (And.intro h1 h3))
                have HR2 := Lib.hid hR2
                have HA2 := Lib.hid ha2
                have HCB := Lib.hid hcb
                clear hRT hat hb2 hr2 hq2 hR2 ha2 h1 hrow h3 hyl hal hcb e0 l0 l1 l2 l3 l4 l5 l6 l7 hlb
                go_wp2_with (at_builtin; refine wpList_append_any _ rfl _ _ 43 48 _ 8 88 rfl Try.underlying43 info_ins rfl (rowAt_new W2 ⟨⟨kd, op, d', a2, b2, num, nm2, args⟩, Aa, ca⟩) Av st.left.length cv (insRowC ys) (by rw [insRowC_len, HYS.out.1]) HRD.out (insRowC_plain ys) rfl rfl (by omega) (by unfold maxLen; omega) ?_; intro v' rr' W3 hR hC hN; obtain ⟨A5, c5, rfl, _⟩ := hR.shape; have hb3 := hC.heap HCB.out (fun e => by injection e with e; omega); have c103 := cell_of_row _ _ 0 _ _ _ hb3; have f103 := frozen_of_row W3 q10 0 _ _ hb3; have HR3 := Lib.hid hR; have HC3 := Lib.hid hC; have HN3 := Lib.hid hN; clear hR hC hN hb3 c10 t0 t1 t2 t3 t4 t5 t6 t7)
                go_roundw
                case rel =>
                  have hp := HR2.out.push (W' := W3) hBc HYS.out.2.1 HYS.out.2.2 (y := ⟨⟨kd, op, d', a2, b2, num, nm2, args⟩, Aa, ca⟩) HA2.out (nb := W2.heap.size) (Nat.le_refl _) (v' := .slice A5 (1 + st.left.length) c5) (rr' := rr') (n' := 1 + st.left.length) (by rw [List.length_cons, HYS.out.1]; omega) HR3.out ((((Chg.refl (fun k => k = W2.heap.size) W2).alloc _).trans HC3.out fun _ _ e => by injection e)) (nor_of HN3.out) HVC.out
                  exact RefL.next HPX.out (st := ⟨aheadP ⟨kd, op, d', a2, b2, num, nm2, args⟩ st.S, st.left ++ [⟨kd, op, d', a2, b2, num, nm2, args⟩], tt⟩) (by rw [HNEXT.out, HTc.out]) HTC.out hp
                case measure => simp [intOf] <;> omega
                -- /TAIL
            · obtain ⟨st, hst⟩ : ∃ st, st = swRun x.k (O k) (x.k.ins.reverse.take m') := ⟨_, rfl⟩
              rw [← hst] at HR hvc ⊢
              rw [hp, List.take_of_length_le (by rw [List.length_reverse]; exact Nat.le_refl _)] at hst
              obtain ⟨hsw, hst2⟩ := swBlk_left hst
              have hbc : Below wm.heap.size wm wr := HWA.out.2.2.trans (HR.out.below.mono HWA.out.2.2.size)
              have hB2 := HB.out.1.below_ hBW hbc
              have hbn := HB.out.2.below hbc
              obtain ⟨y3, hy3⟩ : ∃ y3, y3 = v := ⟨_, rfl⟩
              have n3 := hbn.cells.2.2.2
              obtain ⟨ys, h1, hrow, h3⟩ := HR.out.row
              have hyl : ys.length = st.left.length := by have := congrArg List.length h1; rwa [List.length_map, List.length_reverse] at this
              have g0 := cell_of_row _ _ 0 _ _ _ HR.out.cbox
              have g1 := cell_of_row _ _ 1 _ _ _ HR.out.cbox
              have g2 := cell_of_row _ _ 2 _ _ _ HR.out.cbox
              have g3 := cell_of_row _ _ 3 _ _ _ HR.out.cbox
              have g4 := cell_of_row _ _ 4 _ _ _ HR.out.cbox
              simp only [List.getElem?_toArray, List.getElem?_cons_zero, List.getElem?_cons_succ] at g0 g1 g2 g3 g4
              rw [hvc] at g0 hrow
              rw [hyl] at hrow
              have hin : InsIn wr w.heap.size Av (swBlk x.k (O k)).ins := by rw [hsw, ← h1]; exact insIn_of_row hrow h3
              have hal : Below wr.heap.size wr (wr.alloc (.cells #[.slice Av st.left.length cv, .int .i64 x.k.kind, .int .i64 x.k.a, .int .i64 x.k.to, .int .i64 x.k.els] 45)) := (Below.refl _ _).alloc (Nat.le_refl _) _
              have hBa := hB2.below_ hBW hal
              obtain ⟨zs, z1, zrow, z3⟩ := hBa.row
              have hln : (swBlk x.k (O k)).ins.length = st.left.length := by rw [hsw, List.length_reverse]
              have hnew : ∀ j u, (blkQ ⟨swBlk x.k (O k), Av, cv⟩)[j]? = some u → (wr.alloc (.cells #[.slice Av st.left.length cv, .int .i64 x.k.kind, .int .i64 x.k.a, .int .i64 x.k.to, .int .i64 x.k.els] 45)).cell? ((⟨wr.heap.size, 0, none⟩ : Addr).add j) = some u := fun j u hu => by
                rw [show ((⟨wr.heap.size, 0, none⟩ : Addr).add j) = ⟨wr.heap.size, j, none⟩ from by by_cases e : j = 0 <;> simp [Addr.add, e], cell_of_row _ _ _ _ _ _ (heap_alloc_new wr _), ← Array.getElem?_toList]
                unfold blkQ blkCells at hu
                rw [hln] at hu
                exact hu
              have hnb : n ≤ 1000 := by rw [← HGK.out.2]; exact HI.out.flow.nb
              have hq5l : Wl.heap.size ≤ q5 := by rw [HQ5.out.1]; exact Nat.le_refl _
              have HZ := Lib.hid (And.intro hBa (And.intro z1 (And.intro z3 (hin.ko (KO.of_below (b := true) hal (Nat.le_trans hBc HR.out.below.size))))))
              have HBN := Lib.hid (hbn.below hal)
              have HROW := Lib.hid zrow
              have HNW := Lib.hid hnew
              have HST2 := Lib.hid (show trnO O ks (k + 1) = (trnO O ks k || st.t) from by rw [trnO_succ O ks k hkk, ← HK.out.1, hst2])
              have HLN := Lib.hid hln
              obtain ⟨tk, htk⟩ : ∃ tk, tk = (trnO O ks k || st.t) := ⟨_, rfl⟩
              rw [← htk]
              have HTK := Lib.hid htk
              have HKX := Lib.hid HK.out.1
              have h5a := (HBN.out).cells.2.2.2
              clear hst hsw hst2 hbc hB2 hbn hy3 hyl h1 hrow h3 hin hal hBa z1 zrow z3 hnew hvc hp htk hln
              go_wp2_with (at_builtin; refine wpList_append_row14 _ rfl _ _ 29 45 _ 5 56 rfl Try.underlying29 info_blk rfl HROW.out ⟨wr.heap.size, 0, none⟩ 1 1 (blkQ ⟨swBlk x.k (O k), Av, cv⟩) rfl HNW.out (blkQ_plain _) rfl rfl (by omega) (by unfold maxLen; omega) (by omega) ?_; intro v' rr' W5 hR hC hN; obtain ⟨A5, c5, rfl, _⟩ := hR.shape; have hbx5 : FnBox W5 q5 nm pa re v := hC.heap HBN.out (fun e => row_ne_of_type HROW.out HBN.out (by decide) e.symm); have b53 := hbx5.cells.2.2.2; have f53 := frozen_of_row W5 q5 3 _ _ hbx5; have HR3 := Lib.hid hR; have HC3 := Lib.hid hC; have HN3 := Lib.hid hN; have HBX5 := Lib.hid hbx5; clear hR hC hN hbx5 g0 g1 g2 g3 g4 n3 h5a)
              have hp := HZ.out.1.push hBW HZ.out.2.1 HZ.out.2.2.1 hkk (A := Av) (c := cv) (by rw [← HKX.out]; exact HZ.out.2.2.2) (by rw [← HKX.out]; exact HR3.out) HC3.out HN3.out
              exact ⟨⟨k + 1, .slice A5 (k + 1) c5, rr', hlt, by simp, by rw [HTK.out, HST2.out], hp.store hBW HBX5.out hq5l 3 _, heap_setCell_same W5 q5 3 _ 31 (.slice A5 (k + 1) c5) HBX5.out⟩, by simp [intOf] <;> omega⟩
      · obtain rfl : k = n := by omega
        obtain ⟨xs, h1, hrow, h3⟩ := HB.out.1.row
        obtain ⟨A5, c5, rfl, _⟩ := hrow.shape
        have hbo : Below wo.heap.size wo wr := HL1.out.below.trans (HB.out.1.below.mono HL1.out.below.size)
        have hn2 : BlkIn wr w.heap.size A5 (nxt ks) := by
          have := blkIn_of_row hrow h3
          rw [h1, List.take_of_length_le (by rw [nxtO_len, HGK.out.2]; exact Nat.le_refl _), HO.out.2.1] at this
          exact this
        obtain ⟨V', hV'⟩ : ∃ V', V' = (((wr.setCell ⟨bx, 0, none⟩ (.string nm)).setCell ⟨bx, 1, none⟩ (.int .i64 pa)).setCell ⟨bx, 2, none⟩ (.int .i64 re)).setCell ⟨bx, 3, none⟩ (.slice A5 k c5) := ⟨_, rfl⟩
        obtain ⟨hnx, hin⟩ := HI.out.next HBX.out hbo (c' := c5) hn2 (V' := V') (by rw [HGK.out.2]; exact hV')
        have ht : trnO O ks k = trn ks := by rw [HO.out.2.2 k (Nat.le_refl _)]; unfold trn; rw [HGK.out.2]
        have hlen2 : (nxt ks).length = k := by rw [← HGK.out.2]; exact nxtO_len _ _
        obtain ⟨n0, n1, n2, n3⟩ := HB.out.2.cells
        have hbw := HI.out.box.below hbo
        obtain ⟨p0, p1, p2, p3⟩ := hbw.cells
        dsimp only at p0 p1 p2
        rw [HGK.out.2] at p3
        have pf := fun j => frozen_of_row wr bx j _ _ hbw
        obtain ⟨r0, r1, r2, r3⟩ := hnx.box.cells
        dsimp only at r0 r1 r2
        rw [hlen2] at r3
        obtain ⟨s0, s1, s2, s3⟩ := hnx.res.cells
        have sf := fun j => frozen_of_row V' (bx + 1) j _ _ hnx.res
        obtain ⟨tk, htk⟩ : ∃ tk, tk = trnO O ks k := ⟨_, rfl⟩
        rw [← htk]
        have HNX := Lib.hid (And.intro hnx (And.intro hin (And.intro (htk.trans ht) hlen2)))
        have HV := Lib.hid hV'
        rw [hV'] at r0 r1 r2 r3 s0 s1 s2 s3 sf
        clear h1 hrow h3 hbo hn2 hbw hnx hin ht hlen2 hk hlt hV' htk
        cases tk with
        | true =>
          go_wp2_with fail
          rw [← HV.out]
          go_roundg (costK (nxt ks))
          case rel => exact ⟨nxt ks, A5, c5, HNX.out.1, rfl⟩
          case measure =>
            have h := (nxtO_cost (outOf ks) ks).2 HNX.out.2.2.1.symm
            have := HGK.out.1
            rw [this]; exact h
        | false =>
          go_wp2_with fail
          rw [← HV.out]
          obtain ⟨Wf, hWf⟩ : ∃ Wf, Wf = (((V'.setCell ⟨bx + 1, 0, none⟩ (.string nm)).setCell ⟨bx + 1, 1, none⟩ (.int .i64 pa)).setCell ⟨bx + 1, 2, none⟩ (.int .i64 re)).setCell ⟨bx + 1, 3, none⟩ (.slice A5 k c5) := ⟨_, rfl⟩
          rw [← hWf]
          have hsame : nxt (nxt ks) = nxt ks := by
            have e : nxt ks = ks := nxtO_same HNX.out.2.2.1.symm
            rw [e]; exact e
          obtain ⟨z1, z2, z3⟩ := HNX.out.1.out_ HNX.out.2.1 hsame HBX.out (W' := Wf) (by rw [hWf]; exact chg4)
          have hbf : FnBox Wf (bx + 1) nm pa re (.slice A5 k c5) := by rw [hWf]; exact box4 HNX.out.1.res
          obtain ⟨v0, v1, v2, v3⟩ := hbf.cells
          dsimp only at z1 z3
          refine bodyPost_ret (v := .agg #[.string nm, .int .i64 pa, .int .i64 re, .slice A5 k c5]) (by simp [results, Try.results8, go_sem, v0, v1, v2, v3]) rfl ⟨A5, c5, ?_, z2, z3⟩
          unfold fnAgg
          dsimp only
          rw [← z1, HNX.out.2.2.2]
end Go.Proofs.Ytlniohgnkihefaa
