/- dead.Fn: the walk. -/
import Derived.Test.YtlniohgnkihefaaLk12
import Derived.Test.YtlniohgnkihefaaLk14
import Derived.Outline
namespace Go.Proofs.Ytlniohgnkihefaa
open Go.RowKit
theorem selE_chg {bl gO oO cO n xO bO q q' : Nat} {x : BlkQ} {Y Y' : World} (h : SelE bl gO oO cO n xO bO q x Y) (hc : Chg (fun k => k = q') Y Y') (h1 : q ≠ q') (h2 : bl ≠ q') (h3 : gO ≠ q') : SelE bl gO oO cO n xO bO q x Y' :=
  ⟨⟨hc.cell h.1.1 h1, hc.cell h.1.2.1 h1, hc.cell h.1.2.2.1 h1, hc.cell h.1.2.2.2.1 h1, hc.cell h.1.2.2.2.2 h1⟩, hc.cell h.2.1 h2, hc.cell h.2.2 h3⟩
/-- .. with arguments of its own alone. -/
def FnD0 (w : World) (f : Fn) (e : Ending) (w' : World) : Prop := ∃ A c, e = .returned (fnAgg { f with blocks := finK f.blocks } A c) ∧ Below w.heap.size w w' ∧ BlkIn w' 0 A (finK f.blocks)
theorem FnI.out0 {w W W' : World} {bx : Nat} {f : Fn} {ks : List Blk} {A : Option Addr} {c : Nat} (h : FnI w 0 bx f false ks A c W) (hbx : bx = w.heap.size) (hc : Chg (fun k => k = bx + 1) W W') :
    ks = finK f.blocks ∧ Below w.heap.size w W' ∧ BlkIn W' 0 A (finK f.blocks) := by
  obtain ⟨h1, h2⟩ := h.own rfl
  have he : ks = finK f.blocks := by rw [← h.fin, finK_same h1]
  refine ⟨he, h.below.trans (hc.below h.below.size fun k e => by omega), ?_⟩
  rw [← he]
  refine h2.ko (KO.of_chg hc (Nat.zero_le _) fun k e => ⟨Nat.zero_le _, fun c t f e2 => ?_⟩)
  rw [e, show W.heap[bx + 1]? = _ from h.res] at e2
  cases e2
  exact ⟨by decide, by decide, fun _ => by decide⟩
set_option maxRecDepth 100000 in
set_option maxHeartbeats 4000000 in
theorem deadFn_any (f : Fn) (hF : FlowF f.blocks) (hD : DataF f.blocks) (A : Option Addr) (c : Nat) (w : World) (hr : BlkMem w A f.blocks) :
    Calls Try.prog 9 #[fnAgg f A c] w (FnD0 w f) := by
  obtain ⟨nm, pa, re, ks0⟩ := f
  dsimp only [fnAgg] at hF hD hr ⊢
  obtain ⟨n, hn⟩ : ∃ n, n = ks0.length := ⟨_, rfl⟩
  rw [← hn]
  have HN := Lib.hid hn
  have HF := Lib.hid hF
  have HDA := Lib.hid hD
  have HR := Lib.hid hr
  clear hn hF hD hr
  go_enter Try.func9, Try.ntmps9
  go_wp2_with fail
  obtain ⟨bx, hbx⟩ : ∃ bx, bx = w.heap.size := ⟨_, rfl⟩
  obtain ⟨W0, hW0⟩ : ∃ W0, W0 = (w.alloc (.cells #[.string nm, .int .i64 pa, .int .i64 re, .slice A n c] 31)).alloc (.cells #[.string ⟨#[]⟩, .int .i64 0, .int .i64 0, .slice none 0 0] 31) := ⟨_, rfl⟩
  rw [← hW0, ← hbx]
  have hI0 : FnI w 0 bx ⟨nm, pa, re, ks0⟩ true ks0 A c W0 := by
    have hb0 : Below w.heap.size w W0 := by rw [hW0]; exact ((Below.refl _ w).alloc (Nat.le_refl _) _).alloc (by simp) _
    refine ⟨hb0, ?_, ?_, HR.out.below hb0, HF.out, HDA.out, rfl, rfl, fun e => by cases e⟩
    · rw [← HN.out, hW0, hbx]; exact (heap_alloc_old _ _ (by simp)).trans (heap_alloc_new w _)
    · rw [hW0, hbx]
      have h := heap_alloc_new (w.alloc (.cells #[.string nm, .int .i64 pa, .int .i64 re, .slice A n c] 31)) (.cells #[.string ⟨#[]⟩, .int .i64 0, .int .i64 0, .slice none 0 0] 31)
      rw [World.size_alloc] at h
      exact h
  have HI0 := Lib.hid hI0
  have HBX := Lib.hid hbx
  clear hI0 hbx hW0
  go_loopg [3] (2 * costK ks0 + 1) (fun gk a W => ∃ (b : Bool) (ks : List Blk) (A : Option Addr) (c : Nat), a = .bool b ∧ FnI w 0 bx ⟨nm, pa, re, ks0⟩ b ks A c W ∧ gk = 2 * costK ks + boolN (.bool b))
  case atStart => exact ⟨true, ks0, A, c, rfl, HI0.out, rfl⟩
  case round =>
    clear HI0
    obtain ⟨b, ks, A, c, rfl, hI, hgk⟩ := hrel
    have hlen : ks.length = n := by rw [hI.len, HN.out]
    obtain ⟨x0, x1, x2, x3⟩ := hI.box.cells
    dsimp only at x0 x1 x2 x3
    rw [hlen] at x3
    have HI := Lib.hid hI
    have HGK := Lib.hid (And.intro hgk hlen)
    clear hI hgk hlen
    cases b with
    | false =>
      have hres := HI.out.res
      obtain ⟨y0, y1, y2, y3⟩ := hres.cells
      have yf := fun j => frozen_of_row wr (bx + 1) j _ _ hres
      clear hres
      go_wp2_with fail
      obtain ⟨Wf, hWf⟩ : ∃ Wf, Wf = (((wr.setCell ⟨bx + 1, 0, none⟩ (.string nm)).setCell ⟨bx + 1, 1, none⟩ (.int .i64 pa)).setCell ⟨bx + 1, 2, none⟩ (.int .i64 re)).setCell ⟨bx + 1, 3, none⟩ (.slice A n c) := ⟨_, rfl⟩
      rw [← hWf]
      obtain ⟨z1, z2, z3⟩ := HI.out.out0 HBX.out (W' := Wf) (by rw [hWf]; exact chg4)
      have hbf : FnBox Wf (bx + 1) nm pa re (.slice A n c) := by rw [hWf]; exact box4 HI.out.res
      obtain ⟨v0, v1, v2, v3⟩ := hbf.cells
      dsimp only at z1 z3
      refine bodyPost_ret (v := .agg #[.string nm, .int .i64 pa, .int .i64 re, .slice A n c]) (by simp [results, Try.results9, go_sem, v0, v1, v2, v3]) rfl ⟨A, c, ?_, z2, z3⟩
      unfold fnAgg
      dsimp only
      rw [← z1, HGK.out.2]
    | true =>
      obtain ⟨wo, rfl⟩ : ∃ wo : World, wo = wr := ⟨_, rfl⟩
      have hlv := live_any ⟨nm, pa, re, ks⟩ HI.out.flow HI.out.data A c wo HI.out.mem
      dsimp only [fnAgg] at hlv
      rw [HGK.out.2] at hlv
      have HLV := Lib.hid hlv
      clear hlv
      go_wp2_with fail
      refine HLV.out.mono ?_
      rintro e Wl ⟨vI, vO, ps, bl, rfl, hFM, hLV⟩
      obtain ⟨hO1, hO2⟩ := outS_outOf hLV
      rw [HGK.out.2] at hFM hO1 hO2
      obtain ⟨O, hO⟩ : ∃ O, O = outS n ps := ⟨_, rfl⟩
      rw [← hO] at hO1 hO2
      obtain ⟨⟨AI, cI, rfl⟩, AO, cO, rfl⟩ := flow_shapes hFM
      have HO := Lib.hid (And.intro hO (And.intro hO1 hO2))
      obtain ⟨ql, hql⟩ : ∃ ql, ql = Wl.heap.size := ⟨_, rfl⟩
      obtain ⟨W1, hW1⟩ : ∃ W1, W1 = Wl.alloc (.cells #[.slice AI n cI, .slice AO n cO] 61) := ⟨_, rfl⟩
      have hal : Below Wl.heap.size Wl W1 := by rw [hW1]; exact (Below.refl _ _).alloc (Nat.le_refl _) _
      have hF1 := hFM.below_ hal
      have hb1 := hF1.below
      have k3 : W1.cell? ⟨bx, 3, none⟩ = some (.slice A n c) := (hb1.cell (p := ⟨bx, 3, none⟩) (World.block_lt_of_cell? wo _ x3)).trans x3
      have hbl : W1.heap[ql]? = some (.cells #[.slice AI n cI, .slice AO n cO] 61 (0, 0)) := by rw [hW1, hql]; exact heap_alloc_new Wl _
      have HF1 := Lib.hid (And.intro hF1 hbl)
      have HW1 := Lib.hid (And.intro hW1 hql)
      have HLV2 := Lib.hid hLV
      rw [hW1] at k3
      clear hO1 hO2 hO hF1 hb1 hbl hal hFM hLV x0 x1 x2 x3 hW1 hql
      go_wp2_with fail
      rw [← HW1.out.1, ← HW1.out.2]
      rw [← HW1.out.1] at k3
      have hBW : 0 ≤ W1.heap.size := Nat.zero_le _
      go_loopw [3, 5, 16] (fun a v i W => ∃ (k : Nat) (rr : Option Nat), k ≤ n ∧ i = .int .i64 (k : Nat) ∧ a = .bool (trnO O ks k) ∧ BlkI2 W1 0 ks O k v rr W) (fun _ _ i _ => n - (intOf i).toNat)
      case atStart => exact ⟨0, none, Nat.zero_le _, rfl, by rw [trnO_zero], BlkI2.start _ _ _ _⟩
      case round =>
        obtain ⟨k, rr, hk, rfl, rfl, hB⟩ := hrel
        have HB := Lib.hid hB
        clear hB
        by_cases hlt : k < n
        · have hkk : k < ks.length := by rw [HGK.out.2]; exact hlt
          obtain ⟨g, off, x, rfl, hxk, hxm, hgl, hc0, hc1, hc2, hc3, hc4⟩ := blkMem_at HI.out.mem k hkk
          have hbw : Below wo.heap.size wo wr := HF1.out.1.below.trans (HB.out.below.mono HF1.out.1.below.size)
          have hcw : ∀ j v, wo.cell? ⟨g, off + k * 5 + j, none⟩ = some v → wr.cell? ⟨g, off + k * 5 + j, none⟩ = some v := fun j v h => (hbw.cell (p := ⟨g, off + k * 5 + j, none⟩) hgl).trans h
          replace hc0 := hcw 0 _ hc0
          replace hc1 := hcw 1 _ hc1
          replace hc2 := hcw 2 _ hc2
          replace hc3 := hcw 3 _ hc3
          replace hc4 := hcw 4 _ hc4
          rw [Nat.add_zero] at hc0
          obtain ⟨gO, oO, cO', eO⟩ := flow_shapeO HF1.out.1 (by omega)
          injection eO with eO _ eO2
          subst eO eO2
          have hpl := HF1.out.1.len
          obtain ⟨⟨bO, rO, wsO⟩, hpO⟩ : ∃ p, ps[n + k]? = some p := ⟨_, List.getElem?_eq_getElem (by omega)⟩
          obtain ⟨hpo, epo⟩ := List.getElem?_eq_some_iff.1 hpO
          have hOk : O k = memW wsO := by rw [HO.out.1, outS_at _ hlt, wsAt_eq _ _ hpo, epo]
          have hFr : FlowM wo bl n (.slice AI n cI) (.slice (some ⟨gO, oO, none⟩) n cO) ps [] wr := HF1.out.1.below_ HB.out.below
          have hbox : BlkBox (wr.alloc (.cells #[.slice x.A x.k.ins.length x.c, .int .i64 x.k.kind, .int .i64 x.k.a, .int .i64 x.k.to, .int .i64 x.k.els] 45)) wr.heap.size x := heap_alloc_new wr _
          obtain ⟨wd, hwd⟩ : ∃ wd, wd = (wr.alloc (.cells #[.slice x.A x.k.ins.length x.c, .int .i64 x.k.kind, .int .i64 x.k.a, .int .i64 x.k.to, .int .i64 x.k.els] 45)).drew := ⟨_, rfl⟩
          have hwr : Below wr.heap.size wr wd := by rw [hwd]; exact ((Below.refl _ _).alloc (Nat.le_refl _) _).drew
          obtain ⟨q7, hq7⟩ : ∃ q7, q7 = wr.heap.size := ⟨_, rfl⟩
          have hFd := hFr.below_ hwr
          have hqd : BlkBox wd q7 x := by rw [hwd, hq7]; exact hbox
          have hld : wd.heap[ql]? = some (.cells #[.slice AI n cI, .slice (some ⟨gO, oO, none⟩) n cO] 61 (0, 0)) := (hwr.block ql (Nat.lt_of_lt_of_le (lt_of_heap HF1.out.2) HB.out.below.size)).trans ((HB.out.below.block ql (lt_of_heap HF1.out.2)).trans HF1.out.2)
          have hsel : SelE ql gO oO cO n (oO + k) bO q7 x wd := by
            refine ⟨hqd.cells, by rw [cell_of_row _ _ _ _ _ _ hld]; rfl, ?_⟩
            have := flow_cellO hFd k hlt hpo
            rw [epo] at this; exact this
          have hat : BitsAt wd bO rO wsO := by have := hFd.at_ (n + k) hpo; rw [epo] at this; exact this
          have hxf : BlkF ks.length x.k := by rw [hxk]; exact HI.out.flow.blk _ (List.getElem_mem hkk)
          have hxd := HI.out.data x.k (by rw [hxk]; exact List.getElem_mem hkk)
          have HSW := Lib.hid (fun W' (hb' : Below wd.heap.size wd W') => sweep_any x hxd.1 hxf.nins (fun y hy => ⟨hxd.2 y hy, (hxf.regs y hy).2⟩) W' (bits_below hat hb') ((hxm.below hbw).below (hwr.trans (hb'.mono hwr.size))))
          have hqlt : q7 < wd.heap.size := lt_of_heap hqd
          have hllt : ql < wd.heap.size := lt_of_heap hld
          have hglt : gO < wd.heap.size := World.block_lt_of_cell? wd ⟨gO, oO + k, none⟩ hsel.2.2
          have HK := Lib.hid (And.intro hxk hOk)
          have HWR := Lib.hid (And.intro hwr hbw)
          have HWD := Lib.hid hwd
          have HQ7 := Lib.hid hq7
          have HFIN : Hid (∀ (q8 : Nat) (A2 : Option Addr) (c2 : Nat) (wz : World), Below wd.heap.size wd wz → wz.heap[q8]? = some (.cells #[.slice A2 (swBlk x.k (memW wsO)).ins.length c2, .int .i64 x.k.kind, .int .i64 x.k.a, .int .i64 x.k.to, .int .i64 x.k.els] 45 (0, 0)) → InsIn wz 0 A2 (swBlk x.k (memW wsO)).ins →
              ∃ (q8' : Nat) (A2' : Option Addr) (c2' : Nat), Value.pointer (some ⟨q8, 0, none⟩) = .pointer (some ⟨q8', 0, none⟩) ∧ Value.bool (swT x.k (memW wsO)) = .bool (swT ks[k] (O k)) ∧ BlkI2 W1 0 ks O k u5 rr wz ∧ BlkBox wz q8' ⟨swBlk ks[k] (O k), A2', c2'⟩ ∧ InsIn wz 0 A2' (swBlk ks[k] (O k)).ins) := Lib.hid fun q8 A2 c2 wz h1 h2 h3 => by
            rw [← HK.out.1, HK.out.2]
            exact ⟨q8, A2, c2, rfl, rfl, HB.out.below_ hBW (HWR.out.1.trans (h1.mono HWR.out.1.size)), h2, h3.up (Nat.zero_le _)⟩
          clear hcw hpl hpO hpo epo hOk hFr hbox hwd hwr hFd hqd hld hat hxf hxd hxk hxm hgl hbw hq7
          go_wp2_with fail
          rw [← HQ7.out]
          go_cut [8, 9] (fun s8 s9 wz => ∃ (q8 : Nat) (A2 : Option Addr) (c2 : Nat), s8 = .pointer (some ⟨q8, 0, none⟩) ∧ s9 = .bool (swT ks[k] (O k)) ∧ BlkI2 W1 0 ks O k u5 rr wz ∧ BlkBox wz q8 ⟨swBlk ks[k] (O k), A2, c2⟩ ∧ InsIn wz 0 A2 (swBlk ks[k] (O k)).ins)
          case first =>
            -- GENERATED: region 9
            refine wp_region_T (SelE ql gO oO cO n (oO + k) bO q7 x) [] (by kernel_rfl) (by rw [← HWD.out]; exact hsel) (fun _ => ?_)
            rw [← HWD.out]
            refine wpAnyT_load (i := 0) (v := ?vc1) rfl (by kernel_rfl) (by kernel_rfl) (by kernel_rfl) rfl (by kernel_rfl) (by kernel_rfl) (fun _ _ _ h => h) (Or.inl ⟨by rfl, ?hyc1⟩) (DL.of hsel) ?restc1
            case hyc1 => (intro w hSw; obtain ⟨⟨s1, s2, s3, s4, s5⟩, s6, s7⟩ := hSw rfl; go_simp; try rfl)
            try simp only [Act.put, List.setIfInBounds_toArray, List.set_cons_zero, List.set_cons_succ, List.getElem_toArray, List.getElem_cons_zero]
            refine wpAnyT_take (i := 1) (v := ?vc2) rfl (by kernel_rfl) (by kernel_rfl) (by kernel_rfl) rfl (fun _ _ _ h => h) (Or.inl ⟨by rfl, ?hyc2⟩) (DL.of hsel) ?restc2
            case hyc2 => (intro w hSw; go_simp; try rfl)
            try simp only [Act.put, List.setIfInBounds_toArray, List.set_cons_zero, List.set_cons_succ, List.getElem_toArray, List.getElem_cons_zero, List.getElem_cons_succ]
            refine wpAnyT_load (i := 2) (v := ?vc3) rfl (by kernel_rfl) (by kernel_rfl) (by kernel_rfl) rfl (by kernel_rfl) (by kernel_rfl) (fun _ _ _ h => h) (Or.inl ⟨by rfl, ?hyc3⟩) (DL.of hsel) ?restc3
            case hyc3 => (intro w hSw; obtain ⟨⟨s1, s2, s3, s4, s5⟩, s6, s7⟩ := hSw rfl; go_simp; try rfl)
            try simp only [Act.put, List.setIfInBounds_toArray, List.set_cons_zero, List.set_cons_succ, List.getElem_toArray, List.getElem_cons_zero, List.getElem_cons_succ]
            refine wpAnyT_take (i := 3) (v := ?vc4) rfl (by kernel_rfl) (by kernel_rfl) (by kernel_rfl) rfl (fun _ _ _ h => h) (Or.inl ⟨by rfl, ?hyc4⟩) (DL.of hsel) ?restc4
            case hyc4 => (intro w hSw; go_simp; try rfl)
            try simp only [Act.put, List.setIfInBounds_toArray, List.set_cons_zero, List.set_cons_succ, List.getElem_toArray, List.getElem_cons_zero, List.getElem_cons_succ]
            refine wpAnyT_take (i := 4) (v := ?vc5) rfl (by kernel_rfl) (by kernel_rfl) (by kernel_rfl) rfl (fun _ _ _ h => h) (Or.inl ⟨by rfl, ?hyc5⟩) (DL.of hsel) ?restc5
            case hyc5 => (intro w hSw; go_simp; try rfl)
            try simp only [Act.put, List.setIfInBounds_toArray, List.set_cons_zero, List.set_cons_succ, List.getElem_toArray, List.getElem_cons_zero, List.getElem_cons_succ]
            refine wpAnyT_load (i := 5) (v := ?vc6) rfl (by kernel_rfl) (by kernel_rfl) (by kernel_rfl) rfl (by kernel_rfl) (by kernel_rfl) (fun _ _ _ h => h) (Or.inl ⟨by rfl, ?hyc6⟩) (DL.of hsel) ?restc6
            case hyc6 => (intro w hSw; obtain ⟨⟨s1, s2, s3, s4, s5⟩, s6, s7⟩ := hSw rfl; go_simp; try rfl)
            try simp only [Act.put, List.setIfInBounds_toArray, List.set_cons_zero, List.set_cons_succ, List.getElem_toArray, List.getElem_cons_zero, List.getElem_cons_succ]
            refine wpAnyT_ready (rs := [6, 10]) (by kernel_rfl) (by simp) ?_
            refine AllReadyT.cons rfl (fun K hK => ?_) (AllReadyT.cons rfl (fun K hK => ?_) AllReadyT.nil)
            · try simp only [Act.put, List.setIfInBounds_toArray, List.set_cons_zero, List.set_cons_succ, List.getElem_toArray, List.getElem_cons_zero, List.getElem_cons_succ]
              go_simp
              go_at_call 24
              refine (HSW.out wd (Below.refl _ _)).mono ?_
              rintro e WE ⟨A2, c2, rfl, hbE, hiE⟩
              have hselE : SelE ql gO oO cO n (oO + k) bO q7 x WE := selE_below hsel (hbE)
              have HBE := Lib.hid hbE
              have HIE := Lib.hid hiE
              clear hbE hiE
              refine hK.out _ _ (DL.of hselE) (fun _ => ?_)
              clear hK K
              try simp only [Act.put, List.setIfInBounds_toArray, List.set_cons_zero, List.set_cons_succ, List.getElem_toArray, List.getElem_cons_zero, List.getElem_cons_succ]
              refine wpAnyT_take (i := 7) (v := ?vca1) rfl (by kernel_rfl) (by kernel_rfl) (by kernel_rfl) rfl (fun _ _ _ h => h) (Or.inl ⟨by rfl, ?hyca1⟩) (DL.of hselE) ?restca1
              case hyca1 => (intro w hSw; go_simp; try rfl)
              try simp only [Act.put, List.setIfInBounds_toArray, List.set_cons_zero, List.set_cons_succ, List.getElem_toArray, List.getElem_cons_zero, List.getElem_cons_succ]
              refine wpAnyT_take (i := 8) (v := ?vca2) rfl (by kernel_rfl) (by kernel_rfl) (by kernel_rfl) rfl (fun _ _ _ h => h) (Or.inl ⟨by rfl, ?hyca2⟩) (DL.of hselE) ?restca2
              case hyca2 => (intro w hSw; go_simp; try rfl)
              try simp only [Act.put, List.setIfInBounds_toArray, List.set_cons_zero, List.set_cons_succ, List.getElem_toArray, List.getElem_cons_zero, List.getElem_cons_succ]
              refine wpAnyT_take (i := 9) (v := ?vca3) rfl (by kernel_rfl) (by kernel_rfl) (by kernel_rfl) rfl (fun _ _ _ h => h) (Or.inl ⟨by rfl, ?hyca3⟩) (DL.of hselE) ?restca3
              case hyca3 => (intro w hSw; go_simp; try rfl)
              try simp only [Act.put, List.setIfInBounds_toArray, List.set_cons_zero, List.set_cons_succ, List.getElem_toArray, List.getElem_cons_zero, List.getElem_cons_succ]
              refine wpAnyT_ready (rs := [10]) (by kernel_rfl) (by simp) ?_
              refine AllReadyT.cons rfl (fun K hK => ?_) AllReadyT.nil
              try simp only [Act.put, List.setIfInBounds_toArray, List.set_cons_zero, List.set_cons_succ, List.getElem_toArray, List.getElem_cons_zero, List.getElem_cons_succ]
              go_simp
              refine hK.out _ _ (DL.of (selE_below hselE ((Below.refl _ _).alloc (Nat.le_refl _) _))) (fun _ => ?_)
              clear hK K
              try simp only [Act.put, List.setIfInBounds_toArray, List.set_cons_zero, List.set_cons_succ, List.getElem_toArray, List.getElem_cons_zero, List.getElem_cons_succ]
              refine wpAnyT_ready (rs := [11]) (by kernel_rfl) (by simp) ?_
              refine AllReadyT.cons rfl (fun K hK => ?_) AllReadyT.nil
              try simp only [Act.put, List.getElem_toArray, List.getElem_cons_zero, List.getElem_cons_succ]
              go_simp
              refine hK.out _ _ (DL.of (selE_below hselE ((Below.refl _ _).alloc (Nat.le_refl _) _))) (fun _ => ?_)
              clear hK K
              try simp only [Act.put, List.setIfInBounds_toArray, List.set_cons_zero, List.set_cons_succ, List.getElem_toArray, List.getElem_cons_zero, List.getElem_cons_succ]
              refine wpAnyT_take (i := 12) (v := ?vca4) rfl (by kernel_rfl) (by kernel_rfl) (by kernel_rfl) rfl (fun _ _ _ h => h) (Or.inl ⟨by rfl, ?hyca4⟩) (DL.of (selE_below hselE ((Below.refl _ _).alloc (Nat.le_refl _) _))) ?restca4
              case hyca4 => (intro w hSw; go_simp; try rfl)
              try simp only [Act.put, List.setIfInBounds_toArray, List.set_cons_zero, List.set_cons_succ, List.getElem_toArray, List.getElem_cons_zero, List.getElem_cons_succ]
              refine wpAnyT_done (by kernel_rfl) ?_ _
              go_wp2_with fail
              go_meet
              exact HFIN.out _ _ _ _ (HBE.out.alloc HBE.out.size _) (heap_alloc_new WE _) (HIE.out.ko (KO.of_below (b := true) ((Below.refl _ _).alloc (Nat.le_refl _) _) (Nat.zero_le _)))
            · try simp only [Act.put, List.setIfInBounds_toArray, List.set_cons_zero, List.set_cons_succ, List.getElem_toArray, List.getElem_cons_zero, List.getElem_cons_succ]
              go_simp
              refine hK.out _ _ (DL.of (selE_below hsel ((Below.refl _ _).alloc (Nat.le_refl _) _))) (fun _ => ?_)
              clear hK K
              try simp only [Act.put, List.setIfInBounds_toArray, List.set_cons_zero, List.set_cons_succ, List.getElem_toArray, List.getElem_cons_zero, List.getElem_cons_succ]
              refine wpAnyT_ready (rs := [6]) (by kernel_rfl) (by simp) ?_
              refine AllReadyT.cons rfl (fun K hK => ?_) AllReadyT.nil
              try simp only [Act.put, List.setIfInBounds_toArray, List.set_cons_zero, List.set_cons_succ, List.getElem_toArray, List.getElem_cons_zero, List.getElem_cons_succ]
              go_simp
              go_at_call 24
              refine (HSW.out _ ((Below.refl _ _).alloc (Nat.le_refl _) _)).mono ?_
              rintro e WE ⟨A2, c2, rfl, hbE, hiE⟩
              have hselE : SelE ql gO oO cO n (oO + k) bO q7 x WE := selE_below hsel (((Below.refl _ wd).alloc (Nat.le_refl _) _).trans (hbE.mono (by simp)))
              have HBE := Lib.hid hbE
              have HIE := Lib.hid hiE
              clear hbE hiE
              have h9 := (HBE.out.block wd.heap.size (by simp)).trans (heap_alloc_new wd (.cells #[.slice none 0 0, .int .i64 0, .int .i64 0, .int .i64 0, .int .i64 0] 45))
              obtain ⟨m0, m1, m2, m3, m4⟩ := BlkBox.cells (x := zeroQ) h9
              simp only [zeroQ, List.length_nil] at m0 m1 m2 m3 m4
              have mf := fun j => frozen_of_row WE wd.heap.size j _ _ h9
              have hne7 : q7 ≠ wd.heap.size := by omega
              have hnel : ql ≠ wd.heap.size := by omega
              have hneO : gO ≠ wd.heap.size := by omega
              have H9 := Lib.hid h9
              clear h9
              refine hK.out _ _ (DL.of hselE) (fun _ => ?_)
              clear hK K
              try simp only [Act.put, List.setIfInBounds_toArray, List.set_cons_zero, List.set_cons_succ, List.getElem_toArray, List.getElem_cons_zero, List.getElem_cons_succ]
              refine wpAnyT_take (i := 7) (v := ?vcb1) rfl (by kernel_rfl) (by kernel_rfl) (by kernel_rfl) rfl (fun _ _ _ h => h) (Or.inl ⟨by rfl, ?hycb1⟩) (DL.of hselE) ?restcb1
              case hycb1 => (intro w hSw; go_simp; try rfl)
              try simp only [Act.put, List.setIfInBounds_toArray, List.set_cons_zero, List.set_cons_succ, List.getElem_toArray, List.getElem_cons_zero, List.getElem_cons_succ]
              refine wpAnyT_take (i := 8) (v := ?vcb2) rfl (by kernel_rfl) (by kernel_rfl) (by kernel_rfl) rfl (fun _ _ _ h => h) (Or.inl ⟨by rfl, ?hycb2⟩) (DL.of hselE) ?restcb2
              case hycb2 => (intro w hSw; go_simp; try rfl)
              try simp only [Act.put, List.setIfInBounds_toArray, List.set_cons_zero, List.set_cons_succ, List.getElem_toArray, List.getElem_cons_zero, List.getElem_cons_succ]
              refine wpAnyT_take (i := 9) (v := ?vcb3) rfl (by kernel_rfl) (by kernel_rfl) (by kernel_rfl) rfl (fun _ _ _ h => h) (Or.inl ⟨by rfl, ?hycb3⟩) (DL.of hselE) ?restcb3
              case hycb3 => (intro w hSw; go_simp; try rfl)
              try simp only [Act.put, List.setIfInBounds_toArray, List.set_cons_zero, List.set_cons_succ, List.getElem_toArray, List.getElem_cons_zero, List.getElem_cons_succ]
              refine wpAnyT_ready (rs := [11]) (by kernel_rfl) (by simp) ?_
              refine AllReadyT.cons rfl (fun K hK => ?_) AllReadyT.nil
              try simp only [Act.put, List.getElem_toArray, List.getElem_cons_zero, List.getElem_cons_succ]
              go_simp
              refine hK.out _ _ (DL.of (selE_chg hselE chg5 hne7 hnel hneO)) (fun _ => ?_)
              clear hK K
              try simp only [Act.put, List.setIfInBounds_toArray, List.set_cons_zero, List.set_cons_succ, List.getElem_toArray, List.getElem_cons_zero, List.getElem_cons_succ]
              refine wpAnyT_take (i := 12) (v := ?vcb4) rfl (by kernel_rfl) (by kernel_rfl) (by kernel_rfl) rfl (fun _ _ _ h => h) (Or.inl ⟨by rfl, ?hycb4⟩) (DL.of (selE_chg hselE chg5 hne7 hnel hneO)) ?restcb4
              case hycb4 => (intro w hSw; go_simp; try rfl)
              try simp only [Act.put, List.setIfInBounds_toArray, List.set_cons_zero, List.set_cons_succ, List.getElem_toArray, List.getElem_cons_zero, List.getElem_cons_succ]
              refine wpAnyT_done (by kernel_rfl) ?_ _
              clear m0 m1 m2 m3 m4 mf hne7 hnel hneO
              go_wp2_with fail
              go_meet
              exact HFIN.out _ _ _ _ ((((Below.refl _ wd).alloc (Nat.le_refl _) _).trans (HBE.out.mono (by simp))).trans (chg5.below (by have := HBE.out.size; simp at this; omega) fun k e => by rw [e]; exact Nat.le_refl _)) (box5 H9.out) (HIE.out.ko (KO.of_chg (b := false) chg5 (Nat.zero_le _) fun k e => ⟨Nat.zero_le _, fun c t f e2 => by rw [e, H9.out] at e2; cases e2; exact ⟨by decide, by decide, (fun e => by cases e)⟩⟩))
            -- END region 9
          case rest =>
            obtain ⟨q8, A2, c2, rfl, rfl, hB2, hb8, hI2⟩ := hcut
            obtain ⟨y, hy⟩ : ∃ y, y = swBlk ks[k] (O k) := ⟨_, rfl⟩
            rw [← hy] at hb8 hI2
            obtain ⟨d0, d1, d2, d3, d4⟩ := hb8.cells
            dsimp only at d0 d1 d2 d3 d4
            have hal : Below wc.heap.size wc (wc.alloc (.cells #[.slice A2 y.ins.length c2, .int .i64 y.kind, .int .i64 y.a, .int .i64 y.to, .int .i64 y.els] 45)) := (Below.refl _ _).alloc (Nat.le_refl _) _
            have hBa := hB2.below_ hBW hal
            obtain ⟨xs, h1, hrow, h3⟩ := hBa.row
            have hnew : ∀ j u, (blkQ ⟨y, A2, c2⟩)[j]? = some u → (wc.alloc (.cells #[.slice A2 y.ins.length c2, .int .i64 y.kind, .int .i64 y.a, .int .i64 y.to, .int .i64 y.els] 45)).cell? ((⟨wc.heap.size, 0, none⟩ : Addr).add j) = some u := fun j u hu => by
              rw [show ((⟨wc.heap.size, 0, none⟩ : Addr).add j) = ⟨wc.heap.size, j, none⟩ from by by_cases e : j = 0 <;> simp [Addr.add, e], cell_of_row _ _ _ _ _ _ (heap_alloc_new wc _), ← Array.getElem?_toList]
              exact hu
            have HROW := Lib.hid hrow
            have HNW := Lib.hid hnew
            have HB2 := Lib.hid (And.intro hBa (And.intro h1 (And.intro h3 (hI2.ko (KO.of_below (b := true) hal (Nat.le_trans hBW hB2.below.size))))))
            have HY := Lib.hid hy
            obtain ⟨tk, htk⟩ : ∃ tk, tk = trnO O ks k := ⟨_, rfl⟩
            obtain ⟨sk, hsk⟩ : ∃ sk, sk = swT ks[k] (O k) := ⟨_, rfl⟩
            have HT := Lib.hid (show trnO O ks (k + 1) = (tk || sk) from by rw [htk, hsk, trnO_succ O ks k hkk])
            rw [← htk, ← hsk]
            have hnb : n ≤ 1000 := by rw [← HGK.out.2]; exact HI.out.flow.nb
            clear hB2 hb8 hI2 hal hBa h1 hrow h3 hnew hy htk hsk hsel hqlt hllt hglt hc0 hc1 hc2 hc3 hc4 HSW HFIN
            cases tk
            all_goals
              go_wp2_with (at_builtin; refine wpList_append_row14 _ rfl _ _ 29 45 _ 5 56 rfl Try.underlying29 info_blk rfl HROW.out ⟨wc.heap.size, 0, none⟩ 1 1 (blkQ ⟨y, A2, c2⟩) rfl HNW.out (blkQ_plain _) rfl rfl (by omega) (by unfold maxLen; omega) (by omega) ?_; intro v' rr' W5 hR hC hN; have HR := Lib.hid hR; have HC := Lib.hid hC; have HN2 := Lib.hid hN; clear hR hC hN d0 d1 d2 d3 d4)
              go_roundw
              case rel =>
                refine ⟨k + 1, rr', hlt, by simp, by rw [HT.out]; rfl, ?_⟩
                have hp := HB2.out.1.push hBW HB2.out.2.1 HB2.out.2.2.1 hkk (A := A2) (c := c2) (by rw [← HY.out]; exact HB2.out.2.2.2) (by rw [← HY.out]; exact HR.out) HC.out HN2.out
                exact hp
              case measure => simp [intOf]; omega
        · obtain rfl : k = n := by omega
          obtain ⟨xs, h1, hrow, h3⟩ := HB.out.row
          obtain ⟨A5, c5, rfl, _⟩ := hrow.shape
          have hbw : Below wo.heap.size wo wr := HF1.out.1.below.trans (HB.out.below.mono HF1.out.1.below.size)
          have hn2 : BlkIn wr 0 A5 (nxt ks) := by
            have := blkIn_of_row hrow h3
            rw [h1, List.take_of_length_le (by rw [nxtO_len, HGK.out.2]; exact Nat.le_refl _), HO.out.2.1] at this
            exact this
          have hbx := HI.out.box.below hbw
          have q3 := hbx.cells.2.2.2
          have f3 := frozen_of_row wr bx 3 _ _ hbx
          have hnx := HI.out.next (by have := HBX.out; omega) (Nat.zero_le _) hbw (c' := c5) hn2
          rw [HGK.out.2] at hnx q3
          have ht : trnO O ks k = trn ks := by rw [HO.out.2.2 k (Nat.le_refl _)]; unfold trn; rw [HGK.out.2]
          have HNX := Lib.hid (And.intro hnx ht)
          clear h1 hrow h3 hbw hn2 hbx hnx ht hk hlt
          go_wp2_with fail
          go_roundg (2 * costK (nxt ks) + boolN (.bool (trn ks)))
          case rel => exact ⟨trn ks, nxt ks, A5, c5, by rw [HNX.out.2], HNX.out.1, rfl⟩
          case measure => have := FnI.cost (ks := ks); have := HGK.out.1; simp [boolN] at *; omega
end Go.Proofs.Ytlniohgnkihefaa
namespace Go.Proofs.Ytlniohgnkihefaa
open Go.RowKit Go.Maps
theorem exNum_any (d z : Int) (w : World) : Calls Try.prog 34 #[.int .i64 d, .int .i32 z] w fun e w' => e = .returned (.agg #[.int .i64 1, .int .i64 0, .int .i64 d, .int .i64 (-1), .int .i64 (-1), .int .i32 z, .string ⟨#[]⟩, .slice none 0 0]) ∧ Below w.heap.size w w' := by
  go_enter Try.func34, Try.ntmps34
  go_wp2_with fail
  obtain ⟨W1, hW1⟩ : ∃ W1, W1 = w.alloc (.cells #[.int .i64 1, .int .i64 0, .int .i64 d, .int .i64 (-1), .int .i64 (-1), .int .i32 z, .string ⟨#[]⟩, .slice none 0 0] 48) := ⟨_, rfl⟩
  rw [← hW1]
  have h0 : W1.heap[w.heap.size]? = some (.cells #[.int .i64 1, .int .i64 0, .int .i64 d, .int .i64 (-1), .int .i64 (-1), .int .i32 z, .string ⟨#[]⟩, .slice none 0 0] 48 (0, 0)) := by rw [hW1]; exact heap_alloc_new w _
  have c := fun j => cell_of_row W1 w.heap.size j _ _ _ h0
  refine bodyPost_ret (v := .agg #[.int .i64 1, .int .i64 0, .int .i64 d, .int .i64 (-1), .int .i64 (-1), .int .i32 z, .string ⟨#[]⟩, .slice none 0 0]) (by simp [results, Try.results34, go_sem, c]) rfl ⟨rfl, ?_⟩
  rw [hW1]
  exact (Below.refl _ _).alloc (Nat.le_refl _) _
def ExD (op : Int) (w : World) (e : Ending) (w' : World) : Prop := ∃ A c, e = .returned (fnAgg (exF op) A c) ∧ Below w.heap.size w w' ∧ BlkMem w' A (exF op).blocks
set_option maxHeartbeats 4000000 in
set_option maxRecDepth 100000 in
theorem example_any (op : Int) (w : World) : Calls Try.prog 16 #[.int .i64 op] w (ExD op w) := by
  go_enter Try.func16, Try.ntmps16
  go_wp2_with fail
  obtain ⟨bx, hbx⟩ : ∃ bx, bx = w.heap.size := ⟨_, rfl⟩
  obtain ⟨W0, hW0⟩ : ∃ W0, W0 = w.alloc (.cells #[.string ⟨#[]⟩, .int .i64 0, .int .i64 0, .slice none 0 0] 31) := ⟨_, rfl⟩
  rw [← hW0, ← hbx]
  have hb0 : Below w.heap.size w W0 := by rw [hW0]; exact (Below.refl _ w).alloc (Nat.le_refl _) _
  have hf0 : FnBox W0 bx ⟨#[]⟩ 0 0 (.slice none 0 0) := by rw [hW0, hbx]; exact heap_alloc_new w _
  have HBX := Lib.hid hbx
  clear hW0 hbx
  refine (exNum_any 0 1 W0).mono ?_
  rintro e W1 ⟨rfl, hb1⟩
  go_wp2_with fail
  refine (exNum_any 1 2 W1).mono ?_
  rintro e W2 ⟨rfl, hb2⟩
  have hb02 : Below W0.heap.size W0 W2 := hb1.trans (hb2.mono hb1.size)
  have hf2 := hf0.below hb02
  have HF2 := Lib.hid hf2
  obtain ⟨n0, n1, n2, n3⟩ := hf2.cells
  have nf := fun j => frozen_of_row W2 bx j _ _ hf2
  have hlt : bx < W2.heap.size := lt_of_heap hf2
  have HB2 : Hid (Below w.heap.size w W2) := Lib.hid (hb0.trans (hb02.mono hb0.size))
  clear hb0 hf0 hb1 hb2 hb02 hf2
  go_wp2_with fail
  obtain ⟨V, hV⟩ : ∃ V, V = (((W2.setCell ⟨bx, 0, none⟩ (.string ⟨#[109, 97, 105, 110]⟩)).setCell ⟨bx, 1, none⟩ (.int .i64 0)).setCell ⟨bx, 2, none⟩ (.int .i64 3)).setCell ⟨bx, 3, none⟩ (.slice (some ⟨W2.heap.size + 1, 0, none⟩) 1 1) := ⟨_, rfl⟩
  have hch : Chg (fun k => k = bx) W2 V := by rw [hV]; exact chg4
  have hb : FnBox V bx ⟨#[109, 97, 105, 110]⟩ 0 3 (.slice (some ⟨W2.heap.size + 1, 0, none⟩) 1 1) := by rw [hV]; exact box4 HF2.out
  have hsz : V.heap.size = W2.heap.size := by rw [hV]; simp
  rw [← hV, ← hsz]
  rw [← hsz] at hb
  obtain ⟨W6, hW6⟩ : ∃ W6, W6 = (V.alloc (.cells #[.int .i64 1, .int .i64 0, .int .i64 0, .int .i64 (-1), .int .i64 (-1), .int .i32 1, .string ⟨#[]⟩, .slice none 0 0, .int .i64 1, .int .i64 0, .int .i64 1, .int .i64 (-1), .int .i64 (-1), .int .i32 2, .string ⟨#[]⟩, .slice none 0 0, .int .i64 4, .int .i64 op, .int .i64 2, .int .i64 1, .int .i64 0, .int .i32 0, .string ⟨#[]⟩, .slice none 0 0] 48)).alloc (.cells #[.slice (some ⟨V.heap.size, 0, none⟩) 3 3, .int .i64 3, .int .i64 1, .int .i64 0, .int .i64 0] 45) := ⟨_, rfl⟩
  rw [← hW6]
  have h1 : W6.heap[V.heap.size]? = some (.cells #[.int .i64 1, .int .i64 0, .int .i64 0, .int .i64 (-1), .int .i64 (-1), .int .i32 1, .string ⟨#[]⟩, .slice none 0 0, .int .i64 1, .int .i64 0, .int .i64 1, .int .i64 (-1), .int .i64 (-1), .int .i32 2, .string ⟨#[]⟩, .slice none 0 0, .int .i64 4, .int .i64 op, .int .i64 2, .int .i64 1, .int .i64 0, .int .i32 0, .string ⟨#[]⟩, .slice none 0 0] 48 (0, 0)) := by
    rw [hW6]; exact (heap_alloc_old _ _ (by simp)).trans (heap_alloc_new V _)
  have h2 : W6.heap[V.heap.size + 1]? = some (.cells #[.slice (some ⟨V.heap.size, 0, none⟩) 3 3, .int .i64 3, .int .i64 1, .int .i64 0, .int .i64 0] 45 (0, 0)) := by
    rw [hW6]
    have h := heap_alloc_new (V.alloc (.cells #[.int .i64 1, .int .i64 0, .int .i64 0, .int .i64 (-1), .int .i64 (-1), .int .i32 1, .string ⟨#[]⟩, .slice none 0 0, .int .i64 1, .int .i64 0, .int .i64 1, .int .i64 (-1), .int .i64 (-1), .int .i32 2, .string ⟨#[]⟩, .slice none 0 0, .int .i64 4, .int .i64 op, .int .i64 2, .int .i64 1, .int .i64 0, .int .i32 0, .string ⟨#[]⟩, .slice none 0 0] 48)) (.cells #[.slice (some ⟨V.heap.size, 0, none⟩) 3 3, .int .i64 3, .int .i64 1, .int .i64 0, .int .i64 0] 45)
    rw [World.size_alloc] at h
    exact h
  have h6 : Below V.heap.size V W6 := by rw [hW6]; exact ((Below.refl _ V).alloc (Nat.le_refl _) _).alloc (by simp) _
  obtain ⟨e0, e1, e2, e3⟩ := (hb.below h6).cells
  have hbw : Below w.heap.size w W6 := (HB2.out.trans (hch.below HB2.out.size fun k e => by have := HBX.out; omega)).trans (h6.mono (by rw [hsz]; exact HB2.out.size))
  refine bodyPost_ret (v := .agg #[.string ⟨#[109, 97, 105, 110]⟩, .int .i64 0, .int .i64 3, .slice (some ⟨V.heap.size + 1, 0, none⟩) 1 1]) (by simp [results, Try.results16, go_sem, e0, e1, e2, e3]) rfl ⟨some ⟨V.heap.size + 1, 0, none⟩, 1, rfl, hbw, ex_mem op h1 h2⟩
set_option maxHeartbeats 4000000 in
set_option maxRecDepth 100000 in
theorem lives14_any (w : World) : Calls Try.prog 6 #[] w fun e w' => e = .returned (.bool true) ∧ Below w.heap.size w w' := by
  go_enter Try.func6, Try.ntmps6
  go_wp2_with fail
  refine (example_any 4 w).mono ?_
  rintro e w2 ⟨A2, c2, rfl, hb2, hm2⟩
  go_wp2_with fail
  refine (deadFn_any (exF 4) (ex_flow 4) (ex_data 4 (by omega)) A2 c2 w2 hm2).mono ?_
  rintro e w3 ⟨A3, c3, rfl, hb3, hm3⟩
  have HB3 : Hid (Below w.heap.size w w3) := Lib.hid (hb2.trans (hb3.mono hb2.size))
  have HM3 := Lib.hid hm3.mem
  clear hb2 hm2 hb3 hm3
  go_wp2_with fail
  refine (example_any 1 w3).mono ?_
  rintro e w4 ⟨A4, c4, rfl, hb4, hm4⟩
  have HB4 := Lib.hid hb4
  go_wp2_with fail
  refine (deadFn_any (exF 1) (ex_flow 1) (ex_data 1 (by omega)) A4 c4 w4 hm4).mono ?_
  rintro e w5 ⟨A5, c5, rfl, hb5, hm5⟩
  have HM35 := Lib.hid (HM3.out.below (HB4.out.trans (hb5.mono HB4.out.size)))
  have HB5 : Hid (Below w.heap.size w w5) := Lib.hid (HB3.out.trans ((HB4.out.trans (hb5.mono HB4.out.size)).mono HB3.out.size))
  have hm5' := hm5.mem
  rw [fin_add] at hm5' ⊢
  have h3 := HM35.out
  rw [fin_div] at h3 ⊢
  obtain ⟨g3, off3, A6, c6, rfl, hg3, hi3, x0, _⟩ := blkM_at h3 0 (by decide) (exB [insD 0 1, insD 1 2, insO 4]) rfl
  obtain ⟨g5, off5, A7, c7, rfl, hg5, hi5, y0, _⟩ := blkM_at hm5' 0 (by decide) (exB [insD 1 2]) rfl
  obtain ⟨g7, off7, _, _, rfl, hg7, _, _, _, z2, _⟩ := insM_at hi5 0 (by decide) (insD 1 2) rfl
  have x0 : w5.cell? ⟨g3, off3, none⟩ = some (.slice A6 3 c6) := x0
  have y0 : w5.cell? ⟨g5, off5, none⟩ = some (.slice (some ⟨g7, off7, none⟩) 1 c7) := y0
  have z2 : w5.cell? ⟨g7, off7 + 2, none⟩ = some (.int .i64 1) := z2
  simp only [fnAgg, exF, List.length_cons, List.length_nil, Nat.zero_add]
  clear hb4 hm4 hb5 hm5 HM35 HM3 hm5' h3 hi3 hi5 HB3 HB4
  go_wp2_with fail
  go_ret
  have hb := HB5.out.alloc HB5.out.size (.cells #[.string ⟨#[109, 97, 105, 110]⟩, .int .i64 0, .int .i64 3, .slice (some ⟨g3, off3, none⟩) 1 c3] 31)
  exact ⟨rfl, hb.alloc hb.size _⟩
end Go.Proofs.Ytlniohgnkihefaa
