/- DeadFns returns true for every program of blocks, and each argument reads behind the call as it read before. Conditions: none. -/
import Derived.Test.YtlniohgnkihefaaDeadFM
import Derived.Test.YtlniohgnkihefaaLiveW
import Derived.Test.YtlniohgnkihefaaLiveM
import Derived.BigQuiet
import Derived.Deep.QuietTactic
import Derived.Test.YtlniohgnkihefaaSmall
import Derived.Test.YtlniohgnkihefaaClone14
import Derived.Test.YtlniohgnkihefaaStep
import Derived.Test.YtlniohgnkihefaaHeldT
import Derived.Outline
import Derived.Test.YtlniohgnkihefaaRefFW
import Derived.Deep.RegionHeld3
import Derived.Test.YtlniohgnkihefaaRows
namespace Go.Proofs.Ytlniohgnkihefaa
open Go.RowKit
theorem selE_chg {bl gO oO cO n xO bO q q' : Nat} {x : BlkQ} {Y Y' : World} (h : SelE bl gO oO cO n xO bO q x Y) (hc : Chg (fun k => k = q') Y Y') (h1 : q ≠ q') (h2 : bl ≠ q') (h3 : gO ≠ q') : SelE bl gO oO cO n xO bO q x Y' :=
  ⟨⟨hc.cell h.1.1 h1, hc.cell h.1.2.1 h1, hc.cell h.1.2.2.1 h1, hc.cell h.1.2.2.2.1 h1, hc.cell h.1.2.2.2.2 h1⟩, hc.cell h.2.1 h2, hc.cell h.2.2 h3⟩
/-- .. with arguments of its own alone. -/
def FnD0 (w : World) (f : Fn) (e : Ending) (w' : World) : Prop := ∃ A c, e = .returned (fnAgg { f with blocks := finK f.blocks } A c) ∧ Below w.heap.size w w' ∧ BlkIn w' 0 A (finK f.blocks)
theorem FnI.out0 {w W W' : World} {bx : Nat} {f : Fn} {ks : List Blk} {A : Option Addr} {c : Nat} (h : FnI w 0 bx f false ks A c W) (hbx : bx = w.heap.size) (hc : Chg (fun k => k = bx + 1) W W') :
    ks = finK f.blocks ∧ Below w.heap.size w W' ∧ BlkIn W' 0 A (finK f.blocks) := by
  obtain ⟨h1, h2⟩ := h.own rfl
  have he : ks = finK f.blocks := by rw [← h.fin, finK_same h1]
  refine ⟨he, h.below.trans (hc.below h.below.size fun k e => by omega), ?_⟩
  rw [← he]
  refine h2.ko (KO.of_chg hc (Nat.zero_le _) fun k e => ⟨Nat.zero_le _, fun c t f e2 => ?_⟩)
  rw [e, show W.heap[bx + 1]? = _ from h.res] at e2
  cases e2
  exact ⟨by decide, by decide, fun _ => by decide⟩
set_option maxRecDepth 100000 in
set_option maxHeartbeats 4000000 in
theorem deadFn_any (f : Fn) (hF : FlowF f.blocks) (hD : DataF f.blocks) (A : Option Addr) (c : Nat) (w : World) (hr : BlkMem w A f.blocks) :
    Calls Try.prog 9 #[fnAgg f A c] w (FnD0 w f) := by
  obtain ⟨nm, pa, re, ks0⟩ := f
  dsimp only [fnAgg] at hF hD hr ⊢
  obtain ⟨n, hn⟩ : ∃ n, n = ks0.length := ⟨_, rfl⟩
  rw [← hn]
  have HN := Lib.hid hn
  have HF := Lib.hid hF
  have HDA := Lib.hid hD
  have HR := Lib.hid hr
  clear hn hF hD hr
  go_enter Try.func9, Try.ntmps9
  go_wp2_with fail
  obtain ⟨bx, hbx⟩ : ∃ bx, bx = w.heap.size := ⟨_, rfl⟩
  obtain ⟨W0, hW0⟩ : ∃ W0, W0 = (w.alloc (.cells #[.string nm, .int .i64 pa, .int .i64 re, .slice A n c] 31)).alloc (.cells #[.string ⟨#[]⟩, .int .i64 0, .int .i64 0, .slice none 0 0] 31) := ⟨_, rfl⟩
  rw [← hW0, ← hbx]
  have hI0 : FnI w 0 bx ⟨nm, pa, re, ks0⟩ true ks0 A c W0 := by
    have hb0 : Below w.heap.size w W0 := by rw [hW0]; exact ((Below.refl _ w).alloc (Nat.le_refl _) _).alloc (by simp) _
    refine ⟨hb0, ?_, ?_, HR.out.below hb0, HF.out, HDA.out, rfl, rfl, fun e => by cases e⟩
    · rw [← HN.out, hW0, hbx]; exact (heap_alloc_old _ _ (by simp)).trans (heap_alloc_new w _)
    · rw [hW0, hbx]
      have h := heap_alloc_new (w.alloc (.cells #[.string nm, .int .i64 pa, .int .i64 re, .slice A n c] 31)) (.cells #[.string ⟨#[]⟩, .int .i64 0, .int .i64 0, .slice none 0 0] 31)
      rw [World.size_alloc] at h
      exact h
  have HI0 := Lib.hid hI0
  have HBX := Lib.hid hbx
  clear hI0 hbx hW0
  go_loopg [3] (2 * costK ks0 + 1) (fun gk a W => ∃ (b : Bool) (ks : List Blk) (A : Option Addr) (c : Nat), a = .bool b ∧ FnI w 0 bx ⟨nm, pa, re, ks0⟩ b ks A c W ∧ gk = 2 * costK ks + boolN (.bool b))
  case atStart => exact ⟨true, ks0, A, c, rfl, HI0.out, rfl⟩
  case round =>
    clear HI0
    obtain ⟨b, ks, A, c, rfl, hI, hgk⟩ := hrel
    have hlen : ks.length = n := by rw [hI.len, HN.out]
    obtain ⟨x0, x1, x2, x3⟩ := hI.box.cells
    dsimp only at x0 x1 x2 x3
    rw [hlen] at x3
    have HI := Lib.hid hI
    have HGK := Lib.hid (And.intro hgk hlen)
    clear hI hgk hlen
    cases b with
    | false =>
      have hres := HI.out.res
      obtain ⟨y0, y1, y2, y3⟩ := hres.cells
      have yf := fun j => frozen_of_row wr (bx + 1) j _ _ hres
      clear hres
      go_wp2_with fail
      obtain ⟨Wf, hWf⟩ : ∃ Wf, Wf = (((wr.setCell ⟨bx + 1, 0, none⟩ (.string nm)).setCell ⟨bx + 1, 1, none⟩ (.int .i64 pa)).setCell ⟨bx + 1, 2, none⟩ (.int .i64 re)).setCell ⟨bx + 1, 3, none⟩ (.slice A n c) := ⟨_, rfl⟩
      rw [← hWf]
      obtain ⟨z1, z2, z3⟩ := HI.out.out0 HBX.out (W' := Wf) (by rw [hWf]; exact chg4)
      have hbf : FnBox Wf (bx + 1) nm pa re (.slice A n c) := by rw [hWf]; exact box4 HI.out.res
      obtain ⟨v0, v1, v2, v3⟩ := hbf.cells
      dsimp only at z1 z3
      refine bodyPost_ret (v := .agg #[.string nm, .int .i64 pa, .int .i64 re, .slice A n c]) (by simp [results, Try.results9, go_sem, v0, v1, v2, v3]) rfl ⟨A, c, ?_, z2, z3⟩
      unfold fnAgg
      dsimp only
      rw [← z1, HGK.out.2]
    | true =>
      obtain ⟨wo, rfl⟩ : ∃ wo : World, wo = wr := ⟨_, rfl⟩
      have hlv := live_any ⟨nm, pa, re, ks⟩ HI.out.flow HI.out.data A c wo HI.out.mem
      dsimp only [fnAgg] at hlv
      rw [HGK.out.2] at hlv
      have HLV := Lib.hid hlv
      clear hlv
      go_wp2_with fail
      refine HLV.out.mono ?_
      rintro e Wl ⟨vI, vO, ps, bl, rfl, hFM, hLV⟩
      obtain ⟨hO1, hO2⟩ := outS_outOf hLV
      rw [HGK.out.2] at hFM hO1 hO2
      obtain ⟨O, hO⟩ : ∃ O, O = outS n ps := ⟨_, rfl⟩
      rw [← hO] at hO1 hO2
      obtain ⟨⟨AI, cI, rfl⟩, AO, cO, rfl⟩ := flow_shapes hFM
      have HO := Lib.hid (And.intro hO (And.intro hO1 hO2))
      obtain ⟨ql, hql⟩ : ∃ ql, ql = Wl.heap.size := ⟨_, rfl⟩
      obtain ⟨W1, hW1⟩ : ∃ W1, W1 = Wl.alloc (.cells #[.slice AI n cI, .slice AO n cO] 61) := ⟨_, rfl⟩
      have hal : Below Wl.heap.size Wl W1 := by rw [hW1]; exact (Below.refl _ _).alloc (Nat.le_refl _) _
      have hF1 := hFM.below_ hal
      have hb1 := hF1.below
      have k3 : W1.cell? ⟨bx, 3, none⟩ = some (.slice A n c) := (hb1.cell (p := ⟨bx, 3, none⟩) (World.block_lt_of_cell? wo _ x3)).trans x3
      have hbl : W1.heap[ql]? = some (.cells #[.slice AI n cI, .slice AO n cO] 61 (0, 0)) := by rw [hW1, hql]; exact heap_alloc_new Wl _
      have HF1 := Lib.hid (And.intro hF1 hbl)
      have HW1 := Lib.hid (And.intro hW1 hql)
      have HLV2 := Lib.hid hLV
      rw [hW1] at k3
      clear hO1 hO2 hO hF1 hb1 hbl hal hFM hLV x0 x1 x2 x3 hW1 hql
      go_wp2_with fail
      rw [← HW1.out.1, ← HW1.out.2]
      rw [← HW1.out.1] at k3
      have hBW : 0 ≤ W1.heap.size := Nat.zero_le _
      go_loopw [3, 5, 16] (fun a v i W => ∃ (k : Nat) (rr : Option Nat), k ≤ n ∧ i = .int .i64 (k : Nat) ∧ a = .bool (trnO O ks k) ∧ BlkI2 W1 0 ks O k v rr W) (fun _ _ i _ => n - (intOf i).toNat)
      case atStart => exact ⟨0, none, Nat.zero_le _, rfl, by rw [trnO_zero], BlkI2.start _ _ _ _⟩
      case round =>
        obtain ⟨k, rr, hk, rfl, rfl, hB⟩ := hrel
        have HB := Lib.hid hB
        clear hB
        by_cases hlt : k < n
        · have hkk : k < ks.length := by rw [HGK.out.2]; exact hlt
          obtain ⟨g, off, x, rfl, hxk, hxm, hgl, hc0, hc1, hc2, hc3, hc4⟩ := blkMem_at HI.out.mem k hkk
          have hbw : Below wo.heap.size wo wr := HF1.out.1.below.trans (HB.out.below.mono HF1.out.1.below.size)
          have hcw : ∀ j v, wo.cell? ⟨g, off + k * 5 + j, none⟩ = some v → wr.cell? ⟨g, off + k * 5 + j, none⟩ = some v := fun j v h => (hbw.cell (p := ⟨g, off + k * 5 + j, none⟩) hgl).trans h
          replace hc0 := hcw 0 _ hc0
          replace hc1 := hcw 1 _ hc1
          replace hc2 := hcw 2 _ hc2
          replace hc3 := hcw 3 _ hc3
          replace hc4 := hcw 4 _ hc4
          rw [Nat.add_zero] at hc0
          obtain ⟨gO, oO, cO', eO⟩ := flow_shapeO HF1.out.1 (by omega)
          injection eO with eO _ eO2
          subst eO eO2
          have hpl := HF1.out.1.len
          obtain ⟨⟨bO, rO, wsO⟩, hpO⟩ : ∃ p, ps[n + k]? = some p := ⟨_, List.getElem?_eq_getElem (by omega)⟩
          obtain ⟨hpo, epo⟩ := List.getElem?_eq_some_iff.1 hpO
          have hOk : O k = memW wsO := by rw [HO.out.1, outS_at _ hlt, wsAt_eq _ _ hpo, epo]
          have hFr : FlowM wo bl n (.slice AI n cI) (.slice (some ⟨gO, oO, none⟩) n cO) ps [] wr := HF1.out.1.below_ HB.out.below
          have hbox : BlkBox (wr.alloc (.cells #[.slice x.A x.k.ins.length x.c, .int .i64 x.k.kind, .int .i64 x.k.a, .int .i64 x.k.to, .int .i64 x.k.els] 45)) wr.heap.size x := heap_alloc_new wr _
          obtain ⟨wd, hwd⟩ : ∃ wd, wd = (wr.alloc (.cells #[.slice x.A x.k.ins.length x.c, .int .i64 x.k.kind, .int .i64 x.k.a, .int .i64 x.k.to, .int .i64 x.k.els] 45)).drew := ⟨_, rfl⟩
          have hwr : Below wr.heap.size wr wd := by rw [hwd]; exact ((Below.refl _ _).alloc (Nat.le_refl _) _).drew
          obtain ⟨q7, hq7⟩ : ∃ q7, q7 = wr.heap.size := ⟨_, rfl⟩
          have hFd := hFr.below_ hwr
          have hqd : BlkBox wd q7 x := by rw [hwd, hq7]; exact hbox
          have hld : wd.heap[ql]? = some (.cells #[.slice AI n cI, .slice (some ⟨gO, oO, none⟩) n cO] 61 (0, 0)) := (hwr.block ql (Nat.lt_of_lt_of_le (lt_of_heap HF1.out.2) HB.out.below.size)).trans ((HB.out.below.block ql (lt_of_heap HF1.out.2)).trans HF1.out.2)
          have hsel : SelE ql gO oO cO n (oO + k) bO q7 x wd := by
            refine ⟨hqd.cells, by rw [cell_of_row _ _ _ _ _ _ hld]; rfl, ?_⟩
            have := flow_cellO hFd k hlt hpo
            rw [epo] at this; exact this
          have hat : BitsAt wd bO rO wsO := by have := hFd.at_ (n + k) hpo; rw [epo] at this; exact this
          have hxf : BlkF ks.length x.k := by rw [hxk]; exact HI.out.flow.blk _ (List.getElem_mem hkk)
          have hxd := HI.out.data x.k (by rw [hxk]; exact List.getElem_mem hkk)
          have HSW := Lib.hid (fun W' (hb' : Below wd.heap.size wd W') => sweep_any x hxd.1 hxf.nins (fun y hy => ⟨hxd.2 y hy, (hxf.regs y hy).2⟩) W' (bits_below hat hb') ((hxm.below hbw).below (hwr.trans (hb'.mono hwr.size))))
          have hqlt : q7 < wd.heap.size := lt_of_heap hqd
          have hllt : ql < wd.heap.size := lt_of_heap hld
          have hglt : gO < wd.heap.size := World.block_lt_of_cell? wd ⟨gO, oO + k, none⟩ hsel.2.2
          have HK := Lib.hid (And.intro hxk hOk)
          have HWR := Lib.hid (And.intro hwr hbw)
          have HWD := Lib.hid hwd
          have HQ7 := Lib.hid hq7
          have HFIN : Hid (∀ (q8 : Nat) (A2 : Option Addr) (c2 : Nat) (wz : World), Below wd.heap.size wd wz → wz.heap[q8]? = some (.cells #[.slice A2 (swBlk x.k (memW wsO)).ins.length c2, .int .i64 x.k.kind, .int .i64 x.k.a, .int .i64 x.k.to, .int .i64 x.k.els] 45 (0, 0)) → InsIn wz 0 A2 (swBlk x.k (memW wsO)).ins →
              ∃ (q8' : Nat) (A2' : Option Addr) (c2' : Nat), Value.pointer (some ⟨q8, 0, none⟩) = .pointer (some ⟨q8', 0, none⟩) ∧ Value.bool (swT x.k (memW wsO)) = .bool (swT ks[k] (O k)) ∧ BlkI2 W1 0 ks O k u5 rr wz ∧ BlkBox wz q8' ⟨swBlk ks[k] (O k), A2', c2'⟩ ∧ InsIn wz 0 A2' (swBlk ks[k] (O k)).ins) := Lib.hid fun q8 A2 c2 wz h1 h2 h3 => by
            rw [← HK.out.1, HK.out.2]
            exact ⟨q8, A2, c2, rfl, rfl, HB.out.below_ hBW (HWR.out.1.trans (h1.mono HWR.out.1.size)), h2, h3.up (Nat.zero_le _)⟩
          clear hcw hpl hpO hpo epo hOk hFr hbox hwd hwr hFd hqd hld hat hxf hxd hxk hxm hgl hbw hq7
          go_wp2_with fail
          rw [← HQ7.out]
          go_cut [8, 9] (fun s8 s9 wz => ∃ (q8 : Nat) (A2 : Option Addr) (c2 : Nat), s8 = .pointer (some ⟨q8, 0, none⟩) ∧ s9 = .bool (swT ks[k] (O k)) ∧ BlkI2 W1 0 ks O k u5 rr wz ∧ BlkBox wz q8 ⟨swBlk ks[k] (O k), A2, c2⟩ ∧ InsIn wz 0 A2 (swBlk ks[k] (O k)).ins)
          case first =>
            -- GENERATED: region 9
            refine wp_region_T (SelE ql gO oO cO n (oO + k) bO q7 x) [] (by kernel_rfl) (by rw [← HWD.out]; exact hsel) (fun _ => ?_)
            rw [← HWD.out]
            refine wpAnyT_load (i := 0) (v := ?vc1) rfl (by kernel_rfl) (by kernel_rfl) (by kernel_rfl) rfl (by kernel_rfl) (by kernel_rfl) (fun _ _ _ h => h) (Or.inl ⟨by rfl, ?hyc1⟩) (DL.of hsel) ?restc1
            case hyc1 => (intro w hSw; obtain ⟨⟨s1, s2, s3, s4, s5⟩, s6, s7⟩ := hSw rfl; go_simp; try rfl)
            try simp only [Act.put, List.setIfInBounds_toArray, List.set_cons_zero, List.set_cons_succ, List.getElem_toArray, List.getElem_cons_zero]
            refine wpAnyT_take (i := 1) (v := ?vc2) rfl (by kernel_rfl) (by kernel_rfl) (by kernel_rfl) rfl (fun _ _ _ h => h) (Or.inl ⟨by rfl, ?hyc2⟩) (DL.of hsel) ?restc2
            case hyc2 => (intro w hSw; go_simp; try rfl)
            try simp only [Act.put, List.setIfInBounds_toArray, List.set_cons_zero, List.set_cons_succ, List.getElem_toArray, List.getElem_cons_zero, List.getElem_cons_succ]
            refine wpAnyT_load (i := 2) (v := ?vc3) rfl (by kernel_rfl) (by kernel_rfl) (by kernel_rfl) rfl (by kernel_rfl) (by kernel_rfl) (fun _ _ _ h => h) (Or.inl ⟨by rfl, ?hyc3⟩) (DL.of hsel) ?restc3
            case hyc3 => (intro w hSw; obtain ⟨⟨s1, s2, s3, s4, s5⟩, s6, s7⟩ := hSw rfl; go_simp; try rfl)
            try simp only [Act.put, List.setIfInBounds_toArray, List.set_cons_zero, List.set_cons_succ, List.getElem_toArray, List.getElem_cons_zero, List.getElem_cons_succ]
            refine wpAnyT_take (i := 3) (v := ?vc4) rfl (by kernel_rfl) (by kernel_rfl) (by kernel_rfl) rfl (fun _ _ _ h => h) (Or.inl ⟨by rfl, ?hyc4⟩) (DL.of hsel) ?restc4
            case hyc4 => (intro w hSw; go_simp; try rfl)
            try simp only [Act.put, List.setIfInBounds_toArray, List.set_cons_zero, List.set_cons_succ, List.getElem_toArray, List.getElem_cons_zero, List.getElem_cons_succ]
            refine wpAnyT_take (i := 4) (v := ?vc5) rfl (by kernel_rfl) (by kernel_rfl) (by kernel_rfl) rfl (fun _ _ _ h => h) (Or.inl ⟨by rfl, ?hyc5⟩) (DL.of hsel) ?restc5
            case hyc5 => (intro w hSw; go_simp; try rfl)
            try simp only [Act.put, List.setIfInBounds_toArray, List.set_cons_zero, List.set_cons_succ, List.getElem_toArray, List.getElem_cons_zero, List.getElem_cons_succ]
            refine wpAnyT_load (i := 5) (v := ?vc6) rfl (by kernel_rfl) (by kernel_rfl) (by kernel_rfl) rfl (by kernel_rfl) (by kernel_rfl) (fun _ _ _ h => h) (Or.inl ⟨by rfl, ?hyc6⟩) (DL.of hsel) ?restc6
            case hyc6 => (intro w hSw; obtain ⟨⟨s1, s2, s3, s4, s5⟩, s6, s7⟩ := hSw rfl; go_simp; try rfl)
            try simp only [Act.put, List.setIfInBounds_toArray, List.set_cons_zero, List.set_cons_succ, List.getElem_toArray, List.getElem_cons_zero, List.getElem_cons_succ]
            refine wpAnyT_ready (rs := [6, 10]) (by kernel_rfl) (by simp) ?_
            refine AllReadyT.cons rfl (fun K hK => ?_) (AllReadyT.cons rfl (fun K hK => ?_) AllReadyT.nil)
            · try simp only [Act.put, List.setIfInBounds_toArray, List.set_cons_zero, List.set_cons_succ, List.getElem_toArray, List.getElem_cons_zero, List.getElem_cons_succ]
              go_simp
              go_at_call 24
              refine (HSW.out wd (Below.refl _ _)).mono ?_
              rintro e WE ⟨A2, c2, rfl, hbE, hiE⟩
              have hselE : SelE ql gO oO cO n (oO + k) bO q7 x WE := selE_below hsel (hbE)
              have HBE := Lib.hid hbE
              have HIE := Lib.hid hiE
              clear hbE hiE
              refine hK.out _ _ (DL.of hselE) (fun _ => ?_)
              clear hK K
              try simp only [Act.put, List.setIfInBounds_toArray, List.set_cons_zero, List.set_cons_succ, List.getElem_toArray, List.getElem_cons_zero, List.getElem_cons_succ]
              refine wpAnyT_take (i := 7) (v := ?vca1) rfl (by kernel_rfl) (by kernel_rfl) (by kernel_rfl) rfl (fun _ _ _ h => h) (Or.inl ⟨by rfl, ?hyca1⟩) (DL.of hselE) ?restca1
              case hyca1 => (intro w hSw; go_simp; try rfl)
              try simp only [Act.put, List.setIfInBounds_toArray, List.set_cons_zero, List.set_cons_succ, List.getElem_toArray, List.getElem_cons_zero, List.getElem_cons_succ]
              refine wpAnyT_take (i := 8) (v := ?vca2) rfl (by kernel_rfl) (by kernel_rfl) (by kernel_rfl) rfl (fun _ _ _ h => h) (Or.inl ⟨by rfl, ?hyca2⟩) (DL.of hselE) ?restca2
              case hyca2 => (intro w hSw; go_simp; try rfl)
              try simp only [Act.put, List.setIfInBounds_toArray, List.set_cons_zero, List.set_cons_succ, List.getElem_toArray, List.getElem_cons_zero, List.getElem_cons_succ]
              refine wpAnyT_take (i := 9) (v := ?vca3) rfl (by kernel_rfl) (by kernel_rfl) (by kernel_rfl) rfl (fun _ _ _ h => h) (Or.inl ⟨by rfl, ?hyca3⟩) (DL.of hselE) ?restca3
              case hyca3 => (intro w hSw; go_simp; try rfl)
              try simp only [Act.put, List.setIfInBounds_toArray, List.set_cons_zero, List.set_cons_succ, List.getElem_toArray, List.getElem_cons_zero, List.getElem_cons_succ]
              refine wpAnyT_ready (rs := [10]) (by kernel_rfl) (by simp) ?_
              refine AllReadyT.cons rfl (fun K hK => ?_) AllReadyT.nil
              try simp only [Act.put, List.setIfInBounds_toArray, List.set_cons_zero, List.set_cons_succ, List.getElem_toArray, List.getElem_cons_zero, List.getElem_cons_succ]
              go_simp
              refine hK.out _ _ (DL.of (selE_below hselE ((Below.refl _ _).alloc (Nat.le_refl _) _))) (fun _ => ?_)
              clear hK K
              try simp only [Act.put, List.setIfInBounds_toArray, List.set_cons_zero, List.set_cons_succ, List.getElem_toArray, List.getElem_cons_zero, List.getElem_cons_succ]
              refine wpAnyT_ready (rs := [11]) (by kernel_rfl) (by simp) ?_
              refine AllReadyT.cons rfl (fun K hK => ?_) AllReadyT.nil
              try simp only [Act.put, List.getElem_toArray, List.getElem_cons_zero, List.getElem_cons_succ]
              go_simp
              refine hK.out _ _ (DL.of (selE_below hselE ((Below.refl _ _).alloc (Nat.le_refl _) _))) (fun _ => ?_)
              clear hK K
              try simp only [Act.put, List.setIfInBounds_toArray, List.set_cons_zero, List.set_cons_succ, List.getElem_toArray, List.getElem_cons_zero, List.getElem_cons_succ]
              refine wpAnyT_take (i := 12) (v := ?vca4) rfl (by kernel_rfl) (by kernel_rfl) (by kernel_rfl) rfl (fun _ _ _ h => h) (Or.inl ⟨by rfl, ?hyca4⟩) (DL.of (selE_below hselE ((Below.refl _ _).alloc (Nat.le_refl _) _))) ?restca4
              case hyca4 => (intro w hSw; go_simp; try rfl)
              try simp only [Act.put, List.setIfInBounds_toArray, List.set_cons_zero, List.set_cons_succ, List.getElem_toArray, List.getElem_cons_zero, List.getElem_cons_succ]
              refine wpAnyT_done (by kernel_rfl) ?_ _
              go_wp2_with fail
              go_meet
              exact HFIN.out _ _ _ _ (HBE.out.alloc HBE.out.size _) (heap_alloc_new WE _) (HIE.out.ko (KO.of_below (b := true) ((Below.refl _ _).alloc (Nat.le_refl _) _) (Nat.zero_le _)))
            · try simp only [Act.put, List.setIfInBounds_toArray, List.set_cons_zero, List.set_cons_succ, List.getElem_toArray, List.getElem_cons_zero, List.getElem_cons_succ]
              go_simp
              refine hK.out _ _ (DL.of (selE_below hsel ((Below.refl _ _).alloc (Nat.le_refl _) _))) (fun _ => ?_)
              clear hK K
              try simp only [Act.put, List.setIfInBounds_toArray, List.set_cons_zero, List.set_cons_succ, List.getElem_toArray, List.getElem_cons_zero, List.getElem_cons_succ]
              refine wpAnyT_ready (rs := [6]) (by kernel_rfl) (by simp) ?_
              refine AllReadyT.cons rfl (fun K hK => ?_) AllReadyT.nil
              try simp only [Act.put, List.setIfInBounds_toArray, List.set_cons_zero, List.set_cons_succ, List.getElem_toArray, List.getElem_cons_zero, List.getElem_cons_succ]
              go_simp
              go_at_call 24
              refine (HSW.out _ ((Below.refl _ _).alloc (Nat.le_refl _) _)).mono ?_
              rintro e WE ⟨A2, c2, rfl, hbE, hiE⟩
              have hselE : SelE ql gO oO cO n (oO + k) bO q7 x WE := selE_below hsel (((Below.refl _ wd).alloc (Nat.le_refl _) _).trans (hbE.mono (by simp)))
              have HBE := Lib.hid hbE
              have HIE := Lib.hid hiE
              clear hbE hiE
              have h9 := (HBE.out.block wd.heap.size (by simp)).trans (heap_alloc_new wd (.cells #[.slice none 0 0, .int .i64 0, .int .i64 0, .int .i64 0, .int .i64 0] 45))
              obtain ⟨m0, m1, m2, m3, m4⟩ := BlkBox.cells (x := zeroQ) h9
              simp only [zeroQ, List.length_nil] at m0 m1 m2 m3 m4
              have mf := fun j => frozen_of_row WE wd.heap.size j _ _ h9
              have hne7 : q7 ≠ wd.heap.size := by omega
              have hnel : ql ≠ wd.heap.size := by omega
              have hneO : gO ≠ wd.heap.size := by omega
              have H9 := Lib.hid h9
              clear h9
              refine hK.out _ _ (DL.of hselE) (fun _ => ?_)
              clear hK K
              try simp only [Act.put, List.setIfInBounds_toArray, List.set_cons_zero, List.set_cons_succ, List.getElem_toArray, List.getElem_cons_zero, List.getElem_cons_succ]
              refine wpAnyT_take (i := 7) (v := ?vcb1) rfl (by kernel_rfl) (by kernel_rfl) (by kernel_rfl) rfl (fun _ _ _ h => h) (Or.inl ⟨by rfl, ?hycb1⟩) (DL.of hselE) ?restcb1
              case hycb1 => (intro w hSw; go_simp; try rfl)
              try simp only [Act.put, List.setIfInBounds_toArray, List.set_cons_zero, List.set_cons_succ, List.getElem_toArray, List.getElem_cons_zero, List.getElem_cons_succ]
              refine wpAnyT_take (i := 8) (v := ?vcb2) rfl (by kernel_rfl) (by kernel_rfl) (by kernel_rfl) rfl (fun _ _ _ h => h) (Or.inl ⟨by rfl, ?hycb2⟩) (DL.of hselE) ?restcb2
              case hycb2 => (intro w hSw; go_simp; try rfl)
              try simp only [Act.put, List.setIfInBounds_toArray, List.set_cons_zero, List.set_cons_succ, List.getElem_toArray, List.getElem_cons_zero, List.getElem_cons_succ]
              refine wpAnyT_take (i := 9) (v := ?vcb3) rfl (by kernel_rfl) (by kernel_rfl) (by kernel_rfl) rfl (fun _ _ _ h => h) (Or.inl ⟨by rfl, ?hycb3⟩) (DL.of hselE) ?restcb3
              case hycb3 => (intro w hSw; go_simp; try rfl)
              try simp only [Act.put, List.setIfInBounds_toArray, List.set_cons_zero, List.set_cons_succ, List.getElem_toArray, List.getElem_cons_zero, List.getElem_cons_succ]
              refine wpAnyT_ready (rs := [11]) (by kernel_rfl) (by simp) ?_
              refine AllReadyT.cons rfl (fun K hK => ?_) AllReadyT.nil
              try simp only [Act.put, List.getElem_toArray, List.getElem_cons_zero, List.getElem_cons_succ]
              go_simp
              refine hK.out _ _ (DL.of (selE_chg hselE chg5 hne7 hnel hneO)) (fun _ => ?_)
              clear hK K
              try simp only [Act.put, List.setIfInBounds_toArray, List.set_cons_zero, List.set_cons_succ, List.getElem_toArray, List.getElem_cons_zero, List.getElem_cons_succ]
              refine wpAnyT_take (i := 12) (v := ?vcb4) rfl (by kernel_rfl) (by kernel_rfl) (by kernel_rfl) rfl (fun _ _ _ h => h) (Or.inl ⟨by rfl, ?hycb4⟩) (DL.of (selE_chg hselE chg5 hne7 hnel hneO)) ?restcb4
              case hycb4 => (intro w hSw; go_simp; try rfl)
              try simp only [Act.put, List.setIfInBounds_toArray, List.set_cons_zero, List.set_cons_succ, List.getElem_toArray, List.getElem_cons_zero, List.getElem_cons_succ]
              refine wpAnyT_done (by kernel_rfl) ?_ _
              clear m0 m1 m2 m3 m4 mf hne7 hnel hneO
              go_wp2_with fail
              go_meet
              exact HFIN.out _ _ _ _ ((((Below.refl _ wd).alloc (Nat.le_refl _) _).trans (HBE.out.mono (by simp))).trans (chg5.below (by have := HBE.out.size; simp at this; omega) fun k e => by rw [e]; exact Nat.le_refl _)) (box5 H9.out) (HIE.out.ko (KO.of_chg (b := false) chg5 (Nat.zero_le _) fun k e => ⟨Nat.zero_le _, fun c t f e2 => by rw [e, H9.out] at e2; cases e2; exact ⟨by decide, by decide, (fun e => by cases e)⟩⟩))
            -- END region 9
          case rest =>
            obtain ⟨q8, A2, c2, rfl, rfl, hB2, hb8, hI2⟩ := hcut
            obtain ⟨y, hy⟩ : ∃ y, y = swBlk ks[k] (O k) := ⟨_, rfl⟩
            rw [← hy] at hb8 hI2
            obtain ⟨d0, d1, d2, d3, d4⟩ := hb8.cells
            dsimp only at d0 d1 d2 d3 d4
            have hal : Below wc.heap.size wc (wc.alloc (.cells #[.slice A2 y.ins.length c2, .int .i64 y.kind, .int .i64 y.a, .int .i64 y.to, .int .i64 y.els] 45)) := (Below.refl _ _).alloc (Nat.le_refl _) _
            have hBa := hB2.below_ hBW hal
            obtain ⟨xs, h1, hrow, h3⟩ := hBa.row
            have hnew : ∀ j u, (blkQ ⟨y, A2, c2⟩)[j]? = some u → (wc.alloc (.cells #[.slice A2 y.ins.length c2, .int .i64 y.kind, .int .i64 y.a, .int .i64 y.to, .int .i64 y.els] 45)).cell? ((⟨wc.heap.size, 0, none⟩ : Addr).add j) = some u := fun j u hu => by
              rw [show ((⟨wc.heap.size, 0, none⟩ : Addr).add j) = ⟨wc.heap.size, j, none⟩ from by by_cases e : j = 0 <;> simp [Addr.add, e], cell_of_row _ _ _ _ _ _ (heap_alloc_new wc _), ← Array.getElem?_toList]
              exact hu
            have HROW := Lib.hid hrow
            have HNW := Lib.hid hnew
            have HB2 := Lib.hid (And.intro hBa (And.intro h1 (And.intro h3 (hI2.ko (KO.of_below (b := true) hal (Nat.le_trans hBW hB2.below.size))))))
            have HY := Lib.hid hy
            obtain ⟨tk, htk⟩ : ∃ tk, tk = trnO O ks k := ⟨_, rfl⟩
            obtain ⟨sk, hsk⟩ : ∃ sk, sk = swT ks[k] (O k) := ⟨_, rfl⟩
            have HT := Lib.hid (show trnO O ks (k + 1) = (tk || sk) from by rw [htk, hsk, trnO_succ O ks k hkk])
            rw [← htk, ← hsk]
            have hnb : n ≤ 1000 := by rw [← HGK.out.2]; exact HI.out.flow.nb
            clear hB2 hb8 hI2 hal hBa h1 hrow h3 hnew hy htk hsk hsel hqlt hllt hglt hc0 hc1 hc2 hc3 hc4 HSW HFIN
            cases tk
            all_goals
              go_wp2_with (at_builtin; refine wpList_append_row14 _ rfl _ _ 29 45 _ 5 56 rfl Try.underlying29 info_blk rfl HROW.out ⟨wc.heap.size, 0, none⟩ 1 1 (blkQ ⟨y, A2, c2⟩) rfl HNW.out (blkQ_plain _) rfl rfl (by omega) (by unfold maxLen; omega) (by omega) ?_; intro v' rr' W5 hR hC hN; have HR := Lib.hid hR; have HC := Lib.hid hC; have HN2 := Lib.hid hN; clear hR hC hN d0 d1 d2 d3 d4)
              go_roundw
              case rel =>
                refine ⟨k + 1, rr', hlt, by simp, by rw [HT.out]; rfl, ?_⟩
                have hp := HB2.out.1.push hBW HB2.out.2.1 HB2.out.2.2.1 hkk (A := A2) (c := c2) (by rw [← HY.out]; exact HB2.out.2.2.2) (by rw [← HY.out]; exact HR.out) HC.out HN2.out
                exact hp
              case measure => simp [intOf]; omega
        · obtain rfl : k = n := by omega
          obtain ⟨xs, h1, hrow, h3⟩ := HB.out.row
          obtain ⟨A5, c5, rfl, _⟩ := hrow.shape
          have hbw : Below wo.heap.size wo wr := HF1.out.1.below.trans (HB.out.below.mono HF1.out.1.below.size)
          have hn2 : BlkIn wr 0 A5 (nxt ks) := by
            have := blkIn_of_row hrow h3
            rw [h1, List.take_of_length_le (by rw [nxtO_len, HGK.out.2]; exact Nat.le_refl _), HO.out.2.1] at this
            exact this
          have hbx := HI.out.box.below hbw
          have q3 := hbx.cells.2.2.2
          have f3 := frozen_of_row wr bx 3 _ _ hbx
          have hnx := HI.out.next (by have := HBX.out; omega) (Nat.zero_le _) hbw (c' := c5) hn2
          rw [HGK.out.2] at hnx q3
          have ht : trnO O ks k = trn ks := by rw [HO.out.2.2 k (Nat.le_refl _)]; unfold trn; rw [HGK.out.2]
          have HNX := Lib.hid (And.intro hnx ht)
          clear h1 hrow h3 hbw hn2 hbx hnx ht hk hlt
          go_wp2_with fail
          go_roundg (2 * costK (nxt ks) + boolN (.bool (trn ks)))
          case rel => exact ⟨trn ks, nxt ks, A5, c5, by rw [HNX.out.2], HNX.out.1, rfl⟩
          case measure => have := FnI.cost (ks := ks); have := HGK.out.1; simp [boolN] at *; omega
end Go.Proofs.Ytlniohgnkihefaa
namespace Go.Proofs.Ytlniohgnkihefaa
open Go.RowKit
variable {w w' : World}
theorem below_drewN' {w w' : World} {B : Nat} (h : Below B w w') (k : Nat) : Below B w (w'.drewN k) := ⟨h.os, h.tape, h.output, h.size, h.block⟩
theorem insM_at {A : Option Addr} {l : List Ins} (h : InsMem w A l) (k : Nat) (hk : k < l.length) (x : Ins) (hx : x = l[k]) : ∃ (g off : Nat) (Ax : Option Addr) (c : Nat), A = some ⟨g, off, none⟩ ∧ g < w.heap.size ∧ ReadsAt w Ax (ints x.args) ∧
    w.cell? ⟨g, off + k * 8, none⟩ = some (.int .i64 x.kind) ∧ w.cell? ⟨g, off + k * 8 + 1, none⟩ = some (.int .i64 x.op) ∧ w.cell? ⟨g, off + k * 8 + 2, none⟩ = some (.int .i64 x.d) ∧ w.cell? ⟨g, off + k * 8 + 3, none⟩ = some (.int .i64 x.a) ∧ w.cell? ⟨g, off + k * 8 + 4, none⟩ = some (.int .i64 x.b) ∧
    w.cell? ⟨g, off + k * 8 + 5, none⟩ = some (.int .i32 x.num) ∧ w.cell? ⟨g, off + k * 8 + 6, none⟩ = some (.string x.name) ∧ w.cell? ⟨g, off + k * 8 + 7, none⟩ = some (.slice Ax x.args.length c) := by
  obtain ⟨xs, h1, h2, h3⟩ := h
  have hkb : k < xs.length := by rw [← h1, List.length_map] at hk; exact hk
  have hx2 : x = xs[k].k := by rw [hx]; simp only [← h1, List.getElem_map]
  obtain ⟨g, off, hA, hg, hc⟩ := h2 (by omega)
  have hr := h3 _ (List.getElem_mem hkb)
  rw [← hx2] at hr
  have hc' := hc k hkb
  rw [← hx2] at hc'
  exact ⟨g, off, xs[k].A, xs[k].c, hA, hg, hr, hc' 0 _ rfl, hc' 1 _ rfl, hc' 2 _ rfl, hc' 3 _ rfl, hc' 4 _ rfl, hc' 5 _ rfl, hc' 6 _ rfl, hc' 7 _ rfl⟩
theorem readsAt {A : Option Addr} {l : List Int} (h : ReadsAt w A (ints l)) (q : Nat) (hq : q < l.length) : ∃ (g off : Nat), A = some ⟨g, off, none⟩ ∧ g < w.heap.size ∧ w.cell? ⟨g, off + q, none⟩ = some (.int .i64 (l.getD q 0)) := by
  obtain ⟨g, off, hA, hg, hc⟩ := h (by rw [ints_length]; omega)
  exact ⟨g, off, hA, hg, hc q _ (ints_at l q hq)⟩
set_option maxHeartbeats 8000000 in
set_option maxRecDepth 100000 in
theorem sameIns_any (l : List Ins) (hl : l.length ≤ 1000) (ha : ∀ x ∈ l, x.args.length ≤ 1000) (A B : Option Addr) (c d : Nat) (w : World) (hA : InsMem w A l) (hB : InsMem w B l) :
    Calls Try.prog 25 #[.slice A l.length c, .slice B l.length d] w fun e w' => e = .returned (.bool true) ∧ Below w.heap.size w w' := by
  have HA := Lib.hid hA
  have HB := Lib.hid hB
  have HARG := Lib.hid ha
  clear hA hB ha
  go_enter Try.func25, Try.ntmps25
  go_wp2_with fail
  go_loopw [16] (fun i wr => ∃ (k : Nat), k ≤ l.length ∧ i = .int .i64 (k : Nat) ∧ Below w.heap.size w wr) (fun i _ => l.length - (intOf i).toNat)
  case atStart => exact ⟨0, by omega, rfl, Below.refl _ _⟩
  case round =>
    obtain ⟨k, hk, rfl, hB⟩ := hrel
    have HBW := Lib.hid hB
    clear hB
    by_cases hlt : k < l.length
    · obtain ⟨x, hxe⟩ : ∃ x, x = l[k] := ⟨_, rfl⟩
      have hxa := HARG.out x (by rw [hxe]; exact List.getElem_mem hlt)
      obtain ⟨g, off, Ax, cx, rfl, hg, hra, a0, a1, a2, a3, a4, a5, a6, a7⟩ := insM_at (HA.out.below HBW.out) k hlt x hxe
      obtain ⟨g', off', Bx, dx, rfl, hg', hrb, b0, b1, b2, b3, b4, b5, b6, b7⟩ := insM_at (HB.out.below HBW.out) k hlt x hxe
      have HRA := Lib.hid hra
      have HRB := Lib.hid hrb
      clear hra hrb hxe
      go_wp2_with fail
      obtain ⟨w2, hw2⟩ : ∃ w2, w2 = (wr.alloc (.cells #[.int .i64 x.kind, .int .i64 x.op, .int .i64 x.d, .int .i64 x.a, .int .i64 x.b, .int .i32 x.num, .string x.name, .slice Ax x.args.length cx] 48)).alloc (.cells #[.int .i64 x.kind, .int .i64 x.op, .int .i64 x.d, .int .i64 x.a, .int .i64 x.b, .int .i32 x.num, .string x.name, .slice Bx x.args.length dx] 48) := ⟨_, rfl⟩
      have hb2 : Below wr.heap.size wr w2 := by rw [hw2]; exact ((Below.refl _ _).alloc (Nat.le_refl _) _).alloc (by simp) _
      have y6 : w2.cell? ⟨wr.heap.size + 1, 7, none⟩ = some (.slice Bx x.args.length dx) := by
        rw [hw2]
        have := heap_alloc_new (wr.alloc (.cells #[.int .i64 x.kind, .int .i64 x.op, .int .i64 x.d, .int .i64 x.a, .int .i64 x.b, .int .i32 x.num, .string x.name, .slice Ax x.args.length cx] 48)) (.cells #[.int .i64 x.kind, .int .i64 x.op, .int .i64 x.d, .int .i64 x.a, .int .i64 x.b, .int .i32 x.num, .string x.name, .slice Bx x.args.length dx] 48)
        simp only [World.size_alloc] at this
        exact cell_of_row _ _ _ _ _ _ this
      have x6 : w2.cell? ⟨wr.heap.size, 7, none⟩ = some (.slice Ax x.args.length cx) := by
        have h5 : w2.heap[wr.heap.size]? = some (.cells #[.int .i64 x.kind, .int .i64 x.op, .int .i64 x.d, .int .i64 x.a, .int .i64 x.b, .int .i32 x.num, .string x.name, .slice Ax x.args.length cx] 48 (0, 0)) := by
          rw [hw2, Below.heap_alloc _ _ _ (by simp)]; exact heap_alloc_new wr _
        exact cell_of_row _ _ _ _ _ _ h5
      have hl2 : wr.heap.size + 1 < w2.heap.size := by rw [hw2]; simp
      rw [← hw2]
      have HW2 : Hid (Below w.heap.size w w2) := Lib.hid (HBW.out.trans (hb2.mono HBW.out.size))
      have HRA2 := Lib.hid (readsBelow HRA.out hb2)
      have HRB2 := Lib.hid (readsBelow HRB.out hb2)
      clear hw2 hb2 a0 a1 a2 a3 a4 a5 a6 a7 b0 b1 b2 b3 b4 b5 b6 b7
      obtain ⟨w3, hw3⟩ : ∃ w3 : World, w3 = wr := ⟨_, rfl⟩
      rw [← hw3] at HBW hg hg' HRA HRB y6 x6 hl2
      rw [← hw3]
      clear hw3 HRA HRB
      go_loopw [84] (fun i wz => ∃ (q : Nat), q ≤ x.args.length ∧ i = .int .i64 (q : Nat) ∧ Below w2.heap.size w2 wz) (fun i _ => x.args.length - (intOf i).toNat)
      case atStart => exact ⟨0, by omega, rfl, Below.refl _ _⟩
      case round =>
        obtain ⟨q, hq, rfl, hBz⟩ := hrel
        have HBZ := Lib.hid hBz
        have z6 := (hBz.cell (p := ⟨w3.heap.size, 7, none⟩) (Nat.lt_of_succ_lt hl2)).trans x6
        have v6 := (hBz.cell (p := ⟨w3.heap.size + 1, 7, none⟩) hl2).trans y6
        have hlz : w3.heap.size + 1 < wr.heap.size := Nat.lt_of_lt_of_le hl2 hBz.size
        clear hBz
        by_cases hqt : q < x.args.length
        · obtain ⟨ga, oa, rfl, hga, ea⟩ := readsAt (readsBelow HRA2.out HBZ.out) q hqt
          obtain ⟨gb, ob, rfl, hgb, eb⟩ := readsAt (readsBelow HRB2.out HBZ.out) q hqt
          have hqi : (q : Int) < (x.args.length : Int) := by omega
          have hqj : (0 : Int) ≤ (q : Int) := by omega
          generalize x.args.getD q 0 = z at ea eb
          clear x6 y6
          go_wp2_with fail
          go_quiet (fail)
          go_wp2_with fail
          go_roundw
          case rel => exact ⟨q + 1, by omega, by go_num, HBZ.out.trans ((below_drewN' (Below.refl _ _) nq).mono HBZ.out.size)⟩
          case measure => simp [intOf]; omega
        · obtain rfl : q = x.args.length := by omega
          clear x6 y6
          go_wp2_with fail
          go_roundw
          case rel => exact ⟨k + 1, by omega, by go_num, HW2.out.trans (HBZ.out.mono HW2.out.size)⟩
          case measure => simp [intOf]; omega
    · obtain rfl : k = l.length := by omega
      go_wp2_with fail
      go_ret
      exact ⟨rfl, HBW.out⟩
theorem blkM_at {A : Option Addr} {l : List Blk} (h : BlkMem w A l) (k : Nat) (hk : k < l.length) (x : Blk) (hx : x = l[k]) : ∃ (g off : Nat) (Ax : Option Addr) (c : Nat), A = some ⟨g, off, none⟩ ∧ g < w.heap.size ∧ InsMem w Ax x.ins ∧
    w.cell? ⟨g, off + k * 5, none⟩ = some (.slice Ax x.ins.length c) ∧ w.cell? ⟨g, off + k * 5 + 1, none⟩ = some (.int .i64 x.kind) ∧ w.cell? ⟨g, off + k * 5 + 2, none⟩ = some (.int .i64 x.a) ∧ w.cell? ⟨g, off + k * 5 + 3, none⟩ = some (.int .i64 x.to) ∧ w.cell? ⟨g, off + k * 5 + 4, none⟩ = some (.int .i64 x.els) := by
  obtain ⟨xs, h1, h2, h3⟩ := h
  have hkb : k < xs.length := by rw [← h1, List.length_map] at hk; exact hk
  have hx2 : x = xs[k].k := by rw [hx]; simp only [← h1, List.getElem_map]
  obtain ⟨g, off, hA, hg, hc⟩ := h2 (by omega)
  have hr := h3 _ (List.getElem_mem hkb)
  rw [← hx2] at hr
  have hc' := hc k hkb
  rw [← hx2] at hc'
  exact ⟨g, off, xs[k].A, xs[k].c, hA, hg, hr, hc' 0 _ rfl, hc' 1 _ rfl, hc' 2 _ rfl, hc' 3 _ rfl, hc' 4 _ rfl⟩
set_option maxHeartbeats 8000000 in
set_option maxRecDepth 100000 in
theorem same12_any (f : Fn) (hf : FlowF f.blocks) (A B : Option Addr) (c d : Nat) (w : World) (hA : BlkMem w A f.blocks) (hB : BlkMem w B f.blocks) :
    Calls Try.prog 10 #[fnAgg f A c, fnAgg f B d] w fun e w' => e = .returned (.bool true) ∧ Below w.heap.size w w' := by
  obtain ⟨nm, pa, re, l⟩ := f
  dsimp only [fnAgg] at hf hA hB ⊢
  have hl : l.length ≤ 1000 := hf.nb
  have HA := Lib.hid hA
  have HB := Lib.hid hB
  have HARG := Lib.hid (fun x hx => hf.blk x hx)
  clear hA hB hf
  go_enter Try.func10, Try.ntmps10
  go_wp2_with fail
  obtain ⟨w1, hw1⟩ : ∃ w1, w1 = (w.alloc (.cells #[.string nm, .int .i64 pa, .int .i64 re, .slice A l.length c] 31)).alloc (.cells #[.string nm, .int .i64 pa, .int .i64 re, .slice B l.length d] 31) := ⟨_, rfl⟩
  have hb1 : Below w.heap.size w w1 := by rw [hw1]; exact ((Below.refl _ _).alloc (Nat.le_refl _) _).alloc (by simp) _
  have hc3 : w1.cell? ⟨w.heap.size + 1, 3, none⟩ = some (.slice B l.length d) := by
    rw [hw1]
    have := heap_alloc_new (w.alloc (.cells #[.string nm, .int .i64 pa, .int .i64 re, .slice A l.length c] 31)) (.cells #[.string nm, .int .i64 pa, .int .i64 re, .slice B l.length d] 31)
    simp only [World.size_alloc] at this
    exact cell_of_row _ _ _ _ _ _ this
  have hlt1 : w.heap.size + 1 < w1.heap.size := by rw [hw1]; simp
  rw [← hw1]
  have HB1 := Lib.hid hb1
  clear hw1 hb1
  go_loopw [39] (fun i wr => ∃ (k : Nat), k ≤ l.length ∧ i = .int .i64 (k : Nat) ∧ Below w1.heap.size w1 wr) (fun i _ => l.length - (intOf i).toNat)
  case atStart => exact ⟨0, by omega, rfl, Below.refl _ _⟩
  case round =>
    obtain ⟨k, hk, rfl, hB⟩ := hrel
    have HBK := Lib.hid hB
    have HBW : Hid (Below w.heap.size w wr) := Lib.hid (HB1.out.trans (hB.mono HB1.out.size))
    have hd3 := (hB.cell (p := ⟨w.heap.size + 1, 3, none⟩) hlt1).trans hc3
    have hlt2 : w.heap.size + 1 < wr.heap.size := Nat.lt_of_lt_of_le hlt1 hB.size
    clear hB
    by_cases hlt : k < l.length
    · obtain ⟨x, hxe⟩ : ∃ x, x = l[k] := ⟨_, rfl⟩
      have hxa := HARG.out x (by rw [hxe]; exact List.getElem_mem hlt)
      obtain ⟨g, off, Ax, cx, rfl, hg, hra, a0, a1, a2, a3, a4⟩ := blkM_at (HA.out.below HBW.out) k hlt x hxe
      obtain ⟨g', off', Bx, dx, rfl, hg', hrb, b0, b1, b2, b3, b4⟩ := blkM_at (HB.out.below HBW.out) k hlt x hxe
      have HSI := Lib.hid (fun W (hb : Below wr.heap.size wr W) => sameIns_any x.ins hxa.nins (fun y hy => (hxa.regs y hy).2) Ax Bx cx dx W (hra.below hb) (hrb.below hb))
      clear hra hrb hxe hc3 hxa
      have hal : Below wr.heap.size wr ((wr.alloc (.cells #[.slice Ax x.ins.length cx, .int .i64 x.kind, .int .i64 x.a, .int .i64 x.to, .int .i64 x.els] 45)).alloc (.cells #[.slice Bx x.ins.length dx, .int .i64 x.kind, .int .i64 x.a, .int .i64 x.to, .int .i64 x.els] 45)) := ((Below.refl _ _).alloc (Nat.le_refl _) _).alloc (by simp) _
      have HAL := Lib.hid hal
      clear hal
      go_wp2_with fail
      refine (HSI.out _ HAL.out).mono ?_
      rintro e w4 ⟨rfl, hb4⟩
      have HB4 := Lib.hid (HAL.out.trans (hb4.mono HAL.out.size))
      clear hb4 a0 a1 a2 a3 a4 b0 b1 b2 b3 b4
      go_wp2_with fail
      go_roundw
      case rel => exact ⟨k + 1, by omega, by go_num, HBK.out.trans (HB4.out.mono HBK.out.size)⟩
      case measure => simp [intOf]; omega
    · obtain rfl : k = l.length := by omega
      go_wp2_with fail
      go_ret
      exact ⟨rfl, HBW.out⟩
end Go.Proofs.Ytlniohgnkihefaa
namespace Go.Proofs.Ytlniohgnkihefaa
open Go.RowKit
variable {T : Nat → Prop} {w : World}
theorem rows_choose {α β : Type} (k : β → α) (P : Nat → β → Prop) (xs : List α) (h : ∀ i (hi : i < xs.length), ∃ y, k y = xs[i] ∧ P i y) : ∃ ys : List β, ys.map k = xs ∧ ∀ i (hi : i < ys.length), P i ys[i] := by
  refine ⟨List.ofFn fun i : Fin xs.length => Classical.choose (h i i.2), ?_, fun i hi => ?_⟩
  · refine List.ext_getElem (by simp) fun i h1 h2 => ?_
    rw [List.getElem_map, List.getElem_ofFn]
    exact (Classical.choose_spec (h i h2)).1
  · rw [List.getElem_ofFn]
    have hi' : i < xs.length := by simpa using hi
    exact (Classical.choose_spec (h i hi')).2
theorem mem_of_rdT {A : Option Addr} {xs : List Value} (h : RdT w T A xs) : ReadsAt w A xs := fun hp => by
  obtain ⟨g, off, hA, _, hg, hx⟩ := h hp
  exact ⟨g, off, hA, hg, hx⟩
theorem insMem_of_rd {A : Option Addr} {l : List Ins} (h : RdSl 8 (RdIns w T) w T A l) : InsMem w A l := by
  by_cases hp : 0 < l.length
  · obtain ⟨g, off, hA, _, hg, hc⟩ := h hp
    obtain ⟨ys, h1, h2⟩ := rows_choose InsQ.k (fun i y => (∀ j v, (insCells y.k (.slice y.A y.k.args.length y.c))[j]? = some v → w.cell? ⟨g, off + i * 8 + j, none⟩ = some v) ∧ ReadsAt w y.A (ints y.k.args)) l fun i hi => by
      obtain ⟨cs, _, ⟨_, B, c, rfl, hr⟩, hat⟩ := hc i _ (List.getElem?_eq_getElem hi)
      exact ⟨⟨l[i], B, c⟩, rfl, hat, mem_of_rdT hr⟩
    refine ⟨ys, h1, fun _ => ⟨g, off, hA, hg, fun i hi j v hv => (h2 i hi).1 j v hv⟩, fun y hy => ?_⟩
    obtain ⟨i, hi, rfl⟩ := List.getElem_of_mem hy
    exact (h2 i hi).2
  · obtain rfl : l = [] := List.length_eq_zero_iff.1 (by omega)
    exact ⟨[], rfl, fun h => by simp at h, fun _ h => by cases h⟩
theorem blkMem_of_rd {A : Option Addr} {l : List Blk} (h : RdSl 5 (RdBlk w T) w T A l) : BlkMem w A l := by
  by_cases hp : 0 < l.length
  · obtain ⟨g, off, hA, _, hg, hc⟩ := h hp
    obtain ⟨ys, h1, h2⟩ := rows_choose BlkQ.k (fun i y => (∀ j v, (blkCells y.k (.slice y.A y.k.ins.length y.c))[j]? = some v → w.cell? ⟨g, off + i * 5 + j, none⟩ = some v) ∧ InsMem w y.A y.k.ins) l fun i hi => by
      obtain ⟨cs, _, ⟨_, B, c, rfl, hr⟩, hat⟩ := hc i _ (List.getElem?_eq_getElem hi)
      exact ⟨⟨l[i], B, c⟩, rfl, hat, insMem_of_rd hr⟩
    refine ⟨ys, h1, fun _ => ⟨g, off, hA, hg, fun i hi j v hv => (h2 i hi).1 j v hv⟩, fun y hy => ?_⟩
    obtain ⟨i, hi, rfl⟩ := List.getElem_of_mem hy
    exact (h2 i hi).2
  · obtain rfl : l = [] := List.length_eq_zero_iff.1 (by omega)
    exact ⟨[], rfl, fun h => by simp at h, fun _ h => by cases h⟩
theorem regB_lt {r n : Int} {b : Bool} (h : regB r n b = true) (hn : n ≤ 4096) : r < 65536 := by
  unfold regB at h
  simp only [Bool.or_eq_true, Bool.and_eq_true, decide_eq_true_eq] at h
  rcases h with ⟨_, h⟩ | ⟨_, h⟩ <;> omega
theorem insV_regs {n : Int} {x : Ins} (h : InsV n x) (hn : n ≤ 4096) : RegsOk x ∧ x.args.length ≤ 1000 := by
  cases h with
  | call d name args hd hnm hl ha => exact ⟨⟨by show (-1 : Int) < 65536; omega, by show (-1 : Int) < 65536; omega, fun r hr => regB_lt (ha r hr) hn⟩, by show args.length ≤ 1000; omega⟩
  | _ =>
    refine ⟨⟨?_, ?_, fun r hr => by simp at hr⟩, by simp⟩
    all_goals first
      | exact regB_lt (by assumption) hn
      | (show (-1 : Int) < 65536; omega)
theorem flow_of {f : Fn} (h : FnV f) (hl : LightFn f) : FlowF f.blocks := by
  refine ⟨by have := hl.nb; omega, fun k hk => ?_⟩
  have hr := h.regs.2
  have hi := hl.ni k hk
  have := h.blocks k hk
  cases this with
  | jump ins tt hx ht => exact ⟨by omega, .inl rfl, by show (0 : Int) < 65536; omega, fun _ => ht, fun e => by simp at e, fun x hx' => insV_regs (hx x hx') hr⟩
  | branch ins a tt els hx ha ht he => exact ⟨by omega, .inr (.inl rfl), regB_lt ha hr, fun _ => ht, fun _ => he, fun x hx' => insV_regs (hx x hx') hr⟩
  | leave ins a hx ha => exact ⟨by omega, .inr (.inr rfl), regB_lt ha hr, fun e => by simp at e, fun e => by simp at e, fun x hx' => insV_regs (hx x hx') hr⟩
theorem data_of {A : Option Addr} {l : List Blk} (h : RdSl 5 (RdBlk w T) w T A l) : DataF l := by
  intro k hk
  obtain ⟨i, hi, rfl⟩ := List.getElem_of_mem hk
  obtain ⟨_, _, _, _, _, _, hok, hsub, _⟩ := blk_at h i hi _ rfl
  refine ⟨hok, fun x hx => ?_⟩
  obtain ⟨j, hj, rfl⟩ := List.getElem_of_mem hx
  obtain ⟨_, _, _, _, _, _, hok, _⟩ := ins_at hsub j hj _ rfl
  exact hok
end Go.Proofs.Ytlniohgnkihefaa
namespace Go.Proofs.Ytlniohgnkihefaa
open Go.RowKit
structure FnQ where
  f : Fn
  A : Option Addr
  c : Nat
def fnQ (y : FnQ) : List Value := fnCells y.f (.slice y.A y.f.blocks.length y.c)
noncomputable def finF (f : Fn) : Fn := { f with blocks := finK f.blocks }
def fnRowC (xs : List FnQ) : List Value := (xs.map fnQ).flatten
theorem fnRow_all (xs : List FnQ) : ∀ c ∈ xs.map fnQ, c.length = 4 := fun c hc => by obtain ⟨x, _, rfl⟩ := List.mem_map.1 hc; rfl
theorem fnRowC_len (xs : List FnQ) : (fnRowC xs).length = xs.length * 4 := by unfold fnRowC; rw [flat_len (fnRow_all xs), List.length_map]
theorem fnRowC_at (xs : List FnQ) (i : Nat) (h : i < xs.length) (j : Nat) (u : Value) (hu : (fnQ xs[i])[j]? = some u) : (fnRowC xs)[i * 4 + j]? = some u := by
  have hj : j < 4 := (List.getElem?_eq_some_iff.1 hu).1
  unfold fnRowC
  rw [flat_at (fnRow_all xs) i j hj, List.getElem?_map, List.getElem?_eq_getElem h]
  exact hu
theorem fnRowC_snoc (xs : List FnQ) (x : FnQ) : fnRowC (xs ++ [x]) = fnRowC xs ++ fnQ x := by simp [fnRowC]
theorem fnQ_plain (x : FnQ) : ∀ u ∈ fnQ x, u.oneCell' = true := by
  intro u hu
  simp [fnQ, fnCells] at hu
  rcases hu with rfl | rfl | rfl | rfl <;> rfl
theorem info_fn : (Try.prog.info? 31).map (fun i => (i.zero, i.size, i.bytes)) = some (some (.agg #[.string ⟨#[]⟩, .int .i64 0, .int .i64 0, .slice none 0 0]), 4, 56) := by kernel_rfl
/-- Functions in memory, with their blocks. -/
def FnsMem (W : World) (A : Option Addr) (l : List Fn) : Prop := ∃ xs : List FnQ, xs.map FnQ.f = l ∧
  (0 < xs.length → ∃ g off, A = some ⟨g, off, none⟩ ∧ g < W.heap.size ∧ ∀ i (h : i < xs.length) j u, (fnQ xs[i])[j]? = some u → W.cell? ⟨g, off + i * 4 + j, none⟩ = some u) ∧ ∀ y ∈ xs, BlkMem W y.A y.f.blocks
theorem FnsMem.below {W W' : World} {A : Option Addr} {l : List Fn} (h : FnsMem W A l) (hb : Below W.heap.size W W') : FnsMem W' A l := by
  obtain ⟨xs, h1, h2, h3⟩ := h
  refine ⟨xs, h1, fun hp => ?_, fun y hy => (h3 y hy).below hb⟩
  obtain ⟨g, off, hA, hg, hc⟩ := h2 hp
  exact ⟨g, off, hA, Nat.lt_of_lt_of_le hg hb.size, fun i hi j u hu => (hb.cell (p := ⟨g, off + i * 4 + j, none⟩) hg).trans (hc i hi j u hu)⟩
theorem fnsMem_at {W : World} {A : Option Addr} {l : List Fn} (h : FnsMem W A l) (k : Nat) (hk : k < l.length) (f : Fn) (hf : f = l[k]) : ∃ (g off : Nat) (B : Option Addr) (c : Nat), A = some ⟨g, off, none⟩ ∧ g < W.heap.size ∧ BlkMem W B f.blocks ∧
    W.cell? ⟨g, off + k * 4, none⟩ = some (.string f.name) ∧ W.cell? ⟨g, off + k * 4 + 1, none⟩ = some (.int .i64 f.params) ∧ W.cell? ⟨g, off + k * 4 + 2, none⟩ = some (.int .i64 f.regs) ∧ W.cell? ⟨g, off + k * 4 + 3, none⟩ = some (.slice B f.blocks.length c) := by
  obtain ⟨bs, h1, h2, h3⟩ := h
  have hkb : k < bs.length := by rw [← h1, List.length_map] at hk; exact hk
  obtain ⟨g, off, hA, hg, hc⟩ := h2 (by omega)
  have e : bs[k].f = f := by rw [hf]; simp only [← h1, List.getElem_map]
  have h0 := h3 _ (List.getElem_mem hkb)
  have c0 := hc k hkb 0 _ rfl
  have c1 := hc k hkb 1 _ rfl
  have c2 := hc k hkb 2 _ rfl
  have c3 := hc k hkb 3 _ rfl
  rw [e] at h0 c0 c1 c2 c3
  exact ⟨g, off, bs[k].A, bs[k].c, hA, hg, h0, c0, c1, c2, c3⟩
theorem fnsMem_of_row {W : World} {A : Option Addr} {c n : Nat} {r : Option Nat} {xs : List FnQ} (h : RowAt W 31 4 (.slice A n c) r n (fnRowC xs)) (ha : ∀ y ∈ xs, BlkMem W y.A y.f.blocks) : FnsMem W A (xs.map FnQ.f) := by
  refine ⟨xs, rfl, fun hp => ?_, ha⟩
  have hn : xs.length = n := by have := h.1; rw [fnRowC_len] at this; omega
  rcases h.2 with ⟨_, _, h0⟩ | ⟨g, off, cap, cur, hv, _, hg, h1, h2, h3, h4⟩
  · omega
  · injection hv with hA _ _
    refine ⟨g, off, hA, lt_of_heap hg, fun i hi j u hu => ?_⟩
    have := fnRowC_at xs i hi j u hu
    rw [cell_of_row _ _ _ _ _ _ hg]
    rw [← h4, List.getElem?_take] at this
    split at this
    · rw [List.getElem?_drop] at this; rw [← Array.getElem?_toList, Nat.add_assoc]; exact this
    · cases this
/-- Between two rounds of dead.Mid. -/
structure MidI (wC : World) (l : List Fn) (k : Nat) (v : Value) (rr : Option Nat) (W : World) : Prop where
  below : Below wC.heap.size wC W
  row : ∃ xs : List FnQ, xs.map FnQ.f = (l.map finF).take k ∧ RowAt W 31 4 v rr k (fnRowC xs) ∧ ∀ y ∈ xs, BlkIn W 0 y.A y.f.blocks
  low : ∀ q, rr = some q → wC.heap.size ≤ q
section
variable {wC W W' : World} {l : List Fn} {k : Nat} {v : Value} {rr : Option Nat}
theorem MidI.start (l : List Fn) (h : Below wC.heap.size wC W) : MidI wC l 0 (.slice none 0 0) none W := ⟨h, ⟨[], by simp, RowAt.nil _ _ _, fun _ h => by cases h⟩, fun _ h => by cases h⟩
theorem MidI.below_ (h : MidI wC l k v rr W) (hb : Below W.heap.size W W') : MidI wC l k v rr W' := by
  obtain ⟨xs, h1, h2, h3⟩ := h.row
  exact ⟨h.below.trans (hb.mono h.below.size), ⟨xs, h1, h2.kept (Chg.of_below hb (fun _ => False)) (fun _ _ h => h), fun y hy => (h3 y hy).ko (KO.of_below (b := true) hb (Nat.zero_le _))⟩, h.low⟩
theorem MidI.typ (h : MidI wC l k v rr W) : ∀ q, rr = some q → ∃ c, W.heap[q]? = some (.cells c 31 (0, 0)) := fun q hq => by
  obtain ⟨ys, _, hr, _⟩ := h.row
  rcases hr.2 with ⟨_, e2, _⟩ | ⟨g', off, cap, cur, _, e2, hg', _⟩
  · rw [e2] at hq; cases hq
  · rw [e2] at hq; cases hq; exact ⟨_, hg'⟩
theorem MidI.store (h : MidI wC l k v rr W) {q : Nat} {c : Array Value} (hq : W.heap[q]? = some (.cells c 25 (0, 0))) (hl : wC.heap.size ≤ q) (j : Nat) (u : Value) : MidI wC l k v rr (W.setCell ⟨q, j, none⟩ u) := by
  have hc := Chg.store W q j u
  obtain ⟨xs, h1, h2, h3⟩ := h.row
  have hko : KO 0 true W (W.setCell ⟨q, j, none⟩ u) := KO.of_chg hc (Nat.zero_le _) fun k hk => by
    rw [hk]
    refine ⟨Nat.zero_le _, fun c t f e => ?_⟩
    rw [hq] at e; cases e
    exact ⟨by decide, by decide, fun _ => by decide⟩
  refine ⟨h.below.trans (hc.below h.below.size fun k e => by rw [e]; exact hl), ⟨xs, h1, h2.kept hc fun q' hq' e => ?_, fun y hy => (h3 y hy).ko hko⟩, h.low⟩
  obtain ⟨c', hc'⟩ := h.typ q' hq'
  rw [e, hq] at hc'
  cases hc'
theorem MidI.push (h : MidI wC l k v rr W) (hk : k < l.length) {A : Option Addr} {c : Nat} (hy : BlkIn W 0 A (finF l[k]).blocks) {v' : Value} {rr' : Option Nat} {xs : List FnQ} (he : xs.map FnQ.f = (l.map finF).take k) (ha : ∀ y ∈ xs, BlkIn W 0 y.A y.f.blocks)
    (hR : RowAt W' 31 4 v' rr' (k + 1) (fnRowC xs ++ fnQ ⟨finF l[k], A, c⟩)) (hC : Chg (fun k => some k = rr) W W') (hN : NewOr W rr rr') : MidI wC l (k + 1) v' rr' W' := by
  have hko : KO 0 true W W' := KO.of_chg hC (Nat.zero_le _) fun q hq => ⟨Nat.zero_le _, fun c t f hc => by
    obtain ⟨c', hc'⟩ := h.typ q hq.symm
    rw [hc'] at hc; cases hc
    exact ⟨by decide, by decide, fun _ => by decide⟩⟩
  refine ⟨h.below.trans (hC.below h.below.size fun q hq => h.low q hq.symm), ⟨xs ++ [⟨finF l[k], A, c⟩], ?_, by rw [fnRowC_snoc]; exact hR, fun y hy' => ?_⟩, fun q hq => hN.ge h.below.size h.low q hq⟩
  · rw [List.map_append, he, List.take_succ_eq_append_getElem (by rw [List.length_map]; exact hk), List.getElem_map]; rfl
  · rcases List.mem_append.1 hy' with hy' | hy'
    · exact (ha y hy').ko hko
    · rw [List.mem_singleton.1 hy']; exact hy.ko hko
theorem MidI.done (h : MidI wC l l.length v rr W) {q : Nat} {c : Array Value} (hq : W.heap[q]? = some (.cells c 25 (0, 0))) (hc : Chg (fun k => k = q) W W') : ∃ A c, v = .slice A l.length c ∧ FnsMem W' A (l.map finF) := by
  obtain ⟨xs, h1, h2, h3⟩ := h.row
  have hko : KO 0 true W W' := KO.of_chg hc (Nat.zero_le _) fun k hk => by
    rw [hk]
    refine ⟨Nat.zero_le _, fun c t f e => ?_⟩
    rw [hq] at e; cases e
    exact ⟨by decide, by decide, fun _ => by decide⟩
  have h2' := h2.kept hc fun q' hq' e => by
    obtain ⟨c', hc'⟩ := h.typ q' hq'
    rw [e, hq] at hc'
    cases hc'
  obtain ⟨A, c, rfl, _⟩ := h2.shape
  refine ⟨A, c, rfl, ?_⟩
  rw [List.take_of_length_le (by simp)] at h1
  rw [← h1]
  exact fnsMem_of_row h2' fun y hy => ((h3 y hy).ko hko).mem
end
/-- slices.Clone of globals. -/
def globC (l : List Glob) : List Value := (l.map fun g => [Value.string g.name, .int .i64 g.size]).flatten
theorem globC_all (l : List Glob) : ∀ c ∈ l.map (fun g => [Value.string g.name, .int .i64 g.size]), c.length = 2 := fun c hc => by obtain ⟨x, _, rfl⟩ := List.mem_map.1 hc; rfl
theorem globC_len (l : List Glob) : (globC l).length = l.length * 2 := by unfold globC; rw [flat_len (globC_all l), List.length_map]
theorem globC_plain (l : List Glob) : ∀ u ∈ globC l, u.oneCell' = true := by
  intro u hu
  unfold globC at hu
  obtain ⟨c, hc, hu⟩ := List.mem_flatten.1 hu
  obtain ⟨x, _, rfl⟩ := List.mem_map.1 hc
  simp at hu
  rcases hu with rfl | rfl <;> rfl
theorem reads_globs {T : Nat → Prop} {w : World} {A : Option Addr} {l : List Glob} (h : RdSl 2 RdGlob w T A l) : ReadsAt w A (globC l) := fun hp => by
  rw [globC_len] at hp
  obtain ⟨g, off, hA, _, hg, hc⟩ := h (by omega)
  refine ⟨g, off, hA, hg, fun j u hu => ?_⟩
  have hj : j < l.length * 2 := by rw [← globC_len]; exact (List.getElem?_eq_some_iff.1 hu).1
  have hi : j / 2 < l.length := by omega
  obtain ⟨cs, _, ⟨_, rfl⟩, hat⟩ := hc (j / 2) _ (List.getElem?_eq_getElem hi)
  have e : j = j / 2 * 2 + j % 2 := by omega
  unfold globC at hu
  rw [e, flat_at (globC_all l) (j / 2) (j % 2) (by omega), List.getElem?_map, List.getElem?_eq_getElem hi] at hu
  have := hat (j % 2) u hu
  rw [show off + j / 2 * 2 + j % 2 = off + j from by omega] at this
  exact this
theorem info_glob : (Try.prog.info? 51).map (fun i => (i.zero, i.size, i.bytes)) = some (some (.agg #[.string ⟨#[]⟩, .int .i64 0]), 2, 24) := by kernel_rfl
set_option maxHeartbeats 1000000 in
set_option maxRecDepth 100000 in
theorem cloneG_any (A : Option Addr) (c : Nat) (zs : List Glob) (w : World) (hl : zs.length ≤ 64) (h : ReadsAt w A (globC zs)) :
    Calls Try.prog 17 #[.slice A zs.length c] w fun e w' => ∃ A' c' r, e = .returned (.slice A' zs.length c') ∧ Below w.heap.size w w' ∧ RowAt w' 51 2 (.slice A' zs.length c') r zs.length (globC zs) := by
  have qS : ∀ (w : World) (a : Option Addr) (n c n' c' : Nat), (binOp .eql 22 (.slice a n c) (.slice none n' c')).run Try.prog w = .ok (.bool a.isNone) w := fun w a n c n' c' => Go.Lib.run_eql_slice_nil (P := Try.prog) w 22 51 a n c n' c' Try.underlying22
  cases A with
  | none =>
    have h0 : zs = [] := by
      cases zs with
      | nil => rfl
      | cons z zs => obtain ⟨g, off, hA, _⟩ := h (by simp [globC]); cases hA
    subst h0
    clear h
    go_enter Try.func17, Try.ntmps17
    go_wp2_with fail
    go_ret
    exact ⟨none, 0, none, rfl, Below.refl _ _, RowAt.nil _ _ _⟩
  | some ad =>
    cases zs with
    | nil =>
      clear h
      go_enter Try.func17, Try.ntmps17
      go_wp2_with fail
      go_ret
      exact ⟨_, _, _, rfl, (Below.refl _ _).alloc (Nat.le_refl _) _, ⟨rfl, .inr ⟨w.heap.size, 0, 0, #[], rfl, rfl, heap_alloc_new w _, Nat.le_refl _, Nat.zero_le _, by simp, by simp [globC]⟩⟩⟩
    | cons z zs =>
      obtain ⟨g, off, hA, hg, hx⟩ := h (by simp [globC])
      cases hA
      have HX := Lib.hid hx
      clear hx h
      have hrow : RowAt (w.alloc (.cells #[] 51)) 51 2 (.slice (some ⟨w.heap.size, 0, none⟩) 0 0) (some w.heap.size) 0 [] := ⟨rfl, .inr ⟨w.heap.size, 0, 0, #[], rfl, rfl, heap_alloc_new w _, Nat.le_refl _, Nat.zero_le _, by simp, by simp⟩⟩
      have HROW := Lib.hid hrow
      clear hrow
      go_enter Try.func17, Try.ntmps17
      go_wp2_with (at_builtin; go_must (refine wpList_append_row14 _ rfl _ _ 22 51 _ 2 24 rfl Try.underlying22 info_glob rfl HROW.out ⟨g, off, none⟩ (zs.length + 1) c (globC (z :: zs)) (globC_len _) (fun j u hu => by rw [Addr.add_lit]; exact ((Below.refl w.heap.size w).alloc (Nat.le_refl _) _).cell (p := ⟨g, off + j, none⟩) hg |>.trans (HX.out j u hu)) (globC_plain _) rfl rfl (by simp at hl; omega) (by simp at hl; unfold maxLen; omega) (by omega) ?_); intro v' r' w2 hR hC hN; obtain ⟨A', c', rfl, _⟩ := hR.shape; have HR := Lib.hid hR; have HC := Lib.hid hC; have HN := Lib.hid hN; clear hR hC hN)
      go_ret
      have hb : Below w.heap.size w w2 := ((Below.refl w.heap.size w).alloc (Nat.le_refl _) _).trans (HC.out.below (by simp) fun k e => by injection e with e; omega)
      have hR := HR.out
      rw [List.nil_append] at hR
      exact ⟨A', c', r', by simp, hb, by simpa using hR⟩
end Go.Proofs.Ytlniohgnkihefaa
namespace Go.Proofs.Ytlniohgnkihefaa
open Go.RowKit Go.Maps
variable {T : Nat → Prop}
def MidBox (W : World) (q : Nat) (u v : Value) : Prop := W.heap[q]? = some (.cells #[u, v] 25 (0, 0))
theorem MidBox.below {W W' : World} {q : Nat} {u v : Value} (h : MidBox W q u v) (hb : Below W.heap.size W W') : MidBox W' q u v := (hb.block q (lt_of_heap h)).trans h
theorem MidBox.row7 {wC W W' : World} {l : List Fn} {k q : Nat} {u v v' : Value} {rr : Option Nat} (h : MidBox W q u v) (hi : MidI wC l k v' rr W) (hc : Chg (fun k => some k = rr) W W') : MidBox W' q u v :=
  hc.heap h fun e => by
    obtain ⟨c, hc⟩ := hi.typ q e.symm
    rw [show W.heap[q]? = _ from h] at hc
    cases hc
structure MidS (q3 q5 : Nat) (v : Value) (nm : ByteArray) (pa re : Int) (A : Option Addr) (n c : Nat) (Y : World) : Prop where
  e1 : Y.cell? ⟨q3, 1, none⟩ = some v
  e2 : Y.cell? ⟨q5, 0, none⟩ = some (.string nm)
  e3 : Y.cell? ⟨q5, 1, none⟩ = some (.int .i64 pa)
  e4 : Y.cell? ⟨q5, 2, none⟩ = some (.int .i64 re)
  e5 : Y.cell? ⟨q5, 3, none⟩ = some (.slice A n c)
theorem MidS.below {q3 q5 : Nat} {v : Value} {nm : ByteArray} {pa re : Int} {A : Option Addr} {n c : Nat} {Y Y' : World} (h : MidS q3 q5 v nm pa re A n c Y) (hl : q3 < Y.heap.size ∧ q5 < Y.heap.size) (hb : Below Y.heap.size Y Y') : MidS q3 q5 v nm pa re A n c Y' :=
  ⟨(hb.cell (p := ⟨q3, 1, none⟩) hl.1).trans h.e1, (hb.cell (p := ⟨q5, 0, none⟩) hl.2).trans h.e2, (hb.cell (p := ⟨q5, 1, none⟩) hl.2).trans h.e3, (hb.cell (p := ⟨q5, 2, none⟩) hl.2).trans h.e4, (hb.cell (p := ⟨q5, 3, none⟩) hl.2).trans h.e5⟩
theorem MidS.row7 {q3 q5 : Nat} {u v v' : Value} {nm : ByteArray} {pa re : Int} {A : Option Addr} {n c : Nat} {Y Y' : World} (h : MidS q3 q5 v nm pa re A n c Y) {wC : World} {l : List Fn} {k : Nat} {rr : Option Nat} (hm : MidBox Y q3 u v) (hi : MidI wC l k v' rr Y) (hc : Chg (fun k => some k = rr) Y Y') (h5 : some q5 ≠ rr) : MidS q3 q5 v nm pa re A n c Y' := by
  have h3 : some q3 ≠ rr := fun e => by
    obtain ⟨c, hc⟩ := hi.typ q3 e.symm
    rw [show Y.heap[q3]? = _ from hm] at hc
    cases hc
  exact ⟨hc.cell h.e1 h3, hc.cell h.e2 h5, hc.cell h.e3 h5, hc.cell h.e4 h5, hc.cell h.e5 h5⟩
theorem newFn {W : World} {q : Nat} {f : Fn} {A : Option Addr} {c : Nat} (h : W.heap[q]? = some (.cells #[.string f.name, .int .i64 f.params, .int .i64 f.regs, .slice A (finK f.blocks).length c] 31 (0, 0))) :
    ∀ j u, (fnQ ⟨finF f, A, c⟩)[j]? = some u → W.cell? ((⟨q, 0, none⟩ : Addr).add j) = some u := fun j u hu => by
  rw [show ((⟨q, 0, none⟩ : Addr).add j) = ⟨q, j, none⟩ from by by_cases e : j = 0 <;> simp [Addr.add, e], cell_of_row _ _ _ _ _ _ h, ← Array.getElem?_toList]
  exact hu
def MidD (w : World) (m : Mid) (e : Ending) (w' : World) : Prop := ∃ A c B d, e = .returned (.agg #[.slice A m.globals.length c, .slice B m.fns.length d]) ∧ Below w.heap.size w w' ∧ FnsMem w' B (m.fns.map finF) ∧ ReadsAt w' A (globC m.globals)
set_option maxRecDepth 100000 in
set_option maxHeartbeats 4000000 in
theorem deadMid_any (m : Mid) (hV : SmallV m) (A B : Option Addr) (c d : Nat) (w : World) (h : RdMid w T m A c B d) :
    Calls Try.prog 7 #[.agg #[.slice A m.globals.length c, .slice B m.fns.length d]] w (MidD w m) := by
  obtain ⟨n, hn⟩ : ∃ n, n = m.fns.length := ⟨_, rfl⟩
  obtain ⟨ng, hng⟩ : ∃ ng, ng = m.globals.length := ⟨_, rfl⟩
  have hn8 : n ≤ 8 := by rw [hn]; exact hV.light.nf
  rw [← hn, ← hng]
  have HN := Lib.hid hn
  have HNG := Lib.hid hng
  have HM := Lib.hid h
  have HSM := Lib.hid hV
  clear hn hng h hV
  go_enter Try.func7, Try.ntmps7
  go_wp2_with fail
  obtain ⟨bx, hbx⟩ : ∃ bx, bx = w.heap.size := ⟨_, rfl⟩
  obtain ⟨W0, hW0⟩ : ∃ W0, W0 = (w.alloc (.cells #[.slice A ng c, .slice B n d] 25)).alloc (.cells #[.slice none 0 0, .slice none 0 0] 25) := ⟨_, rfl⟩
  rw [← hW0, ← hbx]
  have hb0 : Below w.heap.size w W0 := by rw [hW0]; exact ((Below.refl _ w).alloc (Nat.le_refl _) _).alloc (by simp) _
  have hm0 : MidBox W0 bx (.slice A ng c) (.slice B n d) := by
    rw [hW0, hbx]; exact (heap_alloc_old _ _ (by simp)).trans (heap_alloc_new w _)
  have hr0 : MidBox W0 (bx + 1) (.slice none 0 0) (.slice none 0 0) := by
    rw [hW0, hbx]
    have h := heap_alloc_new (w.alloc (.cells #[.slice A ng c, .slice B n d] 25)) (.cells #[.slice none 0 0, .slice none 0 0] 25)
    rw [World.size_alloc] at h
    exact h
  have hcl := cloneG_any A c m.globals W0 HSM.out.may.ng (readsBelow (reads_globs HM.out.globals) hb0)
  rw [← HNG.out] at hcl
  refine hcl.mono ?_
  rintro e wC ⟨A', c', rg, rfl, hbC, hgC⟩
  have HBC : Hid (Below w.heap.size w wC) := Lib.hid (hb0.trans (hbC.mono hb0.size))
  have HMB : Hid (MidBox wC bx (.slice A ng c) (.slice B n d)) := Lib.hid (hm0.below hbC)
  have HRB : Hid (MidBox wC (bx + 1) (.slice none 0 0) (.slice none 0 0)) := Lib.hid (hr0.below hbC)
  have HGC := Lib.hid hgC
  have HBX := Lib.hid hbx
  have c0 : wC.cell? ⟨bx, 0, none⟩ = some (.slice A ng c) := cell_of_row _ _ _ _ _ _ HMB.out
  have c1 : wC.cell? ⟨bx, 1, none⟩ = some (.slice B n d) := cell_of_row _ _ _ _ _ _ HMB.out
  have hbl : bx < wC.heap.size := lt_of_heap HMB.out
  clear hbx hW0 hb0 hm0 hr0 hcl hbC hgC
  go_wp2_with fail
  clear c0 c1
  obtain ⟨q3, hq3⟩ : ∃ q3, q3 = wC.heap.size := ⟨_, rfl⟩
  obtain ⟨W1, hW1⟩ : ∃ W1, W1 = wC.alloc (.cells #[.slice A' ng c', .slice none 0 0] 25) := ⟨_, rfl⟩
  rw [← hW1, ← hq3]
  have hI0 : MidI wC m.fns 0 (.slice none 0 0) none W1 := MidI.start _ (by rw [hW1]; exact (Below.refl _ _).alloc (Nat.le_refl _) _)
  have hM1 : MidBox W1 q3 (.slice A' ng c') (.slice none 0 0) := by rw [hW1, hq3]; exact heap_alloc_new wC _
  have HI0 := Lib.hid (And.intro hI0 hM1)
  have HQ3 : Hid (wC.heap.size ≤ q3) := Lib.hid (by rw [hq3]; exact Nat.le_refl _)
  have hq3x : bx < q3 := by rw [hq3]; exact hbl
  clear hI0 hM1 hW1 hq3
  go_loopw [13] (fun i wr => ∃ (k : Nat) (v : Value) (rr : Option Nat), k ≤ n ∧ i = .int .i64 (k : Nat) ∧ MidI wC m.fns k v rr wr ∧ MidBox wr q3 (.slice A' ng c') v) (fun i _ => n - (intOf i).toNat)
  case atStart => exact ⟨0, _, _, Nat.zero_le _, rfl, HI0.out.1, HI0.out.2⟩
  case round =>
    obtain ⟨k, v, rr, hk, rfl, hI, hM⟩ := hrel
    clear HI0
    have HI1 := Lib.hid hI
    have HM1 := Lib.hid hM
    have hlw : Below w.heap.size w wr := HBC.out.trans (hI.below.mono HBC.out.size)
    by_cases hltn : k < n
    · have hlt : k < m.fns.length := by rw [← HN.out]; exact hltn
      obtain ⟨f, hfe⟩ : ∃ f, f = m.fns[k] := ⟨_, rfl⟩
      obtain ⟨g, off, A1, c1, rfl, hg, hok, hsub, g0, g1, g2, g3⟩ := fn_at (fns_below HM.out.fns hlw) k hlt f hfe
      have hfm : f ∈ m.fns := by rw [hfe]; exact List.getElem_mem hlt
      have hF := flow_of (by rw [hfe]; exact (HSM.out.may.fns k hlt).fn) (HSM.out.light.fns f hfm)
      have hD := data_of hsub
      have hbm := blkMem_of_rd hsub
      have HFK : Hid (f = m.fns[k]) := Lib.hid hfe
      obtain ⟨u3, hu3⟩ : ∃ u3, u3 = wr.heap.size := ⟨_, rfl⟩
      obtain ⟨W5, hW5⟩ : ∃ W5, W5 = wr.alloc (.cells #[.string f.name, .int .i64 f.params, .int .i64 f.regs, .slice A1 f.blocks.length c1] 31) := ⟨_, rfl⟩
      have hal : Below wr.heap.size wr W5 := by rw [hW5]; exact (Below.refl _ _).alloc (Nat.le_refl _) _
      have hfb : FnBox W5 u3 f.name f.params f.regs (.slice A1 f.blocks.length c1) := by rw [hW5, hu3]; exact heap_alloc_new wr _
      have hdf : ∀ wd : World, Below W5.heap.size W5 wd → Calls Try.prog 9 #[fnAgg f A1 c1] wd (FnD0 wd f) := fun wd hwd => deadFn_any f hF hD A1 c1 wd (hbm.below (hal.trans (hwd.mono hal.size)))
      have HDF0 := Lib.hid hdf
      have HW5 := Lib.hid hW5
      have HU3 := Lib.hid hu3
      have HAL := Lib.hid hal
      have HFB := Lib.hid hfb
      clear hI hM hlw hok hsub hfm hF hD hbm hfe hdf hW5 hu3 hal hfb
      go_upto_region 5 with (fail)
      rw [← HW5.out, ← HU3.out]
      clear g0 g1 g2 g3 hg
      have hdw : Below W5.heap.size W5 W5.drew := below_drewN (Below.refl _ W5) 1
      have hI5 := (HI1.out.below_ HAL.out).below_ hdw
      have hM5 := (HM1.out.below HAL.out).below hdw
      have hfb5 := HFB.out.below hdw
      have hdf5 := HDF0.out W5.drew hdw
      obtain ⟨b0, b1, b2, b3⟩ := hfb5.cells
      have hsel : MidS q3 u3 v f.name f.params f.regs A1 f.blocks.length c1 W5.drew := ⟨cell_of_row _ _ _ _ _ _ hM5, b0, b1, b2, b3⟩
      have hl5 : q3 < W5.drew.heap.size ∧ u3 < W5.drew.heap.size := ⟨lt_of_heap hM5, lt_of_heap hfb5⟩
      have hb6 : some u3 ≠ rr := fun e => by
        obtain ⟨c, hc⟩ := HI1.out.typ u3 e.symm
        have := lt_of_heap hc
        have := HU3.out
        omega
      obtain ⟨wd, hwd⟩ : ∃ wd, wd = W5.drew := ⟨_, rfl⟩
      rw [← hwd] at hI5 hM5 hdf5 hsel hl5
      have HWD := Lib.hid hwd
      have HI := Lib.hid hI5
      have HM3 := Lib.hid hM5
      have HDF := Lib.hid hdf5
      have HL5 := Lib.hid hl5
      have HB6 := Lib.hid hb6
      clear hdw hI5 hM5 hfb5 hdf5 b0 b1 b2 b3 hl5 hb6 hwd HDF0
      unfold fnAgg at HDF
      -- GENERATED: region 5
      refine wp_region_T (MidS q3 u3 v f.name f.params f.regs A1 f.blocks.length c1) [7] (by kernel_rfl) (by rw [← HWD.out]; exact hsel) (fun _ => ?_)
      rw [← HWD.out]
      refine wpAnyT_take (i := 0) (v := ?vc1) rfl (by kernel_rfl) (by kernel_rfl) (by kernel_rfl) rfl (fun _ _ _ h => h) (Or.inl ⟨by rfl, ?hyc1⟩) (DL.of hsel) ?restc1
      case hyc1 => (intro w hSw; go_simp; try rfl)
      try simp only [Act.put, List.setIfInBounds_toArray, List.set_cons_zero, List.set_cons_succ, List.getElem_toArray, List.getElem_cons_zero]
      refine wpAnyT_load (i := 1) (v := ?vc2) rfl (by kernel_rfl) (by kernel_rfl) (by kernel_rfl) rfl (by kernel_rfl) (by kernel_rfl) (fun _ _ _ h => h) (Or.inl ⟨by rfl, ?hyc2⟩) (DL.of hsel) ?restc2
      case hyc2 => (intro w hSw; obtain ⟨s1, s2, s3, s4, s5⟩ := hSw rfl; go_simp; try rfl)
      try simp only [Act.put, List.setIfInBounds_toArray, List.set_cons_zero, List.set_cons_succ, List.getElem_toArray, List.getElem_cons_zero, List.getElem_cons_succ]
      refine wpAnyT_load (i := 2) (v := ?vc3) rfl (by kernel_rfl) (by kernel_rfl) (by kernel_rfl) rfl (by kernel_rfl) (by kernel_rfl) (fun _ _ _ h => h) (Or.inl ⟨by rfl, ?hyc3⟩) (DL.of hsel) ?restc3
      case hyc3 => (intro w hSw; obtain ⟨s1, s2, s3, s4, s5⟩ := hSw rfl; go_simp; try rfl)
      try simp only [Act.put, List.setIfInBounds_toArray, List.set_cons_zero, List.set_cons_succ, List.getElem_toArray, List.getElem_cons_zero, List.getElem_cons_succ]
      refine wpAnyT_ready (rs := [3]) (by kernel_rfl) (by simp) ?_
      refine AllReadyT.cons rfl (fun K hK => ?_) AllReadyT.nil
      try simp only [Act.put, List.setIfInBounds_toArray, List.set_cons_zero, List.set_cons_succ, List.getElem_toArray, List.getElem_cons_zero, List.getElem_cons_succ]
      go_simp
      go_at_call 9
      refine HDF.out.mono ?_
      rintro e WE ⟨A2, c2, rfl, hbE, hiE⟩
      have hselE := hsel.below HL5.out hbE
      have HIE := Lib.hid (HI.out.below_ hbE)
      have HME := Lib.hid (HM3.out.below hbE)
      have HFE := Lib.hid hiE
      have hu3E : u3 < WE.heap.size := Nat.lt_of_lt_of_le HL5.out.2 hbE.size
      have hq3E : q3 < WE.heap.size := Nat.lt_of_lt_of_le HL5.out.1 hbE.size
      clear hbE hiE
      unfold fnAgg
      dsimp only
      refine hK.out _ _ (DL.of hselE) (fun _ => ?_)
      clear hK K
      try simp only [Act.put, List.setIfInBounds_toArray, List.set_cons_zero, List.set_cons_succ, List.getElem_toArray, List.getElem_cons_zero, List.getElem_cons_succ]
      refine wpAnyT_ready (rs := [4]) (by kernel_rfl) (by simp) ?_
      refine AllReadyT.cons rfl (fun K hK => ?_) AllReadyT.nil
      try simp only [Act.put, List.setIfInBounds_toArray, List.set_cons_zero, List.set_cons_succ, List.getElem_toArray, List.getElem_cons_zero, List.getElem_cons_succ]
      go_simp
      obtain ⟨W6, hW6⟩ : ∃ W6, W6 = WE.alloc (.cells #[.string f.name, .int .i64 f.params, .int .i64 f.regs, .slice A2 (finK f.blocks).length c2] 31) := ⟨_, rfl⟩
      have hal : Below WE.heap.size WE W6 := by rw [hW6]; exact (Below.refl _ _).alloc (Nat.le_refl _) _
      have hsel6 := hselE.below ⟨hq3E, hu3E⟩ hal
      have HN6 : Hid (W6.heap[WE.heap.size]? = some (.cells #[.string f.name, .int .i64 f.params, .int .i64 f.regs, .slice A2 (finK f.blocks).length c2] 31 (0, 0))) := Lib.hid (by rw [hW6]; exact heap_alloc_new WE _)
      have HI6 := Lib.hid (HIE.out.below_ hal)
      have HM6 := Lib.hid (HME.out.below hal)
      have HF6 := Lib.hid (HFE.out.ko (KO.of_below (b := true) hal (Nat.zero_le _)))
      try rw [← hW6]
      clear hal hW6
      refine hK.out _ _ (DL.of hsel6) (fun _ => ?_)
      clear hK K
      try simp only [Act.put, List.setIfInBounds_toArray, List.set_cons_zero, List.set_cons_succ, List.getElem_toArray, List.getElem_cons_zero, List.getElem_cons_succ]
      refine wpAnyT_ready (rs := [5]) (by kernel_rfl) (by simp) ?_
      refine AllReadyT.cons rfl (fun K hK => ?_) AllReadyT.nil
      obtain ⟨xs, hx1, hrow, hx3⟩ := HI6.out.row
      refine step_append_row _ (by rfl) _ _ 23 31 _ 4 56 (by rfl) Try.underlying23 info_fn rfl hrow ⟨WE.heap.size, 0, none⟩ 1 1 (fnQ ⟨finF f, A2, c2⟩) rfl (newFn HN6.out) (fnQ_plain _) (by rfl) (by rfl) (by omega) (by unfold maxLen; omega) (by omega) ?_
      intro v7 r7 W7 hR hC hN
      obtain ⟨A7, c7, rfl, _⟩ := hR.shape
      have HI7 : Hid (MidI wC m.fns (k + 1) (.slice A7 (k + 1) c7) r7 W7) := Lib.hid (HI6.out.push hlt (by rw [← HFK.out]; exact HF6.out) hx1 hx3 (by rw [← HFK.out]; exact hR) hC hN)
      have h37 := HM6.out.row7 HI6.out hC
      have HM7 := Lib.hid h37
      have h7 : W7.cell? ⟨q3, 1, none⟩ = some v := cell_of_row _ _ _ _ _ _ h37
      have h7f : W7.frozen? ⟨q3, 1, none⟩ = false := frozen_of_row W7 q3 1 _ _ h37
      have hsel7 := hsel6.row7 HM6.out HI6.out hC HB6.out
      clear hx1 hx3 hrow hR hC hN h37
      refine hK.out _ _ (DL.of hsel7) (fun _ => ?_)
      clear hK K
      try simp only [Act.put, List.setIfInBounds_toArray, List.set_cons_zero, List.set_cons_succ, List.getElem_toArray, List.getElem_cons_zero, List.getElem_cons_succ]
      refine wpAnyT_take (i := 6) (v := ?vc4) rfl (by kernel_rfl) (by kernel_rfl) (by kernel_rfl) rfl (fun _ _ _ h => h) (Or.inl ⟨by rfl, ?hyc4⟩) (DL.of hsel7) ?restc4
      case hyc4 => (intro w hSw; go_simp; try rfl)
      try simp only [Act.put, List.setIfInBounds_toArray, List.set_cons_zero, List.set_cons_succ, List.getElem_toArray, List.getElem_cons_zero, List.getElem_cons_succ]
      refine wpAnyT_ready (rs := [7]) (by kernel_rfl) (by simp) ?_
      refine AllReadyT.cons rfl (fun K hK => ?_) AllReadyT.nil
      try simp only [Act.put, List.getElem_toArray, List.getElem_cons_zero, List.getElem_cons_succ]
      go_simp
      refine hK.out _ _ (DL.late (by kernel_rfl)) (fun _ => ?_)
      clear hK K
      try simp only [Act.put, List.setIfInBounds_toArray, List.set_cons_zero, List.set_cons_succ, List.getElem_toArray, List.getElem_cons_zero, List.getElem_cons_succ]
      refine wpAnyT_done (by kernel_rfl) ?_ _
      go_wp2_with fail
      go_roundw
      case rel => exact ⟨k + 1, .slice A7 (k + 1) c7, r7, hltn, by simp, HI7.out.store HM7.out HQ3.out 1 _, heap_setCell_same W7 q3 1 _ 25 (.slice A7 (k + 1) c7) HM7.out⟩
      case measure => simp [intOf]; omega
      -- END region 5
    · obtain rfl : k = n := by omega
      have hmr := HRB.out.below HI1.out.below
      have m0 : wr.cell? ⟨q3, 0, none⟩ = some (.slice A' ng c') := cell_of_row _ _ _ _ _ _ HM1.out
      have m1 : wr.cell? ⟨q3, 1, none⟩ = some v := cell_of_row _ _ _ _ _ _ HM1.out
      have r0 : wr.cell? ⟨bx + 1, 0, none⟩ = some (.slice none 0 0) := cell_of_row _ _ _ _ _ _ hmr
      have r1 : wr.cell? ⟨bx + 1, 1, none⟩ = some (.slice none 0 0) := cell_of_row _ _ _ _ _ _ hmr
      have rf := fun j => frozen_of_row wr (bx + 1) j _ _ hmr
      have HMR := Lib.hid hmr
      obtain ⟨Wf, hWf⟩ : ∃ Wf, Wf = (wr.setCell ⟨bx + 1, 0, none⟩ (.slice A' ng c')).setCell ⟨bx + 1, 1, none⟩ v := ⟨_, rfl⟩
      have hch : Chg (fun q => q = bx + 1) wr Wf := by rw [hWf]; exact (Chg.store wr (bx + 1) 0 _).trans (Chg.store _ (bx + 1) 1 _) (fun _ _ h => h)
      have hbf : MidBox Wf (bx + 1) (.slice A' ng c') v := by
        rw [hWf]
        have h0 := heap_setCell_same wr (bx + 1) 0 _ 25 (.slice A' ng c') hmr
        have h1 := heap_setCell_same _ (bx + 1) 1 _ 25 v h0
        exact h1
      obtain ⟨A9, c9, hv9, hfm⟩ := MidI.done (W' := Wf) (HN.out ▸ HI1.out) hmr hch
      have hgr := (HGC.out.kept (Chg.of_below HI1.out.below (fun _ => False)) (fun _ _ h => h)).kept hch fun q hq e => row_ne_of_type (HGC.out.kept (Chg.of_below HI1.out.below (fun _ => False)) (fun _ _ h => h)) hmr (by decide) (by rw [hq, e])
      have hbw : Below w.heap.size w Wf := (HBC.out.trans (HI1.out.below.mono HBC.out.size)).trans (hch.below (HBC.out.trans (HI1.out.below.mono HBC.out.size)).size fun q e => by have := HBX.out; omega)
      have f0 : Wf.cell? ⟨bx + 1, 0, none⟩ = some (.slice A' ng c') := cell_of_row _ _ _ _ _ _ hbf
      have f1 : Wf.cell? ⟨bx + 1, 1, none⟩ = some v := cell_of_row _ _ _ _ _ _ hbf
      have HFIN := Lib.hid (And.intro hbw (And.intro hfm hgr.reads))
      have HWF := Lib.hid hWf
      clear hmr hI hM hWf hch hbf hfm hgr hbw
      rw [← HN.out] at hv9
      subst hv9
      go_wp2_with fail
      rw [← HWF.out]
      refine bodyPost_ret (v := .agg #[.slice A' ng c', .slice A9 k c9]) (by simp [results, Try.results7, go_sem, f0, f1]) rfl ⟨A', c', A9, c9, ?_, HFIN.out.1, HFIN.out.2.1, HFIN.out.2.2⟩
      rw [← HN.out, ← HNG.out]
end Go.Proofs.Ytlniohgnkihefaa
namespace Go.Proofs.Ytlniohgnkihefaa
open Go.RowKit
open Classical in
theorem out_leave {k : Blk} (hk : k.kind = 3) : outOf [k] 0 = fun _ => false := by
  funext n
  unfold outOf
  refine decide_eq_false fun h => ?_
  have h0 : Sol [k] (fun _ => blkP k fun _ => false) (fun _ _ => false) := by
    intro i hi
    obtain rfl : i = 0 := by simp at hi; omega
    refine ⟨?_, rfl⟩
    funext m
    show false = succP k _ m
    unfold succP nextP
    rw [if_neg (by omega), if_neg (by omega)]
    rfl
  have := h _ _ h0
  cases this
theorem nxt_leave {k : Blk} (hk : k.kind = 3) : nxt [k] = [swBlk k fun _ => false] := by
  unfold nxt nxtO
  rw [List.mapIdx_cons, out_leave hk]
  rfl
def insD (d z : Int) : Ins := ⟨1, 0, d, -1, -1, z, ⟨#[]⟩, []⟩
def insO (op : Int) : Ins := ⟨4, op, 2, 1, 0, 0, ⟨#[]⟩, []⟩
def exB (l : List Ins) : Blk := ⟨l, 3, 1, 0, 0⟩
def exF (op : Int) : Fn := ⟨⟨#[109, 97, 105, 110]⟩, 0, 3, [exB [insD 0 1, insD 1 2, insO op]]⟩
theorem fin_div : finK (exF 4).blocks = (exF 4).blocks := finK_same (nxt_leave rfl)
theorem fin_add : finK (exF 1).blocks = [exB [insD 1 2]] := by
  have h : nxt (exF 1).blocks = [exB [insD 1 2]] := nxt_leave rfl
  rw [← finK_nxt, h]
  exact finK_same (nxt_leave rfl)
theorem ex_flow (op : Int) : FlowF (exF op).blocks := by
  refine ⟨by show 1 ≤ 1000; omega, fun k hk => ?_⟩
  obtain rfl : k = exB [insD 0 1, insD 1 2, insO op] := by simpa [exF] using hk
  refine ⟨by show 3 ≤ 1000; omega, .inr (.inr rfl), by show (1 : Int) < 65536; omega, fun e => absurd rfl e, fun e => (by simp [exB] at e), fun x hx => ?_⟩
  simp only [exB, List.mem_cons, List.not_mem_nil, or_false] at hx
  rcases hx with rfl | rfl | rfl
  · exact ⟨⟨by show (-1 : Int) < 65536; omega, by show (-1 : Int) < 65536; omega, fun r hr => by cases hr⟩, Nat.zero_le _⟩
  · exact ⟨⟨by show (-1 : Int) < 65536; omega, by show (-1 : Int) < 65536; omega, fun r hr => by cases hr⟩, Nat.zero_le _⟩
  · exact ⟨⟨by show (1 : Int) < 65536; omega, by show (0 : Int) < 65536; omega, fun r hr => by cases hr⟩, Nat.zero_le _⟩
theorem ex_data (op : Int) (h : 1 ≤ op ∧ op ≤ 16) : DataF (exF op).blocks := by
  intro k hk
  obtain rfl : k = exB [insD 0 1, insD 1 2, insO op] := by simpa [exF] using hk
  refine ⟨⟨by show I64 3; unfold I64; omega, by show I64 1; unfold I64; omega, by show I64 0; unfold I64; omega, by show I64 0; unfold I64; omega, by show 3 ≤ maxLen; unfold maxLen; omega⟩, fun x hx => ?_⟩
  simp only [exB, List.mem_cons, List.not_mem_nil, or_false] at hx
  rcases hx with rfl | rfl | rfl
  · exact ⟨by show I64 1; unfold I64; omega, by show I64 0; unfold I64; omega, by show I64 0; unfold I64; omega, by show I64 (-1); unfold I64; omega, by show I64 (-1); unfold I64; omega, by show I32 1; unfold I32; omega, Nat.zero_le _, Nat.zero_le _, fun z hz => by cases hz⟩
  · exact ⟨by show I64 1; unfold I64; omega, by show I64 0; unfold I64; omega, by show I64 1; unfold I64; omega, by show I64 (-1); unfold I64; omega, by show I64 (-1); unfold I64; omega, by show I32 2; unfold I32; omega, Nat.zero_le _, Nat.zero_le _, fun z hz => by cases hz⟩
  · exact ⟨by show I64 4; unfold I64; omega, by show I64 op; unfold I64; omega, by show I64 2; unfold I64; omega, by show I64 1; unfold I64; omega, by show I64 0; unfold I64; omega, by show I32 0; unfold I32; omega, Nat.zero_le _, Nat.zero_le _, fun z hz => by cases hz⟩
theorem readsNil {w : World} {xs : List Value} (h : xs = []) (A : Option Addr) : ReadsAt w A xs := fun hp => by rw [h] at hp; cases hp
/-- The example in memory. -/
theorem ex_mem {W : World} {p q e e' : Nat} {fr fr' : Nat × Nat} (op : Int) (hp : W.heap[p]? = some (.cells #[.int .i64 1, .int .i64 0, .int .i64 0, .int .i64 (-1), .int .i64 (-1), .int .i32 1, .string ⟨#[]⟩, .slice none 0 0, .int .i64 1, .int .i64 0, .int .i64 1, .int .i64 (-1), .int .i64 (-1), .int .i32 2, .string ⟨#[]⟩, .slice none 0 0, .int .i64 4, .int .i64 op, .int .i64 2, .int .i64 1, .int .i64 0, .int .i32 0, .string ⟨#[]⟩, .slice none 0 0] e fr))
    (hq : W.heap[q]? = some (.cells #[.slice (some ⟨p, 0, none⟩) 3 3, .int .i64 3, .int .i64 1, .int .i64 0, .int .i64 0] e' fr')) : BlkMem W (some ⟨q, 0, none⟩) (exF op).blocks := by
  refine ⟨[⟨exB [insD 0 1, insD 1 2, insO op], some ⟨p, 0, none⟩, 3⟩], rfl, fun _ => ⟨q, 0, rfl, lt_of_heap hq, fun i hi j v hv => ?_⟩, fun b hb => ?_⟩
  · obtain rfl : i = 0 := by simp at hi; omega
    rw [show 0 + 0 * 5 + j = j from by omega, cell_of_row _ _ _ _ _ _ hq, ← Array.getElem?_toList]
    exact hv
  · rw [List.mem_singleton.1 hb]
    refine ⟨[⟨insD 0 1, none, 0⟩, ⟨insD 1 2, none, 0⟩, ⟨insO op, none, 0⟩], rfl, fun _ => ⟨p, 0, rfl, lt_of_heap hp, fun i hi j v hv => ?_⟩, fun x hx => ?_⟩
    · have hj : j < 8 := by
        have := (List.getElem?_eq_some_iff.1 hv).1
        simpa [insCells] using this
      rw [cell_of_row _ _ _ _ _ _ hp, ← Array.getElem?_toList, Nat.zero_add]
      match i, hi with
      | 0, _ => rw [← hv]; match j, hj with
        | 0, _ | 1, _ | 2, _ | 3, _ | 4, _ | 5, _ | 6, _ | 7, _ => rfl
      | 1, _ => rw [← hv]; match j, hj with
        | 0, _ | 1, _ | 2, _ | 3, _ | 4, _ | 5, _ | 6, _ | 7, _ => rfl
      | 2, _ => rw [← hv]; match j, hj with
        | 0, _ | 1, _ | 2, _ | 3, _ | 4, _ | 5, _ | 6, _ | 7, _ => rfl
    · simp only [List.mem_cons, List.not_mem_nil, or_false] at hx
      rcases hx with rfl | rfl | rfl <;> exact readsNil rfl _
end Go.Proofs.Ytlniohgnkihefaa
namespace Go.Proofs.Ytlniohgnkihefaa
open Go.RowKit Go.Maps
theorem exNum_any (d z : Int) (w : World) : Calls Try.prog 34 #[.int .i64 d, .int .i32 z] w fun e w' => e = .returned (.agg #[.int .i64 1, .int .i64 0, .int .i64 d, .int .i64 (-1), .int .i64 (-1), .int .i32 z, .string ⟨#[]⟩, .slice none 0 0]) ∧ Below w.heap.size w w' := by
  go_enter Try.func34, Try.ntmps34
  go_wp2_with fail
  obtain ⟨W1, hW1⟩ : ∃ W1, W1 = w.alloc (.cells #[.int .i64 1, .int .i64 0, .int .i64 d, .int .i64 (-1), .int .i64 (-1), .int .i32 z, .string ⟨#[]⟩, .slice none 0 0] 48) := ⟨_, rfl⟩
  rw [← hW1]
  have h0 : W1.heap[w.heap.size]? = some (.cells #[.int .i64 1, .int .i64 0, .int .i64 d, .int .i64 (-1), .int .i64 (-1), .int .i32 z, .string ⟨#[]⟩, .slice none 0 0] 48 (0, 0)) := by rw [hW1]; exact heap_alloc_new w _
  have c := fun j => cell_of_row W1 w.heap.size j _ _ _ h0
  refine bodyPost_ret (v := .agg #[.int .i64 1, .int .i64 0, .int .i64 d, .int .i64 (-1), .int .i64 (-1), .int .i32 z, .string ⟨#[]⟩, .slice none 0 0]) (by simp [results, Try.results34, go_sem, c]) rfl ⟨rfl, ?_⟩
  rw [hW1]
  exact (Below.refl _ _).alloc (Nat.le_refl _) _
def ExD (op : Int) (w : World) (e : Ending) (w' : World) : Prop := ∃ A c, e = .returned (fnAgg (exF op) A c) ∧ Below w.heap.size w w' ∧ BlkMem w' A (exF op).blocks
set_option maxHeartbeats 4000000 in
set_option maxRecDepth 100000 in
theorem example_any (op : Int) (w : World) : Calls Try.prog 16 #[.int .i64 op] w (ExD op w) := by
  go_enter Try.func16, Try.ntmps16
  go_wp2_with fail
  obtain ⟨bx, hbx⟩ : ∃ bx, bx = w.heap.size := ⟨_, rfl⟩
  obtain ⟨W0, hW0⟩ : ∃ W0, W0 = w.alloc (.cells #[.string ⟨#[]⟩, .int .i64 0, .int .i64 0, .slice none 0 0] 31) := ⟨_, rfl⟩
  rw [← hW0, ← hbx]
  have hb0 : Below w.heap.size w W0 := by rw [hW0]; exact (Below.refl _ w).alloc (Nat.le_refl _) _
  have hf0 : FnBox W0 bx ⟨#[]⟩ 0 0 (.slice none 0 0) := by rw [hW0, hbx]; exact heap_alloc_new w _
  have HBX := Lib.hid hbx
  clear hW0 hbx
  refine (exNum_any 0 1 W0).mono ?_
  rintro e W1 ⟨rfl, hb1⟩
  go_wp2_with fail
  refine (exNum_any 1 2 W1).mono ?_
  rintro e W2 ⟨rfl, hb2⟩
  have hb02 : Below W0.heap.size W0 W2 := hb1.trans (hb2.mono hb1.size)
  have hf2 := hf0.below hb02
  have HF2 := Lib.hid hf2
  obtain ⟨n0, n1, n2, n3⟩ := hf2.cells
  have nf := fun j => frozen_of_row W2 bx j _ _ hf2
  have hlt : bx < W2.heap.size := lt_of_heap hf2
  have HB2 : Hid (Below w.heap.size w W2) := Lib.hid (hb0.trans (hb02.mono hb0.size))
  clear hb0 hf0 hb1 hb2 hb02 hf2
  go_wp2_with fail
  obtain ⟨V, hV⟩ : ∃ V, V = (((W2.setCell ⟨bx, 0, none⟩ (.string ⟨#[109, 97, 105, 110]⟩)).setCell ⟨bx, 1, none⟩ (.int .i64 0)).setCell ⟨bx, 2, none⟩ (.int .i64 3)).setCell ⟨bx, 3, none⟩ (.slice (some ⟨W2.heap.size + 1, 0, none⟩) 1 1) := ⟨_, rfl⟩
  have hch : Chg (fun k => k = bx) W2 V := by rw [hV]; exact chg4
  have hb : FnBox V bx ⟨#[109, 97, 105, 110]⟩ 0 3 (.slice (some ⟨W2.heap.size + 1, 0, none⟩) 1 1) := by rw [hV]; exact box4 HF2.out
  have hsz : V.heap.size = W2.heap.size := by rw [hV]; simp
  rw [← hV, ← hsz]
  rw [← hsz] at hb
  obtain ⟨W6, hW6⟩ : ∃ W6, W6 = (V.alloc (.cells #[.int .i64 1, .int .i64 0, .int .i64 0, .int .i64 (-1), .int .i64 (-1), .int .i32 1, .string ⟨#[]⟩, .slice none 0 0, .int .i64 1, .int .i64 0, .int .i64 1, .int .i64 (-1), .int .i64 (-1), .int .i32 2, .string ⟨#[]⟩, .slice none 0 0, .int .i64 4, .int .i64 op, .int .i64 2, .int .i64 1, .int .i64 0, .int .i32 0, .string ⟨#[]⟩, .slice none 0 0] 48)).alloc (.cells #[.slice (some ⟨V.heap.size, 0, none⟩) 3 3, .int .i64 3, .int .i64 1, .int .i64 0, .int .i64 0] 45) := ⟨_, rfl⟩
  rw [← hW6]
  have h1 : W6.heap[V.heap.size]? = some (.cells #[.int .i64 1, .int .i64 0, .int .i64 0, .int .i64 (-1), .int .i64 (-1), .int .i32 1, .string ⟨#[]⟩, .slice none 0 0, .int .i64 1, .int .i64 0, .int .i64 1, .int .i64 (-1), .int .i64 (-1), .int .i32 2, .string ⟨#[]⟩, .slice none 0 0, .int .i64 4, .int .i64 op, .int .i64 2, .int .i64 1, .int .i64 0, .int .i32 0, .string ⟨#[]⟩, .slice none 0 0] 48 (0, 0)) := by
    rw [hW6]; exact (heap_alloc_old _ _ (by simp)).trans (heap_alloc_new V _)
  have h2 : W6.heap[V.heap.size + 1]? = some (.cells #[.slice (some ⟨V.heap.size, 0, none⟩) 3 3, .int .i64 3, .int .i64 1, .int .i64 0, .int .i64 0] 45 (0, 0)) := by
    rw [hW6]
    have h := heap_alloc_new (V.alloc (.cells #[.int .i64 1, .int .i64 0, .int .i64 0, .int .i64 (-1), .int .i64 (-1), .int .i32 1, .string ⟨#[]⟩, .slice none 0 0, .int .i64 1, .int .i64 0, .int .i64 1, .int .i64 (-1), .int .i64 (-1), .int .i32 2, .string ⟨#[]⟩, .slice none 0 0, .int .i64 4, .int .i64 op, .int .i64 2, .int .i64 1, .int .i64 0, .int .i32 0, .string ⟨#[]⟩, .slice none 0 0] 48)) (.cells #[.slice (some ⟨V.heap.size, 0, none⟩) 3 3, .int .i64 3, .int .i64 1, .int .i64 0, .int .i64 0] 45)
    rw [World.size_alloc] at h
    exact h
  have h6 : Below V.heap.size V W6 := by rw [hW6]; exact ((Below.refl _ V).alloc (Nat.le_refl _) _).alloc (by simp) _
  obtain ⟨e0, e1, e2, e3⟩ := (hb.below h6).cells
  have hbw : Below w.heap.size w W6 := (HB2.out.trans (hch.below HB2.out.size fun k e => by have := HBX.out; omega)).trans (h6.mono (by rw [hsz]; exact HB2.out.size))
  refine bodyPost_ret (v := .agg #[.string ⟨#[109, 97, 105, 110]⟩, .int .i64 0, .int .i64 3, .slice (some ⟨V.heap.size + 1, 0, none⟩) 1 1]) (by simp [results, Try.results16, go_sem, e0, e1, e2, e3]) rfl ⟨some ⟨V.heap.size + 1, 0, none⟩, 1, rfl, hbw, ex_mem op h1 h2⟩
set_option maxHeartbeats 4000000 in
set_option maxRecDepth 100000 in
theorem lives14_any (w : World) : Calls Try.prog 6 #[] w fun e w' => e = .returned (.bool true) ∧ Below w.heap.size w w' := by
  go_enter Try.func6, Try.ntmps6
  go_wp2_with fail
  refine (example_any 4 w).mono ?_
  rintro e w2 ⟨A2, c2, rfl, hb2, hm2⟩
  go_wp2_with fail
  refine (deadFn_any (exF 4) (ex_flow 4) (ex_data 4 (by omega)) A2 c2 w2 hm2).mono ?_
  rintro e w3 ⟨A3, c3, rfl, hb3, hm3⟩
  have HB3 : Hid (Below w.heap.size w w3) := Lib.hid (hb2.trans (hb3.mono hb2.size))
  have HM3 := Lib.hid hm3.mem
  clear hb2 hm2 hb3 hm3
  go_wp2_with fail
  refine (example_any 1 w3).mono ?_
  rintro e w4 ⟨A4, c4, rfl, hb4, hm4⟩
  have HB4 := Lib.hid hb4
  go_wp2_with fail
  refine (deadFn_any (exF 1) (ex_flow 1) (ex_data 1 (by omega)) A4 c4 w4 hm4).mono ?_
  rintro e w5 ⟨A5, c5, rfl, hb5, hm5⟩
  have HM35 := Lib.hid (HM3.out.below (HB4.out.trans (hb5.mono HB4.out.size)))
  have HB5 : Hid (Below w.heap.size w w5) := Lib.hid (HB3.out.trans ((HB4.out.trans (hb5.mono HB4.out.size)).mono HB3.out.size))
  have hm5' := hm5.mem
  rw [fin_add] at hm5' ⊢
  have h3 := HM35.out
  rw [fin_div] at h3 ⊢
  obtain ⟨g3, off3, A6, c6, rfl, hg3, hi3, x0, _⟩ := blkM_at h3 0 (by decide) (exB [insD 0 1, insD 1 2, insO 4]) rfl
  obtain ⟨g5, off5, A7, c7, rfl, hg5, hi5, y0, _⟩ := blkM_at hm5' 0 (by decide) (exB [insD 1 2]) rfl
  obtain ⟨g7, off7, _, _, rfl, hg7, _, _, _, z2, _⟩ := insM_at hi5 0 (by decide) (insD 1 2) rfl
  have x0 : w5.cell? ⟨g3, off3, none⟩ = some (.slice A6 3 c6) := x0
  have y0 : w5.cell? ⟨g5, off5, none⟩ = some (.slice (some ⟨g7, off7, none⟩) 1 c7) := y0
  have z2 : w5.cell? ⟨g7, off7 + 2, none⟩ = some (.int .i64 1) := z2
  simp only [fnAgg, exF, List.length_cons, List.length_nil, Nat.zero_add]
  clear hb4 hm4 hb5 hm5 HM35 HM3 hm5' h3 hi3 hi5 HB3 HB4
  go_wp2_with fail
  go_ret
  have hb := HB5.out.alloc HB5.out.size (.cells #[.string ⟨#[109, 97, 105, 110]⟩, .int .i64 0, .int .i64 3, .slice (some ⟨g3, off3, none⟩) 1 c3] 31)
  exact ⟨rfl, hb.alloc hb.size _⟩
end Go.Proofs.Ytlniohgnkihefaa
namespace Go.Proofs.Ytlniohgnkihefaa
open Go.RowKit Go.Maps
variable {T : Nat → Prop} {w w' : World}
theorem iterK_flow : ∀ (n : Nat) (ks : List Blk), FlowF ks → FlowF (iterK n ks)
  | 0, _, h => h
  | n + 1, _, h => iterK_flow n _ (nxtO_flow h)
theorem iterK_data : ∀ (n : Nat) (ks : List Blk), FlowF ks → DataF ks → DataF (iterK n ks)
  | 0, _, _, h => h
  | n + 1, _, hf, h => iterK_data n _ (nxtO_flow hf) (nxtO_data h hf)
def agF (F : Fn) (A : Option Addr) (c : Nat) : Value := .agg #[.string F.name, .int .i64 F.params, .int .i64 F.regs, .slice A F.blocks.length c]
def MadeF (F : Fn) (w : World) (e : Ending) (w' : World) : Prop := ∃ A c, e = .returned (agF F A c) ∧ Below w.heap.size w w' ∧ BlkMem w' A F.blocks
/-- What a round calls. -/
structure LawC (f F : Fn) : Prop where
  ref : ∀ A c w, BlkMem w A f.blocks → Calls Try.prog 8 #[agF f A c] w (MadeF F w)
  ded : ∀ A c w, BlkMem w A f.blocks → Calls Try.prog 9 #[agF f A c] w (MadeF F w)
  ded2 : ∀ A c w, BlkMem w A F.blocks → Calls Try.prog 9 #[agF F A c] w (MadeF F w)
  same : ∀ A B c d w, BlkMem w A F.blocks → BlkMem w B F.blocks → Calls Try.prog 10 #[agF F A c, agF F B d] w fun e w' => e = .returned (.bool true) ∧ Below w.heap.size w w'
theorem lawC {f : Fn} (hF : FlowF f.blocks) (hD : DataF f.blocks) : LawC f (finF f) := by
  have hF' : FlowF (finF f).blocks := iterK_flow _ _ hF
  have hD' : DataF (finF f).blocks := iterK_data _ _ hF hD
  refine ⟨fun A c w h => (refFn_any f hF hD A c w h).mono ?_, fun A c w h => (deadFn_any f hF hD A c w h).mono ?_, fun A c w h => (deadFn_any (finF f) hF' hD' A c w h).mono ?_, fun A B c d w h1 h2 => same12_any (finF f) hF' A B c d w h1 h2⟩
  · rintro e w' ⟨A', c', rfl, hb, hm⟩
    exact ⟨A', c', rfl, hb, hm.mem⟩
  · rintro e w' ⟨A', c', rfl, hb, hm⟩
    exact ⟨A', c', rfl, hb, hm.mem⟩
  · rintro e w' ⟨A', c', rfl, hb, hm⟩
    have e : finK (finF f).blocks = (finF f).blocks := finK_idem _
    rw [e] at hm ⊢
    exact ⟨A', c', rfl, hb, hm.mem⟩
/-- Within a round. -/
structure LawS (w0 : World) (F : Fn) (qx q6 q7 gx ox k : Nat) (Aw Ag Ax : Option Addr) (cw cg cx nx dx : Nat) (W : World) : Prop where
  below : Below w0.heap.size w0 W
  mw : BlkMem W Aw F.blocks
  mg : BlkMem W Ag F.blocks
  mx : BlkMem W Ax F.blocks
  a0 : W.cell? ⟨q7, 0, none⟩ = some (.string F.name)
  a1 : W.cell? ⟨q7, 1, none⟩ = some (.int .i64 F.params)
  a2 : W.cell? ⟨q7, 2, none⟩ = some (.int .i64 F.regs)
  a3 : W.cell? ⟨q7, 3, none⟩ = some (.slice Ag F.blocks.length cg)
  b0 : W.cell? ⟨q6, 0, none⟩ = some (.string F.name)
  b1 : W.cell? ⟨q6, 1, none⟩ = some (.int .i64 F.params)
  b2 : W.cell? ⟨q6, 2, none⟩ = some (.int .i64 F.regs)
  b3 : W.cell? ⟨q6, 3, none⟩ = some (.slice Aw F.blocks.length cw)
  x1 : W.cell? ⟨qx, 1, none⟩ = some (.slice (some ⟨gx, ox, none⟩) nx dx)
  y0 : W.cell? ⟨gx, ox + k * 4, none⟩ = some (.string F.name)
  y1 : W.cell? ⟨gx, ox + k * 4 + 1, none⟩ = some (.int .i64 F.params)
  y2 : W.cell? ⟨gx, ox + k * 4 + 2, none⟩ = some (.int .i64 F.regs)
  y3 : W.cell? ⟨gx, ox + k * 4 + 3, none⟩ = some (.slice Ax F.blocks.length cx)
theorem cellB {W W' : World} (hb : Below W.heap.size W W') {a : Addr} {v : Value} (h : W.cell? a = some v) : W'.cell? a = some v := (hb.cell (p := a) (World.block_lt_of_cell? W a h)).trans h
theorem LawS.next {w0 : World} {F : Fn} {qx q6 q7 gx ox k : Nat} {Aw Ag Ax : Option Addr} {cw cg cx nx dx : Nat} {W W' : World} (h : LawS w0 F qx q6 q7 gx ox k Aw Ag Ax cw cg cx nx dx W) (hb : Below W.heap.size W W') : LawS w0 F qx q6 q7 gx ox k Aw Ag Ax cw cg cx nx dx W' :=
  ⟨h.below.trans (hb.mono h.below.size), h.mw.below hb, h.mg.below hb, h.mx.below hb, cellB hb h.a0, cellB hb h.a1, cellB hb h.a2, cellB hb h.a3, cellB hb h.b0, cellB hb h.b1, cellB hb h.b2, cellB hb h.b3, cellB hb h.x1, cellB hb h.y0, cellB hb h.y1, cellB hb h.y2, cellB hb h.y3⟩

set_option maxHeartbeats 8000000 in
set_option maxRecDepth 100000 in
theorem deadFns_any (m : Mid) (A B : Option Addr) (c d : Nat) (w : World) (h : RdMid w T m A c B d) :
    Calls Try.prog 3 #[.agg #[.slice A m.globals.length c, .slice B m.fns.length d]] w fun e w' => e = .returned (.bool true) ∧ Below w.heap.size w w' := by
  have hlf : m.fns.length ≤ 9223372036854775807 := by have := h.nfns; unfold maxLen at this; omega
  obtain ⟨w1, hw1, hb1, hlt1, hc⟩ := box_new w #[.slice A m.globals.length c, .slice B m.fns.length d] 25
  have hc0 := hc 0
  have hc1 := hc 1
  simp only [List.getElem?_toArray, List.getElem?_cons_succ, List.getElem?_cons_zero] at hc0 hc1
  have HM := Lib.hid (mid_below h hb1)
  have HB1 := Lib.hid hb1
  have HW := Lib.hid hw1
  clear h hb1 hc hw1
  go_enter Try.func3, Try.ntmps3
  go_wp2_with fail
  rw [← HW.out]
  refine (Small_any m A B c d _ HM.out).mono ?_
  rintro e w2 ⟨t, rfl, hB2, hv⟩
  have d0 := (hB2.cell (p := ⟨w.heap.size, 0, none⟩) hlt1).trans hc0
  have d1 := (hB2.cell (p := ⟨w.heap.size, 1, none⟩) hlt1).trans hc1
  have HB2 : Hid (Below w.heap.size w w2) := Lib.hid (HB1.out.trans (hB2.mono HB1.out.size))
  have HM2 := Lib.hid (mid_below HM.out hB2)
  have HV := Lib.hid hv
  have hlt2 : w.heap.size < w2.heap.size := Nat.lt_of_lt_of_le hlt1 hB2.size
  clear hB2 hv hc0 hc1
  cases t with
  | false =>
    go_wp2_with fail
    refine (lives14_any _).mono ?_
    rintro e w3 ⟨rfl, hB3⟩
    have HB3 : Hid (Below w.heap.size w w3) := Lib.hid (HB2.out.trans (hB3.mono HB2.out.size))
    clear hB3
    go_wp2_with fail
    go_ret
    exact ⟨rfl, HB3.out⟩
  | true =>
    have HSM : Hid (SmallV m) := Lib.hid (HV.out rfl)
    go_wp2_with fail
    refine (deadMid_any m HSM.out A B c d w2 HM2.out).mono ?_
    rintro e w3 ⟨Ax, cx, Bx, dx, rfl, hB3, hfx, _⟩
    have d0 := (hB3.cell (p := ⟨w.heap.size, 0, none⟩) hlt2).trans d0
    have d1 := (hB3.cell (p := ⟨w.heap.size, 1, none⟩) hlt2).trans d1
    have hlt3 : w.heap.size < w3.heap.size := Nat.lt_of_lt_of_le hlt2 hB3.size
    have HB3 : Hid (Below w.heap.size w w3) := Lib.hid (HB2.out.trans (hB3.mono HB2.out.size))
    have HM3 := Lib.hid (mid_below HM2.out hB3)
    have HFX := Lib.hid hfx
    clear hB3 hfx
    go_wp2_with fail
    obtain ⟨qx, hqx⟩ : ∃ qx, qx = w3.heap.size := ⟨_, rfl⟩
    obtain ⟨w4, hw4⟩ : ∃ w4, w4 = w3.alloc (.cells #[.slice Ax m.globals.length cx, .slice Bx m.fns.length dx] 25) := ⟨_, rfl⟩
    rw [← hw4, ← hqx]
    have hb4 : Below w3.heap.size w3 w4 := by rw [hw4]; exact (Below.refl _ _).alloc (Nat.le_refl _) _
    have hm4 : MidBox w4 qx (.slice Ax m.globals.length cx) (.slice Bx m.fns.length dx) := by rw [hw4, hqx]; exact heap_alloc_new w3 _
    have HB4 : Hid (Below w.heap.size w w4) := Lib.hid (HB3.out.trans (hb4.mono HB3.out.size))
    have HM4 := Lib.hid (mid_below HM3.out hb4)
    have HFX4 := Lib.hid (HFX.out.below hb4)
    have HMX := Lib.hid hm4
    clear hb4 hm4 hw4 hqx d0 d1 hlt1 hlt2 hlt3
    go_loopw [33] (fun i wr => ∃ (k : Nat), k ≤ m.fns.length ∧ i = .int .i64 (k : Nat) ∧ Below w4.heap.size w4 wr) (fun i _ => m.fns.length - (intOf i).toNat)
    case atStart => exact ⟨0, by omega, rfl, Below.refl _ _⟩
    case round =>
      obtain ⟨k, hk, rfl, hB⟩ := hrel
      have HBK := Lib.hid hB
      have HBW : Hid (Below w.heap.size w wr) := Lib.hid (HB4.out.trans (hB.mono HB4.out.size))
      clear hB
      by_cases hlt : k < m.fns.length
      · obtain ⟨f, hfe⟩ : ∃ f, f = m.fns[k] := ⟨_, rfl⟩
        obtain ⟨g, off, A1, c1, rfl, hg, hok, hsub, g0, g1, g2, g3⟩ := fn_at (fns_below HM4.out.fns HBK.out) k hlt f hfe
        have hfm : f ∈ m.fns := by rw [hfe]; exact List.getElem_mem hlt
        have hF := flow_of (by rw [hfe]; exact (HSM.out.may.fns k hlt).fn) (HSM.out.light.fns f hfm)
        have hD := data_of hsub
        have hbm := blkMem_of_rd hsub
        have hLC := lawC hF hD
        obtain ⟨gx, ox, By, cy, rfl, hgx, hmy, y0, y1, y2, y3⟩ := fnsMem_at (HFX4.out.below HBK.out) k (by rw [List.length_map]; exact hlt) (finF f) (by rw [List.getElem_map, ← hfe])
        obtain ⟨F, hFe⟩ : ∃ F, F = finF f := ⟨_, rfl⟩
        rw [← hFe] at hLC hmy y0 y1 y2 y3
        have HLC := Lib.hid hLC
        obtain ⟨q5, hq5⟩ : ∃ q5, q5 = wr.heap.size := ⟨_, rfl⟩
        obtain ⟨W5, hW5⟩ : ∃ W5, W5 = wr.alloc (.cells #[.string f.name, .int .i64 f.params, .int .i64 f.regs, .slice A1 f.blocks.length c1] 31) := ⟨_, rfl⟩
        have h5 : Below wr.heap.size wr W5 := by rw [hW5]; exact (Below.refl _ _).alloc (Nat.le_refl _) _
        have hx5 : FnBox W5 q5 f.name f.params f.regs (.slice A1 f.blocks.length c1) := by rw [hW5, hq5]; exact heap_alloc_new wr _
        obtain ⟨a0, a1, a2, a3⟩ := hx5.cells
        have HM5 := Lib.hid (hbm.below h5)
        have HX5 := Lib.hid hx5
        have H5 := Lib.hid h5
        have HW5 := Lib.hid hW5
        have HQ5 := Lib.hid hq5
        have HMY := Lib.hid hmy
        have HY := Lib.hid (And.intro hgx (And.intro y0 (And.intro y1 (And.intro y2 y3))))
        clear hok hsub hfm hfe hF hD hbm hLC hFe hmy hgx y0 y1 y2 y3 hq5 hW5 h5 hx5
        go_upto_region 9 with (fail)
        rw [← HW5.out, ← HQ5.out]
        clear g0 g1 g2 g3 hg
        go_wp2_with fail
        refine (HLC.out.ref A1 c1 W5 HM5.out).mono ?_
        rintro e W6 ⟨Aw, cw, rfl, h6, hmw⟩
        unfold agF
        have hx6 := HX5.out.below h6
        obtain ⟨a0, a1, a2, a3⟩ := hx6.cells
        have hl5 : q5 < W6.heap.size := lt_of_heap hx6
        have HX6 := Lib.hid hx6
        have HM6 := Lib.hid (HM5.out.below h6)
        have HMW := Lib.hid hmw
        have H6 := Lib.hid (H5.out.trans (h6.mono H5.out.size))
        clear h6 hmw hx6
        go_upto_region 10 with (fail)
        obtain ⟨q6, hq6⟩ : ∃ q6, q6 = W6.heap.size := ⟨_, rfl⟩
        obtain ⟨W7, hW7⟩ : ∃ W7, W7 = W6.alloc (.cells #[.string F.name, .int .i64 F.params, .int .i64 F.regs, .slice Aw F.blocks.length cw] 31) := ⟨_, rfl⟩
        have h7 : Below W6.heap.size W6 W7 := by rw [hW7]; exact (Below.refl _ _).alloc (Nat.le_refl _) _
        have hx7 : FnBox W7 q6 F.name F.params F.regs (.slice Aw F.blocks.length cw) := by rw [hW7, hq6]; exact heap_alloc_new W6 _
        rw [← hW7, ← hq6]
        obtain ⟨a0, a1, a2, a3⟩ := (HX6.out.below h7).cells
        have HX7 := Lib.hid hx7
        have HM7 := Lib.hid (HM6.out.below h7)
        have HMW7 := Lib.hid (HMW.out.below h7)
        have H7 := Lib.hid (H6.out.trans (h7.mono H6.out.size))
        clear hq6 hW7 h7 hx7 hl5
        go_wp2_with fail
        refine (HLC.out.ded A1 c1 W7 HM7.out).mono ?_
        rintro e W8 ⟨Ag, cg, rfl, h8, hmg⟩
        unfold agF
        have HX8 := Lib.hid (HX7.out.below h8)
        have HMW8 := Lib.hid (HMW7.out.below h8)
        have HMG8 := Lib.hid hmg
        have H8 := Lib.hid (H7.out.trans (h8.mono H7.out.size))
        clear h8 hmg a0 a1 a2 a3
        go_upto_region 11 with (fail)
        obtain ⟨q7, hq7⟩ : ∃ q7, q7 = W8.heap.size := ⟨_, rfl⟩
        obtain ⟨W9, hW9⟩ : ∃ W9, W9 = W8.alloc (.cells #[.string F.name, .int .i64 F.params, .int .i64 F.regs, .slice Ag F.blocks.length cg] 31) := ⟨_, rfl⟩
        have h9 : Below W8.heap.size W8 W9 := by rw [hW9]; exact (Below.refl _ _).alloc (Nat.le_refl _) _
        have hx9 : FnBox W9 q7 F.name F.params F.regs (.slice Ag F.blocks.length cg) := by rw [hW9, hq7]; exact heap_alloc_new W8 _
        rw [← hW9, ← hq7]
        have hr9 : Below wr.heap.size wr W9 := H8.out.trans (h9.mono H8.out.size)
        obtain ⟨a0, a1, a2, a3⟩ := hx9.cells
        obtain ⟨b0, b1, b2, b3⟩ := (HX8.out.below h9).cells
        have x1 : W9.cell? ⟨qx, 1, none⟩ = some (.slice (some ⟨gx, ox, none⟩) m.fns.length dx) := cell_of_row _ _ _ _ _ _ ((HMX.out.below HBK.out).below hr9)
        have ST : Hid (LawS wr F qx q6 q7 gx ox k Aw Ag By cw cg cy m.fns.length dx W9) := Lib.hid ⟨hr9, HMW8.out.below h9, HMG8.out.below h9, HMY.out.below hr9, a0, a1, a2, a3, b0, b1, b2, b3, x1, cellB hr9 HY.out.2.1, cellB hr9 HY.out.2.2.1, cellB hr9 HY.out.2.2.2.1, cellB hr9 HY.out.2.2.2.2⟩
        clear hq7 hW9 h9 hx9 hr9 a0 a1 a2 a3 b0 b1 b2 b3 x1 HX5 HX6 HX7 HX8 HM5 HM6 HM7 HMW HMW7 HMW8 HMG8 H5 H6 H7 H8 HY HMY
        obtain ⟨_, _, _, _, a0, a1, a2, a3, b0, b1, b2, b3, x1, y0, y1, y2, y3⟩ := ST.out
        have ST := Lib.hid (ST.out.next (W' := W9.drew) ⟨rfl, rfl, rfl, Nat.le_refl _, fun _ _ => rfl⟩)
        go_region_held3 (fun W => W.cell? ⟨q7, 0, none⟩ = some (.string F.name) ∧ W.cell? ⟨q7, 1, none⟩ = some (.int .i64 F.params) ∧ W.cell? ⟨q7, 2, none⟩ = some (.int .i64 F.regs) ∧ W.cell? ⟨q7, 3, none⟩ = some (.slice Ag F.blocks.length cg) ∧ W.cell? ⟨q6, 0, none⟩ = some (.string F.name) ∧ W.cell? ⟨q6, 1, none⟩ = some (.int .i64 F.params) ∧ W.cell? ⟨q6, 2, none⟩ = some (.int .i64 F.regs) ∧ W.cell? ⟨q6, 3, none⟩ = some (.slice Aw F.blocks.length cw) ∧ W.cell? ⟨qx, 1, none⟩ = some (.slice (some ⟨gx, ox, none⟩) m.fns.length dx) ∧ W.cell? ⟨gx, ox + k * 4, none⟩ = some (.string F.name) ∧ W.cell? ⟨gx, ox + k * 4 + 1, none⟩ = some (.int .i64 F.params) ∧ W.cell? ⟨gx, ox + k * 4 + 2, none⟩ = some (.int .i64 F.regs) ∧ W.cell? ⟨gx, ox + k * 4 + 3, none⟩ = some (.slice By F.blocks.length cy)) (first | exact ⟨a0, a1, a2, a3, b0, b1, b2, b3, x1, y0, y1, y2, y3⟩ | go_keep)
          (first
          | (go_at_call 10; refine (HLC.out.same _ _ _ _ _ (by first | exact ST.out.mg | exact ST.out.mx | exact ST.out.mw | exact HZ.out) (by first | exact ST.out.mg | exact ST.out.mx | exact ST.out.mw | exact HZ.out)).mono ?_; rintro e wv ⟨rfl, hBv⟩; (try have HZ := Lib.hid (HZ.out.below hBv)); have ST := Lib.hid (ST.out.next hBv); clear hBv; obtain ⟨_, _, _, _, a0, a1, a2, a3, b0, b1, b2, b3, x1, y0, y1, y2, y3⟩ := ST.out)
          | (go_at_call 9; refine (HLC.out.ded2 _ _ _ (by first | exact ST.out.mg | exact ST.out.mx | exact ST.out.mw | exact HZ.out)).mono ?_; rintro e wv ⟨Az, cz, rfl, hBv, hz⟩; unfold agF; have HZ := Lib.hid hz; have ST := Lib.hid (ST.out.next hBv); clear hBv hz; obtain ⟨_, _, _, _, a0, a1, a2, a3, b0, b1, b2, b3, x1, y0, y1, y2, y3⟩ := ST.out))
        all_goals
          clear a0 a1 a2 a3 b0 b1 b2 b3 x1 y0 y1 y2 y3
          go_wp2_with fail
          go_roundw
          case rel => exact ⟨k + 1, by omega, by go_num, HBK.out.trans (ST.out.below.mono HBK.out.size)⟩
          case measure => simp [intOf]; omega
      · obtain rfl : k = m.fns.length := by omega
        go_wp2_with fail
        refine (lives14_any _).mono ?_
        rintro e w3 ⟨rfl, hB3⟩
        have HB3 : Hid (Below w.heap.size w w3) := Lib.hid (HBW.out.trans (hB3.mono HBW.out.size))
        clear hB3
        go_wp2_with fail
        go_ret
        exact ⟨rfl, HB3.out⟩
end Go.Proofs.Ytlniohgnkihefaa
namespace Go.Proofs.Ytlniohgnkihefaa.deadFns
open Go.ChangeShapes Go.WideShapes Go.ChangeAt Go.RowKit

theorem own : ownKnob Try.prog.godebug = none := by kernel_rfl
theorem laidOut : laidOutB Try.prog = true := by kernel_rfl

set_option maxRecDepth 100000 in
theorem lifted (os : Os) (started : os.Started) (H : Type) (enc : TypeId × Value → H) :
    ReturnsInHanded {} Try.checked os 3 .any (Rows.deadFnsSpec.pre6 enc Try.prog Try.f3 Rows.deadFnsRow.domain false) (Rows.deadFnsSpec.post enc Try.prog Try.f3 false true false false) := by
  refine returnsInHanded_of_change (C := Try.checked) own started (by kernel_rfl) Try.func3
    (ChangeSpec.witness6 (enc := enc) (C := Try.checked) false ⟨#[], #[.agg #[.slice none 0 0, .slice none 0 0]], []⟩ 8 (by kernel_rfl) (by kernel_rfl) (by kernel_rfl) (by kernel_rfl)) ?_
  intro W base args ds gs before hval0 hW hcnd _
  have hval : ∀ (j : Nat) t v, Try.f3.params[j]? = some t → args[j]? = some v → Value.okWide Try.prog W .any base t v := hval0
  have hW' := hW
  obtain ⟨p, q, hA0, hV, rfl, hfz, hnd⟩ := hW
  have hA : DataW.TrodAll enc Try.prog W 0 (fun _ => true) true Try.f3.params.toList args.toList ds p := hA0
  rw [Try.params3] at hA hval
  obtain ⟨v0, vs0, d0, ds0, p0, q0, hargs, rfl, rfl, h0, r0⟩ := trodAll_cons hA
  obtain ⟨rfl, rfl, rfl⟩ := trodAll_nil r0
  obtain rfl : args = #[v0] := by cases args; simp_all
  obtain ⟨rfl, rfl⟩ := trodVars_none hV
  have k0 := h0
  have lt0 : ∀ x ∈ p0, x.block < W.heap.size := by obtain ⟨m, hm⟩ := k0; exact DataW.trod_lt m _ _ _ hm
  have hagg : ∃ cs, v0 = .agg cs := by
    obtain ⟨cs, h1, _⟩ := okWide_struct Try.underlying25 (hval 0 25 v0 rfl rfl)
    exact ⟨cs, h1⟩
  obtain ⟨m, A, c, B, d, rfl, hrd⟩ := (let ⟨_, hf⟩ := h0; arg_mid hagg hf)
  clear hA0 hval0
  refine (deadFns_any m A B c d W hrd).mono fun e W' ⟨he, bel⟩ => ?_
  subst he
  exact ⟨_, rfl, _, _, _, [], _, [], hW', trodAll_mk1 (shut_bool Try.underlying4 _), (trodAll_cons_mk (Below.trod laidOut (by kernel_rfl) (of_decide_eq_true (by kernel_rfl)) k0 bel lt0) trodAll_mk0), rfl, bel.frame _, fun h => by cases h⟩

theorem over : Rows.deadFnsRow.holds Try.pinned (OpenSpec.ofChange Rows.deadFnsSpec) :=
  OpenClaim.holds_of_wide 3 Try.f3 rfl rfl rfl rfl rfl rfl rfl ⟨rfl, rfl, rfl, rfl, rfl⟩ rfl rfl rfl rfl rfl (by kernel_rfl) Try.func3 (by kernel_rfl)
    (of_decide_eq_true (by kernel_rfl)) (by unfold Func.isWrapper; first | (rw [if_pos (by decide +kernel)]; kernel_rfl) | (rw [if_neg (by decide +kernel)]; exact ⟨rfl, rfl⟩))
    (fun os started H enc _ => lifted os started H enc)

theorem proved : Rows.DeadFnsSaid := over
#print axioms proved
end Go.Proofs.Ytlniohgnkihefaa.deadFns
