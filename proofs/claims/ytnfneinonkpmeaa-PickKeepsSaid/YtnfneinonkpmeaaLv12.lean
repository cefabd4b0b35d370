/- brazierref12.Machine: the instructions that turn memory, input, trace. Written by genmac.py. -/
import Derived.Test.YtnfneinonkpmeaaLv11
import Derived.Test.YtnfneinonkpmeaaLv1
namespace Go.Proofs.Ytnfneinonkpmeaa
open Go.RowKit
section
variable {E : Env} {s : MS} {c : Nat} {r : Option Nat} {w w' : World} {gr : Nat} {regs : List Int}
theorem idx_split {m : Mid} {x : Ins} {l : List Int} {s : MS} {g : Nat} (hg : idxG m x = g) (h : idxOk m x l s = true) : ∃ z : Nat, idxI x l = z ∧ z < (dataRow s g).length := by
  unfold idxOk at h
  rw [hg] at h
  simp only [Bool.and_eq_true, decide_eq_true_eq] at h
  exact ⟨(idxI x l).toNat, by omega, by omega⟩
theorem getD_i32 {l : List Int} (h : ∀ z ∈ l, I32 z) (k : Nat) : I32 (l.getD k 0) := by
  have := getR_i32 h (k : Int)
  unfold getR at this
  simpa using this
theorem row_i32 (h : MacAt E s c r w) (g : Nat) : ∀ z ∈ dataRow s g, I32 z := fun z hz => by
  unfold dataRow at hz
  by_cases hg : g < s.data.length
  · rw [List.getD_eq_getElem?_getD, List.getElem?_eq_getElem hg] at hz; exact h.dat _ (List.getElem_mem hg) z hz
  · rw [List.getD_eq_getElem?_getD, List.getElem?_eq_none (by omega)] at hz; cases hz
set_option maxHeartbeats 4000000 in
set_option maxRecDepth 100000 in
theorem mins_5 (h : MacAt E s c r w) (hR : RegAt E r gr regs w) (h0 : s.fin = 0) (hE : EnvOk E) (d a : Int) (name : ByteArray) (g : Nat) (hg : g < E.m.globals.length) (hgl : globAt E.m.globals name = g) (hd : regB d regs.length false = true) (ha : regB a regs.length true = true) (Ax : Option Addr) (cx : Nat) :
    Calls Try.prog 46 #[.pointer (some ⟨E.mb, 0, none⟩), .slice (some ⟨gr, 0, none⟩) regs.length regs.length, .agg #[.int .i64 5, .int .i64 0, .int .i64 d, .int .i64 a, .int .i64 (-1), .int .i32 0, .string name, .slice Ax 0 cx]] w (InsPost E s ⟨5, 0, d, a, -1, 0, name, []⟩ gr regs c r w) := by
  obtain ⟨kd, rfl, hkd⟩ := regB_k hd
  obtain ⟨w1, hw1, hb1, hlt1, hc⟩ := box_new w #[.int .i64 5, .int .i64 0, .int .i64 kd, .int .i64 a, .int .i64 (-1), .int .i32 0, .string name, .slice Ax 0 cx] 54
  obtain ⟨rd, qd⟩ := wsCell (hR.below hb1).words kd hkd
  obtain ⟨vd, ed⟩ : ∃ v, v = regs.getD kd 0 := ⟨_, rfl⟩
  rw [← ed] at rd
  have bd : I32 vd := by rw [ed]; have := getR_i32 hR.bd (kd : Int); unfold getR at this; simpa using this
  have EVd := Lib.hid ed
  have BVd := Lib.hid bd
  clear ed bd
  have HM := Lib.hid (h.below hb1)
  have HR := Lib.hid (hR.below hb1)
  have HB := Lib.hid hb1
  have H0 := Lib.hid h0
  have HW := Lib.hid hw1
  have x0 := hc 0
  have x1 := hc 1
  have x2 := hc 2
  have x3 := hc 3
  have x4 := hc 4
  have x5 := hc 5
  have x6 := hc 6
  have x7 := hc 7
  simp only [List.getElem?_toArray, List.getElem?_cons_succ, List.getElem?_cons_zero] at x0 x1 x2 x3 x4 x5 x6 x7
  obtain ⟨bx, hbx⟩ : ∃ bx, bx = w.heap.size := ⟨_, rfl⟩
  rw [← hbx] at x0 x1 x2 x3 x4 x5 x6 x7
  have HBX := Lib.hid hbx
  have hrl : regs.length ≤ maxLen := by
    obtain ⟨_, _, _, _, _, h1, h2, _⟩ := RowAt.form hR.words (by omega)
    exact Nat.le_trans h1 h2
  unfold maxLen at hrl
  have hgk : bx ≠ gr := by rw [hbx]; have := hR.lt; omega
  obtain ⟨_, _, m2, _, _, _, m6, _, m10, mf⟩ := (h.below hb1).cells
  obtain ⟨mb, hmb⟩ : ∃ mb, mb = E.mb := ⟨_, rfl⟩
  rw [← hmb] at m2 m6 m10 mf ⊢
  have HMB := Lib.hid hmb
  have hbm : bx ≠ mb := by rw [hbx, hmb]; have := h.blt; omega
  have HE := Lib.hid hE
  clear hmb hE
  clear m10
  have HI : Hid (∀ W, MacAt E s c r W → RegAt E r gr regs W → Calls Try.prog 61 #[.pointer (some ⟨mb, 0, none⟩), .slice (some ⟨gr, 0, none⟩) regs.length regs.length, .agg #[.int .i64 5, .int .i64 0, .int .i64 kd, .int .i64 a, .int .i64 (-1), .int .i32 0, .string name, .slice Ax 0 cx]] W (IdxPost E s c r ⟨5, 0, kd, a, -1, 0, name, []⟩ regs W)) := Lib.hid fun W hM hR => by
    rw [HMB.out]
    exact index_any HE.out hM ⟨5, 0, kd, a, -1, 0, name, []⟩ Ax cx g hg hgl gr regs hR.words hR.bd ha
  have hG : idxG E.m ⟨5, 0, kd, a, -1, 0, name, []⟩ = g := by unfold idxG; rw [hgl]; simp
  have HG := Lib.hid hG
  have HGN : Hid (E.bs.length = E.m.globals.length) := Lib.hid HE.out.nb
  have hng : E.m.globals.length ≤ 64 := HE.out.may.ng
  clear hG hgl ha
  clear hd h hR hb1 hlt1 hc hw1 h0 hbx
  go_enter Try.func46, Try.ntmps46
  go_upto_region 1 with (fail)
  rw [← HW.out, ← HBX.out]
  go_wp2_with fail
  refine (HI.out _ HM.out HR.out).mono ?_
  rintro e w2 hp
  rcases hp with ⟨hok, rfl, hb2⟩ | ⟨hok, rfl, hm2, hc2⟩
  · obtain ⟨z, hz, hzl⟩ := idx_split HG.out hok
    have HM2 := Lib.hid (HM.out.below hb2)
    have HR2 := Lib.hid (HR.out.below hb2)
    have HB2 : Hid (Below w.heap.size w w2) := Lib.hid (HB.out.trans (hb2.mono HB.out.size))
    obtain ⟨gd, od, hAD, hrow⟩ := HM2.out.outer g (by rw [HGN.out]; exact hg)
    obtain ⟨_, _, n2, _⟩ := HM2.out.cells
    rw [hAD, ← HMB.out] at n2
    obtain ⟨bg, hbg⟩ : ∃ bg, bg = E.bs[g]'(by rw [HGN.out]; exact hg) := ⟨_, rfl⟩
    rw [← hbg] at hrow
    have hwd := HM2.out.words g (by rw [HGN.out]; exact hg)
    rw [← hbg] at hwd
    obtain ⟨hv, hvf⟩ := wsCell hwd z hzl
    have hLm : (dataRow s g).length ≤ 4096 := by
      have h1 := (HE.out.may.globs g hg).size.2
      rw [HM2.out.dlen g hg]; omega
    obtain ⟨L, hL⟩ : ∃ L, L = (dataRow s g).length := ⟨_, rfl⟩
    obtain ⟨v, hve⟩ : ∃ v, v = (dataRow s g).getD z 0 := ⟨_, rfl⟩
    rw [← hL] at hrow hzl hLm
    rw [← hve] at hv
    have HL := Lib.hid hL
    have HVE := Lib.hid hve
    have HZ := Lib.hid hz
    have HOK := Lib.hid hok
    have HBG := Lib.hid hbg
    have t2 := (hb2.cell (p := ⟨bx, 2, none⟩) (World.block_lt_of_cell? w1 ⟨bx, 2, none⟩ x2)).trans x2
    obtain ⟨ud, fd⟩ := wsCell HR2.out.words kd hkd
    obtain ⟨rv, hrv⟩ : ∃ rv, rv = regs.getD kd 0 := ⟨_, rfl⟩
    rw [← hrv] at ud
    have HRV := Lib.hid hrv
    clear hL hve hz hok hbg hAD hwd hb2 hrv
    rw [HG.out, HZ.out]
    go_upto_region 17 with (fail)
    go_still_tail 14, (by kernel_rfl)
    change wpList _ _ _ _ _ w2.drew
    go_wp2_with fail
    go_end0
    refine ins_set hkd (by rw [HVE.out]; exact getD_i32 (row_i32 HM2.out g) z) HM2.out.drew (HR2.out.below dr) (HB2.out.trans (dr.mono HB2.out.size)) H0.out rfl fun fr K e hl => ?_
    simp only [exS, e, HOK.out]
    rw [HG.out, HZ.out, HVE.out]
    simp [Fr.put, setR, getR, e]
  · have HC := Lib.hid hc2
    have HM2 := Lib.hid hm2
    have HOK := Lib.hid hok
    clear hm2 hok hc2
    go_wp2_with fail
    go_end0
    exact ins_fail' 3 (by decide) HM2.out (HR.out.kept HC.out fun e => HR.out.foot (.inl e)) ((Chg.of_below HB.out _).trans HC.out fun _ _ e => e) fun fr K e hl => by
      simp only [exS, e, HOK.out]
      simp
set_option maxHeartbeats 4000000 in
set_option maxRecDepth 100000 in
theorem mins_6 (h : MacAt E s c r w) (hR : RegAt E r gr regs w) (h0 : s.fin = 0) (hE : EnvOk E) (a b : Int) (name : ByteArray) (g : Nat) (hg : g < E.m.globals.length) (hgl : globAt E.m.globals name = g) (ha : regB a regs.length true = true) (hb : regB b regs.length false = true) (Ax : Option Addr) (cx : Nat) :
    Calls Try.prog 46 #[.pointer (some ⟨E.mb, 0, none⟩), .slice (some ⟨gr, 0, none⟩) regs.length regs.length, .agg #[.int .i64 6, .int .i64 0, .int .i64 (-1), .int .i64 a, .int .i64 b, .int .i32 0, .string name, .slice Ax 0 cx]] w (InsPost E s ⟨6, 0, -1, a, b, 0, name, []⟩ gr regs c r w) := by
  obtain ⟨kb, rfl, hkb⟩ := regB_k hb
  obtain ⟨w1, hw1, hb1, hlt1, hc⟩ := box_new w #[.int .i64 6, .int .i64 0, .int .i64 (-1), .int .i64 a, .int .i64 kb, .int .i32 0, .string name, .slice Ax 0 cx] 54
  obtain ⟨rb, qb⟩ := wsCell (hR.below hb1).words kb hkb
  obtain ⟨vb, eb⟩ : ∃ v, v = regs.getD kb 0 := ⟨_, rfl⟩
  rw [← eb] at rb
  have bb : I32 vb := by rw [eb]; have := getR_i32 hR.bd (kb : Int); unfold getR at this; simpa using this
  have EVb := Lib.hid eb
  have BVb := Lib.hid bb
  clear eb bb
  have HM := Lib.hid (h.below hb1)
  have HR := Lib.hid (hR.below hb1)
  have HB := Lib.hid hb1
  have H0 := Lib.hid h0
  have HW := Lib.hid hw1
  have x0 := hc 0
  have x1 := hc 1
  have x2 := hc 2
  have x3 := hc 3
  have x4 := hc 4
  have x5 := hc 5
  have x6 := hc 6
  have x7 := hc 7
  simp only [List.getElem?_toArray, List.getElem?_cons_succ, List.getElem?_cons_zero] at x0 x1 x2 x3 x4 x5 x6 x7
  obtain ⟨bx, hbx⟩ : ∃ bx, bx = w.heap.size := ⟨_, rfl⟩
  rw [← hbx] at x0 x1 x2 x3 x4 x5 x6 x7
  have HBX := Lib.hid hbx
  have hrl : regs.length ≤ maxLen := by
    obtain ⟨_, _, _, _, _, h1, h2, _⟩ := RowAt.form hR.words (by omega)
    exact Nat.le_trans h1 h2
  unfold maxLen at hrl
  have hgk : bx ≠ gr := by rw [hbx]; have := hR.lt; omega
  obtain ⟨_, _, m2, _, _, _, m6, _, m10, mf⟩ := (h.below hb1).cells
  obtain ⟨mb, hmb⟩ : ∃ mb, mb = E.mb := ⟨_, rfl⟩
  rw [← hmb] at m2 m6 m10 mf ⊢
  have HMB := Lib.hid hmb
  have hbm : bx ≠ mb := by rw [hbx, hmb]; have := h.blt; omega
  have HE := Lib.hid hE
  clear hmb hE
  clear m10
  have HI : Hid (∀ W, MacAt E s c r W → RegAt E r gr regs W → Calls Try.prog 61 #[.pointer (some ⟨mb, 0, none⟩), .slice (some ⟨gr, 0, none⟩) regs.length regs.length, .agg #[.int .i64 6, .int .i64 0, .int .i64 (-1), .int .i64 a, .int .i64 kb, .int .i32 0, .string name, .slice Ax 0 cx]] W (IdxPost E s c r ⟨6, 0, -1, a, kb, 0, name, []⟩ regs W)) := Lib.hid fun W hM hR => by
    rw [HMB.out]
    exact index_any HE.out hM ⟨6, 0, -1, a, kb, 0, name, []⟩ Ax cx g hg hgl gr regs hR.words hR.bd ha
  have hG : idxG E.m ⟨6, 0, -1, a, kb, 0, name, []⟩ = g := by unfold idxG; rw [hgl]; simp
  have HG := Lib.hid hG
  have HGN : Hid (E.bs.length = E.m.globals.length) := Lib.hid HE.out.nb
  have hng : E.m.globals.length ≤ 64 := HE.out.may.ng
  clear hG hgl ha
  clear hb h hR hb1 hlt1 hc hw1 h0 hbx
  go_enter Try.func46, Try.ntmps46
  go_upto_region 1 with (fail)
  rw [← HW.out, ← HBX.out]
  go_wp2_with fail
  refine (HI.out _ HM.out HR.out).mono ?_
  rintro e w2 hp
  rcases hp with ⟨hok, rfl, hb2⟩ | ⟨hok, rfl, hm2, hc2⟩
  · obtain ⟨z, hz, hzl⟩ := idx_split HG.out hok
    have HM2 := Lib.hid (HM.out.below hb2)
    have HR2 := Lib.hid (HR.out.below hb2)
    have HB2 : Hid (Below w.heap.size w w2) := Lib.hid (HB.out.trans (hb2.mono HB.out.size))
    obtain ⟨gd, od, hAD, hrow⟩ := HM2.out.outer g (by rw [HGN.out]; exact hg)
    obtain ⟨_, _, n2, _⟩ := HM2.out.cells
    rw [hAD, ← HMB.out] at n2
    obtain ⟨bg, hbg⟩ : ∃ bg, bg = E.bs[g]'(by rw [HGN.out]; exact hg) := ⟨_, rfl⟩
    rw [← hbg] at hrow
    have hwd := HM2.out.words g (by rw [HGN.out]; exact hg)
    rw [← hbg] at hwd
    obtain ⟨hv, hvf⟩ := wsCell hwd z hzl
    have hLm : (dataRow s g).length ≤ 4096 := by
      have h1 := (HE.out.may.globs g hg).size.2
      rw [HM2.out.dlen g hg]; omega
    obtain ⟨L, hL⟩ : ∃ L, L = (dataRow s g).length := ⟨_, rfl⟩
    obtain ⟨v, hve⟩ : ∃ v, v = (dataRow s g).getD z 0 := ⟨_, rfl⟩
    rw [← hL] at hrow hzl hLm
    rw [← hve] at hv
    have HL := Lib.hid hL
    have HVE := Lib.hid hve
    have HZ := Lib.hid hz
    have HOK := Lib.hid hok
    have HBG := Lib.hid hbg
    have t4 := (hb2.cell (p := ⟨bx, 4, none⟩) (World.block_lt_of_cell? w1 ⟨bx, 4, none⟩ x4)).trans x4
    obtain ⟨ub, fb⟩ := wsCell HR2.out.words kb hkb
    obtain ⟨rv, hrv⟩ : ∃ rv, rv = regs.getD kb 0 := ⟨_, rfl⟩
    rw [← hrv] at ub
    have HRV := Lib.hid hrv
    clear hL hve hz hok hbg hAD hwd hb2 hrv
    rw [HG.out, HZ.out]
    have hbr : bg ≠ gr := fun e => HR.out.foot (.inr (.inl (by rw [← e, HBG.out]; exact List.getElem_mem _)))
    go_upto_region 21 with (fail)
    go_still_tail 14, (by kernel_rfl)
    change wpList _ _ _ _ _ w2.drew
    go_wp2_with fail
    go_end0
    have hgn : g < E.bs.length := by rw [HGN.out]; exact hg
    refine ⟨{ s with data := s.data.set g ((dataRow s g).set z rv) }, r, regs, c, rfl, ?_, ?_, (HR2.out.below dr).kept (Chg.store w2.drew bg z _) (fun e => hbr e.symm), rfl, NewOr.refl _ _, .inl ⟨H0.out, rfl, fun fr K e hl => ?_⟩⟩
    · exact ((Chg.of_below (HB2.out.trans (dr.mono HB2.out.size)) _)).setCell ⟨bg, z, none⟩ (fun _ => .inl (.inr (.inl (by rw [HBG.out]; exact List.getElem_mem _)))) _
    · rw [HBG.out]
      exact HM2.out.drew.word HE.out g hgn z (by rw [← HL.out]; exact hzl) rv (by rw [HRV.out]; exact getD_i32 HR2.out.bd kb)
    · have ee : exS E.m E.inp ⟨6, 0, -1, a, kb, 0, name, []⟩ s fr K = ({ s with data := s.data.set g ((dataRow s g).set z rv) }, { fr with regs := regs } :: K) := by
        simp only [exS, e, HOK.out]
        rw [HG.out, HZ.out, HRV.out]
        simp [setR, getR, ← e]
      rw [ee]
      exact Reach.refl _
  · have HC := Lib.hid hc2
    have HM2 := Lib.hid hm2
    have HOK := Lib.hid hok
    clear hm2 hok hc2
    go_wp2_with fail
    go_end0
    exact ins_fail' 3 (by decide) HM2.out (HR.out.kept HC.out fun e => HR.out.foot (.inl e)) ((Chg.of_below HB.out _).trans HC.out fun _ _ e => e) fun fr K e hl => by
      simp only [exS, e, HOK.out]
      simp
set_option maxHeartbeats 4000000 in
set_option maxRecDepth 100000 in
theorem mins_8 (h : MacAt E s c r w) (hR : RegAt E r gr regs w) (h0 : s.fin = 0) (hE : EnvOk E) (d : Int) (hd : regB d regs.length false = true) (Ax : Option Addr) (cx : Nat) :
    Calls Try.prog 46 #[.pointer (some ⟨E.mb, 0, none⟩), .slice (some ⟨gr, 0, none⟩) regs.length regs.length, .agg #[.int .i64 8, .int .i64 0, .int .i64 d, .int .i64 (-1), .int .i64 (-1), .int .i32 0, .string ⟨#[]⟩, .slice Ax 0 cx]] w (InsPost E s ⟨8, 0, d, -1, -1, 0, ⟨#[]⟩, []⟩ gr regs c r w) := by
  obtain ⟨kd, rfl, hkd⟩ := regB_k hd
  obtain ⟨w1, hw1, hb1, hlt1, hc⟩ := box_new w #[.int .i64 8, .int .i64 0, .int .i64 kd, .int .i64 (-1), .int .i64 (-1), .int .i32 0, .string ⟨#[]⟩, .slice Ax 0 cx] 54
  obtain ⟨rd, qd⟩ := wsCell (hR.below hb1).words kd hkd
  obtain ⟨vd, ed⟩ : ∃ v, v = regs.getD kd 0 := ⟨_, rfl⟩
  rw [← ed] at rd
  have bd : I32 vd := by rw [ed]; have := getR_i32 hR.bd (kd : Int); unfold getR at this; simpa using this
  have EVd := Lib.hid ed
  have BVd := Lib.hid bd
  clear ed bd
  have HM := Lib.hid (h.below hb1)
  have HR := Lib.hid (hR.below hb1)
  have HB := Lib.hid hb1
  have H0 := Lib.hid h0
  have HW := Lib.hid hw1
  have x0 := hc 0
  have x2 := hc 2
  simp only [List.getElem?_toArray, List.getElem?_cons_succ, List.getElem?_cons_zero] at x0 x2
  obtain ⟨bx, hbx⟩ : ∃ bx, bx = w.heap.size := ⟨_, rfl⟩
  rw [← hbx] at x0 x2
  have HBX := Lib.hid hbx
  have hrl : regs.length ≤ maxLen := by
    obtain ⟨_, _, _, _, _, h1, h2, _⟩ := RowAt.form hR.words (by omega)
    exact Nat.le_trans h1 h2
  unfold maxLen at hrl
  have hgk : bx ≠ gr := by rw [hbx]; have := hR.lt; omega
  obtain ⟨_, _, m2, _, _, _, m6, _, m10, mf⟩ := (h.below hb1).cells
  obtain ⟨mb, hmb⟩ : ∃ mb, mb = E.mb := ⟨_, rfl⟩
  rw [← hmb] at m2 m6 m10 mf ⊢
  have HMB := Lib.hid hmb
  have hbm : bx ≠ mb := by rw [hbx, hmb]; have := h.blt; omega
  have HE := Lib.hid hE
  clear hmb hE
  clear m2
  clear hd h hR hb1 hlt1 hc hw1 h0 hbx
  go_enter Try.func46, Try.ntmps46
  go_upto_region 1 with (fail)
  rw [← HW.out, ← HBX.out]
  go_upto_region 34 with (fail)
  obtain ⟨W2, hW2⟩ : ∃ W2, W2 = w1.setCell ⟨gr, kd, none⟩ (.int .i32 0) := ⟨_, rfl⟩
  rw [← hW2]
  have HM2 : Hid (MacAt E s c r W2) := Lib.hid (by rw [hW2]; exact HM.out.reg HR.out kd _)
  have HR2 : Hid (RegAt E r gr (regs.set kd 0) W2) := Lib.hid (by rw [hW2]; exact HR.out.set kd hkd 0 (by unfold I32; simp))
  have HC2 : Hid (Chg (fun k => Foot E r k ∨ k = gr) w W2) := Lib.hid (by rw [hW2]; exact ((Chg.of_below HB.out _)).setCell ⟨gr, kd, none⟩ (fun _ => .inr rfl) _)
  have t2 : W2.cell? ⟨bx, 2, none⟩ = some (.int .i64 kd) := by
    rw [hW2]
    exact (Chg.store w1 gr kd (.int .i32 0)).cell (p := ⟨bx, 2, none⟩) x2 hgk
  clear hW2 x0 x2 rd qd mf m10 m6
  obtain ⟨_, _, _, m3, _, _, _, _, m10, mf⟩ := HM2.out.cells
  rw [← HMB.out] at m3 m10 mf
  obtain ⟨n, hn⟩ : ∃ n, n = s.reads := ⟨_, rfl⟩
  obtain ⟨li, hli⟩ : ∃ li, li = E.inp.length := ⟨_, rfl⟩
  have hlm : li ≤ 9223372036854775807 := by have := HE.out.inpL; unfold maxLen at this; omega
  rw [← hn] at m10
  rw [← hli] at m3
  have HN := Lib.hid hn
  have HLI := Lib.hid hli
  clear hn hli
  by_cases hlt : n < li
  · obtain ⟨gi, oi, hAi, hgb, hgs, hcell⟩ := HM2.out.inp (by rw [i32s_len, ← HLI.out]; omega)
    rw [hAi] at m3
    have hlx : n < E.inp.length := by rw [← HLI.out]; exact hlt
    have hiv := hcell n (.int .i32 (E.inp.getD n 0)) (by simp [i32s, List.getD, hlx])
    obtain ⟨v, hve⟩ : ∃ v, v = E.inp.getD n 0 := ⟨_, rfl⟩
    rw [← hve] at hiv
    obtain ⟨qv, qf⟩ := wsCell HR2.out.words kd (by rw [List.length_set]; exact hkd)
    obtain ⟨rv, hrv⟩ : ∃ rv, rv = (regs.set kd 0).getD kd 0 := ⟨_, rfl⟩
    rw [← hrv] at qv
    have HVE := Lib.hid hve
    clear hcell hAi hgb hve hrv hlx
    go_quiet (fail)
    obtain ⟨Wq, hWq⟩ : ∃ Wq, Wq = W2.drewN nq := ⟨_, rfl⟩
    rw [← hWq]
    have hbq : Below W2.heap.size W2 Wq := by rw [hWq]; exact drN
    have HM2 := Lib.hid (HM2.out.below hbq)
    have HR2 := Lib.hid (HR2.out.below hbq)
    have HC2 : Hid (Chg (fun k => Foot E r k ∨ k = gr) w Wq) := Lib.hid (HC2.out.trans (Chg.of_below hbq (fun _ => False)) fun _ _ h => h.elim)
    have t2 : Wq.cell? ⟨bx, 2, none⟩ = some (.int .i64 kd) := by rw [hWq]; exact t2
    have m3 : Wq.cell? ⟨mb, 3, none⟩ = some (.slice (some ⟨gi, oi, none⟩) li E.ci) := by rw [hWq]; exact m3
    have m10 : Wq.cell? ⟨mb, 10, none⟩ = some (.int .i64 n) := by rw [hWq]; exact m10
    have hiv : Wq.cell? ⟨gi, oi + n, none⟩ = some (.int .i32 v) := by rw [hWq]; exact hiv
    have qv : Wq.cell? ⟨gr, kd, none⟩ = some (.int .i32 rv) := by rw [hWq]; exact qv
    have qf : Wq.frozen? ⟨gr, kd, none⟩ = false := by rw [hWq]; exact qf
    clear hWq hbq mf
    go_upto_region 35 with (fail)
    go_still_tail 15, (by kernel_rfl)
    change wpList _ _ _ _ _ Wq.drew
    go_upto_region 36 with (fail)
    obtain ⟨W3, hW3⟩ : ∃ W3, W3 = (Wq.setCell ⟨gr, kd, none⟩ (.int .i32 v)).drew := ⟨_, rfl⟩
    rw [← hW3]
    have HM3 : Hid (MacAt E s c r W3) := Lib.hid (by rw [hW3]; exact (HM2.out.reg HR2.out kd _).drew)
    have HR3 : Hid (RegAt E r gr (regs.set kd v) W3) := Lib.hid (by
      have h3 := HR2.out.set kd (by rw [List.length_set]; exact hkd) v (by rw [HVE.out]; exact getD_i32 HE.out.inpW n)
      rw [List.set_set] at h3
      rw [hW3]; exact h3.below dr)
    have HC3 : Hid (Chg (fun k => Foot E r k ∨ k = gr) w W3) := Lib.hid (by rw [hW3]; exact (HC2.out.setCell ⟨gr, kd, none⟩ (fun _ => .inr rfl) _).drew)
    clear hW3 qv qf hiv m3 m10 t2
    obtain ⟨_, _, _, _, _, _, _, _, m10, mf⟩ := HM3.out.cells
    rw [← HMB.out] at m10 mf
    rw [← HN.out] at m10
    go_wp2_with fail
    go_end0
    refine ⟨{ s with reads := s.reads + 1 }, r, regs.set kd v, c, rfl, HC3.out.setCell ⟨mb, 10, none⟩ (fun _ => .inl (.inl HMB.out)) _, ?_, HR3.out.kept (Chg.store W3 mb 10 _) (fun e => HR3.out.foot (.inl (e.trans HMB.out))), by simp, NewOr.refl _ _, .inl ⟨H0.out, rfl, fun fr K e hl => ?_⟩⟩
    · rw [HMB.out, HN.out]
      exact HM3.out.own HE.out 10 _ { s with reads := s.reads + 1 } c rfl rfl ⟨Nat.le_refl _, HM3.out.sl⟩ (by have := HN.out; have := HLI.out; show s.reads + 1 ≤ _; omega) HM3.out.cl fun vT => by simp
    · have ee : exS E.m E.inp ⟨8, 0, kd, -1, -1, 0, ⟨#[]⟩, []⟩ s fr K = ({ s with reads := s.reads + 1 }, { fr with regs := regs.set kd v } :: K) := by
        simp only [exS, e]
        rw [HVE.out, HN.out]
        have : s.reads < E.inp.length := by rw [← HN.out, ← HLI.out]; exact hlt
        simp [Fr.put, setR, e, this]
      rw [ee]
      exact Reach.refl _
  · go_quiet (fail)
    go_wp2_with fail
    go_end0
    refine ⟨s, r, regs.set kd 0, c, rfl, HC2.out.trans (Chg.of_below (drN (n := nq)) (fun _ => False)) (fun _ _ h => h.elim), HM2.out.drewN nq, HR2.out.below drN, by simp, NewOr.refl _ _, .inl ⟨H0.out, rfl, fun fr K e hl => ?_⟩⟩
    have ee : exS E.m E.inp ⟨8, 0, kd, -1, -1, 0, ⟨#[]⟩, []⟩ s fr K = (s, { fr with regs := regs.set kd 0 } :: K) := by
      simp only [exS]
      have : ¬ s.reads < E.inp.length := by rw [← HN.out, ← HLI.out]; exact hlt
      simp [Fr.put, setR, e, this]
    rw [ee]
    exact Reach.refl _
end
end Go.Proofs.Ytnfneinonkpmeaa
namespace Go.Proofs.Ytnfneinonkpmeaa
open Go.RowKit
section
variable {E : Env} {s : MS} {c : Nat} {r : Option Nat} {w w' : World} {gr : Nat} {regs : List Int}
structure Sel3 (mb bx gr ka : Nat) (vt : Value) (va : Int) (Y : World) : Prop where
  e1 : Y.cell? ⟨mb, 8, none⟩ = some vt
  e2 : Y.cell? ⟨bx, 3, none⟩ = some (.int .i64 ka)
  e3 : Y.cell? ⟨gr, ka, none⟩ = some (.int .i32 va)
theorem Sel3.below {mb bx gr ka : Nat} {vt : Value} {va : Int} {Y Y' : World} (h : Sel3 mb bx gr ka vt va Y) (hb : Below Y.heap.size Y Y') : Sel3 mb bx gr ka vt va Y' :=
  ⟨(hb.cell (p := ⟨mb, 8, none⟩) (World.block_lt_of_cell? Y ⟨mb, 8, none⟩ h.e1)).trans h.e1, (hb.cell (p := ⟨bx, 3, none⟩) (World.block_lt_of_cell? Y ⟨bx, 3, none⟩ h.e2)).trans h.e2, (hb.cell (p := ⟨gr, ka, none⟩) (World.block_lt_of_cell? Y ⟨gr, ka, none⟩ h.e3)).trans h.e3⟩
theorem one_cell {W : World} {q : Nat} {v : Value} (h : W.cell? ⟨q, 0, none⟩ = some v) (j : Nat) (u : Value) (hu : [v][j]? = some u) : W.cell? ((⟨q, 0, none⟩ : Addr).add j) = some u := by
  cases j with
  | zero => rw [Addr.add_lit]; have : v = u := by simpa using hu
            rw [← this]; exact h
  | succ j => simp at hu
theorem info_i32 : (Try.prog.info? 21).map (fun i => (i.zero, i.size, i.bytes)) = some (some (.int .i32 0), 1, 4) := by kernel_rfl
set_option maxHeartbeats 4000000 in
set_option maxRecDepth 100000 in
theorem mins_9 (h : MacAt E s c r w) (hR : RegAt E r gr regs w) (h0 : s.fin = 0) (hE : EnvOk E) (htl : s.trace.length + 1 ≤ s.steps) (a : Int) (ha : regB a regs.length false = true) (Ax : Option Addr) (cx : Nat) :
    Calls Try.prog 46 #[.pointer (some ⟨E.mb, 0, none⟩), .slice (some ⟨gr, 0, none⟩) regs.length regs.length, .agg #[.int .i64 9, .int .i64 0, .int .i64 (-1), .int .i64 a, .int .i64 (-1), .int .i32 0, .string ⟨#[]⟩, .slice Ax 0 cx]] w (InsPost E s ⟨9, 0, -1, a, -1, 0, ⟨#[]⟩, []⟩ gr regs c r w) := by
  obtain ⟨ka, rfl, hka⟩ := regB_k ha
  obtain ⟨w1, hw1, hb1, hlt1, hc⟩ := box_new w #[.int .i64 9, .int .i64 0, .int .i64 (-1), .int .i64 ka, .int .i64 (-1), .int .i32 0, .string ⟨#[]⟩, .slice Ax 0 cx] 54
  obtain ⟨ra, qa⟩ := wsCell (hR.below hb1).words ka hka
  obtain ⟨va, ea⟩ : ∃ v, v = regs.getD ka 0 := ⟨_, rfl⟩
  rw [← ea] at ra
  have ba : I32 va := by rw [ea]; have := getR_i32 hR.bd (ka : Int); unfold getR at this; simpa using this
  have EVa := Lib.hid ea
  have BVa := Lib.hid ba
  clear ea ba
  have HM := Lib.hid (h.below hb1)
  have HR := Lib.hid (hR.below hb1)
  have HB := Lib.hid hb1
  have H0 := Lib.hid h0
  have HW := Lib.hid hw1
  have x0 := hc 0
  have x3 := hc 3
  simp only [List.getElem?_toArray, List.getElem?_cons_succ, List.getElem?_cons_zero] at x0 x3
  obtain ⟨bx, hbx⟩ : ∃ bx, bx = w.heap.size := ⟨_, rfl⟩
  rw [← hbx] at x0 x3
  have HBX := Lib.hid hbx
  have hrl : regs.length ≤ maxLen := by
    obtain ⟨_, _, _, _, _, h1, h2, _⟩ := RowAt.form hR.words (by omega)
    exact Nat.le_trans h1 h2
  unfold maxLen at hrl
  have hgk : bx ≠ gr := by rw [hbx]; have := hR.lt; omega
  obtain ⟨vT, hob, htr⟩ := (h.below hb1).obj
  obtain ⟨At, ct, rfl, hnm⟩ := htr.shape
  have m8 := cell_of_row w1 E.mb 8 _ _ _ hob
  simp only [List.getElem?_toArray, List.getElem?_cons_succ, List.getElem?_cons_zero] at m8
  obtain ⟨nt, hnt⟩ : ∃ nt, nt = s.trace.length := ⟨_, rfl⟩
  rw [← hnt] at m8 htr
  have hntl : nt ≤ 100000 := by have := h.sl; have := h.tl; omega
  have hbr : ∀ k, r = some k → k ≠ w.heap.size := fun k hk e => by
    rcases h.obj with ⟨_, _, ht⟩
    have := ht.lt k hk; omega
  obtain ⟨_, _, m2, _, _, _, m6, _, m10, mf⟩ := (h.below hb1).cells
  obtain ⟨mb, hmb⟩ : ∃ mb, mb = E.mb := ⟨_, rfl⟩
  rw [← hmb] at m8 m2 m6 m10 mf ⊢
  have HMB := Lib.hid hmb
  have hbm : bx ≠ mb := by rw [hbx, hmb]; have := h.blt; omega
  have HE := Lib.hid hE
  have HOB := Lib.hid hob
  have HNT := Lib.hid hnt
  clear hmb hE
  have HTR := Lib.hid htr
  have HTL := Lib.hid htl
  have HBR := Lib.hid hbr
  clear hbr
  clear m2 m10 m6 htr hob hnt htl hnm
  clear ha h hR hb1 hlt1 hc hw1 h0 hbx
  go_enter Try.func46, Try.ntmps46
  go_upto_region 1 with (fail)
  rw [← HW.out, ← HBX.out]
  go_upto_region 38 with (fail)
  obtain ⟨wd, hwd⟩ : ∃ wd, wd = w1.drew := ⟨_, rfl⟩
  have hbd : Below w1.heap.size w1 wd := by rw [hwd]; exact dr
  have HWD := Lib.hid hwd
  have hsel : Sel3 mb bx gr ka (.slice At nt ct) va wd := by rw [hwd]; exact ⟨m8, x3, ra⟩
  have HMd := Lib.hid (HM.out.below hbd)
  have HRd := Lib.hid (HR.out.below hbd)
  have HBd : Hid (Below w.heap.size w wd) := Lib.hid (HB.out.trans (hbd.mono HB.out.size))
  have HTRd : Hid (RowAt wd 21 1 (.slice At nt ct) r nt (i32s s.trace)) := Lib.hid (HTR.out.kept (S := fun _ => False) (Chg.of_below hbd _) fun _ _ h => h)
  have HOBd := Lib.hid ((hbd.block E.mb (lt_of_heap HOB.out)).trans HOB.out)
  clear hwd hbd
  refine wp_region_T (Sel3 mb bx gr ka (.slice At nt ct) va) [16] (by kernel_rfl) (by rw [← HWD.out]; exact hsel) (fun _ => ?_)
  rw [← HWD.out]
  refine wpAnyT_take (i := 0) (v := ?vp1) rfl (by kernel_rfl) (by kernel_rfl) (by kernel_rfl) rfl (fun _ _ _ h => h) (Or.inl ⟨by rfl, ?hyp1⟩) (DL.of hsel) ?restp1
  case hyp1 => (intro w hSw; go_simp; try rfl)
  try simp only [Act.put, List.setIfInBounds_toArray, List.set_cons_zero, List.set_cons_succ, List.getElem_toArray, List.getElem_cons_zero]
  refine wpAnyT_take (i := 1) (v := ?vp2) rfl (by kernel_rfl) (by kernel_rfl) (by kernel_rfl) rfl (fun _ _ _ h => h) (Or.inl ⟨by rfl, ?hyp2⟩) (DL.of hsel) ?restp2
  case hyp2 => (intro w hSw; go_simp; try rfl)
  try simp only [Act.put, List.setIfInBounds_toArray, List.set_cons_zero, List.set_cons_succ, List.getElem_toArray, List.getElem_cons_zero, List.getElem_cons_succ]
  refine wpAnyT_take (i := 2) (v := ?vp3) rfl (by kernel_rfl) (by kernel_rfl) (by kernel_rfl) rfl (fun _ _ _ h => h) (Or.inl ⟨by rfl, ?hyp3⟩) (DL.of hsel) ?restp3
  case hyp3 => (intro w hSw; go_simp; try rfl)
  try simp only [Act.put, List.setIfInBounds_toArray, List.set_cons_zero, List.set_cons_succ, List.getElem_toArray, List.getElem_cons_zero, List.getElem_cons_succ]
  refine wpAnyT_take (i := 3) (v := ?vp4) rfl (by kernel_rfl) (by kernel_rfl) (by kernel_rfl) rfl (fun _ _ _ h => h) (Or.inl ⟨by rfl, ?hyp4⟩) (DL.of hsel) ?restp4
  case hyp4 => (intro w hSw; go_simp; try rfl)
  try simp only [Act.put, List.setIfInBounds_toArray, List.set_cons_zero, List.set_cons_succ, List.getElem_toArray, List.getElem_cons_zero, List.getElem_cons_succ]
  refine wpAnyT_take (i := 4) (v := ?vp5) rfl (by kernel_rfl) (by kernel_rfl) (by kernel_rfl) rfl (fun _ _ _ h => h) (Or.inl ⟨by rfl, ?hyp5⟩) (DL.of hsel) ?restp5
  case hyp5 => (intro w hSw; go_simp; try rfl)
  try simp only [Act.put, List.setIfInBounds_toArray, List.set_cons_zero, List.set_cons_succ, List.getElem_toArray, List.getElem_cons_zero, List.getElem_cons_succ]
  refine wpAnyT_load (i := 5) (v := ?vp6) rfl (by kernel_rfl) (by kernel_rfl) (by kernel_rfl) rfl (by kernel_rfl) (by kernel_rfl) (fun _ _ _ h => h) (Or.inl ⟨by rfl, ?hyp6⟩) (DL.of hsel) ?restp6
  case hyp6 => (intro w hSw; obtain ⟨s1, s2, s3⟩ := hSw rfl; go_simp; try rfl)
  try simp only [Act.put, List.setIfInBounds_toArray, List.set_cons_zero, List.set_cons_succ, List.getElem_toArray, List.getElem_cons_zero, List.getElem_cons_succ]
  refine wpAnyT_take (i := 6) (v := ?vp7) rfl (by kernel_rfl) (by kernel_rfl) (by kernel_rfl) rfl (fun _ _ _ h => h) (Or.inl ⟨by rfl, ?hyp7⟩) (DL.of hsel) ?restp7
  case hyp7 => (intro w hSw; go_simp; try rfl)
  try simp only [Act.put, List.setIfInBounds_toArray, List.set_cons_zero, List.set_cons_succ, List.getElem_toArray, List.getElem_cons_zero, List.getElem_cons_succ]
  refine wpAnyT_take (i := 7) (v := ?vp8) rfl (by kernel_rfl) (by kernel_rfl) (by kernel_rfl) rfl (fun _ _ _ h => h) (Or.inl ⟨by rfl, ?hyp8⟩) (DL.of hsel) ?restp8
  case hyp8 => (intro w hSw; go_simp; try rfl)
  try simp only [Act.put, List.setIfInBounds_toArray, List.set_cons_zero, List.set_cons_succ, List.getElem_toArray, List.getElem_cons_zero, List.getElem_cons_succ]
  refine wpAnyT_load (i := 8) (v := ?vp9) rfl (by kernel_rfl) (by kernel_rfl) (by kernel_rfl) rfl (by kernel_rfl) (by kernel_rfl) (fun _ _ _ h => h) (Or.inl ⟨by rfl, ?hyp9⟩) (DL.of hsel) ?restp9
  case hyp9 => (intro w hSw; obtain ⟨s1, s2, s3⟩ := hSw rfl; go_simp; try rfl)
  try simp only [Act.put, List.setIfInBounds_toArray, List.set_cons_zero, List.set_cons_succ, List.getElem_toArray, List.getElem_cons_zero, List.getElem_cons_succ]
  refine wpAnyT_take (i := 9) (v := ?vp10) rfl (by kernel_rfl) (by kernel_rfl) (by kernel_rfl) rfl (fun _ _ _ h => h) (Or.inl ⟨by rfl, ?hyp10⟩) (DL.of hsel) ?restp10
  case hyp10 => (intro w hSw; go_simp; try rfl)
  try simp only [Act.put, List.setIfInBounds_toArray, List.set_cons_zero, List.set_cons_succ, List.getElem_toArray, List.getElem_cons_zero, List.getElem_cons_succ]
  refine wpAnyT_load (i := 10) (v := ?vp11) rfl (by kernel_rfl) (by kernel_rfl) (by kernel_rfl) rfl (by kernel_rfl) (by kernel_rfl) (fun _ _ _ h => h) (Or.inl ⟨by rfl, ?hyp11⟩) (DL.of hsel) ?restp11
  case hyp11 => (intro w hSw; obtain ⟨s1, s2, s3⟩ := hSw rfl; go_simp; try rfl)
  try simp only [Act.put, List.setIfInBounds_toArray, List.set_cons_zero, List.set_cons_succ, List.getElem_toArray, List.getElem_cons_zero, List.getElem_cons_succ]
  refine wpAnyT_ready (rs := [11]) (by kernel_rfl) (by simp) ?_
  refine AllReadyT.cons rfl (fun K hK => ?_) AllReadyT.nil
  try simp only [Act.put, List.setIfInBounds_toArray, List.set_cons_zero, List.set_cons_succ, List.getElem_toArray, List.getElem_cons_zero, List.getElem_cons_succ]
  go_simp
  obtain ⟨W2, hW2⟩ : ∃ W2, W2 = wd.alloc (.cells #[.int .i32 va] 21) := ⟨_, rfl⟩
  obtain ⟨q2, hq2⟩ : ∃ q2, q2 = wd.heap.size := ⟨_, rfl⟩
  have hb2 : Below wd.heap.size wd W2 := by rw [hW2]; exact (Below.refl _ wd).alloc (Nat.le_refl _) _
  have hsel2 : Sel3 mb bx gr ka (.slice At nt ct) va W2 := hsel.below hb2
  have hn2 : W2.cell? ⟨q2, 0, none⟩ = some (.int .i32 va) := by rw [hW2, hq2]; exact cell_of_row _ _ _ _ _ _ (heap_alloc_new wd _)
  have HTR2 : Hid (RowAt W2 21 1 (.slice At nt ct) r nt (i32s s.trace)) := Lib.hid (HTRd.out.kept (S := fun _ => False) (Chg.of_below hb2 _) fun _ _ h => h)
  have HOB2 := Lib.hid ((hb2.block E.mb (lt_of_heap HOBd.out)).trans HOBd.out)
  have H2 : Hid (Chg (fun k => some k = r) wd W2) := Lib.hid (Chg.of_below hb2 _)
  have HN2 := Lib.hid hn2
  have HB2 := Lib.hid hb2
  try rw [← hW2, ← hq2]
  clear hb2 hn2 hW2 hq2
  refine hK.out _ _ (DL.of hsel2) (fun _ => ?_)
  clear hK K
  try simp only [Act.put, List.setIfInBounds_toArray, List.set_cons_zero, List.set_cons_succ, List.getElem_toArray, List.getElem_cons_zero, List.getElem_cons_succ]
  refine wpAnyT_ready (rs := [12]) (by kernel_rfl) (by simp) ?_
  refine AllReadyT.cons rfl (fun K hK => ?_) AllReadyT.nil
  refine step_append_row _ (by rfl) _ _ 36 21 _ 1 4 (by rfl) Try.underlying36 info_i32 rfl HTR2.out ⟨q2, 0, none⟩ 1 1 [.int .i32 va] rfl (fun j u hu => one_cell HN2.out j u hu) (by intro u hu; rw [List.mem_singleton.1 hu]; rfl) (by rfl) (by rfl) (by omega) (by unfold maxLen; omega) (by omega) ?_
  intro v' r' W3 hR3 hC3 hN3
  obtain ⟨A3, c3, rfl, _⟩ := hR3.shape
  have ho3 := hC3.heap HOB2.out (fun e => (HM.out.tr _ e.symm).2.1 rfl)
  have y8 := cell_of_row W3 E.mb 8 _ _ _ ho3
  have y8f := frozen_of_row W3 E.mb 8 _ _ ho3
  simp only [List.getElem?_toArray, List.getElem?_cons_succ, List.getElem?_cons_zero] at y8
  rw [← HMB.out] at y8 y8f
  have HO3 := Lib.hid ho3
  have HR3 := Lib.hid hR3
  have HC3 := Lib.hid hC3
  have HN3 := Lib.hid hN3
  have hsel3 : Sel3 mb bx gr ka (.slice At nt ct) va W3 := ⟨by rw [y8]; rw [HNT.out], hC3.cell (p := ⟨bx, 3, none⟩) hsel2.e2 fun e => by
    exact HBR.out _ e.symm HBX.out, hC3.cell (p := ⟨gr, ka, none⟩) hsel2.e3 fun e => HR.out.foot (.inr (.inr e))⟩
  clear ho3 hR3 hC3 hN3
  refine hK.out _ _ (DL.of hsel3) (fun _ => ?_)
  clear hK K
  try simp only [Act.put, List.setIfInBounds_toArray, List.set_cons_zero, List.set_cons_succ, List.getElem_toArray, List.getElem_cons_zero, List.getElem_cons_succ]
  refine wpAnyT_take (i := 13) (v := ?vp12) rfl (by kernel_rfl) (by kernel_rfl) (by kernel_rfl) rfl (fun _ _ _ h => h) (Or.inl ⟨by rfl, ?hyp12⟩) (DL.of hsel3) ?restp12
  case hyp12 => (intro w hSw; go_simp; try rfl)
  try simp only [Act.put, List.setIfInBounds_toArray, List.set_cons_zero, List.set_cons_succ, List.getElem_toArray, List.getElem_cons_zero, List.getElem_cons_succ]
  refine wpAnyT_take (i := 14) (v := ?vp13) rfl (by kernel_rfl) (by kernel_rfl) (by kernel_rfl) rfl (fun _ _ _ h => h) (Or.inl ⟨by rfl, ?hyp13⟩) (DL.of hsel3) ?restp13
  case hyp13 => (intro w hSw; go_simp; try rfl)
  try simp only [Act.put, List.setIfInBounds_toArray, List.set_cons_zero, List.set_cons_succ, List.getElem_toArray, List.getElem_cons_zero, List.getElem_cons_succ]
  refine wpAnyT_take (i := 15) (v := ?vp14) rfl (by kernel_rfl) (by kernel_rfl) (by kernel_rfl) rfl (fun _ _ _ h => h) (Or.inl ⟨by rfl, ?hyp14⟩) (DL.of hsel3) ?restp14
  case hyp14 => (intro w hSw; go_simp; try rfl)
  try simp only [Act.put, List.setIfInBounds_toArray, List.set_cons_zero, List.set_cons_succ, List.getElem_toArray, List.getElem_cons_zero, List.getElem_cons_succ]
  refine wpAnyT_ready (rs := [16]) (by kernel_rfl) (by simp) ?_
  refine AllReadyT.cons rfl (fun K hK => ?_) AllReadyT.nil
  try simp only [Act.put, List.getElem_toArray, List.getElem_cons_zero, List.getElem_cons_succ]
  go_simp
  refine hK.out _ _ (DL.late (by kernel_rfl)) (fun _ => ?_)
  clear hK K
  try simp only [Act.put, List.setIfInBounds_toArray, List.set_cons_zero, List.set_cons_succ, List.getElem_toArray, List.getElem_cons_zero, List.getElem_cons_succ]
  refine wpAnyT_done (by kernel_rfl) ?_ _
  go_wp2_with fail
  go_end0
  have hcc := H2.out.trans HC3.out fun _ _ e => e
  have hnn := HN3.out.mono HB2.out.size
  have hmac := HMd.out.traced HE.out hcc HO3.out (by rw [← HNT.out]; exact HR3.out) hnn BVa.out HTL.out
  have hrr : r' ≠ some gr := fun e => by
    rcases hnn with e2 | ⟨j, hj, hjl⟩
    · rw [e2] at e; exact HR.out.foot (.inr (.inr e.symm))
    · rw [hj] at e; cases e; have := HRd.out.lt; omega
  have hreg := (HRd.out.kept hcc fun e => HR.out.foot (.inr (.inr e))).kept (Chg.store W3 E.mb 8 (.slice A3 (nt + 1) c3)) fun e => HR.out.foot (.inl e)
  refine ⟨{ s with trace := s.trace ++ [va] }, r', regs, c, rfl, ?_, by rw [HMB.out]; exact hmac, ?_, rfl, ?_, .inl ⟨H0.out, rfl, fun fr K e hl => ?_⟩⟩
  · rw [HMB.out]
    exact (((Chg.of_below HBd.out _).trans hcc fun _ _ e => .inl (.inr (.inr e)))).setCell ⟨E.mb, 8, none⟩ (fun _ => .inl (.inl rfl)) _
  · rw [HMB.out]
    exact ⟨hreg.words, hreg.bd, hreg.base, fun hf => by
      rcases hf with e | e | e
      · exact hreg.foot (.inl e)
      · exact hreg.foot (.inr (.inl e))
      · exact hrr e.symm, hreg.row⟩
  · exact hnn.mono HBd.out.size
  · have ee : exS E.m E.inp ⟨9, 0, -1, ka, -1, 0, ⟨#[]⟩, []⟩ s fr K = ({ s with trace := s.trace ++ [va] }, { fr with regs := regs } :: K) := by
      simp only [exS, e]
      rw [EVa.out]
      simp [getR, ← e]
    rw [ee]
    exact Reach.refl _
end
end Go.Proofs.Ytnfneinonkpmeaa
