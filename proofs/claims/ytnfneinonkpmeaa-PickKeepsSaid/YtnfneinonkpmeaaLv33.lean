/- brazierref15.Machine: call. Written by genvcall.py. -/
import Derived.OwnWalk
import Derived.Test.YtnfneinonkpmeaaLv32
namespace Go.Proofs.Ytnfneinonkpmeaa
open Go.RowKit
structure SelV (mb g off kf : Nat) (v0 v1 : Value) (f : VFn) (vB : Value) (W : World) : Prop where
  e0 : W.cell? ⟨mb, 0, none⟩ = some v0
  e1 : W.cell? ⟨mb, 1, none⟩ = some v1
  e2 : W.cell? ⟨g, off + kf * 4, none⟩ = some (.string f.name)
  e3 : W.cell? ⟨g, off + kf * 4 + 1, none⟩ = some (.int .i64 f.params)
  e4 : W.cell? ⟨g, off + kf * 4 + 2, none⟩ = some (.int .i64 f.regs)
  e5 : W.cell? ⟨g, off + kf * 4 + 3, none⟩ = some vB
theorem SelV.below {mb g off kf : Nat} {v0 v1 : Value} {f : VFn} {vB : Value} {W W' : World} (h : SelV mb g off kf v0 v1 f vB W) (hb : Below W.heap.size W W') : SelV mb g off kf v0 v1 f vB W' :=
  ⟨cellB7 hb h.e0, cellB7 hb h.e1, cellB7 hb h.e2, cellB7 hb h.e3, cellB7 hb h.e4, cellB7 hb h.e5⟩
structure BoxV (E : EnvV) (r : Option Nat) (gr qb : Nat) (o : Obj) (W : World) : Prop where
  heap : W.heap[qb]? = some o
  nf : ¬ FootV E r qb
  ng : qb ≠ gr
section
variable {E : EnvV} {s : MS} {c : Nat} {r : Option Nat} {w w' : World} {gr : Nat} {regs : List Int}
theorem BoxV.mach {qb : Nat} {o : Obj} {W W' : World} (h : BoxV E r gr qb o W) (hc : Chg (fun k => k = E.mb) W W') : BoxV E r gr qb o W' := ⟨hc.heap h.heap fun e => h.nf (.inl e), h.nf, h.ng⟩
theorem BoxV.below {qb : Nat} {o : Obj} {W W' : World} (h : BoxV E r gr qb o W) (hb : Below W.heap.size W W') : BoxV E r gr qb o W' := ⟨(hb.block qb (lt_of_heap h.heap)).trans h.heap, h.nf, h.ng⟩
theorem BoxV.insm {qb : Nat} {o : Obj} {r' : Option Nat} {W W' : World} (h : BoxV E r gr qb o W) (hc : Chg (FootV E r) W W') (hn : NewOr W r r') : BoxV E r' gr qb o W' :=
  ⟨hc.heap h.heap h.nf, fun hf => h.nf (footv_old hn (lt_of_heap h.heap) hf), h.ng⟩
/-- What stands behind the fuel's step. -/
structure StepV (E : EnvV) (w : World) (c : Nat) (r0 : Option Nat) (s0 : MS) (f : VFn) (vals : List Int) (q : Nat) (vB : Value) (gr nr k : Nat) (s1 : MS) (r : Option Nat) (regs : List Int) (x : Vins) (qx : Nat) (o : Obj) (W : World) : Prop where
  st : CallSV E w c r0 f q vB s1.step r gr regs W
  len : regs.length = nr
  box : BoxV E r gr qx o W
  vx : VX E.m f.regs f.code k x
  xa : RdT W (fun k => k < E.base) none []
  fin : s1.fin = 0
  fu : ¬ E.fuel ≤ (s1.steps : Int)
  reach : ∀ K dst, K.length = c → ReachVE E (s0, vEntry f vals dst :: K) (vOp E.m E.inp x s1.step ⟨f, k + 1, regs, dst⟩ K)
set_option maxHeartbeats 16000000 in
set_option maxRecDepth 100000 in
theorem callv_step (hE : EnvVOk E) (hP : VPX E.m) (hc : c < 32) (hC : c + 1 < 32 → CallCV E (c + 1)) : CallCV E c := by
  intro s r w name f vals Aa ca hin
  obtain ⟨hm, h0, ⟨kf, hkf, hfn, hfe⟩, hpar, hvb, hrd, hap⟩ := hin
  obtain ⟨_, _, _, _, _, m5, _, _, _, mf⟩ := hm.cells
  have hq : ((c : Int) == 32) = false := beq_eq_false_iff_ne.2 (by omega)
  have hV := hP.fns f (by rw [hfe]; exact List.getElem_mem _)
  have HE := Lib.hid hE
  have HC := Lib.hid hC
  have HM := Lib.hid hm
  have H0 := Lib.hid h0
  have HV := Lib.hid hV
  have HRD := Lib.hid hrd
  have HAP := Lib.hid hap
  have HVB := Lib.hid hvb
  have hvl : vals.length ≤ 8 := by have := hV.params.2; omega
  have HF := Lib.hid (And.intro hfn hfe)
  obtain ⟨nr, hnr⟩ : ∃ nr : Nat, f.regs = (nr : Int) := ⟨f.regs.toNat, by have := hV.regs.1; have := hV.params.1; omega⟩
  have hnr1 : nr ≤ 4096 := by have := hV.regs.2; omega
  have hvn : vals.length ≤ nr := by have := hV.regs.1; omega
  have HNR := Lib.hid hnr
  clear hE hC hm h0 hfn hrd hap hvb hpar hV hnr hP
  go_enter Try.func30, Try.ntmps30
  go_upto_region 5 with (fail)
  obtain ⟨W1, hW1⟩ : ∃ W1, W1 = w.setCell ⟨E.mb, 5, none⟩ (.int .i64 ((c : Int) + 1)) := ⟨_, rfl⟩
  rw [← hW1]
  have hm1 : MacV E s (c + 1) r W1 := by
    rw [hW1]
    exact HM.out.own HE.out 5 _ s (c + 1) rfl rfl ⟨Nat.le_refl _, HM.out.sl⟩ HM.out.rl (by omega) fun vT => by simp
  have hc1 : Chg (FootV E r) w W1 := by rw [hW1]; exact (Chg.refl _ w).setCell ⟨E.mb, 5, none⟩ (fun _ => .inl rfl) _
  have HM1 := Lib.hid hm1
  have HC1 := Lib.hid hc1
  clear hW1 m5 mf hq hc1
  obtain ⟨m0, m1, _⟩ := hm1.cells
  obtain ⟨g, off, A1, c1, hB, hg, hcl, hcode, g0, g1, g2, g3⟩ := vfn_at hm1.mid.fns kf hkf f hfe
  have HCODE := Lib.hid hcode
  have HCL := Lib.hid hcl
  have HG := Lib.hid hg
  rw [hB] at m1
  have HBB := Lib.hid hB
  clear hm1 hcode hcl hB hg hfe
  have HFA : Hid (∀ W, Below W1.heap.size W1 W → Calls Try.prog 27 #[.agg #[.slice E.A E.m.globals.length E.c, .slice (some ⟨g, off, none⟩) E.m.fns.length E.d], .string name] W fun e w' => e = .returned (.int .i64 (kf : Nat)) ∧ Below W.heap.size W w') := Lib.hid fun W hb => by
    have h1 := vFnAt_any E.m E.A E.B E.c E.d name W (HM1.out.below hb).mid
    rw [HF.out.1, HBB.out] at h1
    exact h1
  have hnf : E.m.fns.length ≤ maxLen := HM1.out.mid.nfns
  unfold maxLen at hnf
  have HSX : Hid (∀ W, Below W1.heap.size W1 W → SelV E.mb g off kf (.slice E.A E.m.globals.length E.c) (.slice (some ⟨g, off, none⟩) E.m.fns.length E.d) f (.slice A1 f.code.length c1) W) := Lib.hid fun W hb => SelV.below ⟨m0, m1, g0, g1, g2, g3⟩ hb
  have ST : Hid (Below W1.heap.size W1 W1.drew) := Lib.hid dr
  have hne1 : E.mb ≠ W1.heap.size := by have := HM1.out.blt; omega
  have hne2 : g ≠ W1.heap.size := by have := HG.out; omega
  have ST2 : Hid (Below W1.heap.size W1 (W1.alloc (.cells #[.string ⟨#[]⟩, .int .i64 0, .int .i64 0, .slice none 0 0] 34)).drew) := Lib.hid (((Below.refl _ W1).alloc (Nat.le_refl _) _).trans (dr.mono (by simp)))
  go_cut [7] (fun vq wx => ∃ q, vq = .pointer (some ⟨q, 0, none⟩) ∧ wx.heap[q]? = some (.cells #[.string f.name, .int .i64 f.params, .int .i64 f.regs, .slice A1 f.code.length c1] 34 (0, 0)) ∧ Below W1.heap.size W1 wx ∧ W1.heap.size ≤ q)
  case first =>
    go_region_held3 (fun Y => Y.cell? ⟨E.mb, 0, none⟩ = some (.slice E.A E.m.globals.length E.c) ∧ Y.cell? ⟨E.mb, 1, none⟩ = some (.slice (some ⟨g, off, none⟩) E.m.fns.length E.d) ∧ Y.cell? ⟨g, off + kf * 4, none⟩ = some (.string f.name) ∧ Y.cell? ⟨g, off + kf * 4 + 1, none⟩ = some (.int .i64 f.params) ∧ Y.cell? ⟨g, off + kf * 4 + 2, none⟩ = some (.int .i64 f.regs) ∧ Y.cell? ⟨g, off + kf * 4 + 3, none⟩ = some (.slice A1 f.code.length c1)) (first | with_reducible exact ⟨m0, m1, g0, g1, g2, g3⟩ | with_reducible exact ⟨set4 hne1 m0, set4 hne1 m1, set4 hne2 g0, set4 hne2 g1, set4 hne2 g2, set4 hne2 g3⟩ | go_keep)
      (first
      | (go_at_call 27; (with_reducible refine (HFA.out _ ST.out).mono ?_); rintro e wv ⟨rfl, hBv⟩; have ST := Lib.hid (ST.out.trans (hBv.mono ST.out.size)); clear hBv; obtain ⟨m0, m1, g0, g1, g2, g3⟩ := HSX.out _ ST.out)
      | (go_at_call 27; (with_reducible refine (HFA.out _ ST2.out).mono ?_); rintro e wv ⟨rfl, hBv⟩; have HZ := Lib.hid ((hBv.block W1.heap.size (by simp)).trans (heap_alloc_new W1 _)); have hz0 := cell_of_row wv W1.heap.size 0 _ _ _ HZ.out; have hz1 := cell_of_row wv W1.heap.size 1 _ _ _ HZ.out; have hz2 := cell_of_row wv W1.heap.size 2 _ _ _ HZ.out; have hz3 := cell_of_row wv W1.heap.size 3 _ _ _ HZ.out; have hzf := fun j => frozen_of_row wv W1.heap.size j _ _ HZ.out; simp only [List.getElem?_toArray, List.getElem?_cons_succ, List.getElem?_cons_zero] at hz0 hz1 hz2 hz3; have ST := Lib.hid (ST2.out.trans (hBv.mono ST2.out.size)); clear hBv; obtain ⟨m0, m1, g0, g1, g2, g3⟩ := HSX.out _ ST.out)
      | (fail "no arm"))
    all_goals first
      | (obtain ⟨W2, hW2⟩ : ∃ W2, W2 = (((wv.setCell ⟨W1.heap.size, 0, none⟩ (.string f.name)).setCell ⟨W1.heap.size, 1, none⟩ (.int .i64 f.params)).setCell ⟨W1.heap.size, 2, none⟩ (.int .i64 f.regs)).setCell ⟨W1.heap.size, 3, none⟩ (.slice A1 f.code.length c1) := ⟨_, rfl⟩
         obtain ⟨q, hqe⟩ : ∃ q, q = W1.heap.size := ⟨_, rfl⟩
         rw [← hW2, ← hqe]
         have hbox : W2.heap[q]? = some (.cells #[.string f.name, .int .i64 f.params, .int .i64 f.regs, .slice A1 f.code.length c1] 34 (0, 0)) := by rw [hW2, hqe]; exact set4_box HZ.out
         have hb2 : Below W1.heap.size W1 W2 := by rw [hW2]; exact ST.out.trans ((set4_chg wv W1.heap.size _ _ _ _).below ST.out.size fun k e => by omega)
         have hqo : W1.heap.size ≤ q := by omega
         clear hW2 hqe hz0 hz1 hz2 hz3 hzf)
      | (obtain ⟨W2, hW2⟩ : ∃ W2, W2 = wv.alloc (.cells #[.string f.name, .int .i64 f.params, .int .i64 f.regs, .slice A1 f.code.length c1] 34) := ⟨_, rfl⟩
         obtain ⟨q, hqe⟩ : ∃ q, q = wv.heap.size := ⟨_, rfl⟩
         rw [← hW2, ← hqe]
         have hbox : W2.heap[q]? = some (.cells #[.string f.name, .int .i64 f.params, .int .i64 f.regs, .slice A1 f.code.length c1] 34 (0, 0)) := by rw [hW2, hqe]; exact heap_alloc_new wv _
         have hb2 : Below W1.heap.size W1 W2 := by rw [hW2]; exact ST.out.alloc ST.out.size _
         have hqo : W1.heap.size ≤ q := by rw [hqe]; exact ST.out.size
         clear hW2 hqe)
    all_goals
      clear m0 m1 g0 g1 g2 g3 HFA HSX ST ST2 hne1 hne2 hnf
      go_wp2_with fail
      go_meet
      exact ⟨q, rfl, hbox, hb2, hqo⟩
  case rest =>
    obtain ⟨q, rfl, hbox, hb2, hqo⟩ := hcut
    obtain ⟨W2, hW2⟩ : ∃ W2, W2 = wc := ⟨_, rfl⟩
    rw [← hW2] at hbox hb2 ⊢
    clear hW2
    have hqs : w.heap.size ≤ W1.heap.size := HC1.out.size
    have HM2 := Lib.hid (HM1.out.below hb2)
    have HRD1 : Hid (ReadsAt W1 Aa (i32s vals)) := Lib.hid (HRD.out.kept HC1.out fun g off e _ => HAP.out g off e)
    have HBX := Lib.hid hbox
    have HB2 := Lib.hid hb2
    have HQ := Lib.hid (And.intro hqo hqs)
    have b2 : W2.cell? ⟨q, 2, none⟩ = some (.int .i64 f.regs) := cell_of_row _ _ _ _ _ _ hbox
    obtain ⟨ti, hti, hz0, hz1, hz2⟩ := info_parts info_w
    have HTI := Lib.hid (And.intro hti (And.intro hz0 (And.intro hz1 hz2)))
    clear hti hz0 hz1 hz2 hbox hb2 hqo hqs m0 m1 g0 g1 g2 g3 HFA HSX ST ST2 hne1 hne2 hnf
    go_wp2_with (at_make; refine wpList_make_full _ rfl _ _ 36 rfl 0 21 ti (.int .i32 0) 1 Try.underlying36 HTI.out.1 HTI.out.2.1 HTI.out.2.2.1 _ _ _ _ nr rfl rfl HNR.out HNR.out (by rw [HTI.out.2.2.2]; omega) (by unfold maxLen; omega) (Nat.zero_le _) ?_)
    intro W3 hown hgrow
    obtain ⟨gr, hgr⟩ : ∃ gr, gr = W2.heap.size := ⟨_, rfl⟩
    rw [← hgr] at hown ⊢
    have hw3 := words_made hown
    have hb3 : Below W2.heap.size W2 W3 := ⟨hgrow.os, hgrow.tape, hgrow.output, hgrow.size, fun k hk => hgrow.block k hk (by simp)⟩
    have hS : CallSV E W1 c r f q (.slice A1 f.code.length c1) s r gr (List.replicate nr 0) W3 :=
      ⟨Chg.of_below (HB2.out.trans (hb3.mono HB2.out.size)) _, NewOr.refl _ _, HM2.out.below hb3,
        ⟨hw3, fun z hz => by rw [(List.mem_replicate.1 hz).2]; unfold I32; simp, by have := HE.out.base; have := HM2.out.blt; omega, fun hf => by have := HM2.out.footlt hf; omega, fun hf => by have := HM2.out.rowlt _ hf; omega⟩,
        (hb3.block q (lt_of_heap HBX.out)).trans HBX.out, fun hf => by have := HM1.out.footlt hf; have := HQ.out.1; omega, by have := lt_of_heap HBX.out; omega, HQ.out.1, by have := HB2.out.size; omega⟩
    have HS := Lib.hid hS
    clear hown hgrow hgr hw3 hb3 hS b2
    go_upto_region 8 with (fail)
    go_loopw [50] (fun i wr => ∃ (k : Nat), k ≤ vals.length ∧ i = .int .i64 (k : Nat) ∧ CallSV E W1 c r f q (.slice A1 f.code.length c1) s r gr (vals.take k ++ List.replicate (nr - k) 0) wr) (fun i _ => vals.length - (intOf i).toNat)
    case atStart => exact ⟨0, by omega, rfl, by simpa using HS.out⟩
    case round =>
      clear HS
      obtain ⟨k, hk, rfl, hS⟩ := hrel
      have HS := Lib.hid hS
      clear hS
      by_cases hlt : k < vals.length
      · obtain ⟨ga, oa, hAa, hga, hcell⟩ := HRD1.out (by rw [i32s_len]; omega)
        have z1 := HS.out.chg.cell (p := ⟨ga, oa + k, none⟩) (hcell k (.int .i32 vals[k]) (by simp [i32s, hlt])) (HAP.out ga oa hAa)
        obtain ⟨v, hve⟩ : ∃ v, v = vals[k] := ⟨_, rfl⟩
        rw [← hve] at z1
        have hvi : I32 v := by rw [hve]; exact HVB.out _ (List.getElem_mem hlt)
        have hll : (vals.take k ++ List.replicate (nr - k) (0 : Int)).length = nr := by simp; omega
        obtain ⟨q1, q2⟩ := wsCell HS.out.reg.words k (by omega)
        obtain ⟨ov, hov⟩ : ∃ ov, ov = (vals.take k ++ List.replicate (nr - k) (0 : Int)).getD k 0 := ⟨_, rfl⟩
        rw [← hov] at q1
        have hset := fill_set vals nr k hlt hvn
        rw [← hve] at hset
        have hkn : k < nr := by omega
        have HVI := Lib.hid hvi
        have HLL := Lib.hid hll
        have HST := Lib.hid hset
        subst hAa
        clear hcell hve hvi hll hov hset hga
        go_wp2_with fail
        go_roundw
        case rel =>
          refine ⟨k + 1, by omega, by go_num, ?_⟩
          have h9 := HS.out.setr k (by rw [HLL.out]; exact hkn) v HVI.out
          rw [HST.out] at h9
          exact h9
        case measure => simp [intOf]; omega
      · obtain rfl : k = vals.length := by omega
        rw [List.take_length] at HS
        go_upto_region 12 with (fail)
        obtain ⟨W4, hW4⟩ : ∃ W4 : World, W4 = wr := ⟨_, rfl⟩
        rw [← hW4] at HS ⊢
        clear hW4
        have HEN : Hid (vEntry f vals = fun dst => ⟨f, 0, vals ++ List.replicate (nr - vals.length) 0, dst⟩) := Lib.hid (by
          funext dst
          unfold vEntry vRegs
          rw [HNR.out]; rfl)
        have hlen0 : (vals ++ List.replicate (nr - vals.length) (0 : Int)).length = nr := by simp; omega
        have HL0 := Lib.hid hlen0
        obtain ⟨nc, hnc⟩ : ∃ nc, nc = f.code.length := ⟨_, rfl⟩
        have hnc1 : nc ≤ 140737488 := by rw [hnc]; exact HV.out.len
        have HNC := Lib.hid hnc
        clear hlen0 hnc
        go_wp2_with fail
        go_loopw [11] (fun a wr => LoopV E W1 c r s f vals q (.slice A1 f.code.length c1) gr nr a wr) (fun a wr => measV E.mb E.fuel nc a wr)
        case atStart =>
          exact .inl ⟨0, s, r, _, rfl, ⟨HS.out, H0.out, HL0.out, HV.out.some, fun K dst hK => by rw [HEN.out]; exact ReachV.refl _⟩⟩
        case round =>
          clear HS HL0
          have hrel2 : LoopV E W1 c r s f vals q (.slice A1 f.code.length c1) gr nr _ wr := hrel
          rcases hrel2 with ⟨at_, s1, r1, regs1, rfl, hI⟩ | ⟨at_, rfl, hD⟩
          · have HI := Lib.hid hI
            have m6 : wr.cell? ⟨E.mb, 6, none⟩ = some (.int .i64 0) := by rw [← hI.fin]; exact hI.st.mac.cells.2.2.2.2.2.2.1
            have hat := hI.inl
            clear hI hrel
            have hTF : ∀ k, k < E.base → k < W1.heap.size → ¬ FootV E r k := fun k hk _ hf => by have := HM1.out.footbase HE.out hf; omega
            obtain ⟨x, hxe⟩ : ∃ x, x = f.code[at_] := ⟨_, rfl⟩
            have HXE : Hid (f.code.getD at_ noVins = x) := Lib.hid (by rw [hxe]; simp [List.getD, hat])
            have hvx : VX E.m f.regs f.code at_ x := by rw [hxe]; exact HV.out.code at_ hat
            obtain ⟨gc, oc, Ax, cx, hAc, hxr, hxc⟩ := vins_at2 HCODE.out hTF at_ hat x hxe
            obtain ⟨e0, e1, e2, e3, e4, e5, e6⟩ := hxc wr HI.out.st.chg
            have HRX : Hid (ReadsAt W1 Ax (ints x.args) ∧ RdT W1 (fun k => k < E.base) Ax (ints x.args)) := Lib.hid ⟨mem_of_rdT7 hxr, hxr⟩
            have HTF := Lib.hid hTF
            have HVX := Lib.hid hvx
            have HAT := Lib.hid hat
            have q3 : wr.cell? ⟨q, 3, none⟩ = some (.slice A1 f.code.length c1) := cell_of_row _ _ _ _ _ _ HI.out.st.box
            rw [← HNC.out] at q3
            have hat2 : at_ < nc := by rw [HNC.out]; exact hat
            obtain ⟨op, d, xa, xb, num, name2, args⟩ := x
            dsimp only at e0 e1 e2 e3 e4 e5 e6
            subst hAc
            clear hxe hxc hxr hTF hat hvx
            go_upto_region 15 with (fail)
            obtain ⟨W6, hW6⟩ : ∃ W6, W6 = wr.alloc (.cells #[.int .i64 op, .int .i64 d, .int .i64 xa, .int .i64 xb, .int .i32 num, .string name2, .slice Ax args.length cx] 61) := ⟨_, rfl⟩
            obtain ⟨qx, hqx⟩ : ∃ qx, qx = wr.heap.size := ⟨_, rfl⟩
            rw [← hW6, ← hqx]
            have hb6 : Below wr.heap.size wr W6 := by rw [hW6]; exact (Below.refl _ wr).alloc (Nat.le_refl _) _
            have hX6 : BoxV E r1 gr qx (.cells #[.int .i64 op, .int .i64 d, .int .i64 xa, .int .i64 xb, .int .i32 num, .string name2, .slice Ax args.length cx] 61 (0, 0)) W6 := ⟨by rw [hW6, hqx]; exact heap_alloc_new wr _, fun hf => by have := HI.out.st.mac.footlt hf; omega, by have := HI.out.st.reg.lt; omega⟩
            have HX6 := Lib.hid hX6
            have hI6 : MainV E W1 c r s f vals q (.slice (some ⟨gc, oc, none⟩) f.code.length c1) gr nr at_ s1 r1 regs1 W6 := ⟨HI.out.st.below hb6, HI.out.fin, HI.out.len, HI.out.inl, HI.out.reach⟩
            have HI6 := Lib.hid hI6
            have z0 : W6.cell? ⟨qx, 0, none⟩ = some (.int .i64 op) := cell_of_row W6 qx 0 _ _ _ hX6.heap
            clear hW6 hqx hb6 hX6 e0 e1 e2 e3 e4 e5 e6 q3 hI6 m6
            by_cases hlab : op = 50
            · subst hlab
              have hnx := HVX.out.next (show (50 : Int) ≠ 49 by decide) (show (50 : Int) ≠ 51 by decide)
              have HNX := Lib.hid hnx
              have hgo : ∀ K dst, K.length = c → ReachVE E (s, vEntry f vals dst :: K) (s1, ⟨f, at_ + 1, regs1, dst⟩ :: K) := fun K dst hK =>
                (HI6.out.reach K dst hK).trans ((ReachV.one _).trans (by
                  rw [stepV_label HI6.out.fin (by rw [vins_getD HXE.out])]
                  exact ReachV.refl _))
              have HGO := Lib.hid hgo
              clear hnx hgo
              go_wp2_with fail
              go_roundw
              case rel => exact .inl ⟨at_ + 1, s1, r1, regs1, by go_num, ⟨HI6.out.st, HI6.out.fin, HI6.out.len, HNX.out, HGO.out⟩⟩
              case measure =>
                have h1 := HI6.out.st.mac.meas nc (at_ + 1)
                have h2 := HI.out.st.mac.meas nc at_
                rw [if_pos HI6.out.fin] at h1 h2
                show measV E.mb E.fuel nc (.int .i64 _) _ < _
                have e7 : (at_ : Int) + 1 = ((at_ + 1 : Nat) : Int) := by omega
                first
                  | (rw [h2, e7, h1]; omega)
                  | (simp only [e7] at h1 h2 ⊢; rw [h2, h1]; omega)
            · have hl1 : (op == 50) = false := beq_eq_false_iff_ne.2 hlab
              have HLAB := Lib.hid hlab
              obtain ⟨_, _, _, _, m4, _, m6, m9, _, mf⟩ := HI6.out.st.mac.cells
              obtain ⟨fu, hfu0⟩ : ∃ fu, fu = E.fuel := ⟨_, rfl⟩
              obtain ⟨ns, hns⟩ : ∃ ns, ns = s1.steps := ⟨_, rfl⟩
              rw [← hfu0] at m4
              rw [← hns] at m9
              have hns1 : ns ≤ 100000 := by rw [hns]; exact HI6.out.st.mac.sl
              have HFU0 := Lib.hid hfu0
              have HNS := Lib.hid hns
              clear hfu0 hns hlab
              go_upto_region 17 with (fail)
              by_cases hfu : fu ≤ (ns : Int)
              · have HFU := Lib.hid hfu
                go_quiet (fail)
                obtain ⟨Wq, hWq⟩ : ∃ Wq, Wq = W6.drewN nq := ⟨_, rfl⟩
                rw [← hWq]
                have HMQ : Hid (CallSV E W1 c r f q (.slice (some ⟨gc, oc, none⟩) f.code.length c1) s1 r1 gr regs1 Wq) := Lib.hid (by rw [hWq]; exact HI6.out.st.below drN)
                obtain ⟨_, _, _, _, _, _, m6, _, _, mf⟩ := HMQ.out.mac.cells
                clear hWq z0 m4 m9
                go_wp2_with fail
                go_ret
                have h9 := HMQ.out.mach (HMQ.out.mac.own HE.out 6 _ (s1.ended 5) (c + 1) rfl rfl ⟨Nat.le_refl _, HMQ.out.mac.sl⟩ HMQ.out.mac.rl HMQ.out.mac.cl fun vT => by simp [MS.ended]) (Chg.store Wq E.mb 6 (.int .i64 5))
                refine CallPostV.after HC1.out (DoneV.post ⟨s1.ended 5, r1, c + 1, h9.chg, h9.mac, h9.nw, by simp [MS.ended], fun K dst hK => ⟨_, (HI6.out.reach K dst hK).trans ((ReachV.one _).trans (by
                  rw [stepV_open HI6.out.fin (by rw [vins_getD HXE.out]; exact HLAB.out) (by have := HFU.out; rw [← HNS.out, ← HFU0.out]; exact this)]
                  exact ReachV.refl _))⟩⟩)
              · have hfu2 : (ns : Int) < fu := by omega
                have HFU := Lib.hid hfu
                clear hfu
                go_quiet (fail)
                obtain ⟨Wq, hWq⟩ : ∃ Wq, Wq = W6.drewN nq := ⟨_, rfl⟩
                rw [← hWq]
                have HMQ : Hid (CallSV E W1 c r f q (.slice (some ⟨gc, oc, none⟩) f.code.length c1) s1 r1 gr regs1 Wq) := Lib.hid (by rw [hWq]; exact HI6.out.st.below drN)
                have HBQ : Hid (BoxV E r1 gr qx (.cells #[.int .i64 op, .int .i64 d, .int .i64 xa, .int .i64 xb, .int .i32 num, .string name2, .slice Ax args.length cx] 61 (0, 0)) Wq) := Lib.hid (by rw [hWq]; exact HX6.out.below drN)
                obtain ⟨_, _, _, _, _, _, m6, m9, _, mf⟩ := HMQ.out.mac.cells
                rw [← HNS.out] at m9
                clear hWq z0 m4
                go_upto_region 21 with (fail)
                obtain ⟨W7, hW7⟩ : ∃ W7, W7 = Wq.setCell ⟨E.mb, 9, none⟩ (.int .i64 ((ns : Int) + 1)) := ⟨_, rfl⟩
                rw [← hW7]
                have hS7 : CallSV E W1 c r f q (.slice (some ⟨gc, oc, none⟩) f.code.length c1) s1.step r1 gr regs1 W7 := by
                  rw [hW7]
                  refine HMQ.out.mach ?_ (Chg.store Wq E.mb 9 _)
                  rw [HNS.out]
                  refine HMQ.out.mac.own HE.out 9 _ s1.step (c + 1) rfl rfl ⟨by simp [MS.step], ?_⟩ HMQ.out.mac.rl HMQ.out.mac.cl fun vT => by simp [MS.step]
                  have h1 := HE.out.fuel.2; have h2 := HNS.out; have h3 := HFU0.out; simp only [MS.step]; omega
                have hX7 : BoxV E r1 gr qx (.cells #[.int .i64 op, .int .i64 d, .int .i64 xa, .int .i64 xb, .int .i32 num, .string name2, .slice Ax args.length cx] 61 (0, 0)) W7 := by rw [hW7]; exact HBQ.out.mach (Chg.store Wq E.mb 9 _)
                have HS7 := Lib.hid hS7
                have HX7 := Lib.hid hX7
                have hrch : ∀ K dst, K.length = c → ReachVE E (s, vEntry f vals dst :: K) (vOp E.m E.inp ⟨op, d, xa, xb, num, name2, args⟩ s1.step ⟨f, at_ + 1, regs1, dst⟩ K) := fun K dst hK =>
                  (HI6.out.reach K dst hK).trans ((ReachV.one _).trans (by
                    rw [stepV_go HI6.out.fin (by rw [vins_getD HXE.out]; exact HLAB.out) (by have := HFU.out; rw [← HNS.out, ← HFU0.out]; exact this)]
                    rw [vins_getD HXE.out]
                    exact ReachV.refl _))
                have HRC := Lib.hid hrch
                have HMS : Hid (∀ (s9 : MS) (k9 c9 : Nat) (r9 : Option Nat) (W9 : World), MacV E s9 c9 r9 W9 → s1.steps + 1 ≤ s9.steps → measV E.mb E.fuel nc (.int .i64 (k9 : Nat)) W9 < measV E.mb E.fuel nc (.int .i64 (at_ : Nat)) wr) := Lib.hid fun s9 k9 c9 r9 W9 hm9 hs9 => by
                  rw [hm9.meas, HI.out.st.mac.meas, if_pos HI.out.fin]
                  split
                  · exact meas_step (by have := HFU.out; rw [← HNS.out, ← HFU0.out]; exact this) hs9 _ _ _
                  · omega
                have hrl7 : regs1.length = nr := HI6.out.len
                have HRL7 := Lib.hid hrl7
                have z2 : W7.cell? ⟨qx, 2, none⟩ = some (.int .i64 xa) := cell_of_row W7 qx 2 _ _ _ hX7.heap
                have z3 : W7.cell? ⟨qx, 3, none⟩ = some (.int .i64 xb) := cell_of_row W7 qx 3 _ _ _ hX7.heap
                clear hW7 hS7 hX7 hrch m6 m9 mf hfu2 HMQ HBQ hrl7
                go_upto_if 101 with (fail)
                go_cut [13] (fun va wx => va = .int .i32 (rg regs1 xa) ∧ wx = W7)
                case first =>
                  have h1 := HVX.out.a
                  dsimp only at h1
                  rcases h1 with rfl | ⟨h1, h2⟩
                  · go_wp2_with fail
                    go_meet
                    exact ⟨rfl, rfl⟩
                  · obtain ⟨ka, rfl⟩ := Int.eq_ofNat_of_zero_le h1
                    have hka : ka < nr := by have := HNR.out; omega
                    obtain ⟨rv, _⟩ := wsCell HS7.out.reg.words ka (by rw [HRL7.out]; exact hka)
                    obtain ⟨va, hva⟩ : ∃ va, va = regs1.getD ka 0 := ⟨_, rfl⟩
                    rw [← hva] at rv
                    have HVA := Lib.hid hva
                    clear hva h1 h2
                    go_wp2_with fail
                    go_meet
                    refine ⟨?_, rfl⟩
                    rw [HVA.out]; unfold rg getR; rw [if_pos (by omega)]; rfl
                case rest =>
                obtain ⟨rfl, rfl⟩ := hcut
                obtain ⟨va, hva⟩ : ∃ va, va = rg regs1 xa := ⟨_, rfl⟩
                rw [← hva]
                have HVA := Lib.hid hva
                clear hva
                go_upto_if 109 with (fail)
                go_cut [14] (fun vb wx => vb = .int .i32 (rg regs1 xb) ∧ wx = wc)
                case first =>
                  have h1 := HVX.out.b
                  dsimp only at h1
                  rcases h1 with rfl | ⟨h1, h2⟩
                  · go_wp2_with fail
                    go_meet
                    exact ⟨rfl, rfl⟩
                  · obtain ⟨ka, rfl⟩ := Int.eq_ofNat_of_zero_le h1
                    have hka : ka < nr := by have := HNR.out; omega
                    obtain ⟨rv, _⟩ := wsCell HS7.out.reg.words ka (by rw [HRL7.out]; exact hka)
                    obtain ⟨vb, hvb⟩ : ∃ vb, vb = regs1.getD ka 0 := ⟨_, rfl⟩
                    rw [← hvb] at rv
                    have HVB2 := Lib.hid hvb
                    clear hvb h1 h2
                    go_wp2_with fail
                    go_meet
                    refine ⟨?_, rfl⟩
                    rw [HVB2.out]; unfold rg getR; rw [if_pos (by omega)]; rfl
                case rest =>
                obtain ⟨rfl, rfl⟩ := hcut
                obtain ⟨vb, hvb⟩ : ∃ vb, vb = rg regs1 xb := ⟨_, rfl⟩
                rw [← hvb]
                have HVB2 := Lib.hid hvb
                have HVA32 : Hid (I32 va) := Lib.hid (by rw [HVA.out]; exact rg_i32 HS7.out.reg.bd xa)
                have HVB32 : Hid (I32 vb) := Lib.hid (by rw [HVB2.out]; exact rg_i32 HS7.out.reg.bd xb)
                clear hvb z2 z3
                have z0 : wc.cell? ⟨qx, 0, none⟩ = some (.int .i64 op) := cell_of_row _ _ _ _ _ _ HX7.out.heap
                have z4 : wc.cell? ⟨qx, 4, none⟩ = some (.int .i32 num) := cell_of_row _ _ _ _ _ _ HX7.out.heap
                by_cases h49 : op = 49
                · subst h49
                  obtain ⟨_, _, _, _, _, m5, _, _, _, mf⟩ := HS7.out.mac.cells
                  clear z4
                  go_wp2_with fail
                  go_ret
                  refine CallPostV.after HC1.out ⟨va, s1.step, r1, c, rfl, HVA32.out, HS7.out.chg.setCell ⟨E.mb, 5, none⟩ (fun _ => .inl rfl) _, HS7.out.mac.own HE.out 5 _ s1.step c rfl rfl ⟨Nat.le_refl _, HS7.out.mac.sl⟩ HS7.out.mac.rl (by omega) (fun vT => by simp), HS7.out.nw, .inl ⟨HI6.out.fin, rfl, fun K dst hK => ?_⟩⟩
                  have h9 := HRC.out K dst hK
                  unfold vOp at h9
                  rw [if_pos rfl] at h9
                  rw [HVA.out]
                  exact h9
                by_cases h51 : op = 51
                · subst h51
                  have hj := HVX.out.jump (by dsimp only; omega)
                  obtain ⟨j, hj1, hj2⟩ := hj
                  have HPL : Hid (Calls Try.prog 43 #[.agg #[.string f.name, .int .i64 f.params, .int .i64 f.regs, .slice (some ⟨gc, oc, none⟩) f.code.length c1], .int .i32 num] wc fun e w' => e = .returned (.int .i64 (j : Nat)) ∧ Below wc.heap.size wc w') := Lib.hid (by
                    have h9 := vPlace_any f (some ⟨gc, oc, none⟩) c1 num wc (RdSl.kept HCODE.out HS7.out.chg HTF.out fun _ _ h => h.kept HS7.out.chg HTF.out) HCL.out
                    have e9 : placeI f.code num = j := by unfold placeI; dsimp only at hj2; rw [hj2]
                    rw [e9] at h9
                    exact h9)
                  have HJ : Hid (place f.code num = j) := Lib.hid (by unfold place; dsimp only at hj2; rw [hj2]; rfl)
                  have HJ1 := Lib.hid hj1
                  have b0 : wc.cell? ⟨q, 0, none⟩ = some (.string f.name) := cell_of_row _ _ _ _ _ _ HS7.out.box
                  have b1 : wc.cell? ⟨q, 1, none⟩ = some (.int .i64 f.params) := cell_of_row _ _ _ _ _ _ HS7.out.box
                  have b2 : wc.cell? ⟨q, 2, none⟩ = some (.int .i64 f.regs) := cell_of_row _ _ _ _ _ _ HS7.out.box
                  have b3 : wc.cell? ⟨q, 3, none⟩ = some (.slice (some ⟨gc, oc, none⟩) f.code.length c1) := cell_of_row _ _ _ _ _ _ HS7.out.box
                  clear hj1 hj2
                  go_wp2_with fail
                  refine HPL.out.mono ?_
                  rintro e W8 ⟨rfl, hb8⟩
                  have HS8 := Lib.hid (HS7.out.below hb8)
                  have hgo : ∀ K dst, K.length = c → ReachVE E (s, vEntry f vals dst :: K) (s1.step, ⟨f, j, regs1, dst⟩ :: K) := fun K dst hK => by
                    have h9 := HRC.out K dst hK
                    unfold vOp at h9
                    rw [if_neg (by dsimp only; omega), if_pos (.inl rfl)] at h9
                    dsimp only at h9
                    rw [HJ.out] at h9
                    exact h9
                  have HGO := Lib.hid hgo
                  clear hgo hb8 z0 z4 b0 b1 b2 b3
                  go_wp2_with fail
                  go_roundw
                  case rel => exact .inl ⟨j, s1.step, r1, regs1, rfl, ⟨HS8.out, HI6.out.fin, HI6.out.len, HJ1.out, HGO.out⟩⟩
                  case measure => exact HMS.out s1.step j (c + 1) r1 W8 HS8.out.mac (Nat.le_refl _)
                by_cases h52 : op = 52
                · subst h52
                  by_cases hv0 : va = 0
                  · have hv1 : (va != 0) = false := by simp [hv0]
                    have HV0 := Lib.hid hv0
                    clear hv0
                    have HIN : Hid (Calls Try.prog 47 #[.pointer (some ⟨E.mb, 0, none⟩), .agg #[.int .i64 52, .int .i64 d, .int .i64 xa, .int .i64 xb, .int .i32 num, .string name2, .slice Ax args.length cx], .int .i32 va, .int .i32 vb, .slice (some ⟨gr, 0, none⟩) nr nr] wc (VInsPost E s1.step ⟨52, d, xa, xb, num, name2, args⟩ va vb regs1 (c + 1) r1 wc)) := Lib.hid (by
                      have h9 := vins_any HE.out HC.out HS7.out.mac HS7.out.reg HI6.out.fin (by have := HI6.out.st.mac.tl; simp only [MS.step]; omega) (n := f.regs) (by rw [HNR.out, HRL7.out]) 52 d xa xb num name2 args HVX.out (by omega) va vb HVA32.out HVB32.out Ax cx (mem_of_rdT7 (HRX.out.2.kept HS7.out.chg HTF.out))
                      rw [HRL7.out] at h9
                      exact h9)
                    have HNX := Lib.hid (HVX.out.next (by dsimp only; omega) (by dsimp only; omega))
                    have z1 : wc.cell? ⟨qx, 1, none⟩ = some (.int .i64 d) := cell_of_row _ _ _ _ _ _ HX7.out.heap
                    have z2 : wc.cell? ⟨qx, 2, none⟩ = some (.int .i64 xa) := cell_of_row _ _ _ _ _ _ HX7.out.heap
                    have z3 : wc.cell? ⟨qx, 3, none⟩ = some (.int .i64 xb) := cell_of_row _ _ _ _ _ _ HX7.out.heap
                    have z5 : wc.cell? ⟨qx, 5, none⟩ = some (.string name2) := cell_of_row _ _ _ _ _ _ HX7.out.heap
                    have z6 : wc.cell? ⟨qx, 6, none⟩ = some (.slice Ax args.length cx) := cell_of_row _ _ _ _ _ _ HX7.out.heap
                    have HRC2 : Hid (∀ K dst, K.length = c → ReachVE E (s, vEntry f vals dst :: K) (vIns E.m E.inp ⟨52, d, xa, xb, num, name2, args⟩ va vb s1.step ⟨f, at_ + 1, regs1, dst⟩ K)) := Lib.hid fun K dst hK => by
                      have h9 := HRC.out K dst hK
                      unfold vOp at h9
                      rw [if_neg (by dsimp only; omega), if_neg (by dsimp only; rw [← HVA.out]; have := HV0.out; omega)] at h9
                      rw [HVA.out, HVB2.out]
                      exact h9
                    go_wp2_with fail
                    refine HIN.out.mono ?_
                    rintro e W8 ⟨v, s5, r5, c5, rfl, hv32, hch, hmac, hnew, hfin⟩
                    have HX8 := HX7.out.insm hch hnew
                    have y1 : W8.cell? ⟨qx, 1, none⟩ = some (.int .i64 d) := cell_of_row _ _ _ _ _ _ HX8.heap
                    clear z0 z1 z2 z3 z4 z5 z6 HIN HX8
                    rcases hfin with ⟨hf0, rfl, hreach⟩ | ⟨hf1, hreach⟩
                    · have HS8 := Lib.hid (HS7.out.insm hmac hch hnew)
                      have m6 : W8.cell? ⟨E.mb, 6, none⟩ = some (.int .i64 0) := by rw [← hf0]; exact hmac.cells.2.2.2.2.2.2.1
                      have hgo : ∀ K dst, K.length = c → ReachVE E (s, vEntry f vals dst :: K) (s5, (⟨f, at_ + 1, regs1, dst⟩ : VFr).putIf d v :: K) := fun K dst hK => (HRC2.out K dst hK).trans (hreach _ K rfl (by omega))
                      have hst : s1.steps + 1 ≤ s5.steps := by
                        have h1 := ReachV.steps (hreach ⟨f, at_ + 1, regs1, 0⟩ (List.replicate c ⟨f, 0, [], 0⟩) rfl (by simp))
                        rw [vIns_steps] at h1
                        exact h1
                      have HGO := Lib.hid hgo
                      have HST := Lib.hid hst
                      have HF0 := Lib.hid hf0
                      have HV32 := Lib.hid hv32
                      clear hch hmac hnew hf0 hreach hgo hst hv32
                      have hdx := HVX.out.d
                      dsimp only at hdx
                      rcases hdx with rfl | ⟨hd1, hd2⟩
                      · go_wp2_with fail
                        go_roundw
                        case rel => exact .inl ⟨at_ + 1, s5, r5, regs1, by go_num, ⟨HS8.out, HF0.out, HI6.out.len, HNX.out, fun K dst hK => HGO.out K dst hK⟩⟩
                        case measure => exact HMS.out s5 (at_ + 1) (c + 1) r5 W8 HS8.out.mac HST.out
                      · obtain ⟨kd, rfl⟩ := Int.eq_ofNat_of_zero_le hd1
                        have hkd : kd < nr := by have := HNR.out; omega
                        obtain ⟨q1, q2⟩ := wsCell HS8.out.reg.words kd (by rw [HRL7.out]; exact hkd)
                        obtain ⟨ov, hov⟩ : ∃ ov, ov = regs1.getD kd 0 := ⟨_, rfl⟩
                        rw [← hov] at q1
                        clear hov hd1 hd2
                        go_wp2_with fail
                        go_roundw
                        case rel => exact .inl ⟨at_ + 1, s5, r5, regs1.set kd v, by go_num, ⟨HS8.out.setr kd (by rw [HRL7.out]; exact hkd) v HV32.out, HF0.out, by rw [List.length_set]; exact HI6.out.len, HNX.out, fun K dst hK => by
                            have h9 := HGO.out K dst hK
                            unfold VFr.putIf at h9
                            rw [if_pos (by omega)] at h9
                            exact h9⟩⟩
                        case measure => exact HMS.out s5 (at_ + 1) (c + 1) r5 _ (HS8.out.setr kd (by rw [HRL7.out]; exact hkd) v HV32.out).mac HST.out
                    · have hdone : DoneV E W1 c r s f vals W8 := ⟨s5, r5, c5, HS7.out.chg.trans hch fun k hk e => footv_old HS7.out.nw hk e, hmac, HS7.out.nw.trans hnew HS7.out.chg.size, hf1, fun K dst hK => by
                        obtain ⟨K', h9⟩ := hreach ⟨f, at_ + 1, regs1, dst⟩ K rfl (by omega)
                        exact ⟨K', (HRC2.out K dst hK).trans h9⟩⟩
                      have hm0 : measV E.mb E.fuel nc (.int .i64 ((at_ + 1 : Nat) : Int)) W8 = 0 := by rw [hmac.meas, if_neg hf1]
                      have hm1 : 0 < measV E.mb E.fuel nc (.int .i64 (at_ : Nat)) wr := by rw [HI.out.st.mac.meas, if_pos HI.out.fin]; omega
                      obtain ⟨f5, hf5⟩ : ∃ f5, f5 = s5.fin := ⟨_, rfl⟩
                      have m6 : W8.cell? ⟨E.mb, 6, none⟩ = some (.int .i64 f5) := by rw [hf5]; exact hmac.cells.2.2.2.2.2.2.1
                      have hne : (f5 == 0) = false := beq_eq_false_iff_ne.2 (by rw [hf5]; exact hf1)
                      have HDN := Lib.hid hdone
                      have HM0 := Lib.hid hm0
                      have HM1' := Lib.hid hm1
                      clear hch hmac hnew hreach hdone hm0 hm1 hf1 hf5 hv32
                      have hdx := HVX.out.d
                      dsimp only at hdx
                      rcases hdx with rfl | ⟨hd1, hd2⟩
                      · go_wp2_with fail
                        go_roundw
                        case rel => exact .inr ⟨at_ + 1, by go_num, HDN.out⟩
                        case measure => exact HM0.out ▸ HM1'.out
                      · obtain ⟨kd, rfl⟩ := Int.eq_ofNat_of_zero_le hd1
                        go_wp2_with fail
                        go_roundw
                        case rel => exact .inr ⟨at_ + 1, by go_num, HDN.out⟩
                        case measure => exact HM0.out ▸ HM1'.out
                  · have hv1 : (va != 0) = true := bne_iff_ne.2 hv0
                    have HV0 := Lib.hid hv0
                    clear hv0
                    have hj := HVX.out.jump (by dsimp only; omega)
                    obtain ⟨j, hj1, hj2⟩ := hj
                    have HPL : Hid (Calls Try.prog 43 #[.agg #[.string f.name, .int .i64 f.params, .int .i64 f.regs, .slice (some ⟨gc, oc, none⟩) f.code.length c1], .int .i32 num] wc fun e w' => e = .returned (.int .i64 (j : Nat)) ∧ Below wc.heap.size wc w') := Lib.hid (by
                      have h9 := vPlace_any f (some ⟨gc, oc, none⟩) c1 num wc (RdSl.kept HCODE.out HS7.out.chg HTF.out fun _ _ h => h.kept HS7.out.chg HTF.out) HCL.out
                      have e9 : placeI f.code num = j := by unfold placeI; dsimp only at hj2; rw [hj2]
                      rw [e9] at h9
                      exact h9)
                    have HJ : Hid (place f.code num = j) := Lib.hid (by unfold place; dsimp only at hj2; rw [hj2]; rfl)
                    have HJ1 := Lib.hid hj1
                    have b0 : wc.cell? ⟨q, 0, none⟩ = some (.string f.name) := cell_of_row _ _ _ _ _ _ HS7.out.box
                    have b1 : wc.cell? ⟨q, 1, none⟩ = some (.int .i64 f.params) := cell_of_row _ _ _ _ _ _ HS7.out.box
                    have b2 : wc.cell? ⟨q, 2, none⟩ = some (.int .i64 f.regs) := cell_of_row _ _ _ _ _ _ HS7.out.box
                    have b3 : wc.cell? ⟨q, 3, none⟩ = some (.slice (some ⟨gc, oc, none⟩) f.code.length c1) := cell_of_row _ _ _ _ _ _ HS7.out.box
                    clear hj1 hj2
                    go_wp2_with fail
                    refine HPL.out.mono ?_
                    rintro e W8 ⟨rfl, hb8⟩
                    have HS8 := Lib.hid (HS7.out.below hb8)
                    have hgo : ∀ K dst, K.length = c → ReachVE E (s, vEntry f vals dst :: K) (s1.step, ⟨f, j, regs1, dst⟩ :: K) := fun K dst hK => by
                      have h9 := HRC.out K dst hK
                      unfold vOp at h9
                      rw [if_neg (by dsimp only; omega), if_pos (.inr (.inl ⟨rfl, by dsimp only; rw [← HVA.out]; exact HV0.out⟩))] at h9
                      dsimp only at h9
                      rw [HJ.out] at h9
                      exact h9
                    have HGO := Lib.hid hgo
                    clear hgo hb8 z0 z4 b0 b1 b2 b3
                    go_wp2_with fail
                    go_roundw
                    case rel => exact .inl ⟨j, s1.step, r1, regs1, rfl, ⟨HS8.out, HI6.out.fin, HI6.out.len, HJ1.out, HGO.out⟩⟩
                    case measure => exact HMS.out s1.step j (c + 1) r1 W8 HS8.out.mac (Nat.le_refl _)
                by_cases h53 : op = 53
                · subst h53
                  by_cases hv0 : va = 0
                  · have hv1 : (va == 0) = true := by simp [hv0]
                    have HV0 := Lib.hid hv0
                    clear hv0
                    have hj := HVX.out.jump (by dsimp only; omega)
                    obtain ⟨j, hj1, hj2⟩ := hj
                    have HPL : Hid (Calls Try.prog 43 #[.agg #[.string f.name, .int .i64 f.params, .int .i64 f.regs, .slice (some ⟨gc, oc, none⟩) f.code.length c1], .int .i32 num] wc fun e w' => e = .returned (.int .i64 (j : Nat)) ∧ Below wc.heap.size wc w') := Lib.hid (by
                      have h9 := vPlace_any f (some ⟨gc, oc, none⟩) c1 num wc (RdSl.kept HCODE.out HS7.out.chg HTF.out fun _ _ h => h.kept HS7.out.chg HTF.out) HCL.out
                      have e9 : placeI f.code num = j := by unfold placeI; dsimp only at hj2; rw [hj2]
                      rw [e9] at h9
                      exact h9)
                    have HJ : Hid (place f.code num = j) := Lib.hid (by unfold place; dsimp only at hj2; rw [hj2]; rfl)
                    have HJ1 := Lib.hid hj1
                    have b0 : wc.cell? ⟨q, 0, none⟩ = some (.string f.name) := cell_of_row _ _ _ _ _ _ HS7.out.box
                    have b1 : wc.cell? ⟨q, 1, none⟩ = some (.int .i64 f.params) := cell_of_row _ _ _ _ _ _ HS7.out.box
                    have b2 : wc.cell? ⟨q, 2, none⟩ = some (.int .i64 f.regs) := cell_of_row _ _ _ _ _ _ HS7.out.box
                    have b3 : wc.cell? ⟨q, 3, none⟩ = some (.slice (some ⟨gc, oc, none⟩) f.code.length c1) := cell_of_row _ _ _ _ _ _ HS7.out.box
                    clear hj1 hj2
                    go_wp2_with fail
                    refine HPL.out.mono ?_
                    rintro e W8 ⟨rfl, hb8⟩
                    have HS8 := Lib.hid (HS7.out.below hb8)
                    have hgo : ∀ K dst, K.length = c → ReachVE E (s, vEntry f vals dst :: K) (s1.step, ⟨f, j, regs1, dst⟩ :: K) := fun K dst hK => by
                      have h9 := HRC.out K dst hK
                      unfold vOp at h9
                      rw [if_neg (by dsimp only; omega), if_pos (.inr (.inr ⟨rfl, by dsimp only; rw [← HVA.out]; exact HV0.out⟩))] at h9
                      dsimp only at h9
                      rw [HJ.out] at h9
                      exact h9
                    have HGO := Lib.hid hgo
                    clear hgo hb8 z0 z4 b0 b1 b2 b3
                    go_wp2_with fail
                    go_roundw
                    case rel => exact .inl ⟨j, s1.step, r1, regs1, rfl, ⟨HS8.out, HI6.out.fin, HI6.out.len, HJ1.out, HGO.out⟩⟩
                    case measure => exact HMS.out s1.step j (c + 1) r1 W8 HS8.out.mac (Nat.le_refl _)
                  · have hv1 : (va == 0) = false := beq_eq_false_iff_ne.2 hv0
                    have HV0 := Lib.hid hv0
                    clear hv0
                    have HIN : Hid (Calls Try.prog 47 #[.pointer (some ⟨E.mb, 0, none⟩), .agg #[.int .i64 53, .int .i64 d, .int .i64 xa, .int .i64 xb, .int .i32 num, .string name2, .slice Ax args.length cx], .int .i32 va, .int .i32 vb, .slice (some ⟨gr, 0, none⟩) nr nr] wc (VInsPost E s1.step ⟨53, d, xa, xb, num, name2, args⟩ va vb regs1 (c + 1) r1 wc)) := Lib.hid (by
                      have h9 := vins_any HE.out HC.out HS7.out.mac HS7.out.reg HI6.out.fin (by have := HI6.out.st.mac.tl; simp only [MS.step]; omega) (n := f.regs) (by rw [HNR.out, HRL7.out]) 53 d xa xb num name2 args HVX.out (by omega) va vb HVA32.out HVB32.out Ax cx (mem_of_rdT7 (HRX.out.2.kept HS7.out.chg HTF.out))
                      rw [HRL7.out] at h9
                      exact h9)
                    have HNX := Lib.hid (HVX.out.next (by dsimp only; omega) (by dsimp only; omega))
                    have z1 : wc.cell? ⟨qx, 1, none⟩ = some (.int .i64 d) := cell_of_row _ _ _ _ _ _ HX7.out.heap
                    have z2 : wc.cell? ⟨qx, 2, none⟩ = some (.int .i64 xa) := cell_of_row _ _ _ _ _ _ HX7.out.heap
                    have z3 : wc.cell? ⟨qx, 3, none⟩ = some (.int .i64 xb) := cell_of_row _ _ _ _ _ _ HX7.out.heap
                    have z5 : wc.cell? ⟨qx, 5, none⟩ = some (.string name2) := cell_of_row _ _ _ _ _ _ HX7.out.heap
                    have z6 : wc.cell? ⟨qx, 6, none⟩ = some (.slice Ax args.length cx) := cell_of_row _ _ _ _ _ _ HX7.out.heap
                    have HRC2 : Hid (∀ K dst, K.length = c → ReachVE E (s, vEntry f vals dst :: K) (vIns E.m E.inp ⟨53, d, xa, xb, num, name2, args⟩ va vb s1.step ⟨f, at_ + 1, regs1, dst⟩ K)) := Lib.hid fun K dst hK => by
                      have h9 := HRC.out K dst hK
                      unfold vOp at h9
                      rw [if_neg (by dsimp only; omega), if_neg (by dsimp only; rw [← HVA.out]; have := HV0.out; omega)] at h9
                      rw [HVA.out, HVB2.out]
                      exact h9
                    go_wp2_with fail
                    refine HIN.out.mono ?_
                    rintro e W8 ⟨v, s5, r5, c5, rfl, hv32, hch, hmac, hnew, hfin⟩
                    have HX8 := HX7.out.insm hch hnew
                    have y1 : W8.cell? ⟨qx, 1, none⟩ = some (.int .i64 d) := cell_of_row _ _ _ _ _ _ HX8.heap
                    clear z0 z1 z2 z3 z4 z5 z6 HIN HX8
                    rcases hfin with ⟨hf0, rfl, hreach⟩ | ⟨hf1, hreach⟩
                    · have HS8 := Lib.hid (HS7.out.insm hmac hch hnew)
                      have m6 : W8.cell? ⟨E.mb, 6, none⟩ = some (.int .i64 0) := by rw [← hf0]; exact hmac.cells.2.2.2.2.2.2.1
                      have hgo : ∀ K dst, K.length = c → ReachVE E (s, vEntry f vals dst :: K) (s5, (⟨f, at_ + 1, regs1, dst⟩ : VFr).putIf d v :: K) := fun K dst hK => (HRC2.out K dst hK).trans (hreach _ K rfl (by omega))
                      have hst : s1.steps + 1 ≤ s5.steps := by
                        have h1 := ReachV.steps (hreach ⟨f, at_ + 1, regs1, 0⟩ (List.replicate c ⟨f, 0, [], 0⟩) rfl (by simp))
                        rw [vIns_steps] at h1
                        exact h1
                      have HGO := Lib.hid hgo
                      have HST := Lib.hid hst
                      have HF0 := Lib.hid hf0
                      have HV32 := Lib.hid hv32
                      clear hch hmac hnew hf0 hreach hgo hst hv32
                      have hdx := HVX.out.d
                      dsimp only at hdx
                      rcases hdx with rfl | ⟨hd1, hd2⟩
                      · go_wp2_with fail
                        go_roundw
                        case rel => exact .inl ⟨at_ + 1, s5, r5, regs1, by go_num, ⟨HS8.out, HF0.out, HI6.out.len, HNX.out, fun K dst hK => HGO.out K dst hK⟩⟩
                        case measure => exact HMS.out s5 (at_ + 1) (c + 1) r5 W8 HS8.out.mac HST.out
                      · obtain ⟨kd, rfl⟩ := Int.eq_ofNat_of_zero_le hd1
                        have hkd : kd < nr := by have := HNR.out; omega
                        obtain ⟨q1, q2⟩ := wsCell HS8.out.reg.words kd (by rw [HRL7.out]; exact hkd)
                        obtain ⟨ov, hov⟩ : ∃ ov, ov = regs1.getD kd 0 := ⟨_, rfl⟩
                        rw [← hov] at q1
                        clear hov hd1 hd2
                        go_wp2_with fail
                        go_roundw
                        case rel => exact .inl ⟨at_ + 1, s5, r5, regs1.set kd v, by go_num, ⟨HS8.out.setr kd (by rw [HRL7.out]; exact hkd) v HV32.out, HF0.out, by rw [List.length_set]; exact HI6.out.len, HNX.out, fun K dst hK => by
                            have h9 := HGO.out K dst hK
                            unfold VFr.putIf at h9
                            rw [if_pos (by omega)] at h9
                            exact h9⟩⟩
                        case measure => exact HMS.out s5 (at_ + 1) (c + 1) r5 _ (HS8.out.setr kd (by rw [HRL7.out]; exact hkd) v HV32.out).mac HST.out
                    · have hdone : DoneV E W1 c r s f vals W8 := ⟨s5, r5, c5, HS7.out.chg.trans hch fun k hk e => footv_old HS7.out.nw hk e, hmac, HS7.out.nw.trans hnew HS7.out.chg.size, hf1, fun K dst hK => by
                        obtain ⟨K', h9⟩ := hreach ⟨f, at_ + 1, regs1, dst⟩ K rfl (by omega)
                        exact ⟨K', (HRC2.out K dst hK).trans h9⟩⟩
                      have hm0 : measV E.mb E.fuel nc (.int .i64 ((at_ + 1 : Nat) : Int)) W8 = 0 := by rw [hmac.meas, if_neg hf1]
                      have hm1 : 0 < measV E.mb E.fuel nc (.int .i64 (at_ : Nat)) wr := by rw [HI.out.st.mac.meas, if_pos HI.out.fin]; omega
                      obtain ⟨f5, hf5⟩ : ∃ f5, f5 = s5.fin := ⟨_, rfl⟩
                      have m6 : W8.cell? ⟨E.mb, 6, none⟩ = some (.int .i64 f5) := by rw [hf5]; exact hmac.cells.2.2.2.2.2.2.1
                      have hne : (f5 == 0) = false := beq_eq_false_iff_ne.2 (by rw [hf5]; exact hf1)
                      have HDN := Lib.hid hdone
                      have HM0 := Lib.hid hm0
                      have HM1' := Lib.hid hm1
                      clear hch hmac hnew hreach hdone hm0 hm1 hf1 hf5 hv32
                      have hdx := HVX.out.d
                      dsimp only at hdx
                      rcases hdx with rfl | ⟨hd1, hd2⟩
                      · go_wp2_with fail
                        go_roundw
                        case rel => exact .inr ⟨at_ + 1, by go_num, HDN.out⟩
                        case measure => exact HM0.out ▸ HM1'.out
                      · obtain ⟨kd, rfl⟩ := Int.eq_ofNat_of_zero_le hd1
                        go_wp2_with fail
                        go_roundw
                        case rel => exact .inr ⟨at_ + 1, by go_num, HDN.out⟩
                        case measure => exact HM0.out ▸ HM1'.out
                have k49 : (op == 49) = false := beq_eq_false_iff_ne.2 h49
                have k51 : (op == 51) = false := beq_eq_false_iff_ne.2 h51
                have k52 : (op == 52) = false := beq_eq_false_iff_ne.2 h52
                have k53 : (op == 53) = false := beq_eq_false_iff_ne.2 h53
                have HOPS := Lib.hid (And.intro h49 (And.intro h51 (And.intro h52 (And.intro h53 HLAB.out))))
                clear h49 h51 h52 h53
                have HIN : Hid (Calls Try.prog 47 #[.pointer (some ⟨E.mb, 0, none⟩), .agg #[.int .i64 op, .int .i64 d, .int .i64 xa, .int .i64 xb, .int .i32 num, .string name2, .slice Ax args.length cx], .int .i32 va, .int .i32 vb, .slice (some ⟨gr, 0, none⟩) nr nr] wc (VInsPost E s1.step ⟨op, d, xa, xb, num, name2, args⟩ va vb regs1 (c + 1) r1 wc)) := Lib.hid (by
                  have h9 := vins_any HE.out HC.out HS7.out.mac HS7.out.reg HI6.out.fin (by have := HI6.out.st.mac.tl; simp only [MS.step]; omega) (n := f.regs) (by rw [HNR.out, HRL7.out]) op d xa xb num name2 args HVX.out (by have := HOPS.out; omega) va vb HVA32.out HVB32.out Ax cx (mem_of_rdT7 (HRX.out.2.kept HS7.out.chg HTF.out))
                  rw [HRL7.out] at h9
                  exact h9)
                have HNX := Lib.hid (HVX.out.next (by dsimp only; have := HOPS.out; omega) (by dsimp only; have := HOPS.out; omega))
                have z1 : wc.cell? ⟨qx, 1, none⟩ = some (.int .i64 d) := cell_of_row _ _ _ _ _ _ HX7.out.heap
                have z2 : wc.cell? ⟨qx, 2, none⟩ = some (.int .i64 xa) := cell_of_row _ _ _ _ _ _ HX7.out.heap
                have z3 : wc.cell? ⟨qx, 3, none⟩ = some (.int .i64 xb) := cell_of_row _ _ _ _ _ _ HX7.out.heap
                have z5 : wc.cell? ⟨qx, 5, none⟩ = some (.string name2) := cell_of_row _ _ _ _ _ _ HX7.out.heap
                have z6 : wc.cell? ⟨qx, 6, none⟩ = some (.slice Ax args.length cx) := cell_of_row _ _ _ _ _ _ HX7.out.heap
                have HRC2 : Hid (∀ K dst, K.length = c → ReachVE E (s, vEntry f vals dst :: K) (vIns E.m E.inp ⟨op, d, xa, xb, num, name2, args⟩ va vb s1.step ⟨f, at_ + 1, regs1, dst⟩ K)) := Lib.hid fun K dst hK => by
                  have h9 := HRC.out K dst hK
                  unfold vOp at h9
                  rw [if_neg (by dsimp only; have := HOPS.out; omega), if_neg (by dsimp only; have := HOPS.out; omega)] at h9
                  rw [HVA.out, HVB2.out]
                  exact h9
                go_wp2_with fail
                refine HIN.out.mono ?_
                rintro e W8 ⟨v, s5, r5, c5, rfl, hv32, hch, hmac, hnew, hfin⟩
                have HX8 := HX7.out.insm hch hnew
                have y1 : W8.cell? ⟨qx, 1, none⟩ = some (.int .i64 d) := cell_of_row _ _ _ _ _ _ HX8.heap
                clear z0 z1 z2 z3 z4 z5 z6 HIN HX8
                rcases hfin with ⟨hf0, rfl, hreach⟩ | ⟨hf1, hreach⟩
                · have HS8 := Lib.hid (HS7.out.insm hmac hch hnew)
                  have m6 : W8.cell? ⟨E.mb, 6, none⟩ = some (.int .i64 0) := by rw [← hf0]; exact hmac.cells.2.2.2.2.2.2.1
                  have hgo : ∀ K dst, K.length = c → ReachVE E (s, vEntry f vals dst :: K) (s5, (⟨f, at_ + 1, regs1, dst⟩ : VFr).putIf d v :: K) := fun K dst hK => (HRC2.out K dst hK).trans (hreach _ K rfl (by omega))
                  have hst : s1.steps + 1 ≤ s5.steps := by
                    have h1 := ReachV.steps (hreach ⟨f, at_ + 1, regs1, 0⟩ (List.replicate c ⟨f, 0, [], 0⟩) rfl (by simp))
                    rw [vIns_steps] at h1
                    exact h1
                  have HGO := Lib.hid hgo
                  have HST := Lib.hid hst
                  have HF0 := Lib.hid hf0
                  have HV32 := Lib.hid hv32
                  clear hch hmac hnew hf0 hreach hgo hst hv32
                  have hdx := HVX.out.d
                  dsimp only at hdx
                  rcases hdx with rfl | ⟨hd1, hd2⟩
                  · go_wp2_with fail
                    go_roundw
                    case rel => exact .inl ⟨at_ + 1, s5, r5, regs1, by go_num, ⟨HS8.out, HF0.out, HI6.out.len, HNX.out, fun K dst hK => HGO.out K dst hK⟩⟩
                    case measure => exact HMS.out s5 (at_ + 1) (c + 1) r5 W8 HS8.out.mac HST.out
                  · obtain ⟨kd, rfl⟩ := Int.eq_ofNat_of_zero_le hd1
                    have hkd : kd < nr := by have := HNR.out; omega
                    obtain ⟨q1, q2⟩ := wsCell HS8.out.reg.words kd (by rw [HRL7.out]; exact hkd)
                    obtain ⟨ov, hov⟩ : ∃ ov, ov = regs1.getD kd 0 := ⟨_, rfl⟩
                    rw [← hov] at q1
                    clear hov hd1 hd2
                    go_wp2_with fail
                    go_roundw
                    case rel => exact .inl ⟨at_ + 1, s5, r5, regs1.set kd v, by go_num, ⟨HS8.out.setr kd (by rw [HRL7.out]; exact hkd) v HV32.out, HF0.out, by rw [List.length_set]; exact HI6.out.len, HNX.out, fun K dst hK => by
                        have h9 := HGO.out K dst hK
                        unfold VFr.putIf at h9
                        rw [if_pos (by omega)] at h9
                        exact h9⟩⟩
                    case measure => exact HMS.out s5 (at_ + 1) (c + 1) r5 _ (HS8.out.setr kd (by rw [HRL7.out]; exact hkd) v HV32.out).mac HST.out
                · have hdone : DoneV E W1 c r s f vals W8 := ⟨s5, r5, c5, HS7.out.chg.trans hch fun k hk e => footv_old HS7.out.nw hk e, hmac, HS7.out.nw.trans hnew HS7.out.chg.size, hf1, fun K dst hK => by
                    obtain ⟨K', h9⟩ := hreach ⟨f, at_ + 1, regs1, dst⟩ K rfl (by omega)
                    exact ⟨K', (HRC2.out K dst hK).trans h9⟩⟩
                  have hm0 : measV E.mb E.fuel nc (.int .i64 ((at_ + 1 : Nat) : Int)) W8 = 0 := by rw [hmac.meas, if_neg hf1]
                  have hm1 : 0 < measV E.mb E.fuel nc (.int .i64 (at_ : Nat)) wr := by rw [HI.out.st.mac.meas, if_pos HI.out.fin]; omega
                  obtain ⟨f5, hf5⟩ : ∃ f5, f5 = s5.fin := ⟨_, rfl⟩
                  have m6 : W8.cell? ⟨E.mb, 6, none⟩ = some (.int .i64 f5) := by rw [hf5]; exact hmac.cells.2.2.2.2.2.2.1
                  have hne : (f5 == 0) = false := beq_eq_false_iff_ne.2 (by rw [hf5]; exact hf1)
                  have HDN := Lib.hid hdone
                  have HM0 := Lib.hid hm0
                  have HM1' := Lib.hid hm1
                  clear hch hmac hnew hreach hdone hm0 hm1 hf1 hf5 hv32
                  have hdx := HVX.out.d
                  dsimp only at hdx
                  rcases hdx with rfl | ⟨hd1, hd2⟩
                  · go_wp2_with fail
                    go_roundw
                    case rel => exact .inr ⟨at_ + 1, by go_num, HDN.out⟩
                    case measure => exact HM0.out ▸ HM1'.out
                  · obtain ⟨kd, rfl⟩ := Int.eq_ofNat_of_zero_le hd1
                    go_wp2_with fail
                    go_roundw
                    case rel => exact .inr ⟨at_ + 1, by go_num, HDN.out⟩
                    case measure => exact HM0.out ▸ HM1'.out
          · have HD := Lib.hid hD
            obtain ⟨s9, r9, c9, _, hm9, _, hf9, _⟩ := hD
            obtain ⟨f5, hf5⟩ : ∃ f5, f5 = s9.fin := ⟨_, rfl⟩
            have m6 : wr.cell? ⟨E.mb, 6, none⟩ = some (.int .i64 f5) := by rw [hf5]; exact hm9.cells.2.2.2.2.2.2.1
            have hne : (f5 == 0) = false := beq_eq_false_iff_ne.2 (by rw [hf5]; exact hf9)
            clear hm9 hf9 hf5 hrel
            go_wp2_with fail
            go_ret
            exact CallPostV.after HC1.out HD.out.post
theorem callv_any (hE : EnvVOk E) (hP : VPX E.m) : ∀ (n c : Nat), c + n + 1 = 32 → CallCV E c
  | 0, c, h => callv_step hE hP (by omega) fun h2 => by omega
  | n + 1, c, h => callv_step hE hP (by omega) fun _ => callv_any hE hP n (c + 1) (by omega)
end
end Go.Proofs.Ytnfneinonkpmeaa
