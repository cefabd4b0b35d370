/- brazierlaw15.Right says yes to what is picked. -/
import Derived.Deep.RegionHeld3
import Derived.Test.YtnfneinonkpmeaaLv32
import Derived.Test.YtnfneinonkpmeaaLv13
namespace Go.Proofs.Ytnfneinonkpmeaa
open Go.RowKit
theorem pick_mayf {m : Mid} (hm : MayV m) (hl : LightV m) (hn : ∀ f ∈ m.fns, ∀ b ∈ f.blocks, ∀ x ∈ b.ins, I32 x.num) {f : Fn} (hf : f ∈ m.fns) : VMayF (pickFn f) := by
  obtain ⟨i, hi, e⟩ := List.getElem_of_mem hf
  have hV := (hm.fns i hi).fn
  rw [e] at hV
  obtain ⟨yl, hyl, hop, hpos⟩ := code_last hV.some hV.blocks
  have hat := fun k (hk : k < (codeS f.blocks).length) => at_v hm hl hn hf (k := k) (y := (codeS f.blocks)[k]) (List.getElem?_eq_getElem hk)
  refine ⟨hV.name, hV.params, hV.regs, hpos, fun k hk => (hat k hk).ok, fun k hk => (hat k hk).jump, fun k hk => (hat k hk).label, fun h => ?_⟩
  have hk : (codeS f.blocks).length - 1 < (codeS f.blocks).length := by omega
  rw [List.getElem?_eq_getElem hk] at hyl
  injection hyl with hyl
  show ((codeS f.blocks)[(codeS f.blocks).length - 1]).op = 49 ∨ ((codeS f.blocks)[(codeS f.blocks).length - 1]).op = 51
  rw [hyl]; exact hop
section
variable {T T' : Nat → Prop} {w w' : World}
theorem RdProg.below {m : VProg} {A B : Option Addr} {c d : Nat} (h : RdProg w T m A c B d) (hb : Below w.heap.size w w') : RdProg w' T m A c B d := h.kept (S := fun _ => False) (Chg.of_below hb _) fun _ _ _ h => h
/-- What stands in a round over the functions. -/
structure RgtS (pb mb bv : Nat) (sA sB sA' sB' : Value) (f : Fn) (Ac : Option Addr) (n cc : Nat) (g0 o0 : Nat) (Y : World) : Prop where
  p0 : Y.cell? ⟨pb, 0, none⟩ = some sA
  p1 : Y.cell? ⟨pb, 1, none⟩ = some sB
  m0 : Y.cell? ⟨mb, 0, none⟩ = some sA'
  m1 : Y.cell? ⟨mb, 1, none⟩ = some sB'
  v0 : Y.cell? ⟨bv, 0, none⟩ = some (.string f.name)
  v1 : Y.cell? ⟨bv, 1, none⟩ = some (.int .i64 f.params)
  v2 : Y.cell? ⟨bv, 2, none⟩ = some (.int .i64 f.regs)
  v3 : Y.cell? ⟨bv, 3, none⟩ = some (.slice Ac n cc)
  f0 : Y.cell? ⟨g0, o0, none⟩ = some (.string f.name)
  f1 : Y.cell? ⟨g0, o0 + 1, none⟩ = some (.int .i64 f.params)
theorem RgtS.below {pb mb bv : Nat} {sA sB sA' sB' : Value} {f : Fn} {Ac : Option Addr} {n cc : Nat} {g0 o0 : Nat} {Y Y' : World} (h : RgtS pb mb bv sA sB sA' sB' f Ac n cc g0 o0 Y) (hb : Below Y.heap.size Y Y') : RgtS pb mb bv sA sB sA' sB' f Ac n cc g0 o0 Y' :=
  ⟨cellB7 hb h.p0, cellB7 hb h.p1, cellB7 hb h.m0, cellB7 hb h.m1, cellB7 hb h.v0, cellB7 hb h.v1, cellB7 hb h.v2, cellB7 hb h.v3, cellB7 hb h.f0, cellB7 hb h.f1⟩
set_option maxHeartbeats 8000000 in
set_option maxRecDepth 100000 in
theorem vRight_any (m : Mid) (hm : MayV m) (hl : LightV m) (hn : ∀ f ∈ m.fns, ∀ b ∈ f.blocks, ∀ x ∈ b.ins, I32 x.num) (A B A' B' : Option Addr) (c d c' d' : Nat) (w : World) (h : RdProg w T (pickP m) A c B d) (h' : RdMid w T' m A' c' B' d') :
    Calls Try.prog 13 #[.agg #[.slice A m.globals.length c, .slice B m.fns.length d], .agg #[.slice A' m.globals.length c', .slice B' m.fns.length d']] w fun e w' => e = .returned (.bool true) ∧ Below w.heap.size w w' := by
  obtain ⟨n, hnn⟩ : ∃ n, n = m.fns.length := ⟨_, rfl⟩
  obtain ⟨ng, hng⟩ : ∃ ng, ng = m.globals.length := ⟨_, rfl⟩
  have hn8 : n ≤ 8 := by rw [hnn]; exact hl.nf
  have hng64 : ng ≤ 64 := by rw [hng]; exact hm.ng
  obtain ⟨w1, hw1, hb1, hlt1, hc1⟩ := box_new w #[.slice A ng c, .slice B n d] 41
  obtain ⟨w2, hw2, hb2, hlt2, hc2⟩ := box_new w1 #[.slice A' ng c', .slice B' n d'] 25
  obtain ⟨pb, hpb⟩ : ∃ pb, pb = w.heap.size := ⟨_, rfl⟩
  obtain ⟨mb, hmb⟩ : ∃ mb, mb = w1.heap.size := ⟨_, rfl⟩
  have hbb : Below w.heap.size w w2 := hb1.trans (hb2.mono hb1.size)
  have HSB : Hid (∀ Y, Below w2.heap.size w2 Y → Y.cell? ⟨pb, 0, none⟩ = some (.slice A ng c) ∧ Y.cell? ⟨pb, 1, none⟩ = some (.slice B n d) ∧ Y.cell? ⟨mb, 0, none⟩ = some (.slice A' ng c') ∧ Y.cell? ⟨mb, 1, none⟩ = some (.slice B' n d')) := Lib.hid fun Y hY => by
    have a0 : w2.cell? ⟨pb, 0, none⟩ = some (.slice A ng c) := by rw [hpb]; exact cellB7 hb2 (hc1 0)
    have a1 : w2.cell? ⟨pb, 1, none⟩ = some (.slice B n d) := by rw [hpb]; exact cellB7 hb2 (hc1 1)
    have a2 : w2.cell? ⟨mb, 0, none⟩ = some (.slice A' ng c') := by rw [hmb]; exact hc2 0
    have a3 : w2.cell? ⟨mb, 1, none⟩ = some (.slice B' n d') := by rw [hmb]; exact hc2 1
    exact ⟨cellB7 hY a0, cellB7 hY a1, cellB7 hY a2, cellB7 hY a3⟩
  have HPR : Hid (∀ Y, Below w2.heap.size w2 Y → RdProg Y T (pickP m) A c B d) := Lib.hid fun Y hY => h.below (hbb.trans (hY.mono hbb.size))
  have HMD : Hid (∀ Y, Below w2.heap.size w2 Y → RdMid Y T' m A' c' B' d') := Lib.hid fun Y hY => mid_below h' (hbb.trans (hY.mono hbb.size))
  have HBB := Lib.hid hbb
  have HNN := Lib.hid hnn
  have HNG := Lib.hid hng
  have HMV := Lib.hid hm
  have HLV := Lib.hid hl
  have HNUM := Lib.hid hn
  have hsz1 : w1.heap.size = w.heap.size + 1 := by rw [hw1]; simp
  have HW1 := Lib.hid hw1
  have HW2 := Lib.hid hw2
  have HPB := Lib.hid hpb
  have HMB := Lib.hid (hmb.trans hsz1)
  rw [← hnn, ← hng]
  have y := HSB.out w2 (Below.refl _ _)
  obtain ⟨y0, y1, y2, y3⟩ := y
  have hnen : ((n : Int) != (n : Int)) = false := by simp
  clear hnn hng hm hl hn hw1 hb1 hlt1 hc1 hw2 hb2 hlt2 hc2 hpb hmb hbb hsz1 h h'
  go_enter Try.func13, Try.ntmps13
  go_upto_region 1 with (fail)
  rw [← HW1.out, ← HW2.out, ← HMB.out, ← HPB.out]
  go_wp2_with fail
  clear y0 y1 y2 y3
  go_loopw [19] (fun i wr => ∃ k : Nat, k ≤ n ∧ i = .int .i64 (k : Nat) ∧ Below w2.heap.size w2 wr) (fun i _ => n - (intOf i).toNat)
  case atStart => exact ⟨0, by omega, rfl, Below.refl _ _⟩
  case round =>
    obtain ⟨k, hk, rfl, hBr⟩ := hrel
    have HBR := Lib.hid hBr
    clear hBr
    by_cases hlt : k < n
    · have hkm : k < m.fns.length := by rw [← HNN.out]; exact hlt
      obtain ⟨f, hfe⟩ : ∃ f, f = m.fns[k] := ⟨_, rfl⟩
      have hfm : f ∈ m.fns := by rw [hfe]; exact List.getElem_mem hkm
      have hkp : k < (pickP m).fns.length := by simpa [pickP] using hkm
      obtain ⟨gp, fo, Ac, cc, rfl, hgp, hcl, hcode, e0', e1', e2', e3'⟩ := vfn_at (HPR.out _ HBR.out).fns k hkp (pickFn f) (by simp [pickP, hfe])
      obtain ⟨gm, om, _, _, rfl, hgm, _, _, u0, u1, _, _⟩ := fn_at (HMD.out _ HBR.out).fns k hkm f hfe
      have e0 : wr.cell? ⟨gp, fo + k * 4, none⟩ = some (.string f.name) := e0'
      have e1 : wr.cell? ⟨gp, fo + k * 4 + 1, none⟩ = some (.int .i64 f.params) := e1'
      have e2 : wr.cell? ⟨gp, fo + k * 4 + 2, none⟩ = some (.int .i64 f.regs) := e2'
      have e3 : wr.cell? ⟨gp, fo + k * 4 + 3, none⟩ = some (.slice Ac (codeS f.blocks).length cc) := e3'
      clear e0' e1' e2' e3'
      obtain ⟨nc, hnc⟩ : ∃ nc, nc = (codeS f.blocks).length := ⟨_, rfl⟩
      have hncm : nc ≤ 9223372036854775807 := by rw [hnc]; unfold maxLen at hcl; exact hcl
      rw [← hnc] at e3
      have HCODE := Lib.hid hcode
      have HCL := Lib.hid hcl
      have HMF := Lib.hid (pick_mayf HMV.out HLV.out HNUM.out hfm)
      have HFM := Lib.hid hfm
      have HNC := Lib.hid hnc
      clear hcode hcl hfm hfe hnc hkm hkp
      obtain ⟨W3, hW3⟩ : ∃ W3, W3 = wr.alloc (.cells #[.string f.name, .int .i64 f.params, .int .i64 f.regs, .slice Ac nc cc] 34) := ⟨_, rfl⟩
      obtain ⟨bv, hbv⟩ : ∃ bv, bv = wr.heap.size := ⟨_, rfl⟩
      have hb3 : Below wr.heap.size wr W3 := by rw [hW3]; exact (Below.refl _ wr).alloc (Nat.le_refl _) _
      have hV3 : W3.heap[bv]? = some (.cells #[.string f.name, .int .i64 f.params, .int .i64 f.regs, .slice Ac nc cc] 34 (0, 0)) := by rw [hW3, hbv]; exact heap_alloc_new wr _
      have HB3 : Hid (Below w2.heap.size w2 W3) := Lib.hid (HBR.out.trans (hb3.mono HBR.out.size))
      have HSX : Hid (∀ Y, Below W3.heap.size W3 Y → RgtS pb mb bv (.slice A ng c) (.slice (some ⟨gp, fo, none⟩) n d) (.slice A' ng c') (.slice (some ⟨gm, om, none⟩) n d') f Ac nc cc gm (om + k * 4) Y) := Lib.hid fun Y hY => by
        obtain ⟨y0, y1, y2, y3⟩ := HSB.out W3 HB3.out
        exact RgtS.below ⟨y0, y1, y2, y3, cell_of_row _ _ _ _ _ _ hV3, cell_of_row _ _ _ _ _ _ hV3, cell_of_row _ _ _ _ _ _ hV3, cell_of_row _ _ _ _ _ _ hV3, cellB7 hb3 u0, cellB7 hb3 u1⟩ hY
      have HMAY : Hid (∀ Y, Below W3.heap.size W3 Y → Calls Try.prog 26 #[.agg #[.string f.name, .int .i64 f.params, .int .i64 f.regs, .slice Ac nc cc]] Y fun e w' => e = .returned (.bool true) ∧ Below Y.heap.size Y w') := Lib.hid fun Y hY => by
        have h9 := vMay_any (pickFn f) HMF.out Ac cc Y ((HCODE.out.below hb3).below hY) HCL.out
        rw [HNC.out]
        exact h9
      have HC3 : Hid (RdCode W3 T Ac (codeS f.blocks)) := Lib.hid (HCODE.out.below hb3)
      have HW3 := Lib.hid hW3
      have HBV := Lib.hid hbv
      clear hb3 hV3 hW3 hbv HCODE u0 u1
      obtain ⟨z0, z1, z2, z3⟩ := HSB.out wr HBR.out
      clear z0 z2 z3
      go_upto_region 6 with (fail)
      rw [← HW3.out, ← HBV.out]
      clear e0 e1 e2 e3 z1
      have ST : Hid (Below W3.heap.size W3 W3.drew) := Lib.hid dr
      obtain ⟨p0, p1, m0, m1, v0, v1, v2, v3, f0, f1⟩ := HSX.out _ ST.out
      have hs1 : (f.name.toList == f.name.toList) = true := by simp
      have hs2 : (f.params != f.params) = false := by simp
      go_region_held3 (fun Y => Y.cell? ⟨mb, 1, none⟩ = some (.slice (some ⟨gm, om, none⟩) n d') ∧ Y.cell? ⟨bv, 0, none⟩ = some (.string f.name) ∧ Y.cell? ⟨bv, 1, none⟩ = some (.int .i64 f.params) ∧ Y.cell? ⟨bv, 2, none⟩ = some (.int .i64 f.regs) ∧ Y.cell? ⟨bv, 3, none⟩ = some (.slice Ac nc cc) ∧ Y.cell? ⟨gm, om + k * 4, none⟩ = some (.string f.name) ∧ Y.cell? ⟨gm, om + k * 4 + 1, none⟩ = some (.int .i64 f.params)) (first | with_reducible exact ⟨m1, v0, v1, v2, v3, f0, f1⟩ | go_keep)
        (first
        | (go_at_call 26; (with_reducible refine (HMAY.out _ ST.out).mono ?_); rintro e wv ⟨rfl, hBv⟩; have ST := Lib.hid (ST.out.trans (hBv.mono ST.out.size)); clear hBv; obtain ⟨p0, p1, m0, m1, v0, v1, v2, v3, f0, f1⟩ := HSX.out _ ST.out)
        | (fail "no arm"))
      all_goals
        go_upto_region 9 with (fail)
        clear p0 p1 m0 m1 v0 v1 v2 v3 f0 f1
        go_loopw [52] (fun i wq => ∃ j : Nat, j ≤ nc ∧ i = .int .i64 (j : Nat) ∧ Below W3.heap.size W3 wq) (fun i _ => nc - (intOf i).toNat)
        case atStart => exact ⟨0, by omega, rfl, ST.out⟩
        case round =>
          obtain ⟨j, hj, rfl, hBq⟩ := hrel
          have HBQ := Lib.hid hBq
          clear hBq ST
          by_cases hlj : j < nc
          · have hjc : j < (codeS f.blocks).length := by rw [← HNC.out]; exact hlj
            obtain ⟨x, hxe⟩ : ∃ x, x = (codeS f.blocks)[j] := ⟨_, rfl⟩
            have HAT : Hid (AtV m f j x) := Lib.hid (at_v HMV.out HLV.out HNUM.out HFM.out (by rw [hxe]; exact List.getElem?_eq_getElem hjc))
            obtain ⟨gx, ox, Bx, cx, hA, hgx, _, e0, e1, e2, e3, e4, e5, e6⟩ := vins_cells (HC3.out.below HBQ.out) j hjc x hxe
            obtain ⟨op, xd, xa, xb, num, name, args⟩ := x
            dsimp only at e0 e1 e2 e3 e4 e5 e6
            obtain ⟨la, hla⟩ : ∃ la, la = args.length := ⟨_, rfl⟩
            rw [← hla] at e6
            have HLA := Lib.hid hla
            subst hA
            obtain ⟨W4, hW4⟩ : ∃ W4, W4 = wr.alloc (.cells #[.int .i64 op, .int .i64 xd, .int .i64 xa, .int .i64 xb, .int .i32 num, .string name, .slice Bx la cx] 61) := ⟨_, rfl⟩
            obtain ⟨bx, hbx⟩ : ∃ bx, bx = wr.heap.size := ⟨_, rfl⟩
            have hb4 : Below wr.heap.size wr W4 := by rw [hW4]; exact (Below.refl _ wr).alloc (Nat.le_refl _) _
            have hX4 : W4.heap[bx]? = some (.cells #[.int .i64 op, .int .i64 xd, .int .i64 xa, .int .i64 xb, .int .i32 num, .string name, .slice Bx la cx] 61 (0, 0)) := by rw [hW4, hbx]; exact heap_alloc_new wr _
            have HB4 : Hid (Below W3.heap.size W3 W4) := Lib.hid (HBQ.out.trans (hb4.mono HBQ.out.size))
            have HSY : Hid (∀ Y, Below W4.heap.size W4 Y → RgtS pb mb bv (.slice A ng c) (.slice (some ⟨gp, fo, none⟩) n d) (.slice A' ng c') (.slice (some ⟨gm, om, none⟩) n d') f (some ⟨gx, ox, none⟩) nc cc gm (om + k * 4) Y ∧ Y.cell? ⟨bx, 0, none⟩ = some (.int .i64 op) ∧ Y.cell? ⟨bx, 5, none⟩ = some (.string name) ∧ Y.cell? ⟨bx, 6, none⟩ = some (.slice Bx la cx)) := Lib.hid fun Y hY =>
              ⟨HSX.out Y (HB4.out.trans (hY.mono HB4.out.size)), cellB7 hY (cell_of_row _ _ _ _ _ _ hX4), cellB7 hY (cell_of_row _ _ _ _ _ _ hX4), cellB7 hY (cell_of_row _ _ _ _ _ _ hX4)⟩
            have HY2 : Hid (∀ Y, Below W4.heap.size W4 Y → Below w2.heap.size w2 Y) := Lib.hid fun Y hY => HB3.out.trans ((HB4.out.trans (hY.mono HB4.out.size)).mono HB3.out.size)
            have HW4 := Lib.hid hW4
            have HBX4 := Lib.hid hbx
            clear hb4 hX4 hW4 hbx hla hxe hgx hjc
            go_upto_region 11 with (fail)
            rw [← HW4.out, ← HBX4.out]
            clear e0 e1 e2 e3 e4 e5 e6
            by_cases h46 : op = 46
            · subst h46
              obtain ⟨kc, hkc, hk1, hk2⟩ := HAT.out.call rfl
              dsimp only at hk1 hk2
              have hkn : kc < n := by rw [HNN.out]; exact hkc
              have hkp : kc < (pickP m).fns.length := by simpa [pickP] using hkc
              have HFA : Hid (∀ Y, Below W4.heap.size W4 Y → Calls Try.prog 27 #[.agg #[.slice A ng c, .slice (some ⟨gp, fo, none⟩) n d], .string name] Y fun e w' => e = .returned (.int .i64 (kc : Nat)) ∧ Below Y.heap.size Y w') := Lib.hid fun Y hY => by
                have h9 := vFnAt_any (pickP m) A (some ⟨gp, fo, none⟩) c d name Y (HPR.out Y (HY2.out Y hY))
                rw [vfnAt_pick, hk1, show (pickP m).fns.length = n from by rw [HNN.out]; simp [pickP], show (pickP m).globals.length = ng from by rw [HNG.out]; rfl] at h9
                exact h9
              have HPC : Hid (∀ Y, Below W4.heap.size W4 Y → Y.cell? ⟨gp, fo + kc * 4 + 1, none⟩ = some (.int .i64 (la : Int))) := Lib.hid fun Y hY => by
                obtain ⟨g9, o9, _, _, e9, _, _, _, _, c9, _⟩ := vfn_at (HPR.out Y (HY2.out Y hY)).fns kc hkp (pickFn m.fns[kc]) (by simp [pickP])
                cases e9
                rw [c9]
                show some (Value.int .i64 m.fns[kc].params) = _
                rw [hk2, HLA.out]
              have ST : Hid (Below W4.heap.size W4 W4.drew) := Lib.hid dr
              obtain ⟨⟨p0, p1, m0, m1, v0, v1, v2, v3, f0, f1⟩, x0, x5, x6⟩ := HSY.out _ ST.out
              have pc := HPC.out _ ST.out
              have hk0 : decide ((kc : Int) < 0) = false := decide_eq_false (by omega)
              have hkk : ((la : Int) != (la : Int)) = false := by simp
              clear hk1 hk2 hkc hkp m0 m1 v0 v1 v2 v3 f0 f1
              go_region_held3 (fun Y => Y.cell? ⟨pb, 0, none⟩ = some (.slice A ng c) ∧ Y.cell? ⟨pb, 1, none⟩ = some (.slice (some ⟨gp, fo, none⟩) n d) ∧ Y.cell? ⟨bx, 0, none⟩ = some (.int .i64 46) ∧ Y.cell? ⟨bx, 5, none⟩ = some (.string name) ∧ Y.cell? ⟨bx, 6, none⟩ = some (.slice Bx la cx) ∧ Y.cell? ⟨gp, fo + kc * 4 + 1, none⟩ = some (.int .i64 (la : Int))) (first | with_reducible exact ⟨p0, p1, x0, x5, x6, pc⟩ | go_keep)
                (first
                | (go_at_call 27; (with_reducible refine (HFA.out _ ST.out).mono ?_); rintro e wv ⟨rfl, hBv⟩; have ST := Lib.hid (ST.out.trans (hBv.mono ST.out.size)); clear hBv; obtain ⟨⟨p0, p1, m0, m1, v0, v1, v2, v3, f0, f1⟩, x0, x5, x6⟩ := HSY.out _ ST.out; have pc := HPC.out _ ST.out; clear m0 m1 v0 v1 v2 v3 f0 f1)
                | (fail "no arm"))
              all_goals
                go_wp2_with fail
                go_roundw
                case rel => exact ⟨j + 1, by omega, by go_num, HB4.out.trans (ST.out.mono HB4.out.size)⟩
                case measure => simp [intOf]; omega
            · have k46 : (op == 46) = false := beq_eq_false_iff_ne.2 h46
              obtain ⟨_, x0, x5, x6⟩ := HSY.out _ (Below.refl _ W4)
              go_quiet (fail)
              obtain ⟨Wq, hWq⟩ : ∃ Wq, Wq = W4.drewN nq := ⟨_, rfl⟩
              rw [← hWq]
              have hbq : Below W4.heap.size W4 Wq := by rw [hWq]; exact drN
              have HBW := Lib.hid hbq
              clear hWq hbq x0 x5 x6
              obtain ⟨⟨p0, p1, m0, m1, v0, v1, v2, v3, f0, f1⟩, x0, x5, x6⟩ := HSY.out _ HBW.out
              clear p0 p1 v0 v1 v2 v3 f0 f1 x6
              rcases Int.lt_or_le op 42 with h42 | h42
              · have k42 : ¬ (42 ≤ op) := by omega
                go_wp2_with fail
                go_roundw
                case rel => exact ⟨j + 1, by omega, by go_num, HB4.out.trans (HBW.out.mono HB4.out.size)⟩
                case measure => simp [intOf]; omega
              · rcases Int.lt_or_le 45 op with h45 | h45
                · have k45 : ¬ (op ≤ 45) := by omega
                  go_wp2_with fail
                  go_roundw
                  case rel => exact ⟨j + 1, by omega, by go_num, HB4.out.trans (HBW.out.mono HB4.out.size)⟩
                  case measure => simp [intOf]; omega
                · obtain ⟨g9, hg9, hg8⟩ := HAT.out.glob h42 h45
                  dsimp only at hg8
                  have HGA : Hid (Calls Try.prog 28 #[.agg #[.slice A' ng c', .slice (some ⟨gm, om, none⟩) n d'], .string name] Wq fun e w' => e = .returned (.int .i64 (g9 : Nat)) ∧ Below Wq.heap.size Wq w') := Lib.hid (by
                    have h9 := GlobalAt_any m A' (some ⟨gm, om, none⟩) c' d' name Wq (HMD.out Wq (HY2.out Wq HBW.out))
                    rw [hg8, ← HNN.out, ← HNG.out] at h9
                    exact h9)
                  have hk0 : decide ((g9 : Int) < 0) = false := decide_eq_false (by omega)
                  clear hg8
                  go_wp2_with fail
                  refine HGA.out.mono ?_
                  rintro e wv ⟨rfl, hBv⟩
                  have HBV2 := Lib.hid (HBW.out.trans (hBv.mono HBW.out.size))
                  clear hBv m0 m1 x0 x5
                  go_wp2_with fail
                  go_roundw
                  case rel => exact ⟨j + 1, by omega, by go_num, HB4.out.trans (HBV2.out.mono HB4.out.size)⟩
                  case measure => simp [intOf]; omega
          · obtain rfl : j = nc := by omega
            go_wp2_with fail
            go_roundw
            case rel => exact ⟨k + 1, by omega, by go_num, HB3.out.trans (HBQ.out.mono HB3.out.size)⟩
            case measure => simp [intOf]; omega
    · obtain rfl : k = n := by omega
      go_wp2_with fail
      go_ret
      exact ⟨rfl, HBB.out.trans (HBR.out.mono HBB.out.size)⟩
end
end Go.Proofs.Ytnfneinonkpmeaa
