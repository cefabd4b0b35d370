/- brazierref15.Machine: the instructions of memory and input. Written by genvm.py. -/
import Derived.Test.YtnfneinonkpmeaaLv30
import Derived.Test.YtnfneinonkpmeaaLv21
namespace Go.Proofs.Ytnfneinonkpmeaa
open Go.RowKit
section
variable {E : EnvV} {s : MS} {c : Nat} {r : Option Nat} {w w' : World} {gr : Nat} {regs : List Int}
set_option maxHeartbeats 4000000 in
set_option maxRecDepth 100000 in
theorem vins_44 (hE : EnvVOk E) (h : MacV E s c r w) (hR : RegV E r gr regs w) (h0 : s.fin = 0) (d xa xb num : Int) (name : ByteArray) (args : List Int) (a b : Int) (ha : I32 a) (hb : I32 b) (hnum : I32 num) (hgg : (globAt E.m.globals name).toNat < E.m.globals.length) (Ax : Option Addr) (cx : Nat) :
    Calls Try.prog 47 #[.pointer (some ⟨E.mb, 0, none⟩), .agg #[.int .i64 44, .int .i64 d, .int .i64 xa, .int .i64 xb, .int .i32 num, .string name, .slice Ax args.length cx], .int .i32 a, .int .i32 b, .slice (some ⟨gr, 0, none⟩) regs.length regs.length] w (VInsPost E s ⟨44, d, xa, xb, num, name, args⟩ a b regs c r w) := by
  obtain ⟨w1, hw1, hb1, hlt1, hc⟩ := box_new w #[.int .i64 44, .int .i64 d, .int .i64 xa, .int .i64 xb, .int .i32 num, .string name, .slice Ax args.length cx] 61
  obtain ⟨bx, hbx⟩ : ∃ bx, bx = w.heap.size := ⟨_, rfl⟩
  have hst : VBoxS E s c r w ⟨44, d, xa, xb, num, name, args⟩ gr regs bx Ax cx w1 := ⟨hb1, h.below hb1, hR.below hb1, fun j u hu => by rw [hbx, hc j]; simpa [vinsCells] using hu⟩
  obtain ⟨mb, hmb⟩ : ∃ mb, mb = E.mb := ⟨_, rfl⟩
  have hbm : bx ≠ mb := by rw [hbx, hmb]; have := h.blt; omega
  have hbf : ¬ FootV E r bx := fun hf => by have := h.footlt hf; omega
  have hbg : bx ≠ gr := fun e => by have := hR.lt; omega
  have hfg := hR.foot
  rw [← hmb]
  have HMB := Lib.hid hmb
  have ST := Lib.hid hst
  have HW := Lib.hid hw1
  have HBX := Lib.hid hbx
  have HE := Lib.hid hE
  have H0 := Lib.hid h0
  have HAB := Lib.hid (And.intro ha (And.intro hb hnum))
  have HBF := Lib.hid hbf
  have HFG := Lib.hid hfg
  have h0 : w1.cell? ⟨bx, 0, none⟩ = some (.int .i64 44) := hst.box 0 _ rfl
  obtain ⟨g, hg⟩ : ∃ g, g = (globAt E.m.globals name).toNat := ⟨_, rfl⟩
  have HGL : Hid (∀ W, MacV E s c r W → Calls Try.prog 63 #[.agg #[.slice E.A E.m.globals.length E.c, .slice E.B E.m.fns.length E.d], .string name] W fun e w' => e = .returned (.int .i64 (g : Nat)) ∧ Below W.heap.size W w') := Lib.hid fun W hM => by
    rw [hg]; exact vGlob_any E.m E.A E.B E.c E.d name W hM.mid
  have HG := Lib.hid hg
  obtain ⟨c0, c1, _⟩ := hst.mac.cells
  have nm : w1.cell? ⟨bx, 5, none⟩ = some (.string name) := hst.box 5 _ rfl
  rw [← hmb] at c0 c1
  have HGG : Hid (g < E.m.globals.length) := Lib.hid (by rw [hg]; exact hgg)
  clear hg hgg
  clear hE h hR hb1 hlt1 hc hst hmb hw1 hbx ha hb hnum hbf hfg
  go_enter Try.func47, Try.ntmps47
  go_upto_region 1 with (fail)
  rw [← HW.out, ← HBX.out]
  go_upto_region 8 with (fail)
  have ST := Lib.hid (ST.out.next (Y' := w1.drew) dr)
  go_region_held3 (fun Y => Y.cell? ⟨mb, 0, none⟩ = some (.slice E.A E.m.globals.length E.c) ∧ Y.cell? ⟨mb, 1, none⟩ = some (.slice E.B E.m.fns.length E.d) ∧ Y.cell? ⟨bx, 5, none⟩ = some (.string name)) (first | exact ⟨c0, c1, nm⟩ | go_keep)
    (first
    | (go_at_call 63; (with_reducible refine (HGL.out _ ST.out.mac).mono ?_); rintro e wv ⟨rfl, hBv⟩; have ST := Lib.hid (ST.out.next hBv); clear hBv; obtain ⟨c0, c1, _⟩ := ST.out.mac.cells; rw [← HMB.out] at c0 c1; have nm : _ = some (Value.string name) := ST.out.box 5 _ rfl)
    | (fail "no arm"))
  all_goals
    clear c0 c1 nm h0 HGL
    have h0 := ST.out.box 0 _ rfl
    obtain ⟨gd, od, hAD, hrow⟩ := ST.out.mac.outer g (by rw [HE.out.nb]; exact HGG.out)
    obtain ⟨L, hL⟩ : ∃ L, L = (dataRow s g).length := ⟨_, rfl⟩
    have hL1 : 1 ≤ L := by rw [hL, ST.out.mac.dlen g HGG.out]; omega
    obtain ⟨_, _, c2, _, _, _, c6, _, _, hfr⟩ := ST.out.mac.cells
    rw [hAD] at c2
    rw [← HMB.out] at c2 c6 hfr
    rw [← hL] at hrow
    obtain ⟨bg, hbge⟩ : ∃ bg, bg = E.bs[g]'(by rw [HE.out.nb]; exact HGG.out) := ⟨_, rfl⟩
    rw [← hbge] at hrow
    have hwd := ST.out.mac.words g (by rw [HE.out.nb]; exact HGG.out)
    rw [← hbge] at hwd
    have hLm : L ≤ maxLen := by
      obtain ⟨_, _, _, _, _, h1, h2, _⟩ := RowAt.form hwd (by omega)
      rw [hL]; exact Nat.le_trans h1 h2
    unfold maxLen at hLm
    obtain ⟨ng, hng⟩ : ∃ ng, ng = E.m.globals.length := ⟨_, rfl⟩
    have hngm : ng ≤ maxLen := by rw [hng]; exact ST.out.mac.mid.nglobals
    unfold maxLen at hngm
    have hgn : g < ng := by rw [hng]; exact HGG.out
    rw [← hng] at c2
    have HWD := Lib.hid hwd
    have HL := Lib.hid hL
    have HBG := Lib.hid hbge
    clear hAD hL hbge hng hwd
    obtain ⟨ha1, ha2⟩ : I32 a := HAB.out.1
    by_cases hneg : a < 0
    · have HNG := Lib.hid hneg
      go_wp2_with fail
      go_ret
      rw [HMB.out]
      exact vins_end HE.out 3 (by decide) (by unfold I32; decide) ST.out.mac ST.out.below rfl fun fr K e hl => vi44n _ _ _ _ _ _ _ _ (vi_no _ _ _ _ _ _ _ _ HG.out HL.out (.inl HNG.out))
    · have hn1 : decide (a < 0) = false := by simpa using hneg
      have hge : 0 ≤ a := by omega
      by_cases hlt : a < (L : Int)
      · obtain ⟨k, rfl⟩ := Int.eq_ofNat_of_zero_le hge
        have hk : k < L := by omega
        obtain ⟨hv, hvf⟩ := wsCell HWD.out k (by rw [← HL.out]; exact hk)
        obtain ⟨v, hve⟩ : ∃ v, v = (dataRow s g).getD k 0 := ⟨_, rfl⟩
        rw [← hve] at hv
        have HVE := Lib.hid hve
        have HOK := Lib.hid (vi_ok (p := E.m) (s := s) 44 d xa xb num (k : Int) name args HG.out HL.out hge hlt)
        clear hve hneg
        go_wp2_with fail
        go_ret
        exact vins_val ST.out.mac (by rw [HVE.out]; exact getD_i32 (rowv_i32 ST.out.mac g) k) ST.out.below H0.out fun fr K e hl => by rw [vi44 _ _ _ _ _ _ _ _ HG.out HOK.out, HVE.out]; rfl
      · have hle : (L : Int) ≤ a := by omega
        have HLE := Lib.hid hle
        go_wp2_with fail
        go_ret
        rw [HMB.out]
        exact vins_end HE.out 3 (by decide) (by unfold I32; decide) ST.out.mac ST.out.below rfl fun fr K e hl => vi44n _ _ _ _ _ _ _ _ (vi_no _ _ _ _ _ _ _ _ HG.out HL.out (.inr HLE.out))
set_option maxHeartbeats 4000000 in
set_option maxRecDepth 100000 in
theorem vins_45 (hE : EnvVOk E) (h : MacV E s c r w) (hR : RegV E r gr regs w) (h0 : s.fin = 0) (d xa xb num : Int) (name : ByteArray) (args : List Int) (a b : Int) (ha : I32 a) (hb : I32 b) (hnum : I32 num) (hgg : (globAt E.m.globals name).toNat < E.m.globals.length) (Ax : Option Addr) (cx : Nat) :
    Calls Try.prog 47 #[.pointer (some ⟨E.mb, 0, none⟩), .agg #[.int .i64 45, .int .i64 d, .int .i64 xa, .int .i64 xb, .int .i32 num, .string name, .slice Ax args.length cx], .int .i32 a, .int .i32 b, .slice (some ⟨gr, 0, none⟩) regs.length regs.length] w (VInsPost E s ⟨45, d, xa, xb, num, name, args⟩ a b regs c r w) := by
  obtain ⟨w1, hw1, hb1, hlt1, hc⟩ := box_new w #[.int .i64 45, .int .i64 d, .int .i64 xa, .int .i64 xb, .int .i32 num, .string name, .slice Ax args.length cx] 61
  obtain ⟨bx, hbx⟩ : ∃ bx, bx = w.heap.size := ⟨_, rfl⟩
  have hst : VBoxS E s c r w ⟨45, d, xa, xb, num, name, args⟩ gr regs bx Ax cx w1 := ⟨hb1, h.below hb1, hR.below hb1, fun j u hu => by rw [hbx, hc j]; simpa [vinsCells] using hu⟩
  obtain ⟨mb, hmb⟩ : ∃ mb, mb = E.mb := ⟨_, rfl⟩
  have hbm : bx ≠ mb := by rw [hbx, hmb]; have := h.blt; omega
  have hbf : ¬ FootV E r bx := fun hf => by have := h.footlt hf; omega
  have hbg : bx ≠ gr := fun e => by have := hR.lt; omega
  have hfg := hR.foot
  rw [← hmb]
  have HMB := Lib.hid hmb
  have ST := Lib.hid hst
  have HW := Lib.hid hw1
  have HBX := Lib.hid hbx
  have HE := Lib.hid hE
  have H0 := Lib.hid h0
  have HAB := Lib.hid (And.intro ha (And.intro hb hnum))
  have HBF := Lib.hid hbf
  have HFG := Lib.hid hfg
  have h0 : w1.cell? ⟨bx, 0, none⟩ = some (.int .i64 45) := hst.box 0 _ rfl
  obtain ⟨g, hg⟩ : ∃ g, g = (globAt E.m.globals name).toNat := ⟨_, rfl⟩
  have HGL : Hid (∀ W, MacV E s c r W → Calls Try.prog 63 #[.agg #[.slice E.A E.m.globals.length E.c, .slice E.B E.m.fns.length E.d], .string name] W fun e w' => e = .returned (.int .i64 (g : Nat)) ∧ Below W.heap.size W w') := Lib.hid fun W hM => by
    rw [hg]; exact vGlob_any E.m E.A E.B E.c E.d name W hM.mid
  have HG := Lib.hid hg
  obtain ⟨c0, c1, _⟩ := hst.mac.cells
  have nm : w1.cell? ⟨bx, 5, none⟩ = some (.string name) := hst.box 5 _ rfl
  rw [← hmb] at c0 c1
  have HGG : Hid (g < E.m.globals.length) := Lib.hid (by rw [hg]; exact hgg)
  clear hg hgg
  clear hE h hR hb1 hlt1 hc hst hmb hw1 hbx ha hb hnum hbf hfg
  go_enter Try.func47, Try.ntmps47
  go_upto_region 1 with (fail)
  rw [← HW.out, ← HBX.out]
  go_upto_region 8 with (fail)
  have ST := Lib.hid (ST.out.next (Y' := w1.drew) dr)
  go_region_held3 (fun Y => Y.cell? ⟨mb, 0, none⟩ = some (.slice E.A E.m.globals.length E.c) ∧ Y.cell? ⟨mb, 1, none⟩ = some (.slice E.B E.m.fns.length E.d) ∧ Y.cell? ⟨bx, 5, none⟩ = some (.string name)) (first | exact ⟨c0, c1, nm⟩ | go_keep)
    (first
    | (go_at_call 63; (with_reducible refine (HGL.out _ ST.out.mac).mono ?_); rintro e wv ⟨rfl, hBv⟩; have ST := Lib.hid (ST.out.next hBv); clear hBv; obtain ⟨c0, c1, _⟩ := ST.out.mac.cells; rw [← HMB.out] at c0 c1; have nm : _ = some (Value.string name) := ST.out.box 5 _ rfl)
    | (fail "no arm"))
  all_goals
    clear c0 c1 nm h0 HGL
    have h0 := ST.out.box 0 _ rfl
    obtain ⟨gd, od, hAD, hrow⟩ := ST.out.mac.outer g (by rw [HE.out.nb]; exact HGG.out)
    obtain ⟨L, hL⟩ : ∃ L, L = (dataRow s g).length := ⟨_, rfl⟩
    have hL1 : 1 ≤ L := by rw [hL, ST.out.mac.dlen g HGG.out]; omega
    obtain ⟨_, _, c2, _, _, _, c6, _, _, hfr⟩ := ST.out.mac.cells
    rw [hAD] at c2
    rw [← HMB.out] at c2 c6 hfr
    rw [← hL] at hrow
    obtain ⟨bg, hbge⟩ : ∃ bg, bg = E.bs[g]'(by rw [HE.out.nb]; exact HGG.out) := ⟨_, rfl⟩
    rw [← hbge] at hrow
    have hwd := ST.out.mac.words g (by rw [HE.out.nb]; exact HGG.out)
    rw [← hbge] at hwd
    have hLm : L ≤ maxLen := by
      obtain ⟨_, _, _, _, _, h1, h2, _⟩ := RowAt.form hwd (by omega)
      rw [hL]; exact Nat.le_trans h1 h2
    unfold maxLen at hLm
    obtain ⟨ng, hng⟩ : ∃ ng, ng = E.m.globals.length := ⟨_, rfl⟩
    have hngm : ng ≤ maxLen := by rw [hng]; exact ST.out.mac.mid.nglobals
    unfold maxLen at hngm
    have hgn : g < ng := by rw [hng]; exact HGG.out
    rw [← hng] at c2
    have HWD := Lib.hid hwd
    have HL := Lib.hid hL
    have HBG := Lib.hid hbge
    clear hAD hL hbge hng hwd
    obtain ⟨ha1, ha2⟩ : I32 a := HAB.out.1
    by_cases hneg : a < 0
    · have HNG := Lib.hid hneg
      go_wp2_with fail
      go_ret
      rw [HMB.out]
      exact vins_end HE.out 3 (by decide) (by unfold I32; decide) ST.out.mac ST.out.below rfl fun fr K e hl => vi45n _ _ _ _ _ _ _ _ (vi_no _ _ _ _ _ _ _ _ HG.out HL.out (.inl HNG.out))
    · have hn1 : decide (a < 0) = false := by simpa using hneg
      have hge : 0 ≤ a := by omega
      by_cases hlt : a < (L : Int)
      · obtain ⟨k, rfl⟩ := Int.eq_ofNat_of_zero_le hge
        have hk : k < L := by omega
        obtain ⟨hv, hvf⟩ := wsCell HWD.out k (by rw [← HL.out]; exact hk)
        obtain ⟨v, hve⟩ : ∃ v, v = (dataRow s g).getD k 0 := ⟨_, rfl⟩
        rw [← hve] at hv
        have HVE := Lib.hid hve
        have HOK := Lib.hid (vi_ok (p := E.m) (s := s) 45 d xa xb num (k : Int) name args HG.out HL.out hge hlt)
        clear hve hneg
        go_wp2_with fail
        go_ret
        have hm := ST.out.mac.word HE.out g (by rw [HE.out.nb]; exact HGG.out) k (by rw [← HL.out]; exact hk) b HAB.out.2.1
        rw [← HBG.out] at hm
        refine vins_st hm (by unfold I32; decide) ((Chg.of_below ST.out.below _).setCell ⟨bg, k, none⟩ (fun _ => .inr (.inl (by rw [HBG.out]; exact List.getElem_mem _))) _) H0.out fun fr K e hl => ?_
        rw [vi45 _ _ _ _ _ _ _ _ HG.out HOK.out]; rfl
      · have hle : (L : Int) ≤ a := by omega
        have HLE := Lib.hid hle
        go_wp2_with fail
        go_ret
        rw [HMB.out]
        exact vins_end HE.out 3 (by decide) (by unfold I32; decide) ST.out.mac ST.out.below rfl fun fr K e hl => vi45n _ _ _ _ _ _ _ _ (vi_no _ _ _ _ _ _ _ _ HG.out HL.out (.inr HLE.out))
set_option maxHeartbeats 4000000 in
set_option maxRecDepth 100000 in
theorem vins_47 (hE : EnvVOk E) (h : MacV E s c r w) (hR : RegV E r gr regs w) (h0 : s.fin = 0) (d xa xb num : Int) (name : ByteArray) (args : List Int) (a b : Int) (ha : I32 a) (hb : I32 b) (hnum : I32 num) (Ax : Option Addr) (cx : Nat) :
    Calls Try.prog 47 #[.pointer (some ⟨E.mb, 0, none⟩), .agg #[.int .i64 47, .int .i64 d, .int .i64 xa, .int .i64 xb, .int .i32 num, .string name, .slice Ax args.length cx], .int .i32 a, .int .i32 b, .slice (some ⟨gr, 0, none⟩) regs.length regs.length] w (VInsPost E s ⟨47, d, xa, xb, num, name, args⟩ a b regs c r w) := by
  obtain ⟨w1, hw1, hb1, hlt1, hc⟩ := box_new w #[.int .i64 47, .int .i64 d, .int .i64 xa, .int .i64 xb, .int .i32 num, .string name, .slice Ax args.length cx] 61
  obtain ⟨bx, hbx⟩ : ∃ bx, bx = w.heap.size := ⟨_, rfl⟩
  have hst : VBoxS E s c r w ⟨47, d, xa, xb, num, name, args⟩ gr regs bx Ax cx w1 := ⟨hb1, h.below hb1, hR.below hb1, fun j u hu => by rw [hbx, hc j]; simpa [vinsCells] using hu⟩
  obtain ⟨mb, hmb⟩ : ∃ mb, mb = E.mb := ⟨_, rfl⟩
  have hbm : bx ≠ mb := by rw [hbx, hmb]; have := h.blt; omega
  have hbf : ¬ FootV E r bx := fun hf => by have := h.footlt hf; omega
  have hbg : bx ≠ gr := fun e => by have := hR.lt; omega
  have hfg := hR.foot
  rw [← hmb]
  have HMB := Lib.hid hmb
  have ST := Lib.hid hst
  have HW := Lib.hid hw1
  have HBX := Lib.hid hbx
  have HE := Lib.hid hE
  have H0 := Lib.hid h0
  have HAB := Lib.hid (And.intro ha (And.intro hb hnum))
  have HBF := Lib.hid hbf
  have HFG := Lib.hid hfg
  have h0 : w1.cell? ⟨bx, 0, none⟩ = some (.int .i64 47) := hst.box 0 _ rfl
  obtain ⟨g, hg⟩ : ∃ g, g = (globAt E.m.globals name).toNat := ⟨_, rfl⟩
  have HGL : Hid (∀ W, MacV E s c r W → Calls Try.prog 63 #[.agg #[.slice E.A E.m.globals.length E.c, .slice E.B E.m.fns.length E.d], .string name] W fun e w' => e = .returned (.int .i64 (g : Nat)) ∧ Below W.heap.size W w') := Lib.hid fun W hM => by
    rw [hg]; exact vGlob_any E.m E.A E.B E.c E.d name W hM.mid
  have HG := Lib.hid hg
  obtain ⟨c0, c1, _⟩ := hst.mac.cells
  have nm : w1.cell? ⟨bx, 5, none⟩ = some (.string name) := hst.box 5 _ rfl
  rw [← hmb] at c0 c1
  clear hg
  clear hE h hR hb1 hlt1 hc hst hmb hw1 hbx ha hb hnum hbf hfg
  go_enter Try.func47, Try.ntmps47
  go_upto_region 1 with (fail)
  rw [← HW.out, ← HBX.out]
  go_upto_region 8 with (fail)
  have ST := Lib.hid (ST.out.next (Y' := w1.drew) dr)
  go_region_held3 (fun Y => Y.cell? ⟨mb, 0, none⟩ = some (.slice E.A E.m.globals.length E.c) ∧ Y.cell? ⟨mb, 1, none⟩ = some (.slice E.B E.m.fns.length E.d) ∧ Y.cell? ⟨bx, 5, none⟩ = some (.string name)) (first | exact ⟨c0, c1, nm⟩ | go_keep)
    (first
    | (go_at_call 63; (with_reducible refine (HGL.out _ ST.out.mac).mono ?_); rintro e wv ⟨rfl, hBv⟩; have ST := Lib.hid (ST.out.next hBv); clear hBv; obtain ⟨c0, c1, _⟩ := ST.out.mac.cells; rw [← HMB.out] at c0 c1; have nm : _ = some (Value.string name) := ST.out.box 5 _ rfl)
    | (fail "no arm"))
  all_goals
    clear c0 c1 nm h0 HGL
    have h0 := ST.out.box 0 _ rfl
    obtain ⟨_, _, _, m3, _, _, _, _, m10, mf⟩ := ST.out.mac.cells
    rw [← HMB.out] at m3 m10 mf
    obtain ⟨n, hn⟩ : ∃ n, n = s.reads := ⟨_, rfl⟩
    obtain ⟨li, hli⟩ : ∃ li, li = E.inp.length := ⟨_, rfl⟩
    have hlm : li ≤ 9223372036854775807 := by have := HE.out.inpL; unfold maxLen at this; omega
    rw [← hn] at m10
    rw [← hli] at m3
    have HN := Lib.hid hn
    have HLI := Lib.hid hli
    clear hn hli
    by_cases hlt : n < li
    · have HLT := Lib.hid hlt
      obtain ⟨gi, oi, hAi, hgb, hgs, hcell⟩ := ST.out.mac.inp (by rw [i32s_len, ← HLI.out]; omega)
      rw [hAi] at m3
      have hlx : n < E.inp.length := by rw [← HLI.out]; exact hlt
      have hiv := hcell n (.int .i32 (E.inp.getD n 0)) (by simp [i32s, List.getD, hlx])
      obtain ⟨v, hve⟩ : ∃ v, v = E.inp.getD n 0 := ⟨_, rfl⟩
      rw [← hve] at hiv
      have hgim : gi ≠ mb := fun e => by have := HE.out.base; have := HMB.out; omega
      have HVE := Lib.hid hve
      have hAi2 := Lib.hid hAi
      clear hcell hAi hgb hve
      go_upto_region 35 with (fail)
      go_quiet (fail)
      obtain ⟨Wq, hWq⟩ : ∃ Wq, Wq = wv.drewN nq := ⟨_, rfl⟩
      rw [← hWq]
      have hbq : Below wv.heap.size wv Wq := by rw [hWq]; exact drN
      have ST := Lib.hid (ST.out.next hbq)
      have m3 : Wq.cell? ⟨mb, 3, none⟩ = some (.slice (some ⟨gi, oi, none⟩) li E.ci) := by rw [hWq]; exact m3
      have m10 : Wq.cell? ⟨mb, 10, none⟩ = some (.int .i64 n) := by rw [hWq]; exact m10
      have hiv : Wq.cell? ⟨gi, oi + n, none⟩ = some (.int .i32 v) := by rw [hWq]; exact hiv
      have mf : ∀ j, Wq.frozen? ⟨mb, j, none⟩ = false := fun j => by rw [hWq]; exact mf j
      clear hWq hbq
      go_upto_region 37 with (fail)
      obtain ⟨W3, hW3⟩ : ∃ W3, W3 = Wq.setCell ⟨mb, 10, none⟩ (.int .i64 ((n : Int) + 1)) := ⟨_, rfl⟩
      rw [← hW3]
      have hM3 : MacV E { s with reads := s.reads + 1 } c r W3 := by
        rw [hW3, HMB.out, HN.out]
        exact ST.out.mac.own HE.out 10 _ { s with reads := s.reads + 1 } c rfl rfl ⟨Nat.le_refl _, ST.out.mac.sl⟩ (by have := HN.out; have := HLI.out; show s.reads + 1 ≤ _; omega) ST.out.mac.cl fun vT => by simp
      have hC3 : Chg (FootV E r) w W3 := by rw [hW3]; exact (Chg.of_below ST.out.below _).setCell ⟨mb, 10, none⟩ (fun _ => .inl HMB.out) _
      have hiv3 : W3.cell? ⟨gi, oi + n, none⟩ = some (.int .i32 v) := by
        rw [hW3]
        exact (Chg.store Wq mb 10 (.int .i64 ((n : Int) + 1))).cell (p := ⟨gi, oi + n, none⟩) hiv hgim
      have m33 : W3.cell? ⟨mb, 3, none⟩ = some (.slice (some ⟨gi, oi, none⟩) li E.ci) := by
        have := hM3.cells.2.2.2.1
        rw [← HMB.out, ← HLI.out, hAi2.out] at this; exact this
      have m103 : W3.cell? ⟨mb, 10, none⟩ = some (.int .i64 ((n : Int) + 1)) := by
        have := hM3.cells.2.2.2.2.2.2.2.2.1
        rw [← HMB.out] at this
        rw [this, HN.out]; simp
      have HM3 := Lib.hid hM3
      have HC3 := Lib.hid hC3
      clear hW3 hM3 hC3 m3 m10 hiv h0 mf hgim
      go_quiet (fail)
      go_wp2_with fail
      go_ret
      refine vins_st (HM3.out.drewN nq) (by rw [HVE.out]; exact getD_i32 HE.out.inpW n) (HC3.out.trans (Chg.of_below drN (fun _ => False)) fun _ _ h => h.elim) H0.out fun fr K e hl => ?_
      rw [vi47, if_pos (by rw [← HN.out, ← HLI.out]; exact HLT.out), HVE.out, HN.out]
    · have HLT := Lib.hid hlt
      go_upto_region 35 with (fail)
      go_quiet (fail)
      go_wp2_with fail
      go_ret
      exact vins_val (ST.out.mac.drewN nq) (by unfold I32; decide) (ST.out.below.trans (drN.mono ST.out.below.size)) H0.out fun fr K e hl => by
        rw [vi47, if_neg (by rw [← HN.out, ← HLI.out]; exact HLT.out)]
end
end Go.Proofs.Ytnfneinonkpmeaa
namespace Go.Proofs.Ytnfneinonkpmeaa
open Go.RowKit
def CallPostV (E : EnvV) (s : MS) (f : VFn) (vals : List Int) (c : Nat) (r : Option Nat) (w : World) (e : Ending) (w' : World) : Prop :=
  ∃ (v : Int) (s' : MS) (r' : Option Nat) (c' : Nat), e = .returned (.int .i32 v) ∧ I32 v ∧ Chg (FootV E r) w w' ∧ MacV E s' c' r' w' ∧ NewOr w r r' ∧
  ((s'.fin = 0 ∧ c' = c ∧ ∀ K dst, K.length = c → ReachVE E (s, vEntry f vals dst :: K) (retV dst v s' K)) ∨
    (s'.fin ≠ 0 ∧ ∀ K dst, K.length = c → ∃ K', ReachVE E (s, vEntry f vals dst :: K) (s', K')))
/-- What is asked of a call. -/
structure CallInV (E : EnvV) (s : MS) (c : Nat) (r : Option Nat) (w : World) (name : ByteArray) (f : VFn) (vals : List Int) (Aa : Option Addr) : Prop where
  mac : MacV E s c r w
  fin : s.fin = 0
  fn : ∃ (k : Nat) (h : k < E.m.fns.length), vfnAt E.m.fns name = k ∧ f = E.m.fns[k]
  par : f.params = vals.length
  bd : ∀ z ∈ vals, I32 z
  rd : ReadsAt w Aa (i32s vals)
  ap : ∀ g off, Aa = some ⟨g, off, none⟩ → ¬ FootV E r g
def CallCV (E : EnvV) (c : Nat) : Prop := ∀ (s : MS) (r : Option Nat) (w : World) (name : ByteArray) (f : VFn) (vals : List Int) (Aa : Option Addr) (ca : Nat), CallInV E s c r w name f vals Aa →
  Calls Try.prog 30 #[.pointer (some ⟨E.mb, 0, none⟩), .string name, .slice Aa vals.length ca] w (CallPostV E s f vals c r w)
/-- Too deep: the run ends. -/
def DeepV (E : EnvV) (s : MS) (c : Nat) (r : Option Nat) (w : World) (e : Ending) (w' : World) : Prop := e = .returned (.int .i32 0) ∧ MacV E (s.ended 4) c r w' ∧ Chg (fun k => k = E.mb) w w'
section
variable {E : EnvV} {s : MS} {c : Nat} {r : Option Nat} {w w' : World} {gr : Nat} {regs : List Int}
set_option maxHeartbeats 4000000 in
set_option maxRecDepth 100000 in
theorem callv_deep (hE : EnvVOk E) (h : MacV E s 32 r w) (name : ByteArray) (Aa : Option Addr) (n ca : Nat) :
    Calls Try.prog 30 #[.pointer (some ⟨E.mb, 0, none⟩), .string name, .slice Aa n ca] w (DeepV E s 32 r w) := by
  obtain ⟨_, _, _, _, _, m5, m6, _, _, mf⟩ := h.cells
  have HE := Lib.hid hE
  have HM := Lib.hid h
  clear h hE
  go_enter Try.func30, Try.ntmps30
  go_wp2_with fail
  go_ret
  exact ⟨rfl, HM.out.own HE.out 6 _ (s.ended 4) 32 rfl rfl ⟨Nat.le_refl _, HM.out.sl⟩ HM.out.rl HM.out.cl fun vT => by simp [MS.ended], Chg.store w E.mb 6 _⟩
theorem vnamed {m : VProg} {name : ByteArray} {f : VFn} {k : Nat} (h : k < m.fns.length) (h1 : vfnAt m.fns name = k) (h2 : f = m.fns[k]) : vNamed m name = f := by
  unfold vNamed
  rw [h1, h2]
  simp [List.getD, h]
theorem midv (hE : EnvVOk E) (hC : c < 32 → CallCV E c) {d xa xb num a b : Int} {name : ByteArray} {args vals : List Int} {f : VFn} {Aa : Option Addr} (h : CallInV E s c r w name f vals Aa) (hv : vals = args.map (getR regs)) (ca : Nat) :
    Calls Try.prog 30 #[.pointer (some ⟨E.mb, 0, none⟩), .string name, .slice Aa vals.length ca] w (VInsPost E s ⟨46, d, xa, xb, num, name, args⟩ a b regs c r w) := by
  by_cases hc : c = 32
  · subst hc
    refine (callv_deep hE h.mac name Aa vals.length ca).mono ?_
    rintro e w' ⟨rfl, hm, hch⟩
    refine ⟨0, s.ended 4, r, 32, rfl, by unfold I32; simp, hch.mono fun _ _ e => .inl e, hm, NewOr.refl _ _, .inr ⟨by simp [MS.ended], fun fr K e hl => ⟨fr :: K, ?_⟩⟩⟩
    rw [vi46, if_pos hl]
    exact ReachV.refl _
  · have hcl := h.mac.cl
    refine (hC (by omega) s r w name f vals Aa ca h).mono ?_
    rintro e w' ⟨v, s', r', c', rfl, hv', hch, hm, hn, hf⟩
    obtain ⟨k, hk, h1, h2⟩ := h.fn
    have ee : ∀ fr K, fr.regs = regs → K.length + 1 = c → vIns E.m E.inp ⟨46, d, xa, xb, num, name, args⟩ a b s fr K = (s, vEntry f vals d :: fr :: K) := fun fr K e hl => by
      rw [vi46, if_neg (by omega), vnamed hk h1 h2, e, hv]
    refine ⟨v, s', r', c', rfl, hv', hch, hm, hn, ?_⟩
    rcases hf with ⟨f1, f2, f3⟩ | ⟨f1, f3⟩
    · refine .inl ⟨f1, f2, fun fr K e hl => ?_⟩
      rw [ee fr K e hl]
      exact f3 (fr :: K) d (by simpa using hl)
    · refine .inr ⟨f1, fun fr K e hl => ?_⟩
      rw [ee fr K e hl]
      exact f3 (fr :: K) d (by simpa using hl)
set_option maxHeartbeats 4000000 in
set_option maxRecDepth 100000 in
theorem vins_48 (hE : EnvVOk E) (h : MacV E s c r w) (hR : RegV E r gr regs w) (h0 : s.fin = 0) (d xa xb num : Int) (name : ByteArray) (args : List Int) (a b : Int) (ha : I32 a) (hb : I32 b) (hnum : I32 num) (htl : s.trace.length + 1 ≤ s.steps) (Ax : Option Addr) (cx : Nat) :
    Calls Try.prog 47 #[.pointer (some ⟨E.mb, 0, none⟩), .agg #[.int .i64 48, .int .i64 d, .int .i64 xa, .int .i64 xb, .int .i32 num, .string name, .slice Ax args.length cx], .int .i32 a, .int .i32 b, .slice (some ⟨gr, 0, none⟩) regs.length regs.length] w (VInsPost E s ⟨48, d, xa, xb, num, name, args⟩ a b regs c r w) := by
  obtain ⟨w1, hw1, hb1, hlt1, hc⟩ := box_new w #[.int .i64 48, .int .i64 d, .int .i64 xa, .int .i64 xb, .int .i32 num, .string name, .slice Ax args.length cx] 61
  obtain ⟨bx, hbx⟩ : ∃ bx, bx = w.heap.size := ⟨_, rfl⟩
  have hst : VBoxS E s c r w ⟨48, d, xa, xb, num, name, args⟩ gr regs bx Ax cx w1 := ⟨hb1, h.below hb1, hR.below hb1, fun j u hu => by rw [hbx, hc j]; simpa [vinsCells] using hu⟩
  obtain ⟨mb, hmb⟩ : ∃ mb, mb = E.mb := ⟨_, rfl⟩
  have hbm : bx ≠ mb := by rw [hbx, hmb]; have := h.blt; omega
  have hbf : ¬ FootV E r bx := fun hf => by have := h.footlt hf; omega
  have hbg : bx ≠ gr := fun e => by have := hR.lt; omega
  have hfg := hR.foot
  rw [← hmb]
  have HMB := Lib.hid hmb
  have ST := Lib.hid hst
  have HW := Lib.hid hw1
  have HBX := Lib.hid hbx
  have HE := Lib.hid hE
  have H0 := Lib.hid h0
  have HAB := Lib.hid (And.intro ha (And.intro hb hnum))
  have HBF := Lib.hid hbf
  have HFG := Lib.hid hfg
  have h0 : w1.cell? ⟨bx, 0, none⟩ = some (.int .i64 48) := hst.box 0 _ rfl
  obtain ⟨g, hg⟩ : ∃ g, g = (globAt E.m.globals name).toNat := ⟨_, rfl⟩
  have HGL : Hid (∀ W, MacV E s c r W → Calls Try.prog 63 #[.agg #[.slice E.A E.m.globals.length E.c, .slice E.B E.m.fns.length E.d], .string name] W fun e w' => e = .returned (.int .i64 (g : Nat)) ∧ Below W.heap.size W w') := Lib.hid fun W hM => by
    rw [hg]; exact vGlob_any E.m E.A E.B E.c E.d name W hM.mid
  have HG := Lib.hid hg
  obtain ⟨c0, c1, _⟩ := hst.mac.cells
  have nm : w1.cell? ⟨bx, 5, none⟩ = some (.string name) := hst.box 5 _ rfl
  rw [← hmb] at c0 c1
  clear hg
  have HTL := Lib.hid htl
  clear htl
  clear hE h hR hb1 hlt1 hc hst hmb hw1 hbx ha hb hnum hbf hfg
  go_enter Try.func47, Try.ntmps47
  go_upto_region 1 with (fail)
  rw [← HW.out, ← HBX.out]
  go_upto_region 8 with (fail)
  have ST := Lib.hid (ST.out.next (Y' := w1.drew) dr)
  go_region_held3 (fun Y => Y.cell? ⟨mb, 0, none⟩ = some (.slice E.A E.m.globals.length E.c) ∧ Y.cell? ⟨mb, 1, none⟩ = some (.slice E.B E.m.fns.length E.d) ∧ Y.cell? ⟨bx, 5, none⟩ = some (.string name)) (first | exact ⟨c0, c1, nm⟩ | go_keep)
    (first
    | (go_at_call 63; (with_reducible refine (HGL.out _ ST.out.mac).mono ?_); rintro e wv ⟨rfl, hBv⟩; have ST := Lib.hid (ST.out.next hBv); clear hBv; obtain ⟨c0, c1, _⟩ := ST.out.mac.cells; rw [← HMB.out] at c0 c1; have nm : _ = some (Value.string name) := ST.out.box 5 _ rfl)
    | (fail "no arm"))
  all_goals
    clear c0 c1 nm h0 HGL
    have h0 := ST.out.box 0 _ rfl
    obtain ⟨vT, hob, htr⟩ := ST.out.mac.obj
    obtain ⟨At, ct, rfl, hnm⟩ := htr.shape
    have m8 := cell_of_row wv E.mb 8 _ _ _ hob
    simp only [List.getElem?_toArray, List.getElem?_cons_succ, List.getElem?_cons_zero] at m8
    have mf := fun j => frozen_of_row wv E.mb j _ _ hob
    obtain ⟨nt, hnt⟩ : ∃ nt, nt = s.trace.length := ⟨_, rfl⟩
    rw [← hnt] at m8 htr
    rw [← HMB.out] at m8 mf
    have hntl : nt ≤ 100000 := by have := ST.out.mac.sl; have := ST.out.mac.tl; omega
    have HOB := Lib.hid hob
    have HTR := Lib.hid htr
    have HNT := Lib.hid hnt
    clear hob htr hnt hnm
    go_wp2_with (at_builtin; refine wpList_append_one _ rfl (.tmp 197) (.tmp 199) 36 21 (.int .i32 0) 4 rfl Try.underlying36 info_i32 rfl HTR.out (.int .i32 a) rfl rfl rfl (by omega) (by unfold maxLen; omega) ?_; intro v' r' W3 hR3 hC3 hN3; obtain ⟨A3, c3, rfl, _⟩ := hR3.shape; have ho3 := hC3.heap HOB.out (fun e => (ST.out.mac.tr _ e.symm).2.1 rfl); have y8f := fun j => frozen_of_row W3 E.mb j _ _ ho3; have y8 := cell_of_row W3 E.mb 8 _ _ _ ho3; simp only [List.getElem?_toArray, List.getElem?_cons_succ, List.getElem?_cons_zero] at y8; rw [← HMB.out] at y8f y8; have HO3 := Lib.hid ho3; have HR3 := Lib.hid hR3; have HC3 := Lib.hid hC3; have HN3 := Lib.hid hN3; clear hR3 hC3 hN3 ho3 m8 mf h0)
    go_ret
    have hmac := ST.out.mac.traced HE.out HC3.out HO3.out (by rw [← HNT.out]; exact HR3.out) HN3.out HAB.out.1 HTL.out
    rw [← HMB.out] at hmac
    refine ⟨0, { s with trace := s.trace ++ [a] }, r', c, rfl, by unfold I32; decide, ?_, hmac, HN3.out.mono ST.out.below.size, .inl ⟨H0.out, rfl, fun fr K e hl => ?_⟩⟩
    · exact ((Chg.of_below ST.out.below _).trans HC3.out fun _ _ e => .inr (.inr e)).setCell ⟨mb, 8, none⟩ (fun _ => .inl HMB.out) _
    · rw [vi48]; exact ReachV.refl _
set_option maxHeartbeats 4000000 in
set_option maxRecDepth 100000 in
theorem vins_46 (hE : EnvVOk E) (h : MacV E s c r w) (hR : RegV E r gr regs w) (h0 : s.fin = 0) (d xa xb num : Int) (name : ByteArray) (args : List Int) (a b : Int) (ha : I32 a) (hb : I32 b) (hnum : I32 num) (hC : c < 32 → CallCV E c) (f : VFn) (kf : Nat) (hkf : kf < E.m.fns.length) (hfn : vfnAt E.m.fns name = kf) (hf : f = E.m.fns[kf]) (hpar : f.params = args.length) (hl : args.length ≤ 8) (har : ∀ z ∈ args, 0 ≤ z ∧ z < regs.length) (Ax : Option Addr) (cx : Nat) (hx : ReadsAt w Ax (ints args)) :
    Calls Try.prog 47 #[.pointer (some ⟨E.mb, 0, none⟩), .agg #[.int .i64 46, .int .i64 d, .int .i64 xa, .int .i64 xb, .int .i32 num, .string name, .slice Ax args.length cx], .int .i32 a, .int .i32 b, .slice (some ⟨gr, 0, none⟩) regs.length regs.length] w (VInsPost E s ⟨46, d, xa, xb, num, name, args⟩ a b regs c r w) := by
  obtain ⟨w1, hw1, hb1, hlt1, hc⟩ := box_new w #[.int .i64 46, .int .i64 d, .int .i64 xa, .int .i64 xb, .int .i32 num, .string name, .slice Ax args.length cx] 61
  obtain ⟨bx, hbx⟩ : ∃ bx, bx = w.heap.size := ⟨_, rfl⟩
  have hst : VBoxS E s c r w ⟨46, d, xa, xb, num, name, args⟩ gr regs bx Ax cx w1 := ⟨hb1, h.below hb1, hR.below hb1, fun j u hu => by rw [hbx, hc j]; simpa [vinsCells] using hu⟩
  obtain ⟨mb, hmb⟩ : ∃ mb, mb = E.mb := ⟨_, rfl⟩
  have hbm : bx ≠ mb := by rw [hbx, hmb]; have := h.blt; omega
  have hbf : ¬ FootV E r bx := fun hf => by have := h.footlt hf; omega
  have hbg : bx ≠ gr := fun e => by have := hR.lt; omega
  have hfg := hR.foot
  rw [← hmb]
  have HMB := Lib.hid hmb
  have ST := Lib.hid hst
  have HW := Lib.hid hw1
  have HBX := Lib.hid hbx
  have HE := Lib.hid hE
  have H0 := Lib.hid h0
  have HAB := Lib.hid (And.intro ha (And.intro hb hnum))
  have HBF := Lib.hid hbf
  have HFG := Lib.hid hfg
  have h0 : w1.cell? ⟨bx, 0, none⟩ = some (.int .i64 46) := hst.box 0 _ rfl
  obtain ⟨g, hg⟩ : ∃ g, g = (globAt E.m.globals name).toNat := ⟨_, rfl⟩
  have HGL : Hid (∀ W, MacV E s c r W → Calls Try.prog 63 #[.agg #[.slice E.A E.m.globals.length E.c, .slice E.B E.m.fns.length E.d], .string name] W fun e w' => e = .returned (.int .i64 (g : Nat)) ∧ Below W.heap.size W w') := Lib.hid fun W hM => by
    rw [hg]; exact vGlob_any E.m E.A E.B E.c E.d name W hM.mid
  have HG := Lib.hid hg
  obtain ⟨c0, c1, _⟩ := hst.mac.cells
  have nm : w1.cell? ⟨bx, 5, none⟩ = some (.string name) := hst.box 5 _ rfl
  rw [← hmb] at c0 c1
  clear hg
  have HF := Lib.hid (And.intro hfn (And.intro hf hpar))
  have HC := Lib.hid hC
  have HA := Lib.hid har
  have HX := Lib.hid (readsBelow7 hx hb1)
  clear hfn hf hpar hC har hx
  clear hE h hR hb1 hlt1 hc hst hmb hw1 hbx ha hb hnum hbf hfg
  go_enter Try.func47, Try.ntmps47
  go_upto_region 1 with (fail)
  rw [← HW.out, ← HBX.out]
  go_upto_region 8 with (fail)
  have ST := Lib.hid (ST.out.next (Y' := w1.drew) dr)
  have HX := Lib.hid (readsBelow7 HX.out (dr (w := w1)))
  go_region_held3 (fun Y => Y.cell? ⟨mb, 0, none⟩ = some (.slice E.A E.m.globals.length E.c) ∧ Y.cell? ⟨mb, 1, none⟩ = some (.slice E.B E.m.fns.length E.d) ∧ Y.cell? ⟨bx, 5, none⟩ = some (.string name)) (first | exact ⟨c0, c1, nm⟩ | go_keep)
    (first
    | (go_at_call 63; (with_reducible refine (HGL.out _ ST.out.mac).mono ?_); rintro e wv ⟨rfl, hBv⟩; have ST := Lib.hid (ST.out.next hBv); have HX := Lib.hid (readsBelow7 HX.out hBv); clear hBv; obtain ⟨c0, c1, _⟩ := ST.out.mac.cells; rw [← HMB.out] at c0 c1; have nm : _ = some (Value.string name) := ST.out.box 5 _ rfl)
    | (fail "no arm"))
  all_goals
    clear c0 c1 nm h0 HGL
    have h0 := ST.out.box 0 _ rfl
    have x6 := ST.out.box 6 _ rfl
    go_upto_region 29 with (fail)
    have hBl : Below wv.heap.size wv wv := Below.refl _ _
    go_loopw [14, 139] (fun v i wr => ∃ (k : Nat), k ≤ args.length ∧ i = .int .i64 (k : Nat) ∧ ArgI wv.heap.size regs args wv k v wr) (fun _ i _ => args.length - (intOf i).toNat)
    case atStart => exact ⟨0, by omega, rfl, ⟨none, RowAt.nil _ _ _, fun _ h => by cases h⟩, hBl⟩
    case round =>
      obtain ⟨k, hk, rfl, hI⟩ := hrel
      have HI := Lib.hid hI
      have HRr := Lib.hid (ST.out.reg.below hI.below)
      have HMr := Lib.hid (ST.out.mac.below hI.below)
      have y6 : wr.cell? ⟨bx, 6, none⟩ = _ := (hI.below.cell (p := ⟨bx, 6, none⟩) (World.block_lt_of_cell? wv ⟨bx, 6, none⟩ x6)).trans x6
      have y5 : wr.cell? ⟨bx, 5, none⟩ = some (.string name) := (hI.below.cell (p := ⟨bx, 5, none⟩) (World.block_lt_of_cell? wv ⟨bx, 5, none⟩ (ST.out.box 5 _ rfl))).trans (ST.out.box 5 _ rfl)
      have HXr := Lib.hid (readsBelow7 HX.out hI.below)
      clear hI
      by_cases hlt : k < args.length
      · obtain ⟨a', hae⟩ : ∃ a', a' = args[k] := ⟨_, rfl⟩
        obtain ⟨hab1, hab2⟩ := HA.out a' (by rw [hae]; exact List.getElem_mem hlt)
        obtain ⟨ka, rfl⟩ := Int.eq_ofNat_of_zero_le hab1
        have hka : ka < regs.length := by omega
        obtain ⟨gx, ox, rfl, hgx, hcell⟩ := HXr.out (by rw [ints_length]; omega)
        have z1 := hcell k (.int .i64 (ka : Int)) (by simp [ints, hlt, hae])
        obtain ⟨z2, _⟩ := wsCell HRr.out.words ka hka
        obtain ⟨va, hva⟩ : ∃ va, va = regs.getD ka 0 := ⟨_, rfl⟩
        rw [← hva] at z2
        obtain ⟨rr, hrow, hrr⟩ := HI.out.row
        obtain ⟨Av, cv, rfl, _⟩ := hrow.shape
        have hrl : regs.length ≤ maxLen := by
          obtain ⟨_, _, _, _, _, h1, h2, _⟩ := RowAt.form HRr.out.words (by omega)
          exact Nat.le_trans h1 h2
        unfold maxLen at hrl
        have hnext : i32s ((args.take (k + 1)).map (getR regs)) = i32s ((args.take k).map (getR regs)) ++ [.int .i32 va] := by
          rw [List.take_succ_eq_append_getElem hlt]
          simp [i32s, ← hae, getR, hva]
        have HNX := Lib.hid hnext
        have HROW := Lib.hid hrow
        have HRR := Lib.hid hrr
        clear hae hcell hva hrow hrr hnext hab1 hab2
        go_wp2_with (at_builtin; refine wpList_append_one _ rfl (.tmp 143) (.tmp 148) 36 21 (.int .i32 0) 4 rfl Try.underlying36 info_i32 rfl HROW.out (.int .i32 va) rfl rfl rfl (by omega) (by unfold maxLen; omega) ?_; intro v' r' W3 hR3 hC3 hN3; have HR3 := Lib.hid hR3; have HC3 := Lib.hid hC3; have HN3 := Lib.hid hN3; clear hR3 hC3 hN3)
        go_roundw
        case rel =>
          refine ⟨k + 1, by omega, by go_num, ⟨r', by rw [HNX.out]; exact HR3.out, HN3.out.ge HI.out.below.size HRR.out⟩, HI.out.below.trans (HC3.out.below HI.out.below.size fun q e => HRR.out q e.symm)⟩
        case measure => simp [intOf]; omega
      · obtain rfl : k = args.length := by omega
        obtain ⟨rr, hrow, hrr⟩ := HI.out.row
        obtain ⟨Av, cv, rfl, _⟩ := hrow.shape
        have e1 : args.take args.length = args := List.take_length
        rw [e1] at hrow
        obtain ⟨vals, hvals⟩ : ∃ vals, vals = args.map (getR regs) := ⟨_, rfl⟩
        rw [← hvals] at hrow
        have hvl : vals.length = args.length := by rw [hvals]; simp
        have hvb : ∀ z ∈ vals, I32 z := by
          intro z hz
          rw [hvals] at hz
          obtain ⟨a, _, rfl⟩ := List.mem_map.1 hz
          exact getR_i32 ST.out.reg.bd a
        have hap : ∀ g off, Av = some ⟨g, off, none⟩ → ¬ FootV E r g := fun g off e hf => by
          rcases hrow.2 with ⟨h0, _⟩ | ⟨g', off', cap', cur', hv, hr', _⟩
          · injection h0 with h0 _ _; rw [e] at h0; cases h0
          · injection hv with hv _ _
            rw [e] at hv
            injection hv with hv
            injection hv with hv _
            have hge := hrr g' hr'
            have := ST.out.mac.footlt hf
            omega
        have HV := Lib.hid hvals
        have HIN : Hid (CallInV E s c r wr name f vals Av) := Lib.hid ⟨HMr.out, H0.out, ⟨kf, hkf, HF.out.1, HF.out.2.1⟩, by rw [HF.out.2.2, hvl], hvb, RowAt.reads hrow, hap⟩
        have HVL := Lib.hid hvl
        clear hrow hrr e1 hvals hvb hap hvl
        have HCA : Hid (Calls Try.prog 30 #[.pointer (some ⟨mb, 0, none⟩), .string name, .slice Av args.length cv] wr (VInsPost E s ⟨46, d, xa, xb, num, name, args⟩ a b regs c r wr)) := Lib.hid (by
          rw [← HVL.out, HMB.out]
          exact midv HE.out HC.out HIN.out HV.out cv)
        clear HIN
        go_wp2_with fail
        refine HCA.out.mono ?_
        rintro e w2 ⟨v, s', r', c', rfl, hv, hch, hmac, hnew, hfin⟩
        go_wp2_with fail
        go_ret
        have hsz : w.heap.size ≤ wr.heap.size := Nat.le_trans ST.out.below.size HI.out.below.size
        exact ⟨v, s', r', c', rfl, hv, ((Chg.of_below ST.out.below _).trans (Chg.of_below (HI.out.below.mono (Nat.le_refl _)) (fun _ => False)) fun _ _ h => h.elim).trans hch fun _ _ h => h, hmac, hnew.mono hsz, hfin⟩
end
end Go.Proofs.Ytnfneinonkpmeaa
