/- brazierref12.Machine: a call, as an instruction. -/
import Derived.Test.YtnfneinonkpmeaaLv12
import Derived.Test.YtnfneinonkpmeaaLv3
import Derived.Test.YtnfneinonkpmeaaLv10
import Derived.Test.YtnfneinonkpmeaaLv2
import Derived.Handy
namespace Go.Proofs.Ytnfneinonkpmeaa
open Go.RowKit
/-- What a call leaves. -/
def CallPost (E : Env) (s : MS) (f : Fn) (vals : List Int) (c : Nat) (r : Option Nat) (w : World) (e : Ending) (w' : World) : Prop :=
  ∃ (v : Int) (s' : MS) (r' : Option Nat) (c' : Nat), e = .returned (.int .i32 v) ∧ I32 v ∧ Chg (Foot E r) w w' ∧ MacAt E s' c' r' w' ∧ NewOr w r r' ∧
  ((s'.fin = 0 ∧ c' = c ∧ ∀ K dst, K.length = c → ReachE E (s, entry f vals dst :: K) (retC dst v s' K)) ∨
    (s'.fin ≠ 0 ∧ ∀ K dst, K.length = c → ∃ K', ReachE E (s, entry f vals dst :: K) (s', K')))
/-- What is asked of a call. -/
structure CallIn (E : Env) (s : MS) (c : Nat) (r : Option Nat) (w : World) (name : ByteArray) (f : Fn) (vals : List Int) (Aa : Option Addr) : Prop where
  mac : MacAt E s c r w
  fin : s.fin = 0
  fn : ∃ (k : Nat) (h : k < E.m.fns.length), fnAt E.m.fns name = k ∧ f = E.m.fns[k]
  par : f.params = vals.length
  bd : ∀ z ∈ vals, I32 z
  rd : ReadsAt w Aa (i32s vals)
  ap : ∀ g off, Aa = some ⟨g, off, none⟩ → ¬ Foot E r g
def CallC (E : Env) (c : Nat) : Prop := ∀ (s : MS) (r : Option Nat) (w : World) (name : ByteArray) (f : Fn) (vals : List Int) (Aa : Option Addr) (ca : Nat), CallIn E s c r w name f vals Aa →
  Calls Try.prog 29 #[.pointer (some ⟨E.mb, 0, none⟩), .string name, .slice Aa vals.length ca] w (CallPost E s f vals c r w)
/-- Too deep: the run ends. -/
def DeepPost (E : Env) (s : MS) (c : Nat) (r : Option Nat) (w : World) (e : Ending) (w' : World) : Prop := e = .returned (.int .i32 0) ∧ MacAt E (s.ended 4) c r w' ∧ Chg (fun k => k = E.mb) w w'
theorem readsBelow7 {w w' : World} {A : Option Addr} {xs : List Value} (h : ReadsAt w A xs) (hb : Below w.heap.size w w') : ReadsAt w' A xs := h.kept (S := fun _ => False) (Chg.of_below hb _) fun _ _ _ _ h => h
section
variable {E : Env} {s : MS} {c : Nat} {r : Option Nat} {w w' : World} {gr : Nat} {regs : List Int}
set_option maxHeartbeats 4000000 in
theorem call_deep (hE : EnvOk E) (h : MacAt E s 32 r w) (name : ByteArray) (Aa : Option Addr) (n ca : Nat) :
    Calls Try.prog 29 #[.pointer (some ⟨E.mb, 0, none⟩), .string name, .slice Aa n ca] w (DeepPost E s 32 r w) := by
  obtain ⟨_, _, _, _, _, m5, m6, _, _, mf⟩ := h.cells
  have HE := Lib.hid hE
  have HM := Lib.hid h
  clear h hE
  go_enter Try.func29, Try.ntmps29
  go_wp2_with fail
  go_ret
  exact ⟨rfl, HM.out.own HE.out 6 _ (s.ended 4) 32 rfl rfl ⟨Nat.le_refl _, HM.out.sl⟩ HM.out.rl HM.out.cl fun vT => by simp [MS.ended], Chg.store w E.mb 6 _⟩
theorem named {m : Mid} {name : ByteArray} {f : Fn} {k : Nat} (h : k < m.fns.length) (h1 : fnAt m.fns name = k) (h2 : f = m.fns[k]) : fnNamed m name = f := by
  unfold fnNamed
  rw [h1, h2]
  simp [List.getD, h]
theorem MacAt.footlt (h : MacAt E s c r w) {k : Nat} (hk : Foot E r k) : k < w.heap.size := by
  rcases hk with hf | hf | hf
  · rw [hf]; exact h.blt
  · obtain ⟨i, hi, e3⟩ := List.getElem_of_mem hf
    rw [← e3]; exact RowAt.lt (h.words i hi) _ rfl
  · obtain ⟨_, _, ht⟩ := h.obj
    exact ht.lt k hf.symm
theorem RegAt.newr {W : World} {r' : Option Nat} (h : RegAt E r gr regs w') (hl : gr < W.heap.size) (hn : NewOr W r r') : RegAt E r' gr regs w' := ⟨h.words, h.bd, h.base, fun hf => by
  rcases hf with e | e | e
  · exact h.foot (.inl e)
  · exact h.foot (.inr (.inl e))
  · exact h.foot (.inr (.inr (hn.old hl e.symm).symm)), h.row⟩
/-- A call as an instruction of it sees it. -/
def Mid7 (E : Env) (s : MS) (x : Ins) (regs : List Int) (c : Nat) (r : Option Nat) (w : World) (e : Ending) (w' : World) : Prop :=
  ∃ (v : Int) (s' : MS) (r' : Option Nat) (c' : Nat), e = .returned (.int .i32 v) ∧ I32 v ∧ Chg (Foot E r) w w' ∧ MacAt E s' c' r' w' ∧ NewOr w r r' ∧
  ((s'.fin = 0 ∧ c' = c ∧ ∀ fr K, fr.regs = regs → K.length + 1 = c → ReachE E (exS E.m E.inp x s fr K) (s', fr.putIf x.d v :: K)) ∨
    (s'.fin ≠ 0 ∧ ∀ fr K, fr.regs = regs → K.length + 1 = c → ∃ K', ReachE E (exS E.m E.inp x s fr K) (s', K')))
theorem mid7 (hE : EnvOk E) (hC : c < 32 → CallC E c) {d : Int} {name : ByteArray} {args vals : List Int} {f : Fn} {Aa : Option Addr} (h : CallIn E s c r w name f vals Aa) {x : Ins} (hx : x = ⟨7, 0, d, -1, -1, 0, name, args⟩) (hv : vals = args.map (getR regs)) (ca : Nat) :
    Calls Try.prog 29 #[.pointer (some ⟨E.mb, 0, none⟩), .string name, .slice Aa vals.length ca] w (Mid7 E s x regs c r w) := by
  subst hx
  by_cases hc : c = 32
  · subst hc
    refine (call_deep hE h.mac name Aa vals.length ca).mono ?_
    rintro e w' ⟨rfl, hm, hch⟩
    refine ⟨0, s.ended 4, r, 32, rfl, by unfold I32; simp, hch.mono fun _ _ e => .inl e, hm, NewOr.refl _ _, .inr ⟨by simp [MS.ended], fun fr K e hl => ⟨fr :: K, ?_⟩⟩⟩
    have ee : exS E.m E.inp ⟨7, 0, d, -1, -1, 0, name, args⟩ s fr K = (s.ended 4, fr :: K) := by simp [exS, hl]
    rw [ee]
    exact Reach.refl _
  · have hcl := h.mac.cl
    refine (hC (by omega) s r w name f vals Aa ca h).mono ?_
    rintro e w' ⟨v, s', r', c', rfl, hv', hch, hm, hn, hf⟩
    obtain ⟨k, hk, h1, h2⟩ := h.fn
    have ee : ∀ fr K, fr.regs = regs → K.length + 1 = c → exS E.m E.inp ⟨7, 0, d, -1, -1, 0, name, args⟩ s fr K = (s, entry f vals d :: fr :: K) := fun fr K e hl => by
      have h3 : K.length + 1 ≠ 32 := by omega
      simp [exS, h3, named hk h1 h2, e, hv]
    refine ⟨v, s', r', c', rfl, hv', hch, hm, hn, ?_⟩
    rcases hf with ⟨f1, f2, f3⟩ | ⟨f1, f3⟩
    · refine .inl ⟨f1, f2, fun fr K e hl => ?_⟩
      rw [ee fr K e hl]
      exact f3 (fr :: K) d (by simpa using hl)
    · refine .inr ⟨f1, fun fr K e hl => ?_⟩
      rw [ee fr K e hl]
      exact f3 (fr :: K) d (by simpa using hl)
/-- The arguments so far. -/
structure ArgI (B : Nat) (regs args : List Int) (w1 : World) (k : Nat) (v : Value) (W : World) : Prop where
  row : ∃ rr, RowAt W 21 1 v rr k (i32s ((args.take k).map (getR regs))) ∧ ∀ q, rr = some q → B ≤ q
  below : Below B w1 W
set_option maxHeartbeats 8000000 in
set_option maxRecDepth 100000 in
theorem mins_7 (hE : EnvOk E) (hC : c < 32 → CallC E c) (h : MacAt E s c r w) (hR : RegAt E r gr regs w) (h0 : s.fin = 0) (d : Int) (name : ByteArray) (args : List Int) (f : Fn) (kf : Nat) (hkf : kf < E.m.fns.length) (hfn : fnAt E.m.fns name = kf) (hf : f = E.m.fns[kf]) (hpar : f.params = args.length)
    (hd : regB d regs.length true = true) (hl : args.length ≤ 8) (ha : ∀ a ∈ args, regB a regs.length false = true) (Ax : Option Addr) (cx : Nat) (hx : ReadsAt w Ax (ints args)) :
    Calls Try.prog 46 #[.pointer (some ⟨E.mb, 0, none⟩), .slice (some ⟨gr, 0, none⟩) regs.length regs.length, .agg #[.int .i64 7, .int .i64 0, .int .i64 d, .int .i64 (-1), .int .i64 (-1), .int .i32 0, .string name, .slice Ax args.length cx]] w (InsPost E s ⟨7, 0, d, -1, -1, 0, name, args⟩ gr regs c r w) := by
  obtain ⟨w1, hw1, hb1, hlt1, hc⟩ := box_new w #[.int .i64 7, .int .i64 0, .int .i64 d, .int .i64 (-1), .int .i64 (-1), .int .i32 0, .string name, .slice Ax args.length cx] 54
  have HM0 := Lib.hid h
  have HM := Lib.hid (h.below hb1)
  have HR := Lib.hid (hR.below hb1)
  have HB := Lib.hid hb1
  have H0 := Lib.hid h0
  have HW := Lib.hid hw1
  have HX := Lib.hid (readsBelow7 hx hb1)
  have x0 := hc 0
  have x2 := hc 2
  have x6 := hc 6
  have x7 := hc 7
  simp only [List.getElem?_toArray, List.getElem?_cons_succ, List.getElem?_cons_zero] at x0 x2 x6 x7
  obtain ⟨bx, hbx⟩ : ∃ bx, bx = w.heap.size := ⟨_, rfl⟩
  rw [← hbx] at x0 x2 x6 x7
  have HBX := Lib.hid hbx
  have hbx1 : bx < w1.heap.size := by rw [hbx]; exact hlt1
  have HF := Lib.hid (And.intro hfn (And.intro hf hpar))
  have HE := Lib.hid hE
  have HC := Lib.hid hC
  have HA := Lib.hid ha
  have HD := Lib.hid hd
  clear h hR hb1 hlt1 hc hw1 h0 hbx hfn hf hpar hE hC ha hd hx
  go_enter Try.func46, Try.ntmps46
  go_upto_region 1 with (fail)
  rw [← HW.out, ← HBX.out]
  go_upto_region 25 with (fail)
  have hBl : Below w1.heap.size w1 w1 := Below.refl _ _
  go_loopw [16, 143] (fun v i wr => ∃ (k : Nat), k ≤ args.length ∧ i = .int .i64 (k : Nat) ∧ ArgI w1.heap.size regs args w1 k v wr) (fun _ i _ => args.length - (intOf i).toNat)
  case atStart => exact ⟨0, by omega, rfl, ⟨none, RowAt.nil _ _ _, fun _ h => by cases h⟩, hBl⟩
  case round =>
    obtain ⟨k, hk, rfl, hI⟩ := hrel
    have HI := Lib.hid hI
    have HRr := Lib.hid (HR.out.below hI.below)
    have HMr := Lib.hid (HM.out.below hI.below)
    have y2 := (hI.below.cell (p := ⟨bx, 2, none⟩) hbx1).trans x2
    have y6 := (hI.below.cell (p := ⟨bx, 6, none⟩) hbx1).trans x6
    have HXr := Lib.hid (readsBelow7 HX.out hI.below)
    clear hI
    by_cases hlt : k < args.length
    · obtain ⟨a, hae⟩ : ∃ a, a = args[k] := ⟨_, rfl⟩
      have hab : regB a regs.length false = true := by rw [hae]; exact HA.out _ (List.getElem_mem hlt)
      obtain ⟨ka, rfl, hka⟩ := regB_k hab
      obtain ⟨gx, ox, rfl, hgx, hcell⟩ := HXr.out (by rw [ints_length]; omega)
      have z1 := hcell k (.int .i64 (ka : Int)) (by simp [ints, hlt, hae])
      obtain ⟨z2, _⟩ := wsCell HRr.out.words ka hka
      obtain ⟨va, hva⟩ : ∃ va, va = regs.getD ka 0 := ⟨_, rfl⟩
      rw [← hva] at z2
      obtain ⟨rr, hrow, hrr⟩ := HI.out.row
      obtain ⟨Av, cv, rfl, _⟩ := hrow.shape
      have hrl : regs.length ≤ maxLen := by
        obtain ⟨_, _, _, _, _, h1, h2, _⟩ := RowAt.form HRr.out.words (by omega)
        exact Nat.le_trans h1 h2
      unfold maxLen at hrl
      have hnext : i32s ((args.take (k + 1)).map (getR regs)) = i32s ((args.take k).map (getR regs)) ++ [.int .i32 va] := by
        rw [List.take_succ_eq_append_getElem hlt]
        simp [i32s, ← hae, getR, hva]
      have HNX := Lib.hid hnext
      have HROW := Lib.hid hrow
      have HRR := Lib.hid hrr
      clear hae hab hcell hva hrow hrr hnext
      go_wp2_with (at_builtin; refine wpList_append_one _ rfl (.tmp 147) (.tmp 152) 36 21 (.int .i32 0) 4 rfl Try.underlying36 info_i32 rfl HROW.out (.int .i32 va) rfl rfl rfl (by omega) (by unfold maxLen; omega) ?_; intro v' r' W3 hR3 hC3 hN3; have HR3 := Lib.hid hR3; have HC3 := Lib.hid hC3; have HN3 := Lib.hid hN3; clear hR3 hC3 hN3)
      go_roundw
      case rel =>
        refine ⟨k + 1, by omega, by go_num, ⟨r', by rw [HNX.out]; exact HR3.out, HN3.out.ge HI.out.below.size HRR.out⟩, HI.out.below.trans (HC3.out.below HI.out.below.size fun q e => HRR.out q e.symm)⟩
      case measure => simp [intOf]; omega
    · obtain rfl : k = args.length := by omega
      obtain ⟨rr, hrow, hrr⟩ := HI.out.row
      obtain ⟨Av, cv, rfl, _⟩ := hrow.shape
      have e1 : args.take args.length = args := List.take_length
      rw [e1] at hrow
      obtain ⟨vals, hvals⟩ : ∃ vals, vals = args.map (getR regs) := ⟨_, rfl⟩
      rw [← hvals] at hrow
      have hvl : vals.length = args.length := by rw [hvals]; simp
      have hvb : ∀ z ∈ vals, I32 z := by
        intro z hz
        rw [hvals] at hz
        obtain ⟨a, _, rfl⟩ := List.mem_map.1 hz
        exact getR_i32 HR.out.bd a
      have hap : ∀ g off, Av = some ⟨g, off, none⟩ → ¬ Foot E r g := fun g off e hf => by
        have hm := HM.out
        rcases hrow.2 with ⟨h0, _⟩ | ⟨g', off', cap', cur', hv, hr', _⟩
        · injection h0 with h0 _ _; rw [e] at h0; cases h0
        · injection hv with hv _ _
          rw [e] at hv
          injection hv with hv
          injection hv with hv _
          have hge := hrr g' hr'
          rcases hf with hf | hf | hf
          · have := hm.blt; omega
          · obtain ⟨i, hi, e3⟩ := List.getElem_of_mem hf
            have := RowAt.lt (hm.words i hi) _ rfl
            omega
          · obtain ⟨_, _, ht⟩ := hm.obj
            have := ht.lt g hf.symm; omega
      have HV := Lib.hid hvals
      have HIN : Hid (CallIn E s c r wr name f vals Av) := Lib.hid ⟨HMr.out, H0.out, ⟨kf, hkf, HF.out.1, HF.out.2.1⟩, by rw [HF.out.2.2, hvl], hvb, RowAt.reads hrow, hap⟩
      have HVL := Lib.hid hvl
      clear hrow hrr e1 hvals hvb hap hvl
      have HCA : Hid (Calls Try.prog 29 #[.pointer (some ⟨E.mb, 0, none⟩), .string name, .slice Av args.length cv] wr (Mid7 E s ⟨7, 0, d, -1, -1, 0, name, args⟩ regs c r wr)) := Lib.hid (by
        rw [← HVL.out]
        exact mid7 HE.out HC.out HIN.out rfl HV.out cv)
      clear HIN
      go_wp2_with fail
      refine HCA.out.mono ?_
      rintro e w2 ⟨v, s', r', c', rfl, hv, hch, hmac, hnew, hfin⟩
      have y2 := hch.cell (p := ⟨bx, 2, none⟩) y2 (fun hf => by have h9 := HM0.out.footlt hf; have h8 := HBX.out; dsimp only at h9; omega)
      have HR2 := Lib.hid ((HRr.out.kept hch HRr.out.foot).newr HRr.out.lt hnew)
      have HM2 := Lib.hid hmac
      have HCH : Hid (Chg (Foot E r) w w2) := Lib.hid (((Chg.of_below HB.out _).trans (Chg.of_below (HI.out.below.mono (Nat.le_refl _)) (fun _ => False)) fun _ _ h => h.elim).trans hch fun _ _ h => h)
      have HNW : Hid (NewOr w r r') := Lib.hid (hnew.mono (Nat.le_trans HB.out.size HI.out.below.size))
      have HFN := Lib.hid hfin
      have HVI := Lib.hid hv
      clear hv hch hmac hnew hfin
      have hdc : (d = -1) ∨ ∃ kd : Nat, d = (kd : Int) ∧ kd < regs.length := by
        have := HD.out
        unfold regB at this
        simp only [Bool.or_eq_true, Bool.and_eq_true, decide_eq_true_eq] at this
        rcases this with ⟨h1, h2⟩ | ⟨_, h1⟩
        · exact .inr ⟨d.toNat, by omega, by omega⟩
        · exact .inl h1
      rcases hdc with rfl | ⟨kd, rfl, hkd⟩
      · go_wp2_with fail
        go_end0
        refine ⟨s', r', regs, c', rfl, HCH.out.mono fun _ _ e => .inl e, HM2.out, HR2.out, rfl, HNW.out, ?_⟩
        rcases HFN.out with ⟨h1, h2, h3⟩ | ⟨h1, h3⟩
        · refine .inl ⟨h1, h2, fun fr K e hl => ?_⟩
          have h4 := h3 fr K e hl
          rw [show fr.putIf (-1) v = { fr with regs := regs } from by unfold Fr.putIf; rw [if_neg (by decide), ← e]] at h4
          exact h4
        · exact .inr ⟨h1, h3⟩
      · obtain ⟨q1, q2⟩ := wsCell HR2.out.words kd hkd
        have hkd0 : (0 : Int) ≤ (kd : Int) := by omega
        have hrl : regs.length ≤ maxLen := by
          obtain ⟨_, _, _, _, _, h1, h2, _⟩ := RowAt.form HR2.out.words (by omega)
          exact Nat.le_trans h1 h2
        unfold maxLen at hrl
        go_wp2_with fail
        go_end0
        refine ⟨s', r', regs.set kd v, c', rfl, (HCH.out.mono fun _ _ e => .inl e).setCell ⟨gr, kd, none⟩ (fun _ => .inr rfl) _, HM2.out.reg HR2.out kd _, HR2.out.set kd hkd v HVI.out, by simp, HNW.out, ?_⟩
        rcases HFN.out with ⟨h1, h2, h3⟩ | ⟨h1, h3⟩
        · refine .inl ⟨h1, h2, fun fr K e hl => ?_⟩
          have h4 := h3 fr K e hl
          rw [show fr.putIf (kd : Int) v = { fr with regs := regs.set kd v } from by unfold Fr.putIf Fr.put setR; rw [if_pos (by omega), e]; simp] at h4
          exact h4
        · exact .inr ⟨h1, h3⟩
end
end Go.Proofs.Ytnfneinonkpmeaa
namespace Go.Proofs.Ytnfneinonkpmeaa
open Go.RowKit
section
variable {E : Env} {s : MS} {c : Nat} {r : Option Nat} {w w' : World} {gr : Nat} {regs : List Int}
theorem mins_any (hE : EnvOk E) (hC : c < 32 → CallC E c) (h : MacAt E s c r w) (hR : RegAt E r gr regs w) (h0 : s.fin = 0) (htl : s.trace.length + 1 ≤ s.steps) (x : Ins) (hx : InsV (regs.length : Int) x) (hm : InsM E.m x) (hz : I32 x.num) (Ax : Option Addr) (cx : Nat) (ha : ReadsAt w Ax (ints x.args)) :
    Calls Try.prog 46 #[.pointer (some ⟨E.mb, 0, none⟩), .slice (some ⟨gr, 0, none⟩) regs.length regs.length, agI x Ax cx] w (InsPost E s x gr regs c r w) := by
  cases hx with
  | num d z hd => exact mins_1 h hR h0 d z hd hz Ax cx
  | copy d a hd ha' => exact mins_2 h hR h0 d a hd ha' Ax cx
  | un op d a ho hd ha' => exact mins_3 h hR h0 op d a hd ha' Ax cx
  | bin op d a b ho hd ha' hb => exact mins_4 h hR h0 hE op d a b hd ha' hb Ax cx
  | load d a name hd ha' hn =>
    obtain ⟨g, hg, h1, _⟩ := hm.mem (.inl rfl)
    exact mins_5 h hR h0 hE d a name g hg h1 hd ha' Ax cx
  | store a b name ha' hb hn =>
    obtain ⟨g, hg, h1, _⟩ := hm.mem (.inr rfl)
    exact mins_6 h hR h0 hE a b name g hg h1 ha' hb Ax cx
  | call d name args hd hn hl ha' =>
    obtain ⟨k, hk, h1, h2⟩ := hm.call rfl
    exact mins_7 hE hC h hR h0 d name args E.m.fns[k] k hk h1 rfl h2 hd hl ha' Ax cx ha
  | read d hd => exact mins_8 h hR h0 hE d hd Ax cx
  | print a ha' => exact mins_9 h hR h0 hE htl a ha' Ax cx
theorem MacAt.footbase (hE : EnvOk E) (h : MacAt E s c r w) {k : Nat} (hk : Foot E r k) : E.base ≤ k := by
  rcases hk with e | e | e
  · rw [e]; exact hE.base
  · exact hE.bbs k e
  · exact (h.tr k e.symm).1
/-- What stands while a function runs. -/
structure CallS (E : Env) (w : World) (c : Nat) (r0 : Option Nat) (f : Fn) (q : Nat) (vB : Value) (s : MS) (r : Option Nat) (gr : Nat) (regs : List Int) (W : World) : Prop where
  chg : Chg (Foot E r0) w W
  nw : NewOr w r0 r
  mac : MacAt E s (c + 1) r W
  reg : RegAt E r gr regs W
  box : W.heap[q]? = some (.cells #[.string f.name, .int .i64 f.params, .int .i64 f.regs, vB] 30 (0, 0))
  qf : ¬ Foot E r q
  qg : q ≠ gr
  old : w.heap.size ≤ q ∧ w.heap.size ≤ gr
theorem foot_old {r0 : Option Nat} (hn : NewOr w r0 r) {k : Nat} (hk : k < w.heap.size) (hf : Foot E r k) : Foot E r0 k := by
  rcases hf with e | e | e
  · exact .inl e
  · exact .inr (.inl e)
  · exact .inr (.inr (hn.old hk e.symm).symm)
theorem CallS.below {r0 : Option Nat} {f : Fn} {q : Nat} {vB : Value} {W W' : World} (h : CallS E w c r0 f q vB s r gr regs W) (hb : Below W.heap.size W W') : CallS E w c r0 f q vB s r gr regs W' :=
  ⟨h.chg.trans (Chg.of_below hb (fun _ => False)) fun _ _ h => h.elim, h.nw, h.mac.below hb, h.reg.below hb, (hb.block q (lt_of_heap h.box)).trans h.box, h.qf, h.qg, h.old⟩
theorem CallS.mach {r0 : Option Nat} {f : Fn} {q : Nat} {vB : Value} {W W' : World} {s' : MS} (h : CallS E w c r0 f q vB s r gr regs W) (hm : MacAt E s' (c + 1) r W') (hc : Chg (fun k => k = E.mb) W W') : CallS E w c r0 f q vB s' r gr regs W' :=
  ⟨h.chg.trans hc fun _ _ e => .inl e, h.nw, hm, h.reg.kept hc fun e => h.reg.foot (.inl e), hc.heap h.box fun e => h.qf (.inl e), h.qf, h.qg, h.old⟩
theorem CallS.ins {r0 r' : Option Nat} {f : Fn} {q : Nat} {vB : Value} {W W' : World} {s' : MS} {regs' : List Int} (h : CallS E w c r0 f q vB s r gr regs W) (hm : MacAt E s' (c + 1) r' W') (hR : RegAt E r' gr regs' W') (hc : Chg (fun k => Foot E r k ∨ k = gr) W W') (hn : NewOr W r r') : CallS E w c r0 f q vB s' r' gr regs' W' :=
  ⟨h.chg.trans hc fun k hk e => by
      rcases e with e | e
      · exact foot_old h.nw hk e
      · have := h.old.2; omega, h.nw.trans hn h.chg.size, hm, hR, hc.heap h.box fun e => by
      rcases e with e | e
      · exact h.qf e
      · exact h.qg e, fun hf => h.qf (foot_old hn (lt_of_heap h.box) hf), h.qg, h.old⟩
theorem CallS.cells {r0 : Option Nat} {f : Fn} {q : Nat} {vB : Value} {W : World} (h : CallS E w c r0 f q vB s r gr regs W) : W.cell? ⟨q, 2, none⟩ = some (.int .i64 f.regs) ∧ W.cell? ⟨q, 3, none⟩ = some vB :=
  ⟨cell_of_row _ _ _ _ _ _ h.box, cell_of_row _ _ _ _ _ _ h.box⟩
/-- How many steps the run has taken, as the world tells it. -/
def stepsAt (mb : Nat) (W : World) : Int := match W.cell? ⟨mb, 9, none⟩ with
  | some (.int _ n) => n
  | _ => 0
theorem MacAt.stepsAt (h : MacAt E s c r w) : stepsAt E.mb w = s.steps := by
  obtain ⟨_, _, _, _, _, _, _, m9, _⟩ := h.cells
  unfold Proofs.Ytnfneinonkpmeaa.stepsAt
  rw [m9]
/-- A call leaves. -/
theorem CallS.done {r0 : Option Nat} {f : Fn} {vals : List Int} {q : Nat} {vB : Value} {W : World} {s0 : MS} (h : CallS E w c r0 f q vB s r gr regs W) (hn : s.fin ≠ 0) (hr : ∀ K dst, K.length = c → ∃ K', ReachE E (s0, entry f vals dst :: K) (s, K')) :
    CallPost E s0 f vals c r0 w (.returned (.int .i32 0)) W := ⟨0, s, r, c + 1, rfl, by unfold I32; simp, h.chg, h.mac, h.nw, .inr ⟨hn, hr⟩⟩
end
end Go.Proofs.Ytnfneinonkpmeaa
namespace Go.Proofs.Ytnfneinonkpmeaa
open Go.RowKit
variable {T : Nat → Prop}

structure SmallV (m : Mid) : Prop where
  may : MayV m
  light : LightV m
  regs : ∀ f ∈ m.fns, f.regs ≤ 40

theorem Fine_any (m : Mid) (A B : Option Addr) (c d : Nat) (w : World) (h : RdMid w T m A c B d) :
    Calls Try.prog 19 #[.agg #[.slice A m.globals.length c, .slice B m.fns.length d]] w (Told w (MayV m ∧ LightV m)) := by
  obtain ⟨w1, hw1, hb1, hlt1, hc⟩ := box_new w #[.slice A m.globals.length c, .slice B m.fns.length d] 25
  have hc0 := hc 0
  have hc1 := hc 1
  simp only [List.getElem?_toArray, List.getElem?_cons_succ, List.getElem?_cons_zero] at hc0 hc1
  have HM := Lib.hid (mid_below h hb1)
  have HB1 := Lib.hid hb1
  have HW := Lib.hid hw1
  clear h hb1 hc hw1
  go_enter Try.func19, Try.ntmps19
  go_wp2_with fail
  rw [← HW.out]
  refine (Light_any m A B c d _ HM.out).mono ?_
  rintro e w2 ⟨t, rfl, hB2, hv⟩
  have d0 := (hB2.cell (p := ⟨w.heap.size, 0, none⟩) hlt1).trans hc0
  have d1 := (hB2.cell (p := ⟨w.heap.size, 1, none⟩) hlt1).trans hc1
  have HBW : Hid (Below w.heap.size w w2) := Lib.hid (HB1.out.trans (hB2.mono HB1.out.size))
  have HM2 := Lib.hid (mid_below HM.out hB2)
  have HV := Lib.hid hv
  clear hB2 hv
  cases t with
  | false =>
    go_wp2_with fail
    go_ret
    exact ⟨false, rfl, HBW.out, fun h => by cases h⟩
  | true =>
    go_wp2_with fail
    refine (May_any m A B c d _ HM2.out).mono ?_
    rintro e w3 ⟨t, rfl, hB3, hv⟩
    have HBW3 : Hid (Below w.heap.size w w3) := Lib.hid (HBW.out.trans (hB3.mono HBW.out.size))
    have HV3 := Lib.hid hv
    clear hB3 hv
    go_wp2_with fail
    go_ret
    exact ⟨t, rfl, HBW3.out, fun h => ⟨HV3.out h, by first | exact HV.out rfl | exact HV.out trivial⟩⟩

theorem Small_any (m : Mid) (A B : Option Addr) (c d : Nat) (w : World) (h : RdMid w T m A c B d) :
    Calls Try.prog 6 #[.agg #[.slice A m.globals.length c, .slice B m.fns.length d]] w (Told w (SmallV m)) := by
  have hlf : m.fns.length ≤ 9223372036854775807 := by have := h.nfns; unfold maxLen at this; omega
  obtain ⟨w1, hw1, hb1, hlt1, hc⟩ := box_new w #[.slice A m.globals.length c, .slice B m.fns.length d] 25
  have hc0 := hc 0
  have hc1 := hc 1
  simp only [List.getElem?_toArray, List.getElem?_cons_succ, List.getElem?_cons_zero] at hc0 hc1
  have HM := Lib.hid (mid_below h hb1)
  have HB1 := Lib.hid hb1
  have HW := Lib.hid hw1
  clear h hb1 hc hw1
  go_enter Try.func6, Try.ntmps6
  go_wp2_with fail
  rw [← HW.out]
  go_loopw [8] (fun i wr => ∃ (k : Nat), k ≤ m.fns.length ∧ i = .int .i64 (k : Nat) ∧ Below w1.heap.size w1 wr ∧ ∀ j (hl : j < m.fns.length), j < k → m.fns[j].regs ≤ 40) (fun i _ => m.fns.length - (intOf i).toNat)
  case atStart => exact ⟨0, by omega, rfl, Below.refl _ _, fun j hl hj => by omega⟩
  case round =>
    obtain ⟨k, hk, rfl, hB, hn⟩ := hrel
    have HB := Lib.hid hB
    have HK := Lib.hid hn
    have hd0 := (hB.cell (p := ⟨w.heap.size, 0, none⟩) hlt1).trans hc0
    have hd1 := (hB.cell (p := ⟨w.heap.size, 1, none⟩) hlt1).trans hc1
    have HBW : Hid (Below w.heap.size w wr) := Lib.hid (HB1.out.trans (hB.mono HB1.out.size))
    clear hB hn
    by_cases hlt : k < m.fns.length
    · obtain ⟨f, hfe⟩ : ∃ f, f = m.fns[k] := ⟨_, rfl⟩
      obtain ⟨g, off, A1, c1, rfl, hg, hok, hsub, g0, g1, g2, g3⟩ := fn_at (fns_below HM.out.fns HB.out) k hlt f hfe
      have HFE := Lib.hid hfe
      clear hok hsub hfe
      by_cases h40 : 40 < f.regs
      · go_wp2_with fail
        go_ret
        exact ⟨false, rfl, HBW.out.alloc HBW.out.size _, fun h => by cases h⟩
      · go_wp2_with fail
        go_roundw
        case rel => exact ⟨k + 1, by omega, by go_num, HB.out.alloc HB.out.size _, upto_succ (P := fun f : Fn => f.regs ≤ 40) HK.out hlt HFE.out (by show f.regs ≤ 40; omega)⟩
        case measure => simp [intOf]; omega
    · obtain rfl : k = m.fns.length := by omega
      go_wp2_with fail
      refine (Fine_any m A B c d _ (mid_below HM.out HB.out)).mono ?_
      rintro e w3 ⟨t, rfl, hB3, hv⟩
      have HBW3 : Hid (Below w.heap.size w w3) := Lib.hid (HBW.out.trans (hB3.mono HBW.out.size))
      have HV3 := Lib.hid hv
      clear hB3 hv
      go_wp2_with fail
      go_ret
      exact ⟨t, rfl, HBW3.out, fun h => ⟨(HV3.out h).1, (HV3.out h).2, fold_names fun j hl => HK.out j hl hl⟩⟩
end Go.Proofs.Ytnfneinonkpmeaa
namespace Go.Proofs.Ytnfneinonkpmeaa
open Go.RowKit

structure Vins where
  op : Int
  d : Int
  a : Int
  b : Int
  num : Int
  name : ByteArray
  args : List Int
def vinsCells (x : Vins) (v : Value) : List Value := [.int .i64 x.op, .int .i64 x.d, .int .i64 x.a, .int .i64 x.b, .int .i32 x.num, .string x.name, v]
def RdVins (w : World) (T : Nat → Prop) (x : Vins) (cs : List Value) : Prop := ∃ A c, cs = vinsCells x (.slice A x.args.length c) ∧ RdT w T A (ints x.args)
theorem RdVins.kept {w w' : World} {S T : Nat → Prop} {x : Vins} {cs : List Value} (h : RdVins w T x cs) (hc : Chg S w w') (hT : ∀ k, T k → k < w.heap.size → ¬ S k) : RdVins w' T x cs := by
  obtain ⟨A, c, h1, h2⟩ := h; exact ⟨A, c, h1, h2.kept hc hT⟩
theorem RdT.mono' {w : World} {T T' : Nat → Prop} {A : Option Addr} {xs : List Value} (h : RdT w T A xs) (hT : ∀ k, T k → k < w.heap.size → T' k) : RdT w T' A xs := by
  intro hp
  obtain ⟨g, off, hA, ht, hg, hx⟩ := h hp
  exact ⟨g, off, hA, hT g ht hg, hg, hx⟩
theorem RdVins.mono {w : World} {T T' : Nat → Prop} {x : Vins} {cs : List Value} (h : RdVins w T x cs) (hT : ∀ k, T k → k < w.heap.size → T' k) : RdVins w T' x cs := by
  obtain ⟨A, c, h1, h2⟩ := h; exact ⟨A, c, h1, h2.mono' hT⟩
theorem RdVins.len {w : World} {T : Nat → Prop} {x : Vins} {cs : List Value} (h : RdVins w T x cs) : cs.length = 7 := by
  obtain ⟨A, c, rfl, _⟩ := h; rfl

/-- These cells show this code. -/
def CodeCells (w : World) (T : Nat → Prop) (l : List Vins) (xs : List Value) : Prop :=
  ∃ ps : List (Vins × List Value), ps.map (·.1) = l ∧ (∀ p ∈ ps, RdVins w T p.1 p.2) ∧ xs = (ps.map (·.2)).flatten
section
variable {w w' : World} {S T T' : Nat → Prop}
theorem CodeCells.nil : CodeCells w T [] [] := ⟨[], rfl, by simp, rfl⟩
theorem CodeCells.kept {l : List Vins} {xs : List Value} (h : CodeCells w T l xs) (hc : Chg S w w') (hT : ∀ k, T k → k < w.heap.size → ¬ S k) : CodeCells w' T l xs := by
  obtain ⟨ps, h1, h2, h3⟩ := h; exact ⟨ps, h1, fun p hp => (h2 p hp).kept hc hT, h3⟩
theorem CodeCells.mono {l : List Vins} {xs : List Value} (h : CodeCells w T l xs) (hT : ∀ k, T k → k < w.heap.size → T' k) : CodeCells w T' l xs := by
  obtain ⟨ps, h1, h2, h3⟩ := h; exact ⟨ps, h1, fun p hp => (h2 p hp).mono hT, h3⟩
theorem CodeCells.append {l m : List Vins} {xs ys : List Value} (h : CodeCells w T l xs) (k : CodeCells w T m ys) : CodeCells w T (l ++ m) (xs ++ ys) := by
  obtain ⟨ps, rfl, h2, rfl⟩ := h
  obtain ⟨qs, rfl, k2, rfl⟩ := k
  refine ⟨ps ++ qs, by simp, fun p hp => ?_, by simp⟩
  rcases List.mem_append.1 hp with hp | hp
  · exact h2 p hp
  · exact k2 p hp
theorem CodeCells.one {x : Vins} {cs : List Value} (h : RdVins w T x cs) : CodeCells w T [x] cs := ⟨[(x, cs)], rfl, by simpa using h, by simp⟩
theorem CodeCells.two {x y : Vins} {cs ds : List Value} (h : RdVins w T x cs) (k : RdVins w T y ds) : CodeCells w T [x, y] (cs ++ ds) := (CodeCells.one h).append (.one k)
theorem flatten_len {L : List (List Value)} (h : ∀ c ∈ L, c.length = 7) : L.flatten.length = L.length * 7 := by
  induction L with
  | nil => rfl
  | cons c L ih =>
    rw [List.flatten_cons, List.length_append, ih fun x hx => h x (by simp [hx]), h c (by simp), List.length_cons]; omega
theorem flatten_at {L : List (List Value)} (h : ∀ c ∈ L, c.length = 7) (i j : Nat) (hj : j < 7) : L.flatten[i * 7 + j]? = (L[i]?).bind fun c => c[j]? := by
  induction L generalizing i with
  | nil => simp
  | cons c L ih =>
    have hc := h c (by simp)
    cases i with
    | zero => rw [List.flatten_cons, List.getElem?_append_left (by omega)]; simp
    | succ i =>
      rw [List.flatten_cons, List.getElem?_append_right (by omega), hc, show (i + 1) * 7 + j - 7 = i * 7 + j from by omega, ih fun x hx => h x (by simp [hx])]
      simp
theorem CodeCells.len {l : List Vins} {xs : List Value} (h : CodeCells w T l xs) : xs.length = l.length * 7 := by
  obtain ⟨ps, rfl, h2, rfl⟩ := h
  rw [flatten_len fun c hc => by obtain ⟨p, hp, rfl⟩ := List.mem_map.1 hc; exact (h2 p hp).len]
  simp
theorem CodeCells.at_ {l : List Vins} {xs : List Value} (h : CodeCells w T l xs) (i : Nat) (x : Vins) (hx : l[i]? = some x) : ∃ A c, RdT w T A (ints x.args) ∧ ∀ j u, (vinsCells x (.slice A x.args.length c))[j]? = some u → xs[i * 7 + j]? = some u := by
  obtain ⟨ps, rfl, h2, rfl⟩ := h
  have hL : ∀ c ∈ ps.map (·.2), c.length = 7 := fun c hc => by obtain ⟨p, hp, rfl⟩ := List.mem_map.1 hc; exact (h2 p hp).len
  rw [List.getElem?_map] at hx
  cases e : ps[i]? with
  | none => rw [e] at hx; cases hx
  | some p =>
    rw [e] at hx; cases hx
    obtain ⟨A, c, h3, h4⟩ := h2 p (List.mem_of_getElem? e)
    refine ⟨A, c, h4, fun j u hu => ?_⟩
    have hj : j < 7 := (List.getElem?_eq_some_iff.1 hu).1
    rw [flatten_at hL i j hj, List.getElem?_map, e]
    rw [← h3] at hu
    exact hu
theorem CodeCells.plain {l : List Vins} {xs : List Value} (h : CodeCells w T l xs) : ∀ u ∈ xs, u.oneCell' = true := by
  obtain ⟨ps, rfl, h2, rfl⟩ := h
  intro u hu
  obtain ⟨c, hc, hu⟩ := List.mem_flatten.1 hu
  obtain ⟨p, hp, rfl⟩ := List.mem_map.1 hc
  obtain ⟨A, c, h3, _⟩ := h2 p hp
  rw [h3] at hu
  simp [vinsCells] at hu
  rcases hu with rfl | rfl | rfl | rfl | rfl | rfl | rfl <;> rfl
end

def FootP (pb mb : Nat) (r : Option Nat) (k : Nat) : Prop := k = pb ∨ k = mb ∨ some k = r
/-- Where the code's own arguments may lie: not in what the picker turns, nor in the block ahead of it. -/
def CodeT (pb mb : Nat) (r : Option Nat) (k : Nat) : Prop := ¬ FootP pb mb r k ∧ pb < k
def litK : Lit → Option Lit := fun _ => none

/-- The picker at pb: the function's head, the code so far, what is known. -/
structure PickAt (w : World) (pb mb : Nat) (v : Value) (r : Option Nat) (f : Fn) (l : List Vins) (n : Nat) (kn : Lit → Option Lit) : Prop where
  heap : w.heap[pb]? = some (.cells #[.string f.name, .int .i64 f.params, .int .i64 f.regs, v, .map (some mb)] 65 (0, 0))
  code : ∃ xs, RowAt w 61 7 v r l.length xs ∧ CodeCells w (CodeT pb mb r) l xs
  map : MapAt Try.prog 3 21 w mb n kn
theorem PickAt.lt {w : World} {pb mb : Nat} {v : Value} {r : Option Nat} {f : Fn} {l : List Vins} {n : Nat} {kn : Lit → Option Lit} (h : PickAt w pb mb v r f l n kn) : ∀ k, FootP pb mb r k → k < w.heap.size := by
  obtain ⟨xs, h1, _⟩ := h.code
  rintro k (rfl | rfl | e)
  · exact lt_of_heap h.heap
  · exact MapAt.lt h.map
  · exact h1.lt k e.symm
theorem PickAt.kept {w w' : World} {pb mb : Nat} {v : Value} {r : Option Nat} {f : Fn} {l : List Vins} {n : Nat} {kn : Lit → Option Lit} (h : PickAt w pb mb v r f l n kn) (hb : Below w.heap.size w w') : PickAt w' pb mb v r f l n kn := by
  have hc := chg_of_below hb
  have hno : ∀ k, k < w.heap.size → ¬ (w.heap.size ≤ k) := fun k h h' => by omega
  obtain ⟨xs, h1, h2⟩ := h.code
  exact ⟨hc.heap h.heap (hno _ (h.lt _ (.inl rfl))), ⟨xs, h1.kept hc fun k hk => hno _ (h1.lt k hk), h2.kept hc fun k _ hk => hno k hk⟩, h.map.kept hc (hno _ (MapAt.lt h.map))⟩

/-- From one state of the picker to the next. -/
structure PStep (w : World) (pb mb : Nat) (r : Option Nat) (w' : World) (r' : Option Nat) : Prop where
  chg : Chg (FootP pb mb r) w w'
  nr : NewOr w r r'
theorem PStep.refl (w : World) (pb mb : Nat) (r : Option Nat) : PStep w pb mb r w r := ⟨Chg.refl _ _, .refl _ _⟩
theorem PStep.trans {w w1 w2 : World} {pb mb : Nat} {r r1 r2 : Option Nat} (h : PStep w pb mb r w1 r1) (k : PStep w1 pb mb r1 w2 r2) : PStep w pb mb r w2 r2 :=
  ⟨h.chg.trans k.chg (fun i hi hf => by
    rcases hf with hf | hf | hf
    · exact .inl hf
    · exact .inr (.inl hf)
    · exact .inr (.inr (h.nr.old hi hf.symm).symm)), h.nr.trans k.nr h.chg.size⟩
theorem PStep.ofBelow {w w' : World} {pb mb : Nat} {r : Option Nat} (hb : Below w.heap.size w w') : PStep w pb mb r w' r :=
  ⟨⟨hb.os, hb.tape, hb.output, hb.size, fun k hk _ => hb.block k hk⟩, .refl _ _⟩

theorem info_vins : (Try.prog.info? 61).map (fun i => (i.zero, i.size, i.bytes)) = some (some (.agg #[.int .i64 0, .int .i64 0, .int .i64 0, .int .i64 0, .int .i32 0, .string ⟨#[]⟩, .slice none 0 0]), 7, 80) := by kernel_rfl
end Go.Proofs.Ytnfneinonkpmeaa
namespace Go.Proofs.Ytnfneinonkpmeaa
open Go.RowKit

theorem put_end {w w2 : World} {pb mb m : Nat} {v v' : Value} {r r' : Option Nat} {f : Fn} {l l2 : List Vins} {n : Nat} {kn : Lit → Option Lit} {xs ys : List Value} (h : PickAt w pb mb v r f l n kn)
    (hR : RowAt w 61 7 v r l.length xs) (hX : CodeCells w (CodeT pb mb r) l xs) (hY : CodeCells w (CodeT pb mb r) l2 ys) (hml : l2.length = m)
    (hp : w.heap[pb]? = some (.cells #[.string f.name, .int .i64 f.params, .int .i64 f.regs, v, .map (some mb)] 65 (0, 0)))
    (hp2 : w2.heap[pb]? = some (.cells #[.string f.name, .int .i64 f.params, .int .i64 f.regs, v, .map (some mb)] 65 (0, 0)))
    (hR2 : RowAt w2 61 7 v' r' (l.length + m) (xs ++ ys)) (hC2 : Chg (fun k => some k = r) w w2) (hN : NewOr w r r') :
    ∃ v'' r'', PickAt (w2.setCell ⟨pb, 3, none⟩ v') pb mb v'' r'' f (l ++ l2) n kn ∧ PStep w pb mb r (w2.setCell ⟨pb, 3, none⟩ v') r'' := by
  have hs := Chg.store w2 pb 3 v'
  have hne : r' ≠ some pb := row_not hR2 hp2 (by decide)
  have hpm : pb ≠ mb := MapAt.ne_cells h.map hp
  have hrm : r ≠ some mb := row_not_map hR h.map
  have hmap2 := h.map.kept hC2 (fun e => hrm e.symm)
  have hfoot : ∀ k, CodeT pb mb r k → k < w.heap.size → CodeT pb mb r' k := by
    rintro k ⟨hk, hk1⟩ hlt
    refine ⟨?_, hk1⟩
    rintro (e | e | e)
    · exact hk (.inl e)
    · exact hk (.inr (.inl e))
    · exact hk (.inr (.inr (hN.old hlt e.symm).symm))
  have hc : ∀ (q : List Vins) zs, CodeCells w (CodeT pb mb r) q zs → CodeCells (w2.setCell ⟨pb, 3, none⟩ v') (CodeT pb mb r') q zs := fun q zs hq => by
    have h1 : CodeCells w (fun k => CodeT pb mb r' k ∧ CodeT pb mb r k) q zs := hq.mono fun k hk hlt => ⟨hfoot k hk hlt, hk⟩
    have h2 := h1.kept hC2 fun k hk _ e => hk.2.1 (.inr (.inr e))
    have h3 := h2.kept hs fun k hk _ e => hk.1.1 (.inl e)
    exact h3.mono fun k hk _ => hk.1
  refine ⟨v', r', ⟨?_, ⟨xs ++ ys, ?_, ?_⟩, ?_⟩, ?_, ?_⟩
  · rw [heap_setCell_same w2 pb 3 _ _ v' hp2]; rfl
  · rw [List.length_append, hml]; exact hR2.kept hs fun k hk e => hne (by rw [hk, e])
  · exact (hc _ _ hX).append (hc _ _ hY)
  · exact hmap2.kept hs fun e => hpm e.symm
  · exact (hC2.mono (T := FootP pb mb r) fun i _ e => .inr (.inr e)).trans hs fun i _ e => .inl e
  · exact hN

set_option maxHeartbeats 1000000 in
set_option maxRecDepth 100000 in
theorem put_any {w : World} {pb mb : Nat} {v : Value} {r : Option Nat} {f : Fn} {l : List Vins} {n : Nat} {kn : Lit → Option Lit} (h : PickAt w pb mb v r f l n kn) (g off m c : Nat) (l2 : List Vins) (ys : List Value)
    (hcells : ∀ j u, ys[j]? = some u → w.cell? ⟨g, off + j, none⟩ = some u) (hC : CodeCells w (CodeT pb mb r) l2 ys) (hml : l2.length = m) (hm : 0 < m) (hb : l.length + m ≤ 1000000000) :
    Calls Try.prog 20 #[.pointer (some ⟨pb, 0, none⟩), .slice (some ⟨g, off, none⟩) m c] w
      fun e w' => e = .returned (.tuple #[]) ∧ ∃ v' r', PickAt w' pb mb v' r' f (l ++ l2) n kn ∧ PStep w pb mb r w' r' := by
  obtain ⟨xs, hR, hX⟩ := h.code
  have hh := h.heap
  obtain ⟨A, cap, rfl, _⟩ := hR.shape
  have hc3 : w.cell? ⟨pb, 3, none⟩ = some (.slice A l.length cap) := by simp [World.cell?, hh]
  have hyl : ys.length = m * 7 := by rw [hC.len, hml]
  have HH := Lib.hid h
  have HR := Lib.hid hR
  have HX := Lib.hid hX
  have HY := Lib.hid hC
  have HCS := Lib.hid hcells
  have HYL := Lib.hid hyl
  have HHP := Lib.hid hh
  have HML := Lib.hid hml
  clear h hR hX hC hcells hyl hh hml
  go_enter Try.func20, Try.ntmps20
  go_wp2_with (at_builtin; go_must (refine wpList_append_row _ rfl _ _ 32 61 _ 7 80 rfl Try.underlying32 info_vins rfl HR.out ⟨g, off, none⟩ m c ys HYL.out (fun j u hu => by rw [Addr.add_lit]; exact HCS.out j u hu) HY.out.plain rfl rfl (by omega) (by unfold maxLen; omega) hm ?_); intro v' r' w2 hR' hC2 hN; have hp2 := hC2.heap HHP.out (fun e => row_not HR.out HHP.out (by decide) e.symm); have hf3 : w2.frozen? ⟨pb, 3, none⟩ = false := (by simp [World.frozen?, hp2]); have hc32 : w2.cell? ⟨pb, 3, none⟩ = some (.slice A l.length cap) := (by simp [World.cell?, hp2]); obtain ⟨A', c', rfl, _⟩ := hR'.shape; have HR2 := Lib.hid hR'; have HC2 := Lib.hid hC2; have HN := Lib.hid hN; have HP2 := Lib.hid hp2; clear hR' hC2 hN hp2)
  refine bodyPost_end (results_none rfl _ _ _) rfl ?_
  exact ⟨rfl, put_end HH.out HR.out HX.out HY.out HML.out HHP.out HP2.out HR2.out HC2.out HN.out⟩
end Go.Proofs.Ytnfneinonkpmeaa
namespace Go.Proofs.Ytnfneinonkpmeaa
open Go.RowKit

def vinsAgg (x : Vins) : Value := .agg #[.int .i64 x.op, .int .i64 x.d, .int .i64 x.a, .int .i64 x.b, .int .i32 x.num, .string x.name, .slice none 0 0]
def threeS (op d a b : Int) : Vins := ⟨op, d, a, b, 0, ⟨#[]⟩, []⟩
def withS (op d a n : Int) : Vins := ⟨op, d, a, -1, n, ⟨#[]⟩, []⟩

theorem three_any (op d a b : Int) (w : World) :
    Calls Try.prog 34 #[.int .i64 op, .int .i64 d, .int .i64 a, .int .i64 b] w fun e w' => e = .returned (.agg #[.int .i64 op, .int .i64 d, .int .i64 a, .int .i64 b, .int .i32 0, .string ⟨#[]⟩, .slice none 0 0]) ∧ Below w.heap.size w w' := by
  go_enter Try.func34, Try.ntmps34
  go_wp2
  go_returns
  exact ⟨rfl, (Below.refl _ _).alloc (Nat.le_refl _) _⟩
theorem with_any (op d a n : Int) (w : World) :
    Calls Try.prog 49 #[.int .i64 op, .int .i64 d, .int .i64 a, .int .i32 n] w fun e w' => e = .returned (.agg #[.int .i64 op, .int .i64 d, .int .i64 a, .int .i64 (-1), .int .i32 n, .string ⟨#[]⟩, .slice none 0 0]) ∧ Below w.heap.size w w' := by
  go_enter Try.func49, Try.ntmps49
  go_wp2
  go_returns
  exact ⟨rfl, (Below.refl _ _).alloc (Nat.le_refl _) _⟩
theorem to_any (op a n : Int) (hn : I32 n) (w : World) :
    Calls Try.prog 21 #[.int .i64 op, .int .i64 a, .int .i64 n] w fun e w' => e = .returned (.agg #[.int .i64 op, .int .i64 (-1), .int .i64 a, .int .i64 (-1), .int .i32 n, .string ⟨#[]⟩, .slice none 0 0]) ∧ Below w.heap.size w w' := by
  have h1 := hn.1
  have h2 := hn.2
  clear hn
  go_enter Try.func21, Try.ntmps21
  go_wp2
  go_returns
  exact ⟨rfl, (Below.refl _ _).alloc (Nat.le_refl _) _⟩
def plainS (op : Int) : Int := if op = 1 then 11 else if op = 2 then 12 else if op = 3 then 21 else if op = 4 then 22 else if op = 5 then 23 else if op = 6 then 13 else if op = 7 then 18 else if op = 8 then 20 else if op = 9 then 19 else if op = 10 then 16 else if op = 11 then 14 else 0
theorem op_cases {op : Int} (h : 1 ≤ op ∧ op ≤ 16) : op = 1 ∨ op = 2 ∨ op = 3 ∨ op = 4 ∨ op = 5 ∨ op = 6 ∨ op = 7 ∨ op = 8 ∨ op = 9 ∨ op = 10 ∨ op = 11 ∨ op = 12 ∨ op = 13 ∨ op = 14 ∨ op = 15 ∨ op = 16 := by omega
theorem plain_any (op : Int) (ho : 1 ≤ op ∧ op ≤ 16) (w : World) : Calls Try.prog 52 #[.int .i64 op] w fun e w' => e = .returned (.int .i64 (plainS op)) ∧ w = w' := by
  rcases op_cases ho with rfl | rfl | rfl | rfl | rfl | rfl | rfl | rfl | rfl | rfl | rfl | rfl | rfl | rfl | rfl | rfl <;>
  (go_enter Try.func52, Try.ntmps52
   go_wp2
   go_ret
   exact ⟨rfl, rfl⟩)
def turnsS (op : Int) : Bool := decide (op = 1) || decide (op = 8) || decide (op = 9) || decide (op = 10)
theorem turns_any (op : Int) (ho : 1 ≤ op ∧ op ≤ 16) (w : World) : Calls Try.prog 51 #[.int .i64 op] w fun e w' => e = .returned (.bool (turnsS op)) ∧ w = w' := by
  rcases op_cases ho with rfl | rfl | rfl | rfl | rfl | rfl | rfl | rfl | rfl | rfl | rfl | rfl | rfl | rfl | rfl | rfl <;>
  (go_enter Try.func51, Try.ntmps51
   go_wp2
   go_ret
   exact ⟨rfl, rfl⟩)
def fits12 (n : Int) : Bool := decide (-2048 ≤ n) && decide (n < 2048)
theorem Fits_any (n : Int) (hn : I32 n) (w : World) : Calls Try.prog 66 #[.int .i32 n, .int .i64 12] w fun e w' => e = .returned (.bool (fits12 n)) ∧ w = w' := by
  have h1 := hn.1
  have h2 := hn.2
  clear hn
  unfold fits12
  by_cases h3 : -2048 ≤ n <;> by_cases h4 : n < 2048 <;>
  (go_enter Try.func66, Try.ntmps66
   go_wp2
   go_ret
   refine ⟨ret_bool ?_, rfl⟩
   refine Bool.eq_iff_iff.2 ?_; first | (simp; done) | (simp; omega))
end Go.Proofs.Ytnfneinonkpmeaa
namespace Go.Proofs.Ytnfneinonkpmeaa
open Go.RowKit

/-- Behind a call: the picker with this code. -/
def Picked (w : World) (pb mb : Nat) (r : Option Nat) (f : Fn) (l : List Vins) (n : Nat) (kn : Lit → Option Lit) (w' : World) : Prop := ∃ v' r', PickAt w' pb mb v' r' f l n kn ∧ PStep w pb mb r w' r'
theorem RdT.nil {w : World} {T : Nat → Prop} {A : Option Addr} : RdT w T A (ints []) := fun h => by simp [ints] at h

section
variable {w w1 : World} {pb mb : Nat} {v : Value} {r : Option Nat} {f : Fn} {l : List Vins} {n : Nat} {kn : Lit → Option Lit}
theorem put_cells (h : PickAt w pb mb v r f l n kn) (hB : Below w.heap.size w w1) (cs : Array Value) (m : Nat) (l2 : List Vins) (hC : CodeCells w1 (CodeT pb mb r) l2 cs.toList) (hml : l2.length = m) (hm : 0 < m) (hb : l.length + m ≤ 1000000000) :
    Calls Try.prog 20 #[.pointer (some ⟨pb, 0, none⟩), .slice (some ⟨w1.heap.size, 0, none⟩) m m] (w1.alloc (.cells cs 61))
      fun e w' => e = .returned (.tuple #[]) ∧ Picked w pb mb r f (l ++ l2) n kn w' := by
  have ha : Below w1.heap.size w1 (w1.alloc (.cells cs 61)) := (Below.refl _ _).alloc (Nat.le_refl _) _
  have h1 : Below w.heap.size w (w1.alloc (.cells cs 61)) := hB.trans (ha.mono hB.size)
  refine (put_any (h.kept h1) w1.heap.size 0 m m l2 cs.toList (fun j u hu => ?_) (hC.kept (chg_of_below ha) fun k _ hk => by omega) hml hm hb).mono ?_
  · rw [Nat.zero_add, cell_of_row _ _ _ _ _ _ (heap_alloc_new w1 _), ← Array.getElem?_toList]; exact hu
  · rintro e w' ⟨rfl, v', r', hp, hs⟩
    exact ⟨rfl, v', r', hp, (PStep.ofBelow h1).trans hs⟩
theorem put_one (h : PickAt w pb mb v r f l n kn) (hB : Below w.heap.size w w1) (op d a b num : Int) (name : ByteArray) (hb : l.length + 1 ≤ 1000000000) :
    Calls Try.prog 20 #[.pointer (some ⟨pb, 0, none⟩), .slice (some ⟨w1.heap.size, 0, none⟩) 1 1] (w1.alloc (.cells #[.int .i64 op, .int .i64 d, .int .i64 a, .int .i64 b, .int .i32 num, .string name, .slice none 0 0] 61))
      fun e w' => e = .returned (.tuple #[]) ∧ Picked w pb mb r f (l ++ [⟨op, d, a, b, num, name, []⟩]) n kn w' :=
  put_cells h hB _ 1 _ (CodeCells.one ⟨none, 0, rfl, RdT.nil⟩) rfl (by omega) hb
theorem put_args (h : PickAt w pb mb v r f l n kn) (hB : Below w.heap.size w w1) (op d a b num : Int) (name : ByteArray) (args : List Int) (A : Option Addr) (c : Nat) (hA : RdT w1 (CodeT pb mb r) A (ints args)) (hb : l.length + 1 ≤ 1000000000) :
    Calls Try.prog 20 #[.pointer (some ⟨pb, 0, none⟩), .slice (some ⟨w1.heap.size, 0, none⟩) 1 1] (w1.alloc (.cells #[.int .i64 op, .int .i64 d, .int .i64 a, .int .i64 b, .int .i32 num, .string name, .slice A args.length c] 61))
      fun e w' => e = .returned (.tuple #[]) ∧ Picked w pb mb r f (l ++ [⟨op, d, a, b, num, name, args⟩]) n kn w' :=
  put_cells h hB _ 1 _ (CodeCells.one ⟨A, c, rfl, hA⟩) rfl (by omega) hb
theorem put_two (h : PickAt w pb mb v r f l n kn) (hB : Below w.heap.size w w1) (op d a b num op' d' a' b' num' : Int) (name name' : ByteArray) (hb : l.length + 2 ≤ 1000000000) :
    Calls Try.prog 20 #[.pointer (some ⟨pb, 0, none⟩), .slice (some ⟨w1.heap.size, 0, none⟩) 2 2]
      (w1.alloc (.cells #[.int .i64 op, .int .i64 d, .int .i64 a, .int .i64 b, .int .i32 num, .string name, .slice none 0 0, .int .i64 op', .int .i64 d', .int .i64 a', .int .i64 b', .int .i32 num', .string name', .slice none 0 0] 61))
      fun e w' => e = .returned (.tuple #[]) ∧ Picked w pb mb r f (l ++ [⟨op, d, a, b, num, name, []⟩, ⟨op', d', a', b', num', name', []⟩]) n kn w' :=
  put_cells h hB _ 2 _ (CodeCells.two ⟨none, 0, rfl, RdT.nil⟩ ⟨none, 0, rfl, RdT.nil⟩) rfl (by omega) hb

end
end Go.Proofs.Ytnfneinonkpmeaa
