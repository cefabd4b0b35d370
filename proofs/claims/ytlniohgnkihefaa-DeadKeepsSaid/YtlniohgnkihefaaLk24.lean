/- brazierref12.Machine: a call, as an instruction. -/
import Derived.Test.YtlniohgnkihefaaLk23
import Derived.Test.YtlniohgnkihefaaLk4
import Derived.Test.YtlniohgnkihefaaLk21
import Derived.Test.YtlniohgnkihefaaLk12
import Derived.Test.YtlniohgnkihefaaLk9
import Derived.Test.YtlniohgnkihefaaLk7
namespace Go.Proofs.Ytlniohgnkihefaa
open Go.RowKit
/-- What a call leaves. -/
def CallPost (E : Env) (s : MS) (f : Fn) (vals : List Int) (c : Nat) (r : Option Nat) (w : World) (e : Ending) (w' : World) : Prop :=
  ∃ (v : Int) (s' : MS) (r' : Option Nat) (c' : Nat), e = .returned (.int .i32 v) ∧ I32 v ∧ Chg (Foot E r) w w' ∧ MacAt E s' c' r' w' ∧ NewOr w r r' ∧
  ((s'.fin = 0 ∧ c' = c ∧ ∀ K dst, K.length = c → ReachE E (s, entry f vals dst :: K) (retC dst v s' K)) ∨
    (s'.fin ≠ 0 ∧ ∀ K dst, K.length = c → ∃ K', ReachE E (s, entry f vals dst :: K) (s', K')))
/-- What is asked of a call. -/
structure CallIn (E : Env) (s : MS) (c : Nat) (r : Option Nat) (w : World) (name : ByteArray) (f : Fn) (vals : List Int) (Aa : Option Addr) : Prop where
  mac : MacAt E s c r w
  fin : s.fin = 0
  fn : ∃ (k : Nat) (h : k < E.m.fns.length), fnAt E.m.fns name = k ∧ f = E.m.fns[k]
  par : f.params = vals.length
  bd : ∀ z ∈ vals, I32 z
  rd : ReadsAt w Aa (i32s vals)
  ap : ∀ g off, Aa = some ⟨g, off, none⟩ → ¬ Foot E r g
def CallC (E : Env) (c : Nat) : Prop := ∀ (s : MS) (r : Option Nat) (w : World) (name : ByteArray) (f : Fn) (vals : List Int) (Aa : Option Addr) (ca : Nat), CallIn E s c r w name f vals Aa →
  Calls Try.prog 30 #[.pointer (some ⟨E.mb, 0, none⟩), .string name, .slice Aa vals.length ca] w (CallPost E s f vals c r w)
/-- Too deep: the run ends. -/
def DeepPost (E : Env) (s : MS) (c : Nat) (r : Option Nat) (w : World) (e : Ending) (w' : World) : Prop := e = .returned (.int .i32 0) ∧ MacAt E (s.ended 4) c r w' ∧ Chg (fun k => k = E.mb) w w'
theorem readsBelow7 {w w' : World} {A : Option Addr} {xs : List Value} (h : ReadsAt w A xs) (hb : Below w.heap.size w w') : ReadsAt w' A xs := h.kept (S := fun _ => False) (Chg.of_below hb _) fun _ _ _ _ h => h
section
variable {E : Env} {s : MS} {c : Nat} {r : Option Nat} {w w' : World} {gr : Nat} {regs : List Int}
set_option maxHeartbeats 4000000 in
theorem call_deep (hE : EnvOk E) (h : MacAt E s 32 r w) (name : ByteArray) (Aa : Option Addr) (n ca : Nat) :
    Calls Try.prog 30 #[.pointer (some ⟨E.mb, 0, none⟩), .string name, .slice Aa n ca] w (DeepPost E s 32 r w) := by
  obtain ⟨_, _, _, _, _, m5, m6, _, _, mf⟩ := h.cells
  have HE := Lib.hid hE
  have HM := Lib.hid h
  clear h hE
  go_enter Try.func30, Try.ntmps30
  go_wp2_with fail
  go_ret
  exact ⟨rfl, HM.out.own HE.out 6 _ (s.ended 4) 32 rfl rfl ⟨Nat.le_refl _, HM.out.sl⟩ HM.out.rl HM.out.cl fun vT => by simp [MS.ended], Chg.store w E.mb 6 _⟩
theorem named {m : Mid} {name : ByteArray} {f : Fn} {k : Nat} (h : k < m.fns.length) (h1 : fnAt m.fns name = k) (h2 : f = m.fns[k]) : fnNamed m name = f := by
  unfold fnNamed
  rw [h1, h2]
  simp [List.getD, h]
theorem MacAt.footlt (h : MacAt E s c r w) {k : Nat} (hk : Foot E r k) : k < w.heap.size := by
  rcases hk with hf | hf | hf
  · rw [hf]; exact h.blt
  · obtain ⟨i, hi, e3⟩ := List.getElem_of_mem hf
    rw [← e3]; exact RowAt.lt (h.words i hi) _ rfl
  · obtain ⟨_, _, ht⟩ := h.obj
    exact ht.lt k hf.symm
theorem RegAt.newr {W : World} {r' : Option Nat} (h : RegAt E r gr regs w') (hl : gr < W.heap.size) (hn : NewOr W r r') : RegAt E r' gr regs w' := ⟨h.words, h.bd, h.base, fun hf => by
  rcases hf with e | e | e
  · exact h.foot (.inl e)
  · exact h.foot (.inr (.inl e))
  · exact h.foot (.inr (.inr (hn.old hl e.symm).symm)), h.row⟩
/-- A call as an instruction of it sees it. -/
def Mid7 (E : Env) (s : MS) (x : Ins) (regs : List Int) (c : Nat) (r : Option Nat) (w : World) (e : Ending) (w' : World) : Prop :=
  ∃ (v : Int) (s' : MS) (r' : Option Nat) (c' : Nat), e = .returned (.int .i32 v) ∧ I32 v ∧ Chg (Foot E r) w w' ∧ MacAt E s' c' r' w' ∧ NewOr w r r' ∧
  ((s'.fin = 0 ∧ c' = c ∧ ∀ fr K, fr.regs = regs → K.length + 1 = c → ReachE E (exS E.m E.inp x s fr K) (s', fr.putIf x.d v :: K)) ∨
    (s'.fin ≠ 0 ∧ ∀ fr K, fr.regs = regs → K.length + 1 = c → ∃ K', ReachE E (exS E.m E.inp x s fr K) (s', K')))
theorem mid7 (hE : EnvOk E) (hC : c < 32 → CallC E c) {d : Int} {name : ByteArray} {args vals : List Int} {f : Fn} {Aa : Option Addr} (h : CallIn E s c r w name f vals Aa) {x : Ins} (hx : x = ⟨7, 0, d, -1, -1, 0, name, args⟩) (hv : vals = args.map (getR regs)) (ca : Nat) :
    Calls Try.prog 30 #[.pointer (some ⟨E.mb, 0, none⟩), .string name, .slice Aa vals.length ca] w (Mid7 E s x regs c r w) := by
  subst hx
  by_cases hc : c = 32
  · subst hc
    refine (call_deep hE h.mac name Aa vals.length ca).mono ?_
    rintro e w' ⟨rfl, hm, hch⟩
    refine ⟨0, s.ended 4, r, 32, rfl, by unfold I32; simp, hch.mono fun _ _ e => .inl e, hm, NewOr.refl _ _, .inr ⟨by simp [MS.ended], fun fr K e hl => ⟨fr :: K, ?_⟩⟩⟩
    have ee : exS E.m E.inp ⟨7, 0, d, -1, -1, 0, name, args⟩ s fr K = (s.ended 4, fr :: K) := by simp [exS, hl]
    rw [ee]
    exact Reach.refl _
  · have hcl := h.mac.cl
    refine (hC (by omega) s r w name f vals Aa ca h).mono ?_
    rintro e w' ⟨v, s', r', c', rfl, hv', hch, hm, hn, hf⟩
    obtain ⟨k, hk, h1, h2⟩ := h.fn
    have ee : ∀ fr K, fr.regs = regs → K.length + 1 = c → exS E.m E.inp ⟨7, 0, d, -1, -1, 0, name, args⟩ s fr K = (s, entry f vals d :: fr :: K) := fun fr K e hl => by
      have h3 : K.length + 1 ≠ 32 := by omega
      simp [exS, h3, named hk h1 h2, e, hv]
    refine ⟨v, s', r', c', rfl, hv', hch, hm, hn, ?_⟩
    rcases hf with ⟨f1, f2, f3⟩ | ⟨f1, f3⟩
    · refine .inl ⟨f1, f2, fun fr K e hl => ?_⟩
      rw [ee fr K e hl]
      exact f3 (fr :: K) d (by simpa using hl)
    · refine .inr ⟨f1, fun fr K e hl => ?_⟩
      rw [ee fr K e hl]
      exact f3 (fr :: K) d (by simpa using hl)
/-- The arguments so far. -/
structure ArgI (B : Nat) (regs args : List Int) (w1 : World) (k : Nat) (v : Value) (W : World) : Prop where
  row : ∃ rr, RowAt W 21 1 v rr k (i32s ((args.take k).map (getR regs))) ∧ ∀ q, rr = some q → B ≤ q
  below : Below B w1 W
set_option maxHeartbeats 8000000 in
set_option maxRecDepth 100000 in
theorem mins_7 (hE : EnvOk E) (hC : c < 32 → CallC E c) (h : MacAt E s c r w) (hR : RegAt E r gr regs w) (h0 : s.fin = 0) (d : Int) (name : ByteArray) (args : List Int) (f : Fn) (kf : Nat) (hkf : kf < E.m.fns.length) (hfn : fnAt E.m.fns name = kf) (hf : f = E.m.fns[kf]) (hpar : f.params = args.length)
    (hd : regB d regs.length true = true) (hl : args.length ≤ 8) (ha : ∀ a ∈ args, regB a regs.length false = true) (Ax : Option Addr) (cx : Nat) (hx : ReadsAt w Ax (ints args)) :
    Calls Try.prog 53 #[.pointer (some ⟨E.mb, 0, none⟩), .slice (some ⟨gr, 0, none⟩) regs.length regs.length, .agg #[.int .i64 7, .int .i64 0, .int .i64 d, .int .i64 (-1), .int .i64 (-1), .int .i32 0, .string name, .slice Ax args.length cx]] w (InsPost E s ⟨7, 0, d, -1, -1, 0, name, args⟩ gr regs c r w) := by
  obtain ⟨w1, hw1, hb1, hlt1, hc⟩ := box_new w #[.int .i64 7, .int .i64 0, .int .i64 d, .int .i64 (-1), .int .i64 (-1), .int .i32 0, .string name, .slice Ax args.length cx] 48
  have HM0 := Lib.hid h
  have HM := Lib.hid (h.below hb1)
  have HR := Lib.hid (hR.below hb1)
  have HB := Lib.hid hb1
  have H0 := Lib.hid h0
  have HW := Lib.hid hw1
  have HX := Lib.hid (readsBelow7 hx hb1)
  have x0 := hc 0
  have x2 := hc 2
  have x6 := hc 6
  have x7 := hc 7
  simp only [List.getElem?_toArray, List.getElem?_cons_succ, List.getElem?_cons_zero] at x0 x2 x6 x7
  obtain ⟨bx, hbx⟩ : ∃ bx, bx = w.heap.size := ⟨_, rfl⟩
  rw [← hbx] at x0 x2 x6 x7
  have HBX := Lib.hid hbx
  have hbx1 : bx < w1.heap.size := by rw [hbx]; exact hlt1
  have HF := Lib.hid (And.intro hfn (And.intro hf hpar))
  have HE := Lib.hid hE
  have HC := Lib.hid hC
  have HA := Lib.hid ha
  have HD := Lib.hid hd
  clear h hR hb1 hlt1 hc hw1 h0 hbx hfn hf hpar hE hC ha hd hx
  go_enter Try.func53, Try.ntmps53
  go_upto_region 1 with (fail)
  rw [← HW.out, ← HBX.out]
  go_upto_region 25 with (fail)
  have hBl : Below w1.heap.size w1 w1 := Below.refl _ _
  go_loopw [16, 143] (fun v i wr => ∃ (k : Nat), k ≤ args.length ∧ i = .int .i64 (k : Nat) ∧ ArgI w1.heap.size regs args w1 k v wr) (fun _ i _ => args.length - (intOf i).toNat)
  case atStart => exact ⟨0, by omega, rfl, ⟨none, RowAt.nil _ _ _, fun _ h => by cases h⟩, hBl⟩
  case round =>
    obtain ⟨k, hk, rfl, hI⟩ := hrel
    have HI := Lib.hid hI
    have HRr := Lib.hid (HR.out.below hI.below)
    have HMr := Lib.hid (HM.out.below hI.below)
    have y2 := (hI.below.cell (p := ⟨bx, 2, none⟩) hbx1).trans x2
    have y6 := (hI.below.cell (p := ⟨bx, 6, none⟩) hbx1).trans x6
    have HXr := Lib.hid (readsBelow7 HX.out hI.below)
    clear hI
    by_cases hlt : k < args.length
    · obtain ⟨a, hae⟩ : ∃ a, a = args[k] := ⟨_, rfl⟩
      have hab : regB a regs.length false = true := by rw [hae]; exact HA.out _ (List.getElem_mem hlt)
      obtain ⟨ka, rfl, hka⟩ := regB_k hab
      obtain ⟨gx, ox, rfl, hgx, hcell⟩ := HXr.out (by rw [ints_length]; omega)
      have z1 := hcell k (.int .i64 (ka : Int)) (by simp [ints, hlt, hae])
      obtain ⟨z2, _⟩ := wsCell HRr.out.words ka hka
      obtain ⟨va, hva⟩ : ∃ va, va = regs.getD ka 0 := ⟨_, rfl⟩
      rw [← hva] at z2
      obtain ⟨rr, hrow, hrr⟩ := HI.out.row
      obtain ⟨Av, cv, rfl, _⟩ := hrow.shape
      have hrl : regs.length ≤ maxLen := by
        obtain ⟨_, _, _, _, _, h1, h2, _⟩ := RowAt.form HRr.out.words (by omega)
        exact Nat.le_trans h1 h2
      unfold maxLen at hrl
      have hnext : i32s ((args.take (k + 1)).map (getR regs)) = i32s ((args.take k).map (getR regs)) ++ [.int .i32 va] := by
        rw [List.take_succ_eq_append_getElem hlt]
        simp [i32s, ← hae, getR, hva]
      have HNX := Lib.hid hnext
      have HROW := Lib.hid hrow
      have HRR := Lib.hid hrr
      clear hae hab hcell hva hrow hrr hnext
      go_wp2_with (at_builtin; refine wpList_append_one _ rfl (.tmp 147) (.tmp 152) 34 21 (.int .i32 0) 4 rfl Try.underlying34 info_i32 rfl HROW.out (.int .i32 va) rfl rfl rfl (by omega) (by unfold maxLen; omega) ?_; intro v' r' W3 hR3 hC3 hN3; have HR3 := Lib.hid hR3; have HC3 := Lib.hid hC3; have HN3 := Lib.hid hN3; clear hR3 hC3 hN3)
      go_roundw
      case rel =>
        refine ⟨k + 1, by omega, by go_num, ⟨r', by rw [HNX.out]; exact HR3.out, HN3.out.ge HI.out.below.size HRR.out⟩, HI.out.below.trans (HC3.out.below HI.out.below.size fun q e => HRR.out q e.symm)⟩
      case measure => simp [intOf]; omega
    · obtain rfl : k = args.length := by omega
      obtain ⟨rr, hrow, hrr⟩ := HI.out.row
      obtain ⟨Av, cv, rfl, _⟩ := hrow.shape
      have e1 : args.take args.length = args := List.take_length
      rw [e1] at hrow
      obtain ⟨vals, hvals⟩ : ∃ vals, vals = args.map (getR regs) := ⟨_, rfl⟩
      rw [← hvals] at hrow
      have hvl : vals.length = args.length := by rw [hvals]; simp
      have hvb : ∀ z ∈ vals, I32 z := by
        intro z hz
        rw [hvals] at hz
        obtain ⟨a, _, rfl⟩ := List.mem_map.1 hz
        exact getR_i32 HR.out.bd a
      have hap : ∀ g off, Av = some ⟨g, off, none⟩ → ¬ Foot E r g := fun g off e hf => by
        have hm := HM.out
        rcases hrow.2 with ⟨h0, _⟩ | ⟨g', off', cap', cur', hv, hr', _⟩
        · injection h0 with h0 _ _; rw [e] at h0; cases h0
        · injection hv with hv _ _
          rw [e] at hv
          injection hv with hv
          injection hv with hv _
          have hge := hrr g' hr'
          rcases hf with hf | hf | hf
          · have := hm.blt; omega
          · obtain ⟨i, hi, e3⟩ := List.getElem_of_mem hf
            have := RowAt.lt (hm.words i hi) _ rfl
            omega
          · obtain ⟨_, _, ht⟩ := hm.obj
            have := ht.lt g hf.symm; omega
      have HV := Lib.hid hvals
      have HIN : Hid (CallIn E s c r wr name f vals Av) := Lib.hid ⟨HMr.out, H0.out, ⟨kf, hkf, HF.out.1, HF.out.2.1⟩, by rw [HF.out.2.2, hvl], hvb, RowAt.reads hrow, hap⟩
      have HVL := Lib.hid hvl
      clear hrow hrr e1 hvals hvb hap hvl
      have HCA : Hid (Calls Try.prog 30 #[.pointer (some ⟨E.mb, 0, none⟩), .string name, .slice Av args.length cv] wr (Mid7 E s ⟨7, 0, d, -1, -1, 0, name, args⟩ regs c r wr)) := Lib.hid (by
        rw [← HVL.out]
        exact mid7 HE.out HC.out HIN.out rfl HV.out cv)
      clear HIN
      go_wp2_with fail
      refine HCA.out.mono ?_
      rintro e w2 ⟨v, s', r', c', rfl, hv, hch, hmac, hnew, hfin⟩
      have y2 := hch.cell (p := ⟨bx, 2, none⟩) y2 (fun hf => by have h9 := HM0.out.footlt hf; have h8 := HBX.out; dsimp only at h9; omega)
      have HR2 := Lib.hid ((HRr.out.kept hch HRr.out.foot).newr HRr.out.lt hnew)
      have HM2 := Lib.hid hmac
      have HCH : Hid (Chg (Foot E r) w w2) := Lib.hid (((Chg.of_below HB.out _).trans (Chg.of_below (HI.out.below.mono (Nat.le_refl _)) (fun _ => False)) fun _ _ h => h.elim).trans hch fun _ _ h => h)
      have HNW : Hid (NewOr w r r') := Lib.hid (hnew.mono (Nat.le_trans HB.out.size HI.out.below.size))
      have HFN := Lib.hid hfin
      have HVI := Lib.hid hv
      clear hv hch hmac hnew hfin
      have hdc : (d = -1) ∨ ∃ kd : Nat, d = (kd : Int) ∧ kd < regs.length := by
        have := HD.out
        unfold regB at this
        simp only [Bool.or_eq_true, Bool.and_eq_true, decide_eq_true_eq] at this
        rcases this with ⟨h1, h2⟩ | ⟨_, h1⟩
        · exact .inr ⟨d.toNat, by omega, by omega⟩
        · exact .inl h1
      rcases hdc with rfl | ⟨kd, rfl, hkd⟩
      · go_wp2_with fail
        go_end0
        refine ⟨s', r', regs, c', rfl, HCH.out.mono fun _ _ e => .inl e, HM2.out, HR2.out, rfl, HNW.out, ?_⟩
        rcases HFN.out with ⟨h1, h2, h3⟩ | ⟨h1, h3⟩
        · refine .inl ⟨h1, h2, fun fr K e hl => ?_⟩
          have h4 := h3 fr K e hl
          rw [show fr.putIf (-1) v = { fr with regs := regs } from by unfold Fr.putIf; rw [if_neg (by decide), ← e]] at h4
          exact h4
        · exact .inr ⟨h1, h3⟩
      · obtain ⟨q1, q2⟩ := wsCell HR2.out.words kd hkd
        have hkd0 : (0 : Int) ≤ (kd : Int) := by omega
        have hrl : regs.length ≤ maxLen := by
          obtain ⟨_, _, _, _, _, h1, h2, _⟩ := RowAt.form HR2.out.words (by omega)
          exact Nat.le_trans h1 h2
        unfold maxLen at hrl
        go_wp2_with fail
        go_end0
        refine ⟨s', r', regs.set kd v, c', rfl, (HCH.out.mono fun _ _ e => .inl e).setCell ⟨gr, kd, none⟩ (fun _ => .inr rfl) _, HM2.out.reg HR2.out kd _, HR2.out.set kd hkd v HVI.out, by simp, HNW.out, ?_⟩
        rcases HFN.out with ⟨h1, h2, h3⟩ | ⟨h1, h3⟩
        · refine .inl ⟨h1, h2, fun fr K e hl => ?_⟩
          have h4 := h3 fr K e hl
          rw [show fr.putIf (kd : Int) v = { fr with regs := regs.set kd v } from by unfold Fr.putIf Fr.put setR; rw [if_pos (by omega), e]; simp] at h4
          exact h4
        · exact .inr ⟨h1, h3⟩
end
end Go.Proofs.Ytlniohgnkihefaa
namespace Go.Proofs.Ytlniohgnkihefaa
open Go.RowKit
section
variable {E : Env} {s : MS} {c : Nat} {r : Option Nat} {w w' : World} {gr : Nat} {regs : List Int}
theorem mins_any (hE : EnvOk E) (hC : c < 32 → CallC E c) (h : MacAt E s c r w) (hR : RegAt E r gr regs w) (h0 : s.fin = 0) (htl : s.trace.length + 1 ≤ s.steps) (x : Ins) (hx : InsV (regs.length : Int) x) (hm : InsM E.m x) (hz : I32 x.num) (Ax : Option Addr) (cx : Nat) (ha : ReadsAt w Ax (ints x.args)) :
    Calls Try.prog 53 #[.pointer (some ⟨E.mb, 0, none⟩), .slice (some ⟨gr, 0, none⟩) regs.length regs.length, agI x Ax cx] w (InsPost E s x gr regs c r w) := by
  cases hx with
  | num d z hd => exact mins_1 h hR h0 d z hd hz Ax cx
  | copy d a hd ha' => exact mins_2 h hR h0 d a hd ha' Ax cx
  | un op d a ho hd ha' => exact mins_3 h hR h0 op d a hd ha' Ax cx
  | bin op d a b ho hd ha' hb => exact mins_4 h hR h0 hE op d a b hd ha' hb Ax cx
  | load d a name hd ha' hn =>
    obtain ⟨g, hg, h1, _⟩ := hm.mem (.inl rfl)
    exact mins_5 h hR h0 hE d a name g hg h1 hd ha' Ax cx
  | store a b name ha' hb hn =>
    obtain ⟨g, hg, h1, _⟩ := hm.mem (.inr rfl)
    exact mins_6 h hR h0 hE a b name g hg h1 ha' hb Ax cx
  | call d name args hd hn hl ha' =>
    obtain ⟨k, hk, h1, h2⟩ := hm.call rfl
    exact mins_7 hE hC h hR h0 d name args E.m.fns[k] k hk h1 rfl h2 hd hl ha' Ax cx ha
  | read d hd => exact mins_8 h hR h0 hE d hd Ax cx
  | print a ha' => exact mins_9 h hR h0 hE htl a ha' Ax cx
theorem MacAt.footbase (hE : EnvOk E) (h : MacAt E s c r w) {k : Nat} (hk : Foot E r k) : E.base ≤ k := by
  rcases hk with e | e | e
  · rw [e]; exact hE.base
  · exact hE.bbs k e
  · exact (h.tr k e.symm).1
/-- What stands while a function runs. -/
structure CallS (E : Env) (w : World) (c : Nat) (r0 : Option Nat) (f : Fn) (q : Nat) (vB : Value) (s : MS) (r : Option Nat) (gr : Nat) (regs : List Int) (W : World) : Prop where
  chg : Chg (Foot E r0) w W
  nw : NewOr w r0 r
  mac : MacAt E s (c + 1) r W
  reg : RegAt E r gr regs W
  box : W.heap[q]? = some (.cells #[.string f.name, .int .i64 f.params, .int .i64 f.regs, vB] 31 (0, 0))
  qf : ¬ Foot E r q
  qg : q ≠ gr
  old : w.heap.size ≤ q ∧ w.heap.size ≤ gr
theorem foot_old {r0 : Option Nat} (hn : NewOr w r0 r) {k : Nat} (hk : k < w.heap.size) (hf : Foot E r k) : Foot E r0 k := by
  rcases hf with e | e | e
  · exact .inl e
  · exact .inr (.inl e)
  · exact .inr (.inr (hn.old hk e.symm).symm)
theorem CallS.below {r0 : Option Nat} {f : Fn} {q : Nat} {vB : Value} {W W' : World} (h : CallS E w c r0 f q vB s r gr regs W) (hb : Below W.heap.size W W') : CallS E w c r0 f q vB s r gr regs W' :=
  ⟨h.chg.trans (Chg.of_below hb (fun _ => False)) fun _ _ h => h.elim, h.nw, h.mac.below hb, h.reg.below hb, (hb.block q (lt_of_heap h.box)).trans h.box, h.qf, h.qg, h.old⟩
theorem CallS.mach {r0 : Option Nat} {f : Fn} {q : Nat} {vB : Value} {W W' : World} {s' : MS} (h : CallS E w c r0 f q vB s r gr regs W) (hm : MacAt E s' (c + 1) r W') (hc : Chg (fun k => k = E.mb) W W') : CallS E w c r0 f q vB s' r gr regs W' :=
  ⟨h.chg.trans hc fun _ _ e => .inl e, h.nw, hm, h.reg.kept hc fun e => h.reg.foot (.inl e), hc.heap h.box fun e => h.qf (.inl e), h.qf, h.qg, h.old⟩
theorem CallS.ins {r0 r' : Option Nat} {f : Fn} {q : Nat} {vB : Value} {W W' : World} {s' : MS} {regs' : List Int} (h : CallS E w c r0 f q vB s r gr regs W) (hm : MacAt E s' (c + 1) r' W') (hR : RegAt E r' gr regs' W') (hc : Chg (fun k => Foot E r k ∨ k = gr) W W') (hn : NewOr W r r') : CallS E w c r0 f q vB s' r' gr regs' W' :=
  ⟨h.chg.trans hc fun k hk e => by
      rcases e with e | e
      · exact foot_old h.nw hk e
      · have := h.old.2; omega, h.nw.trans hn h.chg.size, hm, hR, hc.heap h.box fun e => by
      rcases e with e | e
      · exact h.qf e
      · exact h.qg e, fun hf => h.qf (foot_old hn (lt_of_heap h.box) hf), h.qg, h.old⟩
theorem CallS.cells {r0 : Option Nat} {f : Fn} {q : Nat} {vB : Value} {W : World} (h : CallS E w c r0 f q vB s r gr regs W) : W.cell? ⟨q, 2, none⟩ = some (.int .i64 f.regs) ∧ W.cell? ⟨q, 3, none⟩ = some vB :=
  ⟨cell_of_row _ _ _ _ _ _ h.box, cell_of_row _ _ _ _ _ _ h.box⟩
/-- How many steps the run has taken, as the world tells it. -/
def stepsAt (mb : Nat) (W : World) : Int := match W.cell? ⟨mb, 9, none⟩ with
  | some (.int _ n) => n
  | _ => 0
theorem MacAt.stepsAt (h : MacAt E s c r w) : stepsAt E.mb w = s.steps := by
  obtain ⟨_, _, _, _, _, _, _, m9, _⟩ := h.cells
  unfold Proofs.Ytlniohgnkihefaa.stepsAt
  rw [m9]
/-- A call leaves. -/
theorem CallS.done {r0 : Option Nat} {f : Fn} {vals : List Int} {q : Nat} {vB : Value} {W : World} {s0 : MS} (h : CallS E w c r0 f q vB s r gr regs W) (hn : s.fin ≠ 0) (hr : ∀ K dst, K.length = c → ∃ K', ReachE E (s0, entry f vals dst :: K) (s, K')) :
    CallPost E s0 f vals c r0 w (.returned (.int .i32 0)) W := ⟨0, s, r, c + 1, rfl, by unfold I32; simp, h.chg, h.mac, h.nw, .inr ⟨hn, hr⟩⟩
end
end Go.Proofs.Ytlniohgnkihefaa
namespace Go.Proofs.Ytlniohgnkihefaa
open Go.RowKit
variable {T : Nat → Prop}

structure SmallV (m : Mid) : Prop where
  may : MayV m
  light : LightV m
  regs : ∀ f ∈ m.fns, f.regs ≤ 40

theorem Fine_any (m : Mid) (A B : Option Addr) (c d : Nat) (w : World) (h : RdMid w T m A c B d) :
    Calls Try.prog 15 #[.agg #[.slice A m.globals.length c, .slice B m.fns.length d]] w (Told w (MayV m ∧ LightV m)) := by
  obtain ⟨w1, hw1, hb1, hlt1, hc⟩ := box_new w #[.slice A m.globals.length c, .slice B m.fns.length d] 25
  have hc0 := hc 0
  have hc1 := hc 1
  simp only [List.getElem?_toArray, List.getElem?_cons_succ, List.getElem?_cons_zero] at hc0 hc1
  have HM := Lib.hid (mid_below h hb1)
  have HB1 := Lib.hid hb1
  have HW := Lib.hid hw1
  clear h hb1 hc hw1
  go_enter Try.func15, Try.ntmps15
  go_wp2_with fail
  rw [← HW.out]
  refine (Light_any m A B c d _ HM.out).mono ?_
  rintro e w2 ⟨t, rfl, hB2, hv⟩
  have d0 := (hB2.cell (p := ⟨w.heap.size, 0, none⟩) hlt1).trans hc0
  have d1 := (hB2.cell (p := ⟨w.heap.size, 1, none⟩) hlt1).trans hc1
  have HBW : Hid (Below w.heap.size w w2) := Lib.hid (HB1.out.trans (hB2.mono HB1.out.size))
  have HM2 := Lib.hid (mid_below HM.out hB2)
  have HV := Lib.hid hv
  clear hB2 hv
  cases t with
  | false =>
    go_wp2_with fail
    go_ret
    exact ⟨false, rfl, HBW.out, fun h => by cases h⟩
  | true =>
    go_wp2_with fail
    refine (May_any m A B c d _ HM2.out).mono ?_
    rintro e w3 ⟨t, rfl, hB3, hv⟩
    have HBW3 : Hid (Below w.heap.size w w3) := Lib.hid (HBW.out.trans (hB3.mono HBW.out.size))
    have HV3 := Lib.hid hv
    clear hB3 hv
    go_wp2_with fail
    go_ret
    exact ⟨t, rfl, HBW3.out, fun h => ⟨HV3.out h, by first | exact HV.out rfl | exact HV.out trivial⟩⟩

theorem Small_any (m : Mid) (A B : Option Addr) (c d : Nat) (w : World) (h : RdMid w T m A c B d) :
    Calls Try.prog 5 #[.agg #[.slice A m.globals.length c, .slice B m.fns.length d]] w (Told w (SmallV m)) := by
  have hlf : m.fns.length ≤ 9223372036854775807 := by have := h.nfns; unfold maxLen at this; omega
  obtain ⟨w1, hw1, hb1, hlt1, hc⟩ := box_new w #[.slice A m.globals.length c, .slice B m.fns.length d] 25
  have hc0 := hc 0
  have hc1 := hc 1
  simp only [List.getElem?_toArray, List.getElem?_cons_succ, List.getElem?_cons_zero] at hc0 hc1
  have HM := Lib.hid (mid_below h hb1)
  have HB1 := Lib.hid hb1
  have HW := Lib.hid hw1
  clear h hb1 hc hw1
  go_enter Try.func5, Try.ntmps5
  go_wp2_with fail
  rw [← HW.out]
  go_loopw [8] (fun i wr => ∃ (k : Nat), k ≤ m.fns.length ∧ i = .int .i64 (k : Nat) ∧ Below w1.heap.size w1 wr ∧ ∀ j (hl : j < m.fns.length), j < k → m.fns[j].regs ≤ 40) (fun i _ => m.fns.length - (intOf i).toNat)
  case atStart => exact ⟨0, by omega, rfl, Below.refl _ _, fun j hl hj => by omega⟩
  case round =>
    obtain ⟨k, hk, rfl, hB, hn⟩ := hrel
    have HB := Lib.hid hB
    have HK := Lib.hid hn
    have hd0 := (hB.cell (p := ⟨w.heap.size, 0, none⟩) hlt1).trans hc0
    have hd1 := (hB.cell (p := ⟨w.heap.size, 1, none⟩) hlt1).trans hc1
    have HBW : Hid (Below w.heap.size w wr) := Lib.hid (HB1.out.trans (hB.mono HB1.out.size))
    clear hB hn
    by_cases hlt : k < m.fns.length
    · obtain ⟨f, hfe⟩ : ∃ f, f = m.fns[k] := ⟨_, rfl⟩
      obtain ⟨g, off, A1, c1, rfl, hg, hok, hsub, g0, g1, g2, g3⟩ := fn_at (fns_below HM.out.fns HB.out) k hlt f hfe
      have HFE := Lib.hid hfe
      clear hok hsub hfe
      by_cases h40 : 40 < f.regs
      · go_wp2_with fail
        go_ret
        exact ⟨false, rfl, HBW.out.alloc HBW.out.size _, fun h => by cases h⟩
      · go_wp2_with fail
        go_roundw
        case rel => exact ⟨k + 1, by omega, by go_num, HB.out.alloc HB.out.size _, upto_succ (P := fun f : Fn => f.regs ≤ 40) HK.out hlt HFE.out (by show f.regs ≤ 40; omega)⟩
        case measure => simp [intOf]; omega
    · obtain rfl : k = m.fns.length := by omega
      go_wp2_with fail
      refine (Fine_any m A B c d _ (mid_below HM.out HB.out)).mono ?_
      rintro e w3 ⟨t, rfl, hB3, hv⟩
      have HBW3 : Hid (Below w.heap.size w w3) := Lib.hid (HBW.out.trans (hB3.mono HBW.out.size))
      have HV3 := Lib.hid hv
      clear hB3 hv
      go_wp2_with fail
      go_ret
      exact ⟨t, rfl, HBW3.out, fun h => ⟨(HV3.out h).1, (HV3.out h).2, fold_names fun j hl => HK.out j hl hl⟩⟩
end Go.Proofs.Ytlniohgnkihefaa
namespace Go.Proofs.Ytlniohgnkihefaa
open Go.RowKit
variable {T : Nat → Prop} {w : World}
theorem rows_choose {α β : Type} (k : β → α) (P : Nat → β → Prop) (xs : List α) (h : ∀ i (hi : i < xs.length), ∃ y, k y = xs[i] ∧ P i y) : ∃ ys : List β, ys.map k = xs ∧ ∀ i (hi : i < ys.length), P i ys[i] := by
  refine ⟨List.ofFn fun i : Fin xs.length => Classical.choose (h i i.2), ?_, fun i hi => ?_⟩
  · refine List.ext_getElem (by simp) fun i h1 h2 => ?_
    rw [List.getElem_map, List.getElem_ofFn]
    exact (Classical.choose_spec (h i h2)).1
  · rw [List.getElem_ofFn]
    have hi' : i < xs.length := by simpa using hi
    exact (Classical.choose_spec (h i hi')).2
theorem mem_of_rdT {A : Option Addr} {xs : List Value} (h : RdT w T A xs) : ReadsAt w A xs := fun hp => by
  obtain ⟨g, off, hA, _, hg, hx⟩ := h hp
  exact ⟨g, off, hA, hg, hx⟩
theorem insMem_of_rd {A : Option Addr} {l : List Ins} (h : RdSl 8 (RdIns w T) w T A l) : InsMem w A l := by
  by_cases hp : 0 < l.length
  · obtain ⟨g, off, hA, _, hg, hc⟩ := h hp
    obtain ⟨ys, h1, h2⟩ := rows_choose InsQ.k (fun i y => (∀ j v, (insCells y.k (.slice y.A y.k.args.length y.c))[j]? = some v → w.cell? ⟨g, off + i * 8 + j, none⟩ = some v) ∧ ReadsAt w y.A (ints y.k.args)) l fun i hi => by
      obtain ⟨cs, _, ⟨_, B, c, rfl, hr⟩, hat⟩ := hc i _ (List.getElem?_eq_getElem hi)
      exact ⟨⟨l[i], B, c⟩, rfl, hat, mem_of_rdT hr⟩
    refine ⟨ys, h1, fun _ => ⟨g, off, hA, hg, fun i hi j v hv => (h2 i hi).1 j v hv⟩, fun y hy => ?_⟩
    obtain ⟨i, hi, rfl⟩ := List.getElem_of_mem hy
    exact (h2 i hi).2
  · obtain rfl : l = [] := List.length_eq_zero_iff.1 (by omega)
    exact ⟨[], rfl, fun h => by simp at h, fun _ h => by cases h⟩
theorem blkMem_of_rd {A : Option Addr} {l : List Blk} (h : RdSl 5 (RdBlk w T) w T A l) : BlkMem w A l := by
  by_cases hp : 0 < l.length
  · obtain ⟨g, off, hA, _, hg, hc⟩ := h hp
    obtain ⟨ys, h1, h2⟩ := rows_choose BlkQ.k (fun i y => (∀ j v, (blkCells y.k (.slice y.A y.k.ins.length y.c))[j]? = some v → w.cell? ⟨g, off + i * 5 + j, none⟩ = some v) ∧ InsMem w y.A y.k.ins) l fun i hi => by
      obtain ⟨cs, _, ⟨_, B, c, rfl, hr⟩, hat⟩ := hc i _ (List.getElem?_eq_getElem hi)
      exact ⟨⟨l[i], B, c⟩, rfl, hat, insMem_of_rd hr⟩
    refine ⟨ys, h1, fun _ => ⟨g, off, hA, hg, fun i hi j v hv => (h2 i hi).1 j v hv⟩, fun y hy => ?_⟩
    obtain ⟨i, hi, rfl⟩ := List.getElem_of_mem hy
    exact (h2 i hi).2
  · obtain rfl : l = [] := List.length_eq_zero_iff.1 (by omega)
    exact ⟨[], rfl, fun h => by simp at h, fun _ h => by cases h⟩
theorem regB_lt {r n : Int} {b : Bool} (h : regB r n b = true) (hn : n ≤ 4096) : r < 65536 := by
  unfold regB at h
  simp only [Bool.or_eq_true, Bool.and_eq_true, decide_eq_true_eq] at h
  rcases h with ⟨_, h⟩ | ⟨_, h⟩ <;> omega
theorem insV_regs {n : Int} {x : Ins} (h : InsV n x) (hn : n ≤ 4096) : RegsOk x ∧ x.args.length ≤ 1000 := by
  cases h with
  | call d name args hd hnm hl ha => exact ⟨⟨by show (-1 : Int) < 65536; omega, by show (-1 : Int) < 65536; omega, fun r hr => regB_lt (ha r hr) hn⟩, by show args.length ≤ 1000; omega⟩
  | _ =>
    refine ⟨⟨?_, ?_, fun r hr => by simp at hr⟩, by simp⟩
    all_goals first
      | exact regB_lt (by assumption) hn
      | (show (-1 : Int) < 65536; omega)
theorem flow_of {f : Fn} (h : FnV f) (hl : LightFn f) : FlowF f.blocks := by
  refine ⟨by have := hl.nb; omega, fun k hk => ?_⟩
  have hr := h.regs.2
  have hi := hl.ni k hk
  have := h.blocks k hk
  cases this with
  | jump ins tt hx ht => exact ⟨by omega, .inl rfl, by show (0 : Int) < 65536; omega, fun _ => ht, fun e => by simp at e, fun x hx' => insV_regs (hx x hx') hr⟩
  | branch ins a tt els hx ha ht he => exact ⟨by omega, .inr (.inl rfl), regB_lt ha hr, fun _ => ht, fun _ => he, fun x hx' => insV_regs (hx x hx') hr⟩
  | leave ins a hx ha => exact ⟨by omega, .inr (.inr rfl), regB_lt ha hr, fun e => by simp at e, fun e => by simp at e, fun x hx' => insV_regs (hx x hx') hr⟩
theorem data_of {A : Option Addr} {l : List Blk} (h : RdSl 5 (RdBlk w T) w T A l) : DataF l := by
  intro k hk
  obtain ⟨i, hi, rfl⟩ := List.getElem_of_mem hk
  obtain ⟨_, _, _, _, _, _, hok, hsub, _⟩ := blk_at h i hi _ rfl
  refine ⟨hok, fun x hx => ?_⟩
  obtain ⟨j, hj, rfl⟩ := List.getElem_of_mem hx
  obtain ⟨_, _, _, _, _, _, hok, _⟩ := ins_at hsub j hj _ rfl
  exact hok
end Go.Proofs.Ytlniohgnkihefaa
namespace Go.Proofs.Ytlniohgnkihefaa
open Go.RowKit
structure FnQ where
  f : Fn
  A : Option Addr
  c : Nat
def fnQ (y : FnQ) : List Value := fnCells y.f (.slice y.A y.f.blocks.length y.c)
noncomputable def finF (f : Fn) : Fn := { f with blocks := finK f.blocks }
def fnRowC (xs : List FnQ) : List Value := (xs.map fnQ).flatten
theorem fnRow_all (xs : List FnQ) : ∀ c ∈ xs.map fnQ, c.length = 4 := fun c hc => by obtain ⟨x, _, rfl⟩ := List.mem_map.1 hc; rfl
theorem fnRowC_len (xs : List FnQ) : (fnRowC xs).length = xs.length * 4 := by unfold fnRowC; rw [flat_len (fnRow_all xs), List.length_map]
theorem fnRowC_at (xs : List FnQ) (i : Nat) (h : i < xs.length) (j : Nat) (u : Value) (hu : (fnQ xs[i])[j]? = some u) : (fnRowC xs)[i * 4 + j]? = some u := by
  have hj : j < 4 := (List.getElem?_eq_some_iff.1 hu).1
  unfold fnRowC
  rw [flat_at (fnRow_all xs) i j hj, List.getElem?_map, List.getElem?_eq_getElem h]
  exact hu
theorem fnRowC_snoc (xs : List FnQ) (x : FnQ) : fnRowC (xs ++ [x]) = fnRowC xs ++ fnQ x := by simp [fnRowC]
theorem fnQ_plain (x : FnQ) : ∀ u ∈ fnQ x, u.oneCell' = true := by
  intro u hu
  simp [fnQ, fnCells] at hu
  rcases hu with rfl | rfl | rfl | rfl <;> rfl
theorem info_fn : (Try.prog.info? 31).map (fun i => (i.zero, i.size, i.bytes)) = some (some (.agg #[.string ⟨#[]⟩, .int .i64 0, .int .i64 0, .slice none 0 0]), 4, 56) := by kernel_rfl
/-- Functions in memory, with their blocks. -/
def FnsMem (W : World) (A : Option Addr) (l : List Fn) : Prop := ∃ xs : List FnQ, xs.map FnQ.f = l ∧
  (0 < xs.length → ∃ g off, A = some ⟨g, off, none⟩ ∧ g < W.heap.size ∧ ∀ i (h : i < xs.length) j u, (fnQ xs[i])[j]? = some u → W.cell? ⟨g, off + i * 4 + j, none⟩ = some u) ∧ ∀ y ∈ xs, BlkMem W y.A y.f.blocks
theorem FnsMem.below {W W' : World} {A : Option Addr} {l : List Fn} (h : FnsMem W A l) (hb : Below W.heap.size W W') : FnsMem W' A l := by
  obtain ⟨xs, h1, h2, h3⟩ := h
  refine ⟨xs, h1, fun hp => ?_, fun y hy => (h3 y hy).below hb⟩
  obtain ⟨g, off, hA, hg, hc⟩ := h2 hp
  exact ⟨g, off, hA, Nat.lt_of_lt_of_le hg hb.size, fun i hi j u hu => (hb.cell (p := ⟨g, off + i * 4 + j, none⟩) hg).trans (hc i hi j u hu)⟩
theorem fnsMem_at {W : World} {A : Option Addr} {l : List Fn} (h : FnsMem W A l) (k : Nat) (hk : k < l.length) (f : Fn) (hf : f = l[k]) : ∃ (g off : Nat) (B : Option Addr) (c : Nat), A = some ⟨g, off, none⟩ ∧ g < W.heap.size ∧ BlkMem W B f.blocks ∧
    W.cell? ⟨g, off + k * 4, none⟩ = some (.string f.name) ∧ W.cell? ⟨g, off + k * 4 + 1, none⟩ = some (.int .i64 f.params) ∧ W.cell? ⟨g, off + k * 4 + 2, none⟩ = some (.int .i64 f.regs) ∧ W.cell? ⟨g, off + k * 4 + 3, none⟩ = some (.slice B f.blocks.length c) := by
  obtain ⟨bs, h1, h2, h3⟩ := h
  have hkb : k < bs.length := by rw [← h1, List.length_map] at hk; exact hk
  obtain ⟨g, off, hA, hg, hc⟩ := h2 (by omega)
  have e : bs[k].f = f := by rw [hf]; simp only [← h1, List.getElem_map]
  have h0 := h3 _ (List.getElem_mem hkb)
  have c0 := hc k hkb 0 _ rfl
  have c1 := hc k hkb 1 _ rfl
  have c2 := hc k hkb 2 _ rfl
  have c3 := hc k hkb 3 _ rfl
  rw [e] at h0 c0 c1 c2 c3
  exact ⟨g, off, bs[k].A, bs[k].c, hA, hg, h0, c0, c1, c2, c3⟩
theorem fnsMem_of_row {W : World} {A : Option Addr} {c n : Nat} {r : Option Nat} {xs : List FnQ} (h : RowAt W 31 4 (.slice A n c) r n (fnRowC xs)) (ha : ∀ y ∈ xs, BlkMem W y.A y.f.blocks) : FnsMem W A (xs.map FnQ.f) := by
  refine ⟨xs, rfl, fun hp => ?_, ha⟩
  have hn : xs.length = n := by have := h.1; rw [fnRowC_len] at this; omega
  rcases h.2 with ⟨_, _, h0⟩ | ⟨g, off, cap, cur, hv, _, hg, h1, h2, h3, h4⟩
  · omega
  · injection hv with hA _ _
    refine ⟨g, off, hA, lt_of_heap hg, fun i hi j u hu => ?_⟩
    have := fnRowC_at xs i hi j u hu
    rw [cell_of_row _ _ _ _ _ _ hg]
    rw [← h4, List.getElem?_take] at this
    split at this
    · rw [List.getElem?_drop] at this; rw [← Array.getElem?_toList, Nat.add_assoc]; exact this
    · cases this
/-- Between two rounds of dead.Mid. -/
structure MidI (wC : World) (l : List Fn) (k : Nat) (v : Value) (rr : Option Nat) (W : World) : Prop where
  below : Below wC.heap.size wC W
  row : ∃ xs : List FnQ, xs.map FnQ.f = (l.map finF).take k ∧ RowAt W 31 4 v rr k (fnRowC xs) ∧ ∀ y ∈ xs, BlkIn W 0 y.A y.f.blocks
  low : ∀ q, rr = some q → wC.heap.size ≤ q
section
variable {wC W W' : World} {l : List Fn} {k : Nat} {v : Value} {rr : Option Nat}
theorem MidI.start (l : List Fn) (h : Below wC.heap.size wC W) : MidI wC l 0 (.slice none 0 0) none W := ⟨h, ⟨[], by simp, RowAt.nil _ _ _, fun _ h => by cases h⟩, fun _ h => by cases h⟩
theorem MidI.below_ (h : MidI wC l k v rr W) (hb : Below W.heap.size W W') : MidI wC l k v rr W' := by
  obtain ⟨xs, h1, h2, h3⟩ := h.row
  exact ⟨h.below.trans (hb.mono h.below.size), ⟨xs, h1, h2.kept (Chg.of_below hb (fun _ => False)) (fun _ _ h => h), fun y hy => (h3 y hy).ko (KO.of_below (b := true) hb (Nat.zero_le _))⟩, h.low⟩
theorem MidI.typ (h : MidI wC l k v rr W) : ∀ q, rr = some q → ∃ c, W.heap[q]? = some (.cells c 31 (0, 0)) := fun q hq => by
  obtain ⟨ys, _, hr, _⟩ := h.row
  rcases hr.2 with ⟨_, e2, _⟩ | ⟨g', off, cap, cur, _, e2, hg', _⟩
  · rw [e2] at hq; cases hq
  · rw [e2] at hq; cases hq; exact ⟨_, hg'⟩
theorem MidI.store (h : MidI wC l k v rr W) {q : Nat} {c : Array Value} (hq : W.heap[q]? = some (.cells c 25 (0, 0))) (hl : wC.heap.size ≤ q) (j : Nat) (u : Value) : MidI wC l k v rr (W.setCell ⟨q, j, none⟩ u) := by
  have hc := Chg.store W q j u
  obtain ⟨xs, h1, h2, h3⟩ := h.row
  have hko : KO 0 true W (W.setCell ⟨q, j, none⟩ u) := KO.of_chg hc (Nat.zero_le _) fun k hk => by
    rw [hk]
    refine ⟨Nat.zero_le _, fun c t f e => ?_⟩
    rw [hq] at e; cases e
    exact ⟨by decide, by decide, fun _ => by decide⟩
  refine ⟨h.below.trans (hc.below h.below.size fun k e => by rw [e]; exact hl), ⟨xs, h1, h2.kept hc fun q' hq' e => ?_, fun y hy => (h3 y hy).ko hko⟩, h.low⟩
  obtain ⟨c', hc'⟩ := h.typ q' hq'
  rw [e, hq] at hc'
  cases hc'
theorem MidI.push (h : MidI wC l k v rr W) (hk : k < l.length) {A : Option Addr} {c : Nat} (hy : BlkIn W 0 A (finF l[k]).blocks) {v' : Value} {rr' : Option Nat} {xs : List FnQ} (he : xs.map FnQ.f = (l.map finF).take k) (ha : ∀ y ∈ xs, BlkIn W 0 y.A y.f.blocks)
    (hR : RowAt W' 31 4 v' rr' (k + 1) (fnRowC xs ++ fnQ ⟨finF l[k], A, c⟩)) (hC : Chg (fun k => some k = rr) W W') (hN : NewOr W rr rr') : MidI wC l (k + 1) v' rr' W' := by
  have hko : KO 0 true W W' := KO.of_chg hC (Nat.zero_le _) fun q hq => ⟨Nat.zero_le _, fun c t f hc => by
    obtain ⟨c', hc'⟩ := h.typ q hq.symm
    rw [hc'] at hc; cases hc
    exact ⟨by decide, by decide, fun _ => by decide⟩⟩
  refine ⟨h.below.trans (hC.below h.below.size fun q hq => h.low q hq.symm), ⟨xs ++ [⟨finF l[k], A, c⟩], ?_, by rw [fnRowC_snoc]; exact hR, fun y hy' => ?_⟩, fun q hq => hN.ge h.below.size h.low q hq⟩
  · rw [List.map_append, he, List.take_succ_eq_append_getElem (by rw [List.length_map]; exact hk), List.getElem_map]; rfl
  · rcases List.mem_append.1 hy' with hy' | hy'
    · exact (ha y hy').ko hko
    · rw [List.mem_singleton.1 hy']; exact hy.ko hko
theorem MidI.done (h : MidI wC l l.length v rr W) {q : Nat} {c : Array Value} (hq : W.heap[q]? = some (.cells c 25 (0, 0))) (hc : Chg (fun k => k = q) W W') : ∃ A c, v = .slice A l.length c ∧ FnsMem W' A (l.map finF) := by
  obtain ⟨xs, h1, h2, h3⟩ := h.row
  have hko : KO 0 true W W' := KO.of_chg hc (Nat.zero_le _) fun k hk => by
    rw [hk]
    refine ⟨Nat.zero_le _, fun c t f e => ?_⟩
    rw [hq] at e; cases e
    exact ⟨by decide, by decide, fun _ => by decide⟩
  have h2' := h2.kept hc fun q' hq' e => by
    obtain ⟨c', hc'⟩ := h.typ q' hq'
    rw [e, hq] at hc'
    cases hc'
  obtain ⟨A, c, rfl, _⟩ := h2.shape
  refine ⟨A, c, rfl, ?_⟩
  rw [List.take_of_length_le (by simp)] at h1
  rw [← h1]
  exact fnsMem_of_row h2' fun y hy => ((h3 y hy).ko hko).mem
end
/-- slices.Clone of globals. -/
def globC (l : List Glob) : List Value := (l.map fun g => [Value.string g.name, .int .i64 g.size]).flatten
theorem globC_all (l : List Glob) : ∀ c ∈ l.map (fun g => [Value.string g.name, .int .i64 g.size]), c.length = 2 := fun c hc => by obtain ⟨x, _, rfl⟩ := List.mem_map.1 hc; rfl
theorem globC_len (l : List Glob) : (globC l).length = l.length * 2 := by unfold globC; rw [flat_len (globC_all l), List.length_map]
theorem globC_plain (l : List Glob) : ∀ u ∈ globC l, u.oneCell' = true := by
  intro u hu
  unfold globC at hu
  obtain ⟨c, hc, hu⟩ := List.mem_flatten.1 hu
  obtain ⟨x, _, rfl⟩ := List.mem_map.1 hc
  simp at hu
  rcases hu with rfl | rfl <;> rfl
theorem reads_globs {T : Nat → Prop} {w : World} {A : Option Addr} {l : List Glob} (h : RdSl 2 RdGlob w T A l) : ReadsAt w A (globC l) := fun hp => by
  rw [globC_len] at hp
  obtain ⟨g, off, hA, _, hg, hc⟩ := h (by omega)
  refine ⟨g, off, hA, hg, fun j u hu => ?_⟩
  have hj : j < l.length * 2 := by rw [← globC_len]; exact (List.getElem?_eq_some_iff.1 hu).1
  have hi : j / 2 < l.length := by omega
  obtain ⟨cs, _, ⟨_, rfl⟩, hat⟩ := hc (j / 2) _ (List.getElem?_eq_getElem hi)
  have e : j = j / 2 * 2 + j % 2 := by omega
  unfold globC at hu
  rw [e, flat_at (globC_all l) (j / 2) (j % 2) (by omega), List.getElem?_map, List.getElem?_eq_getElem hi] at hu
  have := hat (j % 2) u hu
  rw [show off + j / 2 * 2 + j % 2 = off + j from by omega] at this
  exact this
theorem info_glob : (Try.prog.info? 51).map (fun i => (i.zero, i.size, i.bytes)) = some (some (.agg #[.string ⟨#[]⟩, .int .i64 0]), 2, 24) := by kernel_rfl
set_option maxHeartbeats 1000000 in
set_option maxRecDepth 100000 in
theorem cloneG_any (A : Option Addr) (c : Nat) (zs : List Glob) (w : World) (hl : zs.length ≤ 64) (h : ReadsAt w A (globC zs)) :
    Calls Try.prog 17 #[.slice A zs.length c] w fun e w' => ∃ A' c' r, e = .returned (.slice A' zs.length c') ∧ Below w.heap.size w w' ∧ RowAt w' 51 2 (.slice A' zs.length c') r zs.length (globC zs) := by
  have qS : ∀ (w : World) (a : Option Addr) (n c n' c' : Nat), (binOp .eql 22 (.slice a n c) (.slice none n' c')).run Try.prog w = .ok (.bool a.isNone) w := fun w a n c n' c' => Go.Lib.run_eql_slice_nil (P := Try.prog) w 22 51 a n c n' c' Try.underlying22
  cases A with
  | none =>
    have h0 : zs = [] := by
      cases zs with
      | nil => rfl
      | cons z zs => obtain ⟨g, off, hA, _⟩ := h (by simp [globC]); cases hA
    subst h0
    clear h
    go_enter Try.func17, Try.ntmps17
    go_wp2_with fail
    go_ret
    exact ⟨none, 0, none, rfl, Below.refl _ _, RowAt.nil _ _ _⟩
  | some ad =>
    cases zs with
    | nil =>
      clear h
      go_enter Try.func17, Try.ntmps17
      go_wp2_with fail
      go_ret
      exact ⟨_, _, _, rfl, (Below.refl _ _).alloc (Nat.le_refl _) _, ⟨rfl, .inr ⟨w.heap.size, 0, 0, #[], rfl, rfl, heap_alloc_new w _, Nat.le_refl _, Nat.zero_le _, by simp, by simp [globC]⟩⟩⟩
    | cons z zs =>
      obtain ⟨g, off, hA, hg, hx⟩ := h (by simp [globC])
      cases hA
      have HX := Lib.hid hx
      clear hx h
      have hrow : RowAt (w.alloc (.cells #[] 51)) 51 2 (.slice (some ⟨w.heap.size, 0, none⟩) 0 0) (some w.heap.size) 0 [] := ⟨rfl, .inr ⟨w.heap.size, 0, 0, #[], rfl, rfl, heap_alloc_new w _, Nat.le_refl _, Nat.zero_le _, by simp, by simp⟩⟩
      have HROW := Lib.hid hrow
      clear hrow
      go_enter Try.func17, Try.ntmps17
      go_wp2_with (at_builtin; go_must (refine wpList_append_row14 _ rfl _ _ 22 51 _ 2 24 rfl Try.underlying22 info_glob rfl HROW.out ⟨g, off, none⟩ (zs.length + 1) c (globC (z :: zs)) (globC_len _) (fun j u hu => by rw [Addr.add_lit]; exact ((Below.refl w.heap.size w).alloc (Nat.le_refl _) _).cell (p := ⟨g, off + j, none⟩) hg |>.trans (HX.out j u hu)) (globC_plain _) rfl rfl (by simp at hl; omega) (by simp at hl; unfold maxLen; omega) (by omega) ?_); intro v' r' w2 hR hC hN; obtain ⟨A', c', rfl, _⟩ := hR.shape; have HR := Lib.hid hR; have HC := Lib.hid hC; have HN := Lib.hid hN; clear hR hC hN)
      go_ret
      have hb : Below w.heap.size w w2 := ((Below.refl w.heap.size w).alloc (Nat.le_refl _) _).trans (HC.out.below (by simp) fun k e => by injection e with e; omega)
      have hR := HR.out
      rw [List.nil_append] at hR
      exact ⟨A', c', r', by simp, hb, by simpa using hR⟩
end Go.Proofs.Ytlniohgnkihefaa
