/- brazierref15.Machine: an instruction; what it leaves. -/
import Derived.Test.YtnfneinonkpmeaaLv22
import Derived.Test.YtnfneinonkpmeaaLv19
import Derived.Test.YtnfneinonkpmeaaLv29
namespace Go.Proofs.Ytnfneinonkpmeaa
open Go.RowKit
def ReachVE (E : EnvV) (a b : VCfg) : Prop := ReachV E.m E.inp E.fuel a b
/-- A call's registers. -/
structure RegV (E : EnvV) (r : Option Nat) (gr : Nat) (regs : List Int) (w : World) : Prop where
  words : WordsAt w gr regs
  bd : ∀ z ∈ regs, I32 z
  base : E.base ≤ gr
  foot : ¬ FootV E r gr
  row : ¬ E.row gr
def VInsPost (E : EnvV) (s : MS) (x : Vins) (a b : Int) (regs : List Int) (c : Nat) (r : Option Nat) (w : World) (e : Ending) (w' : World) : Prop :=
  ∃ (v : Int) (s' : MS) (r' : Option Nat) (c' : Nat), e = .returned (.int .i32 v) ∧ I32 v ∧ Chg (FootV E r) w w' ∧ MacV E s' c' r' w' ∧ NewOr w r r' ∧
  ((s'.fin = 0 ∧ c' = c ∧ ∀ fr K, fr.regs = regs → K.length + 1 = c → ReachVE E (vIns E.m E.inp x a b s fr K) (s', fr.putIf x.d v :: K)) ∨
    (s'.fin ≠ 0 ∧ ∀ fr K, fr.regs = regs → K.length + 1 = c → ∃ K', ReachVE E (vIns E.m E.inp x a b s fr K) (s', K')))
section
variable {E : EnvV} {s : MS} {c : Nat} {r : Option Nat} {w w' : World} {gr : Nat} {regs : List Int}
theorem RegV.kept {S : Nat → Prop} (h : RegV E r gr regs w) (hc : Chg S w w') (hS : ¬ S gr) : RegV E r gr regs w' := ⟨RowAt.kept h.words hc fun k hk => by cases hk; exact hS, h.bd, h.base, h.foot, h.row⟩
theorem RegV.below (h : RegV E r gr regs w) (hb : Below w.heap.size w w') : RegV E r gr regs w' := h.kept (S := fun _ => False) (Chg.of_below hb _) fun h => h
theorem RegV.lt (h : RegV E r gr regs w) : gr < w.heap.size := RowAt.lt h.words _ rfl
theorem RegV.set (h : RegV E r gr regs w) (j : Nat) (hj : j < regs.length) (v : Int) (hv : I32 v) : RegV E r gr (regs.set j v) (w.setCell ⟨gr, j, none⟩ (.int .i32 v)) :=
  ⟨words_set h.words j hj v, fun z hz => by
    rcases List.mem_or_eq_of_mem_set hz with hz | rfl
    · exact h.bd z hz
    · exact hv, h.base, h.foot, h.row⟩
theorem MacV.reg (h : MacV E s c r w) (hR : RegV E r gr regs w) (j : Nat) (v : Value) : MacV E s c r (w.setCell ⟨gr, j, none⟩ v) :=
  h.kept (Chg.store w gr j v) (fun k e _ => by rw [e]; exact hR.foot) fun k e _ => by rw [e]; exact ⟨hR.base, hR.row⟩
theorem MacV.footlt (h : MacV E s c r w) {k : Nat} (hk : FootV E r k) : k < w.heap.size := by
  rcases hk with hf | hf | hf
  · rw [hf]; exact h.blt
  · obtain ⟨i, hi, e3⟩ := List.getElem_of_mem hf
    rw [← e3]; exact RowAt.lt (h.words i hi) _ rfl
  · obtain ⟨_, _, ht⟩ := h.obj
    exact ht.lt k hf.symm
theorem RegV.newr {W : World} {r' : Option Nat} (h : RegV E r gr regs w') (hl : gr < W.heap.size) (hn : NewOr W r r') : RegV E r' gr regs w' := ⟨h.words, h.bd, h.base, fun hf => by
  rcases hf with e | e | e
  · exact h.foot (.inl e)
  · exact h.foot (.inr (.inl e))
  · exact h.foot (.inr (.inr (hn.old hl e.symm).symm)), h.row⟩
theorem MacV.footbase (hE : EnvVOk E) (h : MacV E s c r w) {k : Nat} (hk : FootV E r k) : E.base ≤ k := by
  rcases hk with e | e | e
  · rw [e]; exact hE.base
  · exact hE.bbs k e
  · exact (h.tr k e.symm).1
theorem footv_old {r0 : Option Nat} (hn : NewOr w r0 r) {k : Nat} (hk : k < w.heap.size) (hf : FootV E r k) : FootV E r0 k := by
  rcases hf with e | e | e
  · exact .inl e
  · exact .inr (.inl e)
  · exact .inr (.inr (hn.old hk e.symm).symm)
theorem rowv_i32 (h : MacV E s c r w) (g : Nat) : ∀ z ∈ dataRow s g, I32 z := fun z hz => by
  unfold dataRow at hz
  by_cases hg : g < s.data.length
  · rw [List.getD_eq_getElem?_getD, List.getElem?_eq_getElem hg] at hz; exact h.dat _ (List.getElem_mem hg) z hz
  · rw [List.getD_eq_getElem?_getD, List.getElem?_eq_none (by omega)] at hz; cases hz
/-- What stands behind the box of the instruction. -/
structure VBoxS (E : EnvV) (s : MS) (c : Nat) (r : Option Nat) (w : World) (x : Vins) (gr : Nat) (regs : List Int) (bx : Nat) (Ax : Option Addr) (cx : Nat) (Y : World) : Prop where
  below : Below w.heap.size w Y
  mac : MacV E s c r Y
  reg : RegV E r gr regs Y
  box : ∀ j u, (vinsCells x (.slice Ax x.args.length cx))[j]? = some u → Y.cell? ⟨bx, j, none⟩ = some u
theorem VBoxS.next {x : Vins} {bx : Nat} {Ax : Option Addr} {cx : Nat} {Y Y' : World} (h : VBoxS E s c r w x gr regs bx Ax cx Y) (hb : Below Y.heap.size Y Y') : VBoxS E s c r w x gr regs bx Ax cx Y' :=
  ⟨h.below.trans (hb.mono h.below.size), h.mac.below hb, h.reg.below hb, fun j u hu => (hb.cell (p := ⟨bx, j, none⟩) (World.block_lt_of_cell? Y ⟨bx, j, none⟩ (h.box j u hu))).trans (h.box j u hu)⟩
/-- A value, and nothing else. -/
theorem vins_val {x : Vins} {a b v : Int} {Y : World} (hM : MacV E s c r Y) (hv : I32 v) (hb : Below w.heap.size w Y) (h0 : s.fin = 0) (hx : ∀ fr K, fr.regs = regs → K.length + 1 = c → vIns E.m E.inp x a b s fr K = (s, fr.putIf x.d v :: K)) :
    VInsPost E s x a b regs c r w (.returned (.int .i32 v)) Y :=
  ⟨v, s, r, c, rfl, hv, Chg.of_below hb _, hM, NewOr.refl _ _, .inl ⟨h0, rfl, fun fr K e hl => by rw [hx fr K e hl]; exact ReachV.refl _⟩⟩
/-- The run ends here. -/
theorem vins_end (hE : EnvVOk E) {x : Vins} {a b : Int} (k : Int) (hk : k ≠ 0) {v : Int} (hv : I32 v) {Y Z : World} (hM : MacV E s c r Y) (hb : Below w.heap.size w Y) (hZ : Z = Y.setCell ⟨E.mb, 6, none⟩ (.int .i64 k))
    (hx : ∀ fr K, fr.regs = regs → K.length + 1 = c → vIns E.m E.inp x a b s fr K = (s.ended k, fr :: K)) :
    VInsPost E s x a b regs c r w (.returned (.int .i32 v)) Z := by
  subst hZ
  refine ⟨v, s.ended k, r, c, rfl, hv, (Chg.of_below hb _).setCell ⟨E.mb, 6, none⟩ (fun _ => .inl rfl) _, hM.own hE 6 _ (s.ended k) c rfl rfl ⟨Nat.le_refl _, hM.sl⟩ hM.rl hM.cl fun vT => by simp [MS.ended], NewOr.refl _ _, .inr ⟨hk, fun fr K e hl => ⟨fr :: K, ?_⟩⟩⟩
  rw [hx fr K e hl]
  exact ReachV.refl _
/-- The state turns, the row of the trace stays. -/
theorem vins_st {x : Vins} {a b v : Int} {s' : MS} {Y : World} (hM : MacV E s' c r Y) (hv : I32 v) (hc : Chg (FootV E r) w Y) (h0 : s'.fin = 0) (hx : ∀ fr K, fr.regs = regs → K.length + 1 = c → vIns E.m E.inp x a b s fr K = (s', fr.putIf x.d v :: K)) :
    VInsPost E s x a b regs c r w (.returned (.int .i32 v)) Y :=
  ⟨v, s', r, c, rfl, hv, hc, hM, NewOr.refl _ _, .inl ⟨h0, rfl, fun fr K e hl => by rw [hx fr K e hl]; exact ReachV.refl _⟩⟩
end
section
variable {p : VProg} {inp : List Int} {s : MS} {fr : VFr} {K : List VFr}
theorem vi_bin {op d xa xb num a b y : Int} {name : ByteArray} {args : List Int} (hop : 2 ≤ op ∧ op ≤ 23) (hy : y = if op ≤ 10 then num else b) : vIns p inp ⟨op, d, xa, xb, num, name, args⟩ a b s fr K = match valO op a y with
    | some v => (s, fr.putIf d v :: K)
    | none => (s.ended 2, fr :: K) := by
  subst hy; unfold vIns; rw [if_pos hop]; rfl
theorem vi40 (d xa xb num a b : Int) (name : ByteArray) (args : List Int) : vIns p inp ⟨40, d, xa, xb, num, name, args⟩ a b s fr K = (s, fr.putIf d num :: K) := by simp [vIns]
theorem vi41 (d xa xb num a b : Int) (name : ByteArray) (args : List Int) : vIns p inp ⟨41, d, xa, xb, num, name, args⟩ a b s fr K = (s, fr.putIf d a :: K) := by simp [vIns]
theorem vi42 (d xa xb num a b : Int) (name : ByteArray) (args : List Int) {g : Nat} (hg : g = (globAt p.globals name).toNat) : vIns p inp ⟨42, d, xa, xb, num, name, args⟩ a b s fr K = (s, fr.putIf d (getR (dataRow s g) 0) :: K) := by subst hg; simp [vIns, vIdx]
theorem vi43 (d xa xb num a b : Int) (name : ByteArray) (args : List Int) {g : Nat} (hg : g = (globAt p.globals name).toNat) : vIns p inp ⟨43, d, xa, xb, num, name, args⟩ a b s fr K = ({ s with data := s.data.set g (setR (dataRow s g) 0 b) }, fr.putIf d 0 :: K) := by subst hg; simp [vIns, vIdx]
theorem vi_ok (op d xa xb num a : Int) (name : ByteArray) (args : List Int) {g L : Nat} (hg : g = (globAt p.globals name).toNat) (hL : L = (dataRow s g).length) (h0 : 0 ≤ a) (h : a < (L : Int)) : vOk p ⟨op, d, xa, xb, num, name, args⟩ a s = true := by
  subst hg; subst hL; unfold vOk vIdx; simp [h0, h]
theorem vi_no (op d xa xb num a : Int) (name : ByteArray) (args : List Int) {g L : Nat} (hg : g = (globAt p.globals name).toNat) (hL : L = (dataRow s g).length) (h : a < 0 ∨ (L : Int) ≤ a) : vOk p ⟨op, d, xa, xb, num, name, args⟩ a s = false := by
  subst hg; subst hL; unfold vOk vIdx
  rw [Bool.and_eq_false_iff, decide_eq_false_iff_not, decide_eq_false_iff_not]; dsimp only; omega
theorem vi44 (d xa xb num a b : Int) (name : ByteArray) (args : List Int) {g : Nat} (hg : g = (globAt p.globals name).toNat) (h : vOk p ⟨44, d, xa, xb, num, name, args⟩ a s = true) : vIns p inp ⟨44, d, xa, xb, num, name, args⟩ a b s fr K = (s, fr.putIf d (getR (dataRow s g) a) :: K) := by subst hg; simp [vIns, vIdx, h]
theorem vi45 (d xa xb num a b : Int) (name : ByteArray) (args : List Int) {g : Nat} (hg : g = (globAt p.globals name).toNat) (h : vOk p ⟨45, d, xa, xb, num, name, args⟩ a s = true) : vIns p inp ⟨45, d, xa, xb, num, name, args⟩ a b s fr K = ({ s with data := s.data.set g (setR (dataRow s g) a b) }, fr.putIf d 0 :: K) := by subst hg; simp [vIns, vIdx, h]
theorem vi44n (d xa xb num a b : Int) (name : ByteArray) (args : List Int) (h : vOk p ⟨44, d, xa, xb, num, name, args⟩ a s = false) : vIns p inp ⟨44, d, xa, xb, num, name, args⟩ a b s fr K = (s.ended 3, fr :: K) := by simp [vIns, h]
theorem vi45n (d xa xb num a b : Int) (name : ByteArray) (args : List Int) (h : vOk p ⟨45, d, xa, xb, num, name, args⟩ a s = false) : vIns p inp ⟨45, d, xa, xb, num, name, args⟩ a b s fr K = (s.ended 3, fr :: K) := by simp [vIns, h]
theorem vi46 (d xa xb num a b : Int) (name : ByteArray) (args : List Int) : vIns p inp ⟨46, d, xa, xb, num, name, args⟩ a b s fr K = if K.length + 1 = 32 then (s.ended 4, fr :: K) else (s, vEntry (vNamed p name) (args.map (getR fr.regs)) d :: fr :: K) := by simp [vIns]
theorem vi47 (d xa xb num a b : Int) (name : ByteArray) (args : List Int) : vIns p inp ⟨47, d, xa, xb, num, name, args⟩ a b s fr K = if s.reads < inp.length then ({ s with reads := s.reads + 1 }, fr.putIf d (inp.getD s.reads 0) :: K) else (s, fr.putIf d 0 :: K) := by simp [vIns]
theorem vi52 (d xa xb num a b : Int) (name : ByteArray) (args : List Int) : vIns p inp ⟨52, d, xa, xb, num, name, args⟩ a b s fr K = (s, fr.putIf d 0 :: K) := by simp [vIns]
theorem vi53 (d xa xb num a b : Int) (name : ByteArray) (args : List Int) : vIns p inp ⟨53, d, xa, xb, num, name, args⟩ a b s fr K = (s, fr.putIf d 0 :: K) := by simp [vIns]
theorem vi48 (d xa xb num a b : Int) (name : ByteArray) (args : List Int) : vIns p inp ⟨48, d, xa, xb, num, name, args⟩ a b s fr K = ({ s with trace := s.trace ++ [a] }, fr.putIf d 0 :: K) := by simp [vIns]
end
section
variable {p : VProg} {inp : List Int} {fuel : Int}
theorem vIns_steps (x : Vins) (a b : Int) (s : MS) (fr : VFr) (K : List VFr) : (vIns p inp x a b s fr K).1.steps = s.steps := by
  have P := fun (a b : VCfg) (c : Prop) [Decidable c] (ha : a.1.steps = s.steps) (hb : b.1.steps = s.steps) => show (if c then a else b).1.steps = s.steps from by split <;> assumption
  have r0 : s.steps = s.steps := rfl
  unfold vIns
  exact P _ _ _ (by split <;> exact r0) (P _ _ _ r0 (P _ _ _ r0 (P _ _ _ r0 (P _ _ _ r0 (P _ _ _ (P _ _ _ r0 r0) (P _ _ _ (P _ _ _ r0 r0) (P _ _ _ (P _ _ _ r0 r0) (P _ _ _ (P _ _ _ r0 r0) (P _ _ _ r0 r0)))))))))
theorem retV_steps (d v : Int) (s : MS) (K : List VFr) : (retV d v s K).1.steps = s.steps := by cases K <;> rfl
theorem vOp_steps (x : Vins) (s : MS) (fr : VFr) (K : List VFr) : (vOp p inp x s fr K).1.steps = s.steps := by
  unfold vOp
  split
  · exact retV_steps _ _ _ _
  split
  · rfl
  · exact vIns_steps _ _ _ _ _ _
theorem stepV_steps (a : VCfg) : a.1.steps ≤ (stepV p inp fuel a).1.steps := by
  obtain ⟨s, K⟩ := a
  cases K with
  | nil => exact Nat.le_refl _
  | cons fr K =>
    show s.steps ≤ (if s.fin ≠ 0 then (s, fr :: K) else if fr.ins.op = 50 then (s, fr.next :: K) else if fuel ≤ (s.steps : Int) then (s.ended 5, fr :: K) else vOp p inp fr.ins s.step fr.next K : VCfg).1.steps
    split
    · exact Nat.le_refl _
    split
    · exact Nat.le_refl _
    split
    · exact Nat.le_refl _
    · rw [vOp_steps]; exact Nat.le_succ _
theorem ReachV.steps {a b : VCfg} (h : ReachV p inp fuel a b) : a.1.steps ≤ b.1.steps := by
  obtain ⟨n, rfl⟩ := h
  induction n generalizing a with
  | zero => exact Nat.le_refl _
  | succ n ih => exact Nat.le_trans (stepV_steps a) ih
end
end Go.Proofs.Ytnfneinonkpmeaa
namespace Go.Proofs.Ytnfneinonkpmeaa
open Go.RowKit
section
variable {E : EnvV} {s : MS} {c : Nat} {r : Option Nat} {w w' : World} {gr : Nat} {regs : List Int}
set_option maxHeartbeats 4000000 in
set_option maxRecDepth 100000 in
theorem vins_bina (hE : EnvVOk E) (h : MacV E s c r w) (hR : RegV E r gr regs w) (h0 : s.fin = 0) (op : Int) (hop : 2 ≤ op ∧ op ≤ 23) (d xa xb num : Int) (name : ByteArray) (args : List Int) (a b : Int) (ha : I32 a) (hb : I32 b) (hnum : I32 num) (hle : op ≤ 10) (Ax : Option Addr) (cx : Nat) :
    Calls Try.prog 47 #[.pointer (some ⟨E.mb, 0, none⟩), .agg #[.int .i64 op, .int .i64 d, .int .i64 xa, .int .i64 xb, .int .i32 num, .string name, .slice Ax args.length cx], .int .i32 a, .int .i32 b, .slice (some ⟨gr, 0, none⟩) regs.length regs.length] w (VInsPost E s ⟨op, d, xa, xb, num, name, args⟩ a b regs c r w) := by
  obtain ⟨w1, hw1, hb1, hlt1, hc⟩ := box_new w #[.int .i64 op, .int .i64 d, .int .i64 xa, .int .i64 xb, .int .i32 num, .string name, .slice Ax args.length cx] 61
  obtain ⟨bx, hbx⟩ : ∃ bx, bx = w.heap.size := ⟨_, rfl⟩
  have hst : VBoxS E s c r w ⟨op, d, xa, xb, num, name, args⟩ gr regs bx Ax cx w1 := ⟨hb1, h.below hb1, hR.below hb1, fun j u hu => by rw [hbx, hc j]; simpa [vinsCells] using hu⟩
  obtain ⟨mb, hmb⟩ : ∃ mb, mb = E.mb := ⟨_, rfl⟩
  have hbm : bx ≠ mb := by rw [hbx, hmb]; have := h.blt; omega
  have hbf : ¬ FootV E r bx := fun hf => by have := h.footlt hf; omega
  have hbg : bx ≠ gr := fun e => by have := hR.lt; omega
  have hfg := hR.foot
  rw [← hmb]
  have HMB := Lib.hid hmb
  have ST := Lib.hid hst
  have HW := Lib.hid hw1
  have HBX := Lib.hid hbx
  have HE := Lib.hid hE
  have H0 := Lib.hid h0
  have HAB := Lib.hid (And.intro ha (And.intro hb hnum))
  have HBF := Lib.hid hbf
  have HFG := Lib.hid hfg
  have h0 : w1.cell? ⟨bx, 0, none⟩ = some (.int .i64 op) := hst.box 0 _ rfl
  clear hE h hR hb1 hlt1 hc hst hmb hw1 hbx ha hb hnum hbf hfg
  have hy : num = if op ≤ 10 then num else b := by rw [if_pos hle]
  have HVI := Lib.hid fun fr K => vi_bin (p := E.m) (inp := E.inp) (s := s) (fr := fr) (K := K) (d := d) (xa := xa) (xb := xb) (a := a) (name := name) (args := args) hop hy
  have x4 : w1.cell? ⟨bx, 4, none⟩ = some (.int .i32 num) := ST.out.box 4 _ rfl
  obtain ⟨o, ho⟩ : ∃ o, o = valO op a num := ⟨_, rfl⟩
  have hv : ∀ W, Calls Try.prog 62 #[.int .i64 op, .int .i32 a, .int .i32 num] W (ValPost o W) := fun W => by rw [ho]; exact vValue_any op a num hop HAB.out.1 HAB.out.2.2 W
  have HO := Lib.hid ho
  obtain ⟨hop1, hop2⟩ := hop
  clear ho hy
  cases o with
  | none =>
    have HV : Hid (∀ W, Calls Try.prog 62 #[.int .i64 op, .int .i32 a, .int .i32 num] W fun e w' => e = .returned (.tuple #[.int .i32 0, .bool false]) ∧ Below W.heap.size W w') := Lib.hid fun W => (hv W).mono fun _ _ h => h
    clear hv
    go_enter Try.func47, Try.ntmps47
    go_upto_region 1 with (fail)
    rw [← HW.out, ← HBX.out]
    go_wp2_with fail
    refine (HV.out _).mono ?_
    rintro e w2 ⟨rfl, hb2⟩
    have ST := Lib.hid (ST.out.next hb2)
    obtain ⟨_, _, _, _, _, _, m6, _, _, mf⟩ := ST.out.mac.cells
    rw [← HMB.out] at m6 mf
    clear hb2 h0 x4
    go_wp2_with fail
    go_ret
    rw [HMB.out]
    exact vins_end HE.out 2 (by decide) (by unfold I32; decide) ST.out.mac ST.out.below rfl fun fr K e hl => by rw [HVI.out, ← HO.out]
  | some v =>
    have HV : Hid (∀ W, Calls Try.prog 62 #[.int .i64 op, .int .i32 a, .int .i32 num] W fun e w' => e = .returned (.tuple #[.int .i32 v, .bool true]) ∧ Below W.heap.size W w') := Lib.hid fun W => (hv W).mono fun _ _ h => h
    clear hv
    go_enter Try.func47, Try.ntmps47
    go_upto_region 1 with (fail)
    rw [← HW.out, ← HBX.out]
    go_wp2_with fail
    refine (HV.out _).mono ?_
    rintro e w2 ⟨rfl, hb2⟩
    have ST := Lib.hid (ST.out.next hb2)
    clear hb2 h0 x4
    go_wp2_with fail
    go_ret
    exact vins_val ST.out.mac (valO_bd HO.out.symm) ST.out.below H0.out fun fr K e hl => by rw [HVI.out, ← HO.out]
set_option maxHeartbeats 4000000 in
set_option maxRecDepth 100000 in
theorem vins_binb (hE : EnvVOk E) (h : MacV E s c r w) (hR : RegV E r gr regs w) (h0 : s.fin = 0) (op : Int) (hop : 2 ≤ op ∧ op ≤ 23) (d xa xb num : Int) (name : ByteArray) (args : List Int) (a b : Int) (ha : I32 a) (hb : I32 b) (hnum : I32 num) (hle : 10 < op) (Ax : Option Addr) (cx : Nat) :
    Calls Try.prog 47 #[.pointer (some ⟨E.mb, 0, none⟩), .agg #[.int .i64 op, .int .i64 d, .int .i64 xa, .int .i64 xb, .int .i32 num, .string name, .slice Ax args.length cx], .int .i32 a, .int .i32 b, .slice (some ⟨gr, 0, none⟩) regs.length regs.length] w (VInsPost E s ⟨op, d, xa, xb, num, name, args⟩ a b regs c r w) := by
  obtain ⟨w1, hw1, hb1, hlt1, hc⟩ := box_new w #[.int .i64 op, .int .i64 d, .int .i64 xa, .int .i64 xb, .int .i32 num, .string name, .slice Ax args.length cx] 61
  obtain ⟨bx, hbx⟩ : ∃ bx, bx = w.heap.size := ⟨_, rfl⟩
  have hst : VBoxS E s c r w ⟨op, d, xa, xb, num, name, args⟩ gr regs bx Ax cx w1 := ⟨hb1, h.below hb1, hR.below hb1, fun j u hu => by rw [hbx, hc j]; simpa [vinsCells] using hu⟩
  obtain ⟨mb, hmb⟩ : ∃ mb, mb = E.mb := ⟨_, rfl⟩
  have hbm : bx ≠ mb := by rw [hbx, hmb]; have := h.blt; omega
  have hbf : ¬ FootV E r bx := fun hf => by have := h.footlt hf; omega
  have hbg : bx ≠ gr := fun e => by have := hR.lt; omega
  have hfg := hR.foot
  rw [← hmb]
  have HMB := Lib.hid hmb
  have ST := Lib.hid hst
  have HW := Lib.hid hw1
  have HBX := Lib.hid hbx
  have HE := Lib.hid hE
  have H0 := Lib.hid h0
  have HAB := Lib.hid (And.intro ha (And.intro hb hnum))
  have HBF := Lib.hid hbf
  have HFG := Lib.hid hfg
  have h0 : w1.cell? ⟨bx, 0, none⟩ = some (.int .i64 op) := hst.box 0 _ rfl
  clear hE h hR hb1 hlt1 hc hst hmb hw1 hbx ha hb hnum hbf hfg
  have hy : b = if op ≤ 10 then num else b := by rw [if_neg (by omega)]
  have HVI := Lib.hid fun fr K => vi_bin (p := E.m) (inp := E.inp) (s := s) (fr := fr) (K := K) (d := d) (xa := xa) (xb := xb) (a := a) (name := name) (args := args) hop hy
  have x4 : w1.cell? ⟨bx, 4, none⟩ = some (.int .i32 num) := ST.out.box 4 _ rfl
  obtain ⟨o, ho⟩ : ∃ o, o = valO op a b := ⟨_, rfl⟩
  have hv : ∀ W, Calls Try.prog 62 #[.int .i64 op, .int .i32 a, .int .i32 b] W (ValPost o W) := fun W => by rw [ho]; exact vValue_any op a b hop HAB.out.1 HAB.out.2.1 W
  have HO := Lib.hid ho
  obtain ⟨hop1, hop2⟩ := hop
  clear ho hy
  cases o with
  | none =>
    have HV : Hid (∀ W, Calls Try.prog 62 #[.int .i64 op, .int .i32 a, .int .i32 b] W fun e w' => e = .returned (.tuple #[.int .i32 0, .bool false]) ∧ Below W.heap.size W w') := Lib.hid fun W => (hv W).mono fun _ _ h => h
    clear hv
    go_enter Try.func47, Try.ntmps47
    go_upto_region 1 with (fail)
    rw [← HW.out, ← HBX.out]
    go_wp2_with fail
    refine (HV.out _).mono ?_
    rintro e w2 ⟨rfl, hb2⟩
    have ST := Lib.hid (ST.out.next hb2)
    obtain ⟨_, _, _, _, _, _, m6, _, _, mf⟩ := ST.out.mac.cells
    rw [← HMB.out] at m6 mf
    clear hb2 h0 x4
    go_wp2_with fail
    go_ret
    rw [HMB.out]
    exact vins_end HE.out 2 (by decide) (by unfold I32; decide) ST.out.mac ST.out.below rfl fun fr K e hl => by rw [HVI.out, ← HO.out]
  | some v =>
    have HV : Hid (∀ W, Calls Try.prog 62 #[.int .i64 op, .int .i32 a, .int .i32 b] W fun e w' => e = .returned (.tuple #[.int .i32 v, .bool true]) ∧ Below W.heap.size W w') := Lib.hid fun W => (hv W).mono fun _ _ h => h
    clear hv
    go_enter Try.func47, Try.ntmps47
    go_upto_region 1 with (fail)
    rw [← HW.out, ← HBX.out]
    go_wp2_with fail
    refine (HV.out _).mono ?_
    rintro e w2 ⟨rfl, hb2⟩
    have ST := Lib.hid (ST.out.next hb2)
    clear hb2 h0 x4
    go_wp2_with fail
    go_ret
    exact vins_val ST.out.mac (valO_bd HO.out.symm) ST.out.below H0.out fun fr K e hl => by rw [HVI.out, ← HO.out]
set_option maxHeartbeats 4000000 in
set_option maxRecDepth 100000 in
theorem vins_40 (hE : EnvVOk E) (h : MacV E s c r w) (hR : RegV E r gr regs w) (h0 : s.fin = 0) (d xa xb num : Int) (name : ByteArray) (args : List Int) (a b : Int) (ha : I32 a) (hb : I32 b) (hnum : I32 num) (Ax : Option Addr) (cx : Nat) :
    Calls Try.prog 47 #[.pointer (some ⟨E.mb, 0, none⟩), .agg #[.int .i64 40, .int .i64 d, .int .i64 xa, .int .i64 xb, .int .i32 num, .string name, .slice Ax args.length cx], .int .i32 a, .int .i32 b, .slice (some ⟨gr, 0, none⟩) regs.length regs.length] w (VInsPost E s ⟨40, d, xa, xb, num, name, args⟩ a b regs c r w) := by
  obtain ⟨w1, hw1, hb1, hlt1, hc⟩ := box_new w #[.int .i64 40, .int .i64 d, .int .i64 xa, .int .i64 xb, .int .i32 num, .string name, .slice Ax args.length cx] 61
  obtain ⟨bx, hbx⟩ : ∃ bx, bx = w.heap.size := ⟨_, rfl⟩
  have hst : VBoxS E s c r w ⟨40, d, xa, xb, num, name, args⟩ gr regs bx Ax cx w1 := ⟨hb1, h.below hb1, hR.below hb1, fun j u hu => by rw [hbx, hc j]; simpa [vinsCells] using hu⟩
  obtain ⟨mb, hmb⟩ : ∃ mb, mb = E.mb := ⟨_, rfl⟩
  have hbm : bx ≠ mb := by rw [hbx, hmb]; have := h.blt; omega
  have hbf : ¬ FootV E r bx := fun hf => by have := h.footlt hf; omega
  have hbg : bx ≠ gr := fun e => by have := hR.lt; omega
  have hfg := hR.foot
  rw [← hmb]
  have HMB := Lib.hid hmb
  have ST := Lib.hid hst
  have HW := Lib.hid hw1
  have HBX := Lib.hid hbx
  have HE := Lib.hid hE
  have H0 := Lib.hid h0
  have HAB := Lib.hid (And.intro ha (And.intro hb hnum))
  have HBF := Lib.hid hbf
  have HFG := Lib.hid hfg
  have h0 : w1.cell? ⟨bx, 0, none⟩ = some (.int .i64 40) := hst.box 0 _ rfl
  obtain ⟨g, hg⟩ : ∃ g, g = (globAt E.m.globals name).toNat := ⟨_, rfl⟩
  have HGL : Hid (∀ W, MacV E s c r W → Calls Try.prog 63 #[.agg #[.slice E.A E.m.globals.length E.c, .slice E.B E.m.fns.length E.d], .string name] W fun e w' => e = .returned (.int .i64 (g : Nat)) ∧ Below W.heap.size W w') := Lib.hid fun W hM => by
    rw [hg]; exact vGlob_any E.m E.A E.B E.c E.d name W hM.mid
  have HG := Lib.hid hg
  obtain ⟨c0, c1, _⟩ := hst.mac.cells
  have nm : w1.cell? ⟨bx, 5, none⟩ = some (.string name) := hst.box 5 _ rfl
  rw [← hmb] at c0 c1
  clear hg
  clear hE h hR hb1 hlt1 hc hst hmb hw1 hbx ha hb hnum hbf hfg
  go_enter Try.func47, Try.ntmps47
  go_upto_region 1 with (fail)
  rw [← HW.out, ← HBX.out]
  go_upto_region 8 with (fail)
  have ST := Lib.hid (ST.out.next (Y' := w1.drew) dr)
  go_region_held3 (fun Y => Y.cell? ⟨mb, 0, none⟩ = some (.slice E.A E.m.globals.length E.c) ∧ Y.cell? ⟨mb, 1, none⟩ = some (.slice E.B E.m.fns.length E.d) ∧ Y.cell? ⟨bx, 5, none⟩ = some (.string name)) (first | exact ⟨c0, c1, nm⟩ | go_keep)
    (first
    | (go_at_call 63; (with_reducible refine (HGL.out _ ST.out.mac).mono ?_); rintro e wv ⟨rfl, hBv⟩; have ST := Lib.hid (ST.out.next hBv); clear hBv; obtain ⟨c0, c1, _⟩ := ST.out.mac.cells; rw [← HMB.out] at c0 c1; have nm : _ = some (Value.string name) := ST.out.box 5 _ rfl)
    | (fail "no arm"))
  all_goals
    clear c0 c1 nm h0 HGL
    have h0 := ST.out.box 0 _ rfl
    have x4 := ST.out.box 4 _ rfl
    go_wp2_with fail
    go_ret
    exact vins_val ST.out.mac HAB.out.2.2 ST.out.below H0.out fun fr K e hl => vi40 _ _ _ _ _ _ _ _
set_option maxHeartbeats 4000000 in
set_option maxRecDepth 100000 in
theorem vins_41 (hE : EnvVOk E) (h : MacV E s c r w) (hR : RegV E r gr regs w) (h0 : s.fin = 0) (d xa xb num : Int) (name : ByteArray) (args : List Int) (a b : Int) (ha : I32 a) (hb : I32 b) (hnum : I32 num) (Ax : Option Addr) (cx : Nat) :
    Calls Try.prog 47 #[.pointer (some ⟨E.mb, 0, none⟩), .agg #[.int .i64 41, .int .i64 d, .int .i64 xa, .int .i64 xb, .int .i32 num, .string name, .slice Ax args.length cx], .int .i32 a, .int .i32 b, .slice (some ⟨gr, 0, none⟩) regs.length regs.length] w (VInsPost E s ⟨41, d, xa, xb, num, name, args⟩ a b regs c r w) := by
  obtain ⟨w1, hw1, hb1, hlt1, hc⟩ := box_new w #[.int .i64 41, .int .i64 d, .int .i64 xa, .int .i64 xb, .int .i32 num, .string name, .slice Ax args.length cx] 61
  obtain ⟨bx, hbx⟩ : ∃ bx, bx = w.heap.size := ⟨_, rfl⟩
  have hst : VBoxS E s c r w ⟨41, d, xa, xb, num, name, args⟩ gr regs bx Ax cx w1 := ⟨hb1, h.below hb1, hR.below hb1, fun j u hu => by rw [hbx, hc j]; simpa [vinsCells] using hu⟩
  obtain ⟨mb, hmb⟩ : ∃ mb, mb = E.mb := ⟨_, rfl⟩
  have hbm : bx ≠ mb := by rw [hbx, hmb]; have := h.blt; omega
  have hbf : ¬ FootV E r bx := fun hf => by have := h.footlt hf; omega
  have hbg : bx ≠ gr := fun e => by have := hR.lt; omega
  have hfg := hR.foot
  rw [← hmb]
  have HMB := Lib.hid hmb
  have ST := Lib.hid hst
  have HW := Lib.hid hw1
  have HBX := Lib.hid hbx
  have HE := Lib.hid hE
  have H0 := Lib.hid h0
  have HAB := Lib.hid (And.intro ha (And.intro hb hnum))
  have HBF := Lib.hid hbf
  have HFG := Lib.hid hfg
  have h0 : w1.cell? ⟨bx, 0, none⟩ = some (.int .i64 41) := hst.box 0 _ rfl
  obtain ⟨g, hg⟩ : ∃ g, g = (globAt E.m.globals name).toNat := ⟨_, rfl⟩
  have HGL : Hid (∀ W, MacV E s c r W → Calls Try.prog 63 #[.agg #[.slice E.A E.m.globals.length E.c, .slice E.B E.m.fns.length E.d], .string name] W fun e w' => e = .returned (.int .i64 (g : Nat)) ∧ Below W.heap.size W w') := Lib.hid fun W hM => by
    rw [hg]; exact vGlob_any E.m E.A E.B E.c E.d name W hM.mid
  have HG := Lib.hid hg
  obtain ⟨c0, c1, _⟩ := hst.mac.cells
  have nm : w1.cell? ⟨bx, 5, none⟩ = some (.string name) := hst.box 5 _ rfl
  rw [← hmb] at c0 c1
  clear hg
  clear hE h hR hb1 hlt1 hc hst hmb hw1 hbx ha hb hnum hbf hfg
  go_enter Try.func47, Try.ntmps47
  go_upto_region 1 with (fail)
  rw [← HW.out, ← HBX.out]
  go_upto_region 8 with (fail)
  have ST := Lib.hid (ST.out.next (Y' := w1.drew) dr)
  go_region_held3 (fun Y => Y.cell? ⟨mb, 0, none⟩ = some (.slice E.A E.m.globals.length E.c) ∧ Y.cell? ⟨mb, 1, none⟩ = some (.slice E.B E.m.fns.length E.d) ∧ Y.cell? ⟨bx, 5, none⟩ = some (.string name)) (first | exact ⟨c0, c1, nm⟩ | go_keep)
    (first
    | (go_at_call 63; (with_reducible refine (HGL.out _ ST.out.mac).mono ?_); rintro e wv ⟨rfl, hBv⟩; have ST := Lib.hid (ST.out.next hBv); clear hBv; obtain ⟨c0, c1, _⟩ := ST.out.mac.cells; rw [← HMB.out] at c0 c1; have nm : _ = some (Value.string name) := ST.out.box 5 _ rfl)
    | (fail "no arm"))
  all_goals
    clear c0 c1 nm h0 HGL
    have h0 := ST.out.box 0 _ rfl
    go_wp2_with fail
    go_ret
    exact vins_val ST.out.mac HAB.out.1 ST.out.below H0.out fun fr K e hl => vi41 _ _ _ _ _ _ _ _
set_option maxHeartbeats 4000000 in
set_option maxRecDepth 100000 in
theorem vins_52 (hE : EnvVOk E) (h : MacV E s c r w) (hR : RegV E r gr regs w) (h0 : s.fin = 0) (d xa xb num : Int) (name : ByteArray) (args : List Int) (a b : Int) (ha : I32 a) (hb : I32 b) (hnum : I32 num) (Ax : Option Addr) (cx : Nat) :
    Calls Try.prog 47 #[.pointer (some ⟨E.mb, 0, none⟩), .agg #[.int .i64 52, .int .i64 d, .int .i64 xa, .int .i64 xb, .int .i32 num, .string name, .slice Ax args.length cx], .int .i32 a, .int .i32 b, .slice (some ⟨gr, 0, none⟩) regs.length regs.length] w (VInsPost E s ⟨52, d, xa, xb, num, name, args⟩ a b regs c r w) := by
  obtain ⟨w1, hw1, hb1, hlt1, hc⟩ := box_new w #[.int .i64 52, .int .i64 d, .int .i64 xa, .int .i64 xb, .int .i32 num, .string name, .slice Ax args.length cx] 61
  obtain ⟨bx, hbx⟩ : ∃ bx, bx = w.heap.size := ⟨_, rfl⟩
  have hst : VBoxS E s c r w ⟨52, d, xa, xb, num, name, args⟩ gr regs bx Ax cx w1 := ⟨hb1, h.below hb1, hR.below hb1, fun j u hu => by rw [hbx, hc j]; simpa [vinsCells] using hu⟩
  obtain ⟨mb, hmb⟩ : ∃ mb, mb = E.mb := ⟨_, rfl⟩
  have hbm : bx ≠ mb := by rw [hbx, hmb]; have := h.blt; omega
  have hbf : ¬ FootV E r bx := fun hf => by have := h.footlt hf; omega
  have hbg : bx ≠ gr := fun e => by have := hR.lt; omega
  have hfg := hR.foot
  rw [← hmb]
  have HMB := Lib.hid hmb
  have ST := Lib.hid hst
  have HW := Lib.hid hw1
  have HBX := Lib.hid hbx
  have HE := Lib.hid hE
  have H0 := Lib.hid h0
  have HAB := Lib.hid (And.intro ha (And.intro hb hnum))
  have HBF := Lib.hid hbf
  have HFG := Lib.hid hfg
  have h0 : w1.cell? ⟨bx, 0, none⟩ = some (.int .i64 52) := hst.box 0 _ rfl
  obtain ⟨g, hg⟩ : ∃ g, g = (globAt E.m.globals name).toNat := ⟨_, rfl⟩
  have HGL : Hid (∀ W, MacV E s c r W → Calls Try.prog 63 #[.agg #[.slice E.A E.m.globals.length E.c, .slice E.B E.m.fns.length E.d], .string name] W fun e w' => e = .returned (.int .i64 (g : Nat)) ∧ Below W.heap.size W w') := Lib.hid fun W hM => by
    rw [hg]; exact vGlob_any E.m E.A E.B E.c E.d name W hM.mid
  have HG := Lib.hid hg
  obtain ⟨c0, c1, _⟩ := hst.mac.cells
  have nm : w1.cell? ⟨bx, 5, none⟩ = some (.string name) := hst.box 5 _ rfl
  rw [← hmb] at c0 c1
  clear hg
  clear hE h hR hb1 hlt1 hc hst hmb hw1 hbx ha hb hnum hbf hfg
  go_enter Try.func47, Try.ntmps47
  go_upto_region 1 with (fail)
  rw [← HW.out, ← HBX.out]
  go_upto_region 8 with (fail)
  have ST := Lib.hid (ST.out.next (Y' := w1.drew) dr)
  go_region_held3 (fun Y => Y.cell? ⟨mb, 0, none⟩ = some (.slice E.A E.m.globals.length E.c) ∧ Y.cell? ⟨mb, 1, none⟩ = some (.slice E.B E.m.fns.length E.d) ∧ Y.cell? ⟨bx, 5, none⟩ = some (.string name)) (first | exact ⟨c0, c1, nm⟩ | go_keep)
    (first
    | (go_at_call 63; (with_reducible refine (HGL.out _ ST.out.mac).mono ?_); rintro e wv ⟨rfl, hBv⟩; have ST := Lib.hid (ST.out.next hBv); clear hBv; obtain ⟨c0, c1, _⟩ := ST.out.mac.cells; rw [← HMB.out] at c0 c1; have nm : _ = some (Value.string name) := ST.out.box 5 _ rfl)
    | (fail "no arm"))
  all_goals
    clear c0 c1 nm h0 HGL
    have h0 := ST.out.box 0 _ rfl
    go_wp2_with fail
    go_ret
    exact vins_val ST.out.mac (by unfold I32; decide) ST.out.below H0.out fun fr K e hl => vi52 _ _ _ _ _ _ _ _
set_option maxHeartbeats 4000000 in
set_option maxRecDepth 100000 in
theorem vins_53 (hE : EnvVOk E) (h : MacV E s c r w) (hR : RegV E r gr regs w) (h0 : s.fin = 0) (d xa xb num : Int) (name : ByteArray) (args : List Int) (a b : Int) (ha : I32 a) (hb : I32 b) (hnum : I32 num) (Ax : Option Addr) (cx : Nat) :
    Calls Try.prog 47 #[.pointer (some ⟨E.mb, 0, none⟩), .agg #[.int .i64 53, .int .i64 d, .int .i64 xa, .int .i64 xb, .int .i32 num, .string name, .slice Ax args.length cx], .int .i32 a, .int .i32 b, .slice (some ⟨gr, 0, none⟩) regs.length regs.length] w (VInsPost E s ⟨53, d, xa, xb, num, name, args⟩ a b regs c r w) := by
  obtain ⟨w1, hw1, hb1, hlt1, hc⟩ := box_new w #[.int .i64 53, .int .i64 d, .int .i64 xa, .int .i64 xb, .int .i32 num, .string name, .slice Ax args.length cx] 61
  obtain ⟨bx, hbx⟩ : ∃ bx, bx = w.heap.size := ⟨_, rfl⟩
  have hst : VBoxS E s c r w ⟨53, d, xa, xb, num, name, args⟩ gr regs bx Ax cx w1 := ⟨hb1, h.below hb1, hR.below hb1, fun j u hu => by rw [hbx, hc j]; simpa [vinsCells] using hu⟩
  obtain ⟨mb, hmb⟩ : ∃ mb, mb = E.mb := ⟨_, rfl⟩
  have hbm : bx ≠ mb := by rw [hbx, hmb]; have := h.blt; omega
  have hbf : ¬ FootV E r bx := fun hf => by have := h.footlt hf; omega
  have hbg : bx ≠ gr := fun e => by have := hR.lt; omega
  have hfg := hR.foot
  rw [← hmb]
  have HMB := Lib.hid hmb
  have ST := Lib.hid hst
  have HW := Lib.hid hw1
  have HBX := Lib.hid hbx
  have HE := Lib.hid hE
  have H0 := Lib.hid h0
  have HAB := Lib.hid (And.intro ha (And.intro hb hnum))
  have HBF := Lib.hid hbf
  have HFG := Lib.hid hfg
  have h0 : w1.cell? ⟨bx, 0, none⟩ = some (.int .i64 53) := hst.box 0 _ rfl
  obtain ⟨g, hg⟩ : ∃ g, g = (globAt E.m.globals name).toNat := ⟨_, rfl⟩
  have HGL : Hid (∀ W, MacV E s c r W → Calls Try.prog 63 #[.agg #[.slice E.A E.m.globals.length E.c, .slice E.B E.m.fns.length E.d], .string name] W fun e w' => e = .returned (.int .i64 (g : Nat)) ∧ Below W.heap.size W w') := Lib.hid fun W hM => by
    rw [hg]; exact vGlob_any E.m E.A E.B E.c E.d name W hM.mid
  have HG := Lib.hid hg
  obtain ⟨c0, c1, _⟩ := hst.mac.cells
  have nm : w1.cell? ⟨bx, 5, none⟩ = some (.string name) := hst.box 5 _ rfl
  rw [← hmb] at c0 c1
  clear hg
  clear hE h hR hb1 hlt1 hc hst hmb hw1 hbx ha hb hnum hbf hfg
  go_enter Try.func47, Try.ntmps47
  go_upto_region 1 with (fail)
  rw [← HW.out, ← HBX.out]
  go_upto_region 8 with (fail)
  have ST := Lib.hid (ST.out.next (Y' := w1.drew) dr)
  go_region_held3 (fun Y => Y.cell? ⟨mb, 0, none⟩ = some (.slice E.A E.m.globals.length E.c) ∧ Y.cell? ⟨mb, 1, none⟩ = some (.slice E.B E.m.fns.length E.d) ∧ Y.cell? ⟨bx, 5, none⟩ = some (.string name)) (first | exact ⟨c0, c1, nm⟩ | go_keep)
    (first
    | (go_at_call 63; (with_reducible refine (HGL.out _ ST.out.mac).mono ?_); rintro e wv ⟨rfl, hBv⟩; have ST := Lib.hid (ST.out.next hBv); clear hBv; obtain ⟨c0, c1, _⟩ := ST.out.mac.cells; rw [← HMB.out] at c0 c1; have nm : _ = some (Value.string name) := ST.out.box 5 _ rfl)
    | (fail "no arm"))
  all_goals
    clear c0 c1 nm h0 HGL
    have h0 := ST.out.box 0 _ rfl
    go_wp2_with fail
    go_ret
    exact vins_val ST.out.mac (by unfold I32; decide) ST.out.below H0.out fun fr K e hl => vi53 _ _ _ _ _ _ _ _
set_option maxHeartbeats 4000000 in
set_option maxRecDepth 100000 in
theorem vins_42 (hE : EnvVOk E) (h : MacV E s c r w) (hR : RegV E r gr regs w) (h0 : s.fin = 0) (d xa xb num : Int) (name : ByteArray) (args : List Int) (a b : Int) (ha : I32 a) (hb : I32 b) (hnum : I32 num) (hgg : (globAt E.m.globals name).toNat < E.m.globals.length) (Ax : Option Addr) (cx : Nat) :
    Calls Try.prog 47 #[.pointer (some ⟨E.mb, 0, none⟩), .agg #[.int .i64 42, .int .i64 d, .int .i64 xa, .int .i64 xb, .int .i32 num, .string name, .slice Ax args.length cx], .int .i32 a, .int .i32 b, .slice (some ⟨gr, 0, none⟩) regs.length regs.length] w (VInsPost E s ⟨42, d, xa, xb, num, name, args⟩ a b regs c r w) := by
  obtain ⟨w1, hw1, hb1, hlt1, hc⟩ := box_new w #[.int .i64 42, .int .i64 d, .int .i64 xa, .int .i64 xb, .int .i32 num, .string name, .slice Ax args.length cx] 61
  obtain ⟨bx, hbx⟩ : ∃ bx, bx = w.heap.size := ⟨_, rfl⟩
  have hst : VBoxS E s c r w ⟨42, d, xa, xb, num, name, args⟩ gr regs bx Ax cx w1 := ⟨hb1, h.below hb1, hR.below hb1, fun j u hu => by rw [hbx, hc j]; simpa [vinsCells] using hu⟩
  obtain ⟨mb, hmb⟩ : ∃ mb, mb = E.mb := ⟨_, rfl⟩
  have hbm : bx ≠ mb := by rw [hbx, hmb]; have := h.blt; omega
  have hbf : ¬ FootV E r bx := fun hf => by have := h.footlt hf; omega
  have hbg : bx ≠ gr := fun e => by have := hR.lt; omega
  have hfg := hR.foot
  rw [← hmb]
  have HMB := Lib.hid hmb
  have ST := Lib.hid hst
  have HW := Lib.hid hw1
  have HBX := Lib.hid hbx
  have HE := Lib.hid hE
  have H0 := Lib.hid h0
  have HAB := Lib.hid (And.intro ha (And.intro hb hnum))
  have HBF := Lib.hid hbf
  have HFG := Lib.hid hfg
  have h0 : w1.cell? ⟨bx, 0, none⟩ = some (.int .i64 42) := hst.box 0 _ rfl
  obtain ⟨g, hg⟩ : ∃ g, g = (globAt E.m.globals name).toNat := ⟨_, rfl⟩
  have HGL : Hid (∀ W, MacV E s c r W → Calls Try.prog 63 #[.agg #[.slice E.A E.m.globals.length E.c, .slice E.B E.m.fns.length E.d], .string name] W fun e w' => e = .returned (.int .i64 (g : Nat)) ∧ Below W.heap.size W w') := Lib.hid fun W hM => by
    rw [hg]; exact vGlob_any E.m E.A E.B E.c E.d name W hM.mid
  have HG := Lib.hid hg
  obtain ⟨c0, c1, _⟩ := hst.mac.cells
  have nm : w1.cell? ⟨bx, 5, none⟩ = some (.string name) := hst.box 5 _ rfl
  rw [← hmb] at c0 c1
  have HGG : Hid (g < E.m.globals.length) := Lib.hid (by rw [hg]; exact hgg)
  clear hg hgg
  clear hE h hR hb1 hlt1 hc hst hmb hw1 hbx ha hb hnum hbf hfg
  go_enter Try.func47, Try.ntmps47
  go_upto_region 1 with (fail)
  rw [← HW.out, ← HBX.out]
  go_upto_region 8 with (fail)
  have ST := Lib.hid (ST.out.next (Y' := w1.drew) dr)
  go_region_held3 (fun Y => Y.cell? ⟨mb, 0, none⟩ = some (.slice E.A E.m.globals.length E.c) ∧ Y.cell? ⟨mb, 1, none⟩ = some (.slice E.B E.m.fns.length E.d) ∧ Y.cell? ⟨bx, 5, none⟩ = some (.string name)) (first | exact ⟨c0, c1, nm⟩ | go_keep)
    (first
    | (go_at_call 63; (with_reducible refine (HGL.out _ ST.out.mac).mono ?_); rintro e wv ⟨rfl, hBv⟩; have ST := Lib.hid (ST.out.next hBv); clear hBv; obtain ⟨c0, c1, _⟩ := ST.out.mac.cells; rw [← HMB.out] at c0 c1; have nm : _ = some (Value.string name) := ST.out.box 5 _ rfl)
    | (fail "no arm"))
  all_goals
    clear c0 c1 nm h0 HGL
    have h0 := ST.out.box 0 _ rfl
    obtain ⟨gd, od, hAD, hrow⟩ := ST.out.mac.outer g (by rw [HE.out.nb]; exact HGG.out)
    obtain ⟨L, hL⟩ : ∃ L, L = (dataRow s g).length := ⟨_, rfl⟩
    have hL1 : 1 ≤ L := by rw [hL, ST.out.mac.dlen g HGG.out]; omega
    obtain ⟨_, _, c2, _, _, _, c6, _, _, hfr⟩ := ST.out.mac.cells
    rw [hAD] at c2
    rw [← HMB.out] at c2 c6 hfr
    rw [← hL] at hrow
    obtain ⟨bg, hbge⟩ : ∃ bg, bg = E.bs[g]'(by rw [HE.out.nb]; exact HGG.out) := ⟨_, rfl⟩
    rw [← hbge] at hrow
    have hwd := ST.out.mac.words g (by rw [HE.out.nb]; exact HGG.out)
    rw [← hbge] at hwd
    have hLm : L ≤ maxLen := by
      obtain ⟨_, _, _, _, _, h1, h2, _⟩ := RowAt.form hwd (by omega)
      rw [hL]; exact Nat.le_trans h1 h2
    unfold maxLen at hLm
    obtain ⟨ng, hng⟩ : ∃ ng, ng = E.m.globals.length := ⟨_, rfl⟩
    have hngm : ng ≤ maxLen := by rw [hng]; exact ST.out.mac.mid.nglobals
    unfold maxLen at hngm
    have hgn : g < ng := by rw [hng]; exact HGG.out
    rw [← hng] at c2
    have HWD := Lib.hid hwd
    have HL := Lib.hid hL
    have HBG := Lib.hid hbge
    clear hAD hL hbge hng hwd
    obtain ⟨hv, _⟩ := wsCell HWD.out 0 (by rw [← HL.out]; omega)
    obtain ⟨v, hve⟩ : ∃ v, v = (dataRow s g).getD 0 0 := ⟨_, rfl⟩
    rw [← hve] at hv
    have HVE := Lib.hid hve
    clear hve
    go_wp2_with fail
    go_ret
    exact vins_val ST.out.mac (by rw [HVE.out]; exact getD_i32 (rowv_i32 ST.out.mac g) 0) ST.out.below H0.out fun fr K e hl => by rw [vi42 _ _ _ _ _ _ _ _ HG.out, HVE.out]; rfl
set_option maxHeartbeats 4000000 in
set_option maxRecDepth 100000 in
theorem vins_43 (hE : EnvVOk E) (h : MacV E s c r w) (hR : RegV E r gr regs w) (h0 : s.fin = 0) (d xa xb num : Int) (name : ByteArray) (args : List Int) (a b : Int) (ha : I32 a) (hb : I32 b) (hnum : I32 num) (hgg : (globAt E.m.globals name).toNat < E.m.globals.length) (Ax : Option Addr) (cx : Nat) :
    Calls Try.prog 47 #[.pointer (some ⟨E.mb, 0, none⟩), .agg #[.int .i64 43, .int .i64 d, .int .i64 xa, .int .i64 xb, .int .i32 num, .string name, .slice Ax args.length cx], .int .i32 a, .int .i32 b, .slice (some ⟨gr, 0, none⟩) regs.length regs.length] w (VInsPost E s ⟨43, d, xa, xb, num, name, args⟩ a b regs c r w) := by
  obtain ⟨w1, hw1, hb1, hlt1, hc⟩ := box_new w #[.int .i64 43, .int .i64 d, .int .i64 xa, .int .i64 xb, .int .i32 num, .string name, .slice Ax args.length cx] 61
  obtain ⟨bx, hbx⟩ : ∃ bx, bx = w.heap.size := ⟨_, rfl⟩
  have hst : VBoxS E s c r w ⟨43, d, xa, xb, num, name, args⟩ gr regs bx Ax cx w1 := ⟨hb1, h.below hb1, hR.below hb1, fun j u hu => by rw [hbx, hc j]; simpa [vinsCells] using hu⟩
  obtain ⟨mb, hmb⟩ : ∃ mb, mb = E.mb := ⟨_, rfl⟩
  have hbm : bx ≠ mb := by rw [hbx, hmb]; have := h.blt; omega
  have hbf : ¬ FootV E r bx := fun hf => by have := h.footlt hf; omega
  have hbg : bx ≠ gr := fun e => by have := hR.lt; omega
  have hfg := hR.foot
  rw [← hmb]
  have HMB := Lib.hid hmb
  have ST := Lib.hid hst
  have HW := Lib.hid hw1
  have HBX := Lib.hid hbx
  have HE := Lib.hid hE
  have H0 := Lib.hid h0
  have HAB := Lib.hid (And.intro ha (And.intro hb hnum))
  have HBF := Lib.hid hbf
  have HFG := Lib.hid hfg
  have h0 : w1.cell? ⟨bx, 0, none⟩ = some (.int .i64 43) := hst.box 0 _ rfl
  obtain ⟨g, hg⟩ : ∃ g, g = (globAt E.m.globals name).toNat := ⟨_, rfl⟩
  have HGL : Hid (∀ W, MacV E s c r W → Calls Try.prog 63 #[.agg #[.slice E.A E.m.globals.length E.c, .slice E.B E.m.fns.length E.d], .string name] W fun e w' => e = .returned (.int .i64 (g : Nat)) ∧ Below W.heap.size W w') := Lib.hid fun W hM => by
    rw [hg]; exact vGlob_any E.m E.A E.B E.c E.d name W hM.mid
  have HG := Lib.hid hg
  obtain ⟨c0, c1, _⟩ := hst.mac.cells
  have nm : w1.cell? ⟨bx, 5, none⟩ = some (.string name) := hst.box 5 _ rfl
  rw [← hmb] at c0 c1
  have HGG : Hid (g < E.m.globals.length) := Lib.hid (by rw [hg]; exact hgg)
  clear hg hgg
  clear hE h hR hb1 hlt1 hc hst hmb hw1 hbx ha hb hnum hbf hfg
  go_enter Try.func47, Try.ntmps47
  go_upto_region 1 with (fail)
  rw [← HW.out, ← HBX.out]
  go_upto_region 8 with (fail)
  have ST := Lib.hid (ST.out.next (Y' := w1.drew) dr)
  go_region_held3 (fun Y => Y.cell? ⟨mb, 0, none⟩ = some (.slice E.A E.m.globals.length E.c) ∧ Y.cell? ⟨mb, 1, none⟩ = some (.slice E.B E.m.fns.length E.d) ∧ Y.cell? ⟨bx, 5, none⟩ = some (.string name)) (first | exact ⟨c0, c1, nm⟩ | go_keep)
    (first
    | (go_at_call 63; (with_reducible refine (HGL.out _ ST.out.mac).mono ?_); rintro e wv ⟨rfl, hBv⟩; have ST := Lib.hid (ST.out.next hBv); clear hBv; obtain ⟨c0, c1, _⟩ := ST.out.mac.cells; rw [← HMB.out] at c0 c1; have nm : _ = some (Value.string name) := ST.out.box 5 _ rfl)
    | (fail "no arm"))
  all_goals
    clear c0 c1 nm h0 HGL
    have h0 := ST.out.box 0 _ rfl
    obtain ⟨gd, od, hAD, hrow⟩ := ST.out.mac.outer g (by rw [HE.out.nb]; exact HGG.out)
    obtain ⟨L, hL⟩ : ∃ L, L = (dataRow s g).length := ⟨_, rfl⟩
    have hL1 : 1 ≤ L := by rw [hL, ST.out.mac.dlen g HGG.out]; omega
    obtain ⟨_, _, c2, _, _, _, c6, _, _, hfr⟩ := ST.out.mac.cells
    rw [hAD] at c2
    rw [← HMB.out] at c2 c6 hfr
    rw [← hL] at hrow
    obtain ⟨bg, hbge⟩ : ∃ bg, bg = E.bs[g]'(by rw [HE.out.nb]; exact HGG.out) := ⟨_, rfl⟩
    rw [← hbge] at hrow
    have hwd := ST.out.mac.words g (by rw [HE.out.nb]; exact HGG.out)
    rw [← hbge] at hwd
    have hLm : L ≤ maxLen := by
      obtain ⟨_, _, _, _, _, h1, h2, _⟩ := RowAt.form hwd (by omega)
      rw [hL]; exact Nat.le_trans h1 h2
    unfold maxLen at hLm
    obtain ⟨ng, hng⟩ : ∃ ng, ng = E.m.globals.length := ⟨_, rfl⟩
    have hngm : ng ≤ maxLen := by rw [hng]; exact ST.out.mac.mid.nglobals
    unfold maxLen at hngm
    have hgn : g < ng := by rw [hng]; exact HGG.out
    rw [← hng] at c2
    have HWD := Lib.hid hwd
    have HL := Lib.hid hL
    have HBG := Lib.hid hbge
    clear hAD hL hbge hng hwd
    obtain ⟨hv, hvf⟩ := wsCell HWD.out 0 (by rw [← HL.out]; omega)
    obtain ⟨v, hve⟩ : ∃ v, v = (dataRow s g).getD 0 0 := ⟨_, rfl⟩
    rw [← hve] at hv
    clear hve
    go_wp2_with fail
    go_ret
    have hm := ST.out.mac.word HE.out g (by rw [HE.out.nb]; exact HGG.out) 0 (by rw [← HL.out]; omega) b HAB.out.2.1
    rw [← HBG.out] at hm
    refine vins_st hm (by unfold I32; decide) ((Chg.of_below ST.out.below _).setCell ⟨bg, 0, none⟩ (fun _ => .inr (.inl (by rw [HBG.out]; exact List.getElem_mem _))) _) H0.out fun fr K e hl => ?_
    rw [vi43 _ _ _ _ _ _ _ _ HG.out]; rfl
end
end Go.Proofs.Ytnfneinonkpmeaa
