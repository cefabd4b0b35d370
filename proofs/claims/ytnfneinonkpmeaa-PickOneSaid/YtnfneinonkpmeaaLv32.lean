/- brazierref15.Machine: any instruction; what stands between the rounds of a call. Written by genvcall.py. -/
import Derived.Test.YtnfneinonkpmeaaLv31
import Derived.Test.YtnfneinonkpmeaaLv28
import Derived.Test.YtnfneinonkpmeaaLv19
import Derived.Test.YtnfneinonkpmeaaLv21
import Derived.Test.YtnfneinonkpmeaaLv3
namespace Go.Proofs.Ytnfneinonkpmeaa
open Go.RowKit
section
variable {E : EnvV} {s : MS} {c : Nat} {r : Option Nat} {w w' : World} {gr : Nat} {regs : List Int}
theorem vins_any (hE : EnvVOk E) (hC : c < 32 → CallCV E c) (h : MacV E s c r w) (hR : RegV E r gr regs w) (h0 : s.fin = 0) (htl : s.trace.length + 1 ≤ s.steps) {n : Int} (hn : n = regs.length) {code : List Vins} {k : Nat} (op d xa xb num : Int) (name : ByteArray) (args : List Int) (hx : VX E.m n code k ⟨op, d, xa, xb, num, name, args⟩) (hop : ¬ (49 ≤ op ∧ op ≤ 51)) (a b : Int) (ha : I32 a) (hb : I32 b) (Ax : Option Addr) (cx : Nat) (hr : ReadsAt w Ax (ints args)) :
    Calls Try.prog 47 #[.pointer (some ⟨E.mb, 0, none⟩), .agg #[.int .i64 op, .int .i64 d, .int .i64 xa, .int .i64 xb, .int .i32 num, .string name, .slice Ax args.length cx], .int .i32 a, .int .i32 b, .slice (some ⟨gr, 0, none⟩) regs.length regs.length] w (VInsPost E s ⟨op, d, xa, xb, num, name, args⟩ a b regs c r w) := by
  have hnum : I32 num := hx.num
  rcases hx.op with h1 | h1
  · by_cases h2 : op ≤ 10
    · exact vins_bina hE h hR h0 op h1 d xa xb num name args a b ha hb hnum h2 Ax cx
    · exact vins_binb hE h hR h0 op h1 d xa xb num name args a b ha hb hnum (by dsimp only at h1; omega) Ax cx
  · dsimp only at h1
    have hg := hx.glob
    dsimp only at hg
    have h3 : op = 40 ∨ op = 41 ∨ op = 42 ∨ op = 43 ∨ op = 44 ∨ op = 45 ∨ op = 46 ∨ op = 47 ∨ op = 48 ∨ op = 52 ∨ op = 53 := by omega
    rcases h3 with rfl | rfl | rfl | rfl | rfl | rfl | rfl | rfl | rfl | rfl | rfl
    · exact vins_40 hE h hR h0 d xa xb num name args a b ha hb hnum Ax cx
    · exact vins_41 hE h hR h0 d xa xb num name args a b ha hb hnum Ax cx
    · exact vins_42 hE h hR h0 d xa xb num name args a b ha hb hnum (hg (by decide) (by decide)) Ax cx
    · exact vins_43 hE h hR h0 d xa xb num name args a b ha hb hnum (hg (by decide) (by decide)) Ax cx
    · exact vins_44 hE h hR h0 d xa xb num name args a b ha hb hnum (hg (by decide) (by decide)) Ax cx
    · exact vins_45 hE h hR h0 d xa xb num name args a b ha hb hnum (hg (by decide) (by decide)) Ax cx
    · obtain ⟨j, hj, hj1, hj2⟩ := hx.call rfl
      exact vins_46 hE h hR h0 d xa xb num name args a b ha hb hnum hC E.m.fns[j] j hj hj1 rfl hj2 hx.nargs (fun z hz => by rw [← hn]; exact hx.args z hz) Ax cx hr
    · exact vins_47 hE h hR h0 d xa xb num name args a b ha hb hnum Ax cx
    · exact vins_48 hE h hR h0 d xa xb num name args a b ha hb hnum htl Ax cx
    · exact vins_52 hE h hR h0 d xa xb num name args a b ha hb hnum Ax cx
    · exact vins_53 hE h hR h0 d xa xb num name args a b ha hb hnum Ax cx
/-- What stands while a function runs. -/
structure CallSV (E : EnvV) (w : World) (c : Nat) (r0 : Option Nat) (f : VFn) (q : Nat) (vB : Value) (s : MS) (r : Option Nat) (gr : Nat) (regs : List Int) (W : World) : Prop where
  chg : Chg (FootV E r0) w W
  nw : NewOr w r0 r
  mac : MacV E s (c + 1) r W
  reg : RegV E r gr regs W
  box : W.heap[q]? = some (.cells #[.string f.name, .int .i64 f.params, .int .i64 f.regs, vB] 34 (0, 0))
  qf : ¬ FootV E r q
  qg : q ≠ gr
  old : w.heap.size ≤ q ∧ w.heap.size ≤ gr
theorem CallSV.below {r0 : Option Nat} {f : VFn} {q : Nat} {vB : Value} {W W' : World} (h : CallSV E w c r0 f q vB s r gr regs W) (hb : Below W.heap.size W W') : CallSV E w c r0 f q vB s r gr regs W' :=
  ⟨h.chg.trans (Chg.of_below hb (fun _ => False)) fun _ _ h => h.elim, h.nw, h.mac.below hb, h.reg.below hb, (hb.block q (lt_of_heap h.box)).trans h.box, h.qf, h.qg, h.old⟩
theorem CallSV.mach {r0 : Option Nat} {f : VFn} {q : Nat} {vB : Value} {W W' : World} {s' : MS} (h : CallSV E w c r0 f q vB s r gr regs W) (hm : MacV E s' (c + 1) r W') (hc : Chg (fun k => k = E.mb) W W') : CallSV E w c r0 f q vB s' r gr regs W' :=
  ⟨h.chg.trans hc fun _ _ e => .inl e, h.nw, hm, h.reg.kept hc fun e => h.reg.foot (.inl e), hc.heap h.box fun e => h.qf (.inl e), h.qf, h.qg, h.old⟩
theorem CallSV.ins {r0 r' : Option Nat} {f : VFn} {q : Nat} {vB : Value} {W W' : World} {s' : MS} {regs' : List Int} (h : CallSV E w c r0 f q vB s r gr regs W) (hm : MacV E s' (c + 1) r' W') (hR : RegV E r' gr regs' W') (hc : Chg (fun k => FootV E r k ∨ k = gr) W W') (hn : NewOr W r r') : CallSV E w c r0 f q vB s' r' gr regs' W' :=
  ⟨h.chg.trans hc fun k hk e => by
      rcases e with e | e
      · exact footv_old h.nw hk e
      · have := h.old.2; omega, h.nw.trans hn h.chg.size, hm, hR, hc.heap h.box fun e => by
      rcases e with e | e
      · exact h.qf e
      · exact h.qg e, fun hf => h.qf (footv_old hn (lt_of_heap h.box) hf), h.qg, h.old⟩
/-- One instruction of machine memory alone: the registers stay. -/
theorem CallSV.insm {r0 r' : Option Nat} {f : VFn} {q : Nat} {vB : Value} {W W' : World} {s' : MS} (h : CallSV E w c r0 f q vB s r gr regs W) (hm : MacV E s' (c + 1) r' W') (hc : Chg (FootV E r) W W') (hn : NewOr W r r') : CallSV E w c r0 f q vB s' r' gr regs W' :=
  h.ins hm ((h.reg.kept hc h.reg.foot).newr h.reg.lt hn) (hc.mono fun _ _ e => .inl e) hn
theorem CallSV.setr {r0 : Option Nat} {f : VFn} {q : Nat} {vB : Value} {W : World} (h : CallSV E w c r0 f q vB s r gr regs W) (j : Nat) (hj : j < regs.length) (v : Int) (hv : I32 v) : CallSV E w c r0 f q vB s r gr (regs.set j v) (W.setCell ⟨gr, j, none⟩ (.int .i32 v)) :=
  h.ins (h.mac.reg h.reg j _) (h.reg.set j hj v hv) ((Chg.store W gr j _).mono fun _ _ e => .inr e) (NewOr.refl _ _)
def finAt (mb : Nat) (W : World) : Int := match W.cell? ⟨mb, 6, none⟩ with
  | some (.int _ n) => n
  | _ => 0
theorem MacV.stepsAt (h : MacV E s c r w) : stepsAt E.mb w = s.steps := by
  obtain ⟨_, _, _, _, _, _, _, m9, _⟩ := h.cells
  unfold Proofs.Ytnfneinonkpmeaa.stepsAt
  rw [m9]
theorem MacV.finAt (h : MacV E s c r w) : finAt E.mb w = s.fin := by
  obtain ⟨_, _, _, _, _, _, m6, _⟩ := h.cells
  unfold Proofs.Ytnfneinonkpmeaa.finAt
  rw [m6]
/-- How far a call still has to go: the fuel, then the code ahead. -/
def measV (mb : Nat) (fuel : Int) (len : Nat) (a : Value) (W : World) : Nat := if finAt mb W = 0 then 1 + (fuel - stepsAt mb W).toNat * (len + 1) + (len - (intOf a).toNat) else 0
theorem MacV.meas (h : MacV E s c r w) (len k : Nat) : measV E.mb E.fuel len (.int .i64 (k : Nat)) w = if s.fin = 0 then 1 + (E.fuel - s.steps).toNat * (len + 1) + (len - k) else 0 := by
  unfold measV
  rw [h.finAt, h.stepsAt]
  simp [intOf]
theorem meas_step {fuel : Int} {s1 s2 : Nat} (hf : ¬ fuel ≤ (s1 : Int)) (h : s1 + 1 ≤ s2) (len k j : Nat) : 1 + (fuel - (s2 : Int)).toNat * (len + 1) + (len - j) < 1 + (fuel - (s1 : Int)).toNat * (len + 1) + (len - k) := by
  have h1 : (fuel - (s2 : Int)).toNat + 1 ≤ (fuel - (s1 : Int)).toNat := by omega
  have h2 := Nat.mul_le_mul_right (len + 1) h1
  rw [Nat.add_mul] at h2
  omega
/-- What stands at a place of the function that runs. -/
structure MainV (E : EnvV) (w : World) (c : Nat) (r0 : Option Nat) (s0 : MS) (f : VFn) (vals : List Int) (q : Nat) (vB : Value) (gr nr at_ : Nat) (s : MS) (r : Option Nat) (regs : List Int) (W : World) : Prop where
  st : CallSV E w c r0 f q vB s r gr regs W
  fin : s.fin = 0
  len : regs.length = nr
  inl : at_ < f.code.length
  reach : ∀ K dst, K.length = c → ReachVE E (s0, vEntry f vals dst :: K) (s, ⟨f, at_, regs, dst⟩ :: K)
/-- The run has ended within the function. -/
def DoneV (E : EnvV) (w : World) (c : Nat) (r0 : Option Nat) (s0 : MS) (f : VFn) (vals : List Int) (W : World) : Prop :=
  ∃ (s' : MS) (r' : Option Nat) (c' : Nat), Chg (FootV E r0) w W ∧ MacV E s' c' r' W ∧ NewOr w r0 r' ∧ s'.fin ≠ 0 ∧ ∀ K dst, K.length = c → ∃ K', ReachVE E (s0, vEntry f vals dst :: K) (s', K')
def LoopV (E : EnvV) (w : World) (c : Nat) (r0 : Option Nat) (s0 : MS) (f : VFn) (vals : List Int) (q : Nat) (vB : Value) (gr nr : Nat) (a : Value) (W : World) : Prop :=
  (∃ (at_ : Nat) (s : MS) (r : Option Nat) (regs : List Int), a = .int .i64 (at_ : Nat) ∧ MainV E w c r0 s0 f vals q vB gr nr at_ s r regs W) ∨ (∃ z : Nat, a = .int .i64 (z : Nat) ∧ DoneV E w c r0 s0 f vals W)
theorem CallPostV.after {f : VFn} {vals : List Int} {W1 W' : World} {e : Ending} (hc : Chg (FootV E r) w W1) (h : CallPostV E s f vals c r W1 e W') : CallPostV E s f vals c r w e W' := by
  obtain ⟨v, s', r', c', h1, h2, h3, h4, h5, h6⟩ := h
  exact ⟨v, s', r', c', h1, h2, hc.trans h3 fun _ _ h => h, h4, h5.mono hc.size, h6⟩
theorem DoneV.post {f : VFn} {vals : List Int} {W : World} {r0 : Option Nat} {s0 : MS} (h : DoneV E w c r0 s0 f vals W) : CallPostV E s0 f vals c r0 w (.returned (.int .i32 0)) W := by
  obtain ⟨s', r', c', h1, h2, h3, h4, h5⟩ := h
  exact ⟨0, s', r', c', rfl, by unfold I32; decide, h1, h2, h3, .inr ⟨h4, h5⟩⟩
end
section
variable {T S : Nat → Prop} {w : World}
theorem vfn_at {B : Option Addr} {fs : List VFn} (h : RdSl 4 (RdVfn w T) w T B fs) (k : Nat) (hk : k < fs.length) (f : VFn) (hf : f = fs[k]) :
    ∃ g off A c, B = some ⟨g, off, none⟩ ∧ g < w.heap.size ∧ f.code.length ≤ maxLen ∧ RdCode w T A f.code ∧ w.cell? ⟨g, off + k * 4, none⟩ = some (.string f.name) ∧ w.cell? ⟨g, off + k * 4 + 1, none⟩ = some (.int .i64 f.params)
      ∧ w.cell? ⟨g, off + k * 4 + 2, none⟩ = some (.int .i64 f.regs) ∧ w.cell? ⟨g, off + k * 4 + 3, none⟩ = some (.slice A f.code.length c) := by
  subst hf
  obtain ⟨g, off, rfl, ht, hg, hcl⟩ := h (by omega)
  obtain ⟨cs, hcs, ⟨hok, A1, c1, rfl, hsub⟩, hat⟩ := hcl k _ (List.getElem?_eq_getElem hk)
  exact ⟨g, off, A1, c1, rfl, hg, hok, hsub, hat 0 _ rfl, hat 1 _ rfl, hat 2 _ rfl, hat 3 _ rfl⟩
theorem vins_at2 {A : Option Addr} {l : List Vins} (h : RdCode w T A l) (hT : ∀ k, T k → k < w.heap.size → ¬ S k) (k : Nat) (hk : k < l.length) (x : Vins) (hx : x = l[k]) :
    ∃ (g off : Nat) (B : Option Addr) (c : Nat), A = some ⟨g, off, none⟩ ∧ RdT w T B (ints x.args) ∧ ∀ W, Chg S w W →
    W.cell? ⟨g, off + k * 7, none⟩ = some (.int .i64 x.op) ∧ W.cell? ⟨g, off + k * 7 + 1, none⟩ = some (.int .i64 x.d) ∧ W.cell? ⟨g, off + k * 7 + 2, none⟩ = some (.int .i64 x.a) ∧ W.cell? ⟨g, off + k * 7 + 3, none⟩ = some (.int .i64 x.b) ∧ W.cell? ⟨g, off + k * 7 + 4, none⟩ = some (.int .i32 x.num) ∧ W.cell? ⟨g, off + k * 7 + 5, none⟩ = some (.string x.name) ∧ W.cell? ⟨g, off + k * 7 + 6, none⟩ = some (.slice B x.args.length c) := by
  subst hx
  obtain ⟨g, off, hA, ht, hg, hc⟩ := h (by omega)
  obtain ⟨cs, _, ⟨B, c, rfl, hr⟩, hat⟩ := hc k _ (List.getElem?_eq_getElem hk)
  have hn := hT g ht hg
  exact ⟨g, off, B, c, hA, hr, fun W hW => ⟨hW.cell (p := ⟨g, off + k * 7, none⟩) (hat 0 _ rfl) hn, hW.cell (p := ⟨g, off + k * 7 + 1, none⟩) (hat 1 _ rfl) hn, hW.cell (p := ⟨g, off + k * 7 + 2, none⟩) (hat 2 _ rfl) hn, hW.cell (p := ⟨g, off + k * 7 + 3, none⟩) (hat 3 _ rfl) hn, hW.cell (p := ⟨g, off + k * 7 + 4, none⟩) (hat 4 _ rfl) hn, hW.cell (p := ⟨g, off + k * 7 + 5, none⟩) (hat 5 _ rfl) hn, hW.cell (p := ⟨g, off + k * 7 + 6, none⟩) (hat 6 _ rfl) hn⟩⟩
theorem vins_getD {f : VFn} {k : Nat} {regs : List Int} {dst : Int} {x : Vins} (hx : f.code.getD k noVins = x) : (⟨f, k, regs, dst⟩ : VFr).ins = x := hx
theorem rg_i32 {l : List Int} (h : ∀ z ∈ l, I32 z) (a : Int) : I32 (rg l a) := by
  unfold rg; split
  · exact getR_i32 h a
  · unfold I32; decide
end
end Go.Proofs.Ytnfneinonkpmeaa
namespace Go.Proofs.Ytnfneinonkpmeaa
open Go.RowKit
/-- A function of picked code that may be. -/
structure VMayF (v : VFn) : Prop where
  name : isName v.name = true
  params : 0 ≤ v.params ∧ v.params ≤ 8
  regs : v.params ≤ v.regs ∧ v.regs ≤ 4096
  pos : 0 < v.code.length
  ok : ∀ k (h : k < v.code.length), VOk v.regs v.code[k]
  jump : ∀ k (h : k < v.code.length), 51 ≤ v.code[k].op → ∃ j : Nat, j < v.code.length ∧ v.code.findIdx? (isLabel v.code[k].num) = some j
  label : ∀ k (h : k < v.code.length), v.code[k].op = 50 → v.code.findIdx? (isLabel v.code[k].num) = some k
  last : ∀ (_ : 0 < v.code.length), v.code[v.code.length - 1].op = 49 ∨ v.code[v.code.length - 1].op = 51
section
variable {T : Nat → Prop} {w w' : World}
theorem placeI_of {code : List Vins} {n : Int} {j : Nat} (h : code.findIdx? (isLabel n) = some j) : placeI code n = j := by unfold placeI; rw [h]
set_option maxHeartbeats 4000000 in
set_option maxRecDepth 100000 in
theorem vMay_any (v : VFn) (hv : VMayF v) (A : Option Addr) (c : Nat) (w : World) (h : RdCode w T A v.code) (hl : v.code.length ≤ maxLen) :
    Calls Try.prog 26 #[.agg #[.string v.name, .int .i64 v.params, .int .i64 v.regs, .slice A v.code.length c]] w fun e w' => e = .returned (.bool true) ∧ Below w.heap.size w w' := by
  obtain ⟨w1, hw1, hb1, hlt1, hc⟩ := box_new w #[.string v.name, .int .i64 v.params, .int .i64 v.regs, .slice A v.code.length c] 34
  obtain ⟨bv, hbv⟩ : ∃ bv, bv = w.heap.size := ⟨_, rfl⟩
  have HBV : Hid (w1.heap[bv]? = some (.cells #[.string v.name, .int .i64 v.params, .int .i64 v.regs, .slice A v.code.length c] 34 (0, 0))) := Lib.hid (by rw [hbv, hw1]; exact heap_alloc_new w _)
  have HCODE : Hid (RdCode w1 T A v.code) := Lib.hid (h.below hb1)
  have HB := Lib.hid hb1
  have HW := Lib.hid hw1
  have HBX := Lib.hid hbv
  have HV := Lib.hid hv
  have HL := Lib.hid hl
  have hl' : v.code.length ≤ 9223372036854775807 := by unfold maxLen at hl; omega
  have h0 : 0 < v.code.length := hv.pos
  obtain ⟨hp1, hp2⟩ := hv.params
  obtain ⟨hr1, hr2⟩ := hv.regs
  have b0 := hc 0
  have b1 := hc 1
  have b2 := hc 2
  have b3 := hc 3
  simp only [List.getElem?_toArray, List.getElem?_cons_succ, List.getElem?_cons_zero] at b0 b1 b2 b3
  rw [← hbv] at b0 b1 b2 b3
  clear h hw1 hb1 hlt1 hc hbv hv hl
  go_enter Try.func26, Try.ntmps26
  go_upto_region 1 with (fail)
  rw [← HW.out, ← HBX.out]
  go_wp2_with fail
  refine (IsName_any v.name _ (isName_size HV.out.name)).mono ?_
  rintro e w2 ⟨rfl, hB2⟩
  rw [HV.out.name]
  have HBV2 : Hid (w2.heap[bv]? = _) := Lib.hid ((hB2.block bv (lt_of_heap HBV.out)).trans HBV.out)
  have HCODE2 := Lib.hid (HCODE.out.below hB2)
  have HB2 := Lib.hid (HB.out.trans (hB2.mono HB.out.size))
  clear hB2 b0 b1 b2 b3
  have b1 := cell_of_row w2 bv 1 _ _ _ HBV2.out
  have b2 := cell_of_row w2 bv 2 _ _ _ HBV2.out
  have b3 := cell_of_row w2 bv 3 _ _ _ HBV2.out
  simp only [List.getElem?_toArray, List.getElem?_cons_succ, List.getElem?_cons_zero] at b1 b2 b3
  have hne : ((v.code.length : Int) == 0) = false := beq_eq_false_iff_ne.2 (by omega)
  go_wp2_with fail
  go_loopw [41] (fun i wr => ∃ k : Nat, k ≤ v.code.length ∧ i = .int .i64 (k : Nat) ∧ Below w2.heap.size w2 wr) (fun i _ => v.code.length - (intOf i).toNat)
  case atStart => exact ⟨0, by omega, rfl, Below.refl _ _⟩
  case round =>
    obtain ⟨k, hk, rfl, hBr⟩ := hrel
    have HBR := Lib.hid hBr
    have HBVR : Hid (wr.heap[bv]? = _) := Lib.hid ((hBr.block bv (lt_of_heap HBV2.out)).trans HBV2.out)
    have HCR := Lib.hid (HCODE2.out.below hBr)
    clear hBr
    by_cases hlt : k < v.code.length
    · obtain ⟨x, hxe⟩ : ∃ x, x = v.code[k] := ⟨_, rfl⟩
      obtain ⟨g, off, B, c1, hA, hg, hrx, e0, e1, e2, e3, e4, e5, e6⟩ := vins_cells HCR.out k hlt x hxe
      have hok : VOk v.regs x := by rw [hxe]; exact HV.out.ok k hlt
      have hjmp := HV.out.jump k hlt
      have hlab := HV.out.label k hlt
      rw [← hxe] at hjmp hlab
      have HOK := Lib.hid hok
      have HJ := Lib.hid hjmp
      have HLB := Lib.hid hlab
      obtain ⟨op, d, a, b, num, name, args⟩ := x
      dsimp only at e0 e1 e2 e3 e4 e5 e6 hrx
      have q1 := cell_of_row wr bv 1 _ _ _ HBVR.out
      have q2 := cell_of_row wr bv 2 _ _ _ HBVR.out
      have q3 := cell_of_row wr bv 3 _ _ _ HBVR.out
      simp only [List.getElem?_toArray, List.getElem?_cons_succ, List.getElem?_cons_zero] at q1 q2 q3
      subst hA
      have HRX := Lib.hid hrx
      clear hxe hok hjmp hlab hrx b1 b2 b3
      go_upto_region 6 with (fail)
      obtain ⟨W3, hW3⟩ : ∃ W3, W3 = wr.alloc (.cells #[.int .i64 op, .int .i64 d, .int .i64 a, .int .i64 b, .int .i32 num, .string name, .slice B args.length c1] 61) := ⟨_, rfl⟩
      obtain ⟨bx, hbx⟩ : ∃ bx, bx = wr.heap.size := ⟨_, rfl⟩
      rw [← hW3, ← hbx]
      have hb3 : Below wr.heap.size wr W3 := by rw [hW3]; exact (Below.refl _ wr).alloc (Nat.le_refl _) _
      have hX3 : W3.heap[bx]? = some (.cells #[.int .i64 op, .int .i64 d, .int .i64 a, .int .i64 b, .int .i32 num, .string name, .slice B args.length c1] 61 (0, 0)) := by rw [hW3, hbx]; exact heap_alloc_new wr _
      have hV3 : W3.heap[bv]? = _ := (hb3.block bv (lt_of_heap HBVR.out)).trans HBVR.out
      have HB3 := Lib.hid hb3
      have HX3 := Lib.hid hX3
      have HV3 := Lib.hid hV3
      have HMI : Hid (Calls Try.prog 42 #[.agg #[.int .i64 op, .int .i64 d, .int .i64 a, .int .i64 b, .int .i32 num, .string name, .slice B args.length c1], .int .i64 v.regs] W3 fun e w' => e = .returned (.bool true) ∧ Below W3.heap.size W3 w') := Lib.hid (vmayIns_true ⟨op, d, a, b, num, name, args⟩ v.regs HOK.out B c1 W3 (fun hp => by
        obtain ⟨g2, o2, e, t2, hg2, hx2⟩ := HRX.out hp
        exact ⟨g2, o2, e, t2, Nat.lt_of_lt_of_le hg2 hb3.size, fun j u hu => (hb3.cell (p := ⟨g2, o2 + j, none⟩) hg2).trans (hx2 j u hu)⟩))
      have z0 := cell_of_row W3 bx 0 _ _ _ hX3
      have z1 := cell_of_row W3 bx 1 _ _ _ hX3
      have z2 := cell_of_row W3 bx 2 _ _ _ hX3
      have z3 := cell_of_row W3 bx 3 _ _ _ hX3
      have z4 := cell_of_row W3 bx 4 _ _ _ hX3
      have z5 := cell_of_row W3 bx 5 _ _ _ hX3
      have z6 := cell_of_row W3 bx 6 _ _ _ hX3
      have y2 := cell_of_row W3 bv 2 _ _ _ hV3
      simp only [List.getElem?_toArray, List.getElem?_cons_succ, List.getElem?_cons_zero] at z0 z1 z2 z3 z4 z5 z6 y2
      clear hW3 hbx hb3 hX3 hV3 e0 e1 e2 e3 e4 e5 e6 q1 q2 q3
      go_wp2_with fail
      refine HMI.out.mono ?_
      rintro e W4 ⟨rfl, hb4⟩
      have HX4 : Hid (W4.heap[bx]? = _) := Lib.hid ((hb4.block bx (lt_of_heap HX3.out)).trans HX3.out)
      have HV4 : Hid (W4.heap[bv]? = _) := Lib.hid ((hb4.block bv (lt_of_heap HV3.out)).trans HV3.out)
      have HB4 := Lib.hid (HB3.out.trans (hb4.mono HB3.out.size))
      have HPL : Hid (∀ j : Nat, placeI v.code num = j → Calls Try.prog 43 #[.agg #[.string v.name, .int .i64 v.params, .int .i64 v.regs, .slice (some ⟨g, off, none⟩) v.code.length c], .int .i32 num] W4 fun e w' => e = .returned (.int .i64 (j : Nat)) ∧ Below W4.heap.size W4 w') := Lib.hid fun j hj => by
        have h9 := vPlace_any v (some ⟨g, off, none⟩) c num W4 (HCR.out.below HB4.out) HL.out
        rw [hj] at h9
        exact h9
      have z0 := cell_of_row W4 bx 0 _ _ _ HX4.out
      have z4 := cell_of_row W4 bx 4 _ _ _ HX4.out
      have y0 := cell_of_row W4 bv 0 _ _ _ HV4.out
      have y1 := cell_of_row W4 bv 1 _ _ _ HV4.out
      have y2 := cell_of_row W4 bv 2 _ _ _ HV4.out
      have y3 := cell_of_row W4 bv 3 _ _ _ HV4.out
      simp only [List.getElem?_toArray, List.getElem?_cons_succ, List.getElem?_cons_zero] at z0 z4 y0 y1 y2 y3
      clear hb4 HMI z1 z2 z3 z5 z6
      by_cases h51 : 51 ≤ op
      · obtain ⟨j, hj1, hj2⟩ := HJ.out h51
        have HPJ := Lib.hid (HPL.out j (placeI_of hj2))
        have h50 : (op == 50) = false := beq_eq_false_iff_ne.2 (by omega)
        clear hj1 hj2
        go_wp2_with fail
        refine HPJ.out.mono ?_
        rintro e W5 ⟨rfl, hb5⟩
        have z0 := (hb5.cell (p := ⟨bx, 0, none⟩) (lt_of_heap HX4.out)).trans z0
        have HB5 := Lib.hid (HB4.out.trans (hb5.mono HB4.out.size))
        clear hb5 z4 y0 y1 y2 y3
        go_wp2_with fail
        go_roundw
        case rel => exact ⟨k + 1, by omega, by go_num, HBR.out.trans (HB5.out.mono HBR.out.size)⟩
        case measure => simp [intOf]; omega
      · by_cases h50 : op = 50
        · subst h50
          have HPJ := Lib.hid (HPL.out k (placeI_of (HLB.out rfl)))
          have hkk : ((k : Int) != (k : Int)) = false := by simp
          go_wp2_with fail
          refine HPJ.out.mono ?_
          rintro e W5 ⟨rfl, hb5⟩
          have HB5 := Lib.hid (HB4.out.trans (hb5.mono HB4.out.size))
          clear hb5 z0 z4 y0 y1 y2 y3
          go_wp2_with fail
          go_roundw
          case rel => exact ⟨k + 1, by omega, by go_num, HBR.out.trans (HB5.out.mono HBR.out.size)⟩
          case measure => simp [intOf]; omega
        · have h50' : (op == 50) = false := beq_eq_false_iff_ne.2 h50
          clear h50
          go_wp2_with fail
          go_roundw
          case rel => exact ⟨k + 1, by omega, by go_num, HBR.out.trans (HB4.out.mono HBR.out.size)⟩
          case measure => simp [intOf]; omega
    · obtain rfl : k = v.code.length := by omega
      obtain ⟨x, hxe⟩ : ∃ x, x = v.code[v.code.length - 1] := ⟨_, rfl⟩
      obtain ⟨g, off, B, c1, hA, hg, _, e0, _⟩ := vins_cells HCR.out (v.code.length - 1) (by omega) x hxe
      have hlast := HV.out.last h0
      rw [← hxe] at hlast
      obtain ⟨n, hn⟩ : ∃ n, v.code.length = n + 1 := ⟨v.code.length - 1, by omega⟩
      have q3 := cell_of_row wr bv 3 _ _ _ HBVR.out
      simp only [List.getElem?_toArray, List.getElem?_cons_succ, List.getElem?_cons_zero] at q3
      rw [show v.code.length - 1 = n from by omega] at e0
      subst hA
      have hnn : n ≤ 9223372036854775806 := by have := HL.out; unfold maxLen at this; omega
      have HLS := Lib.hid hlast
      obtain ⟨op, hop⟩ : ∃ op, op = x.op := ⟨_, rfl⟩
      rw [← hop] at e0 hlast
      have hcs : (op == 49) = true ∨ ((op == 49) = false ∧ (op == 51) = true) := by
        rcases hlast with h | h
        · exact .inl (by simp [h])
        · exact .inr ⟨by simp [h], by simp [h]⟩
      rw [hn] at q3 ⊢
      have e9 : ((n + 1 : Nat) : Int) - 1 = n := by omega
      clear hxe hlast hop hn b1 b2 b3
      rcases hcs with h | ⟨h, h'⟩
      · go_wp2_with fail
        go_ret
        exact ⟨rfl, HB2.out.trans (HBR.out.mono HB2.out.size)⟩
      · go_wp2_with fail
        go_ret
        exact ⟨rfl, HB2.out.trans (HBR.out.mono HB2.out.size)⟩
end
end Go.Proofs.Ytnfneinonkpmeaa
namespace Go.Proofs.Ytnfneinonkpmeaa

theorem insS_name {n : Int} (K : Int → Option Int) {x : Ins} (h : InsV n x) : ∀ y ∈ insS K x, (42 ≤ y.op → y.op ≤ 45 → (x.kind = 5 ∨ x.kind = 6) ∧ y.name = x.name) ∧ (y.op = 46 → x.kind = 7 ∧ y.name = x.name ∧ y.args = x.args) ∧ y.op ≤ 48 := by
  intro y hy
  unfold insS at hy
  cases h with
  | num d z hd => simp at hy; subst hy; simp
  | copy d a hd ha => simp at hy; subst hy; simp
  | un op d a ho hd ha =>
    simp only [Int.reduceEq, if_false, if_true, List.mem_singleton] at hy
    subst hy
    (repeat' split) <;> simp [threeS, withS]
  | bin op d a b ho hd ha hb =>
    simp only [Int.reduceEq, if_false, if_true] at hy
    have := binS_op K op d a b (by omega) y hy
    exact ⟨fun _ _ => by omega, fun _ => by omega, by omega⟩
  | load d a name hd ha hn =>
    simp at hy
    subst hy
    refine ⟨fun _ _ => ⟨.inl rfl, rfl⟩, fun e => ?_, ?_⟩
    · dsimp only at e; split at e <;> omega
    · dsimp only; split <;> omega
  | store a b name ha hb hn =>
    simp at hy
    subst hy
    refine ⟨fun _ _ => ⟨.inr rfl, rfl⟩, fun e => ?_, ?_⟩
    · dsimp only at e; split at e <;> omega
    · dsimp only; split <;> omega
  | call d name args hd hn hl ha => simp at hy; subst hy; simp
  | read d hd => simp at hy; subst hy; simp
  | print a ha => simp at hy; subst hy; simp
theorem endS_ge (b : Blk) (n : Int) : ∀ y ∈ endS b n, 49 ≤ y.op := by
  unfold endS
  intro y hy
  repeat' split at hy
  all_goals simp [jumpS, threeS] at hy
  all_goals first
    | (subst hy; simp; done)
    | (rcases hy with rfl | rfl <;> simp; done)
theorem blkV_to {nb n : Int} {b : Blk} (h : BlkV nb n b) (hnb : nb ≤ 1000) (h0 : 0 < nb) : I32 b.to ∧ I32 b.els := by
  cases h with
  | jump ins tt hi ht => unfold I32; constructor <;> constructor <;> dsimp only <;> omega
  | branch ins a tt els hi ha ht he => unfold I32; constructor <;> constructor <;> dsimp only <;> omega
  | leave ins a hi ha => unfold I32; constructor <;> constructor <;> dsimp only <;> omega
/-- What stands at any place of picked code. -/
structure AtV (m : Mid) (f : Fn) (k : Nat) (y : Vins) : Prop where
  ok : VOk f.regs y
  glob : 42 ≤ y.op → y.op ≤ 45 → ∃ g : Nat, g < m.globals.length ∧ globAt m.globals y.name = g
  call : y.op = 46 → ∃ (c : Nat) (h : c < m.fns.length), fnAt m.fns y.name = c ∧ m.fns[c].params = y.args.length
  jump : 51 ≤ y.op → ∃ j : Nat, j < (codeS f.blocks).length ∧ (codeS f.blocks).findIdx? (isLabel y.num) = some j
  label : y.op = 50 → (codeS f.blocks).findIdx? (isLabel y.num) = some k
theorem at_v {m : Mid} (hm : MayV m) (hl : LightV m) (hn : ∀ f ∈ m.fns, ∀ b ∈ f.blocks, ∀ x ∈ b.ins, I32 x.num) {f : Fn} (hf : f ∈ m.fns) {k : Nat} {y : Vins} (hk : (codeS f.blocks)[k]? = some y) : AtV m f k y := by
  obtain ⟨i, hi, e⟩ := List.getElem_of_mem hf
  have hV := (hm.fns i hi).fn
  have hM := (hm.fns i hi).ins
  rw [e] at hV hM
  have h80 := (hl.fns f hf).nb
  have h0 := hV.some
  have hv : ∀ b ∈ f.blocks, ∀ x ∈ b.ins, InsV f.regs x := fun b hb x hx => blkV_ins (hV.blocks b hb) x hx
  have hbl := fun b hb => blkV_to (hV.blocks b hb) (by omega) (by omega)
  rcases code_from 0 f.blocks y (List.mem_of_getElem? hk) with ⟨j, hj, rfl⟩ | ⟨b, K, x, hb, hx, hy⟩ | ⟨b, z, hb, hy⟩
  · refine ⟨.label _ ⟨by omega, by unfold I32; constructor <;> omega⟩, fun h1 h2 => absurd h2 (by simp [labelS]), fun h1 => by simp [labelS] at h1, fun h1 => by simp [labelS] at h1, fun _ => ?_⟩
    obtain ⟨j', h1, h2, h3⟩ := label_at 0 f.blocks hv k _ hk rfl
    have e3 : j = j' := by simp [labelS] at h3; omega
    subst e3
    show List.findIdx? (isLabel (j : Int)) _ = _
    rw [code_find hv h1, h2]; rfl
  · obtain ⟨n1, n2, n3⟩ := insS_name K (hv b hb x hx) y hy
    refine ⟨insS_ok K (hv b hb x hx) (hn f hf b hb x hx) y hy, fun h1 h2 => ?_, fun h1 => ?_, fun h1 => by omega, fun h1 => absurd h1 (insS_op _ K x (hv b hb x hx) y hy)⟩
    · obtain ⟨k1, k2⟩ := n1 h1 h2
      obtain ⟨g, hg, hg1, _⟩ := (hM b hb x hx).mem k1
      exact ⟨g, hg, by rw [k2]; exact hg1⟩
    · obtain ⟨k1, k2, k3⟩ := n2 h1
      obtain ⟨c, hc, hc1, hc2⟩ := (hM b hb x hx).call k1
      exact ⟨c, hc, by rw [k2]; exact hc1, by rw [k3]; exact hc2⟩
  · obtain ⟨h1, h2⟩ := endS_ok (hV.blocks b hb) (hbl b hb) y hy
    have hop : y.op = 49 ∨ 51 ≤ y.op := by
      have h50 := endS_op b z y hy
      have := endS_ge b z y hy
      omega
    refine ⟨h1, fun _ _ => by omega, fun _ => by omega, fun h3 => ?_, fun h3 => by omega⟩
    have h53 : y.op ≤ 53 := by cases h1 <;> dsimp only at * <;> omega
    obtain ⟨h4, h5⟩ := h2 (by omega)
    obtain ⟨j, hj⟩ := Int.eq_ofNat_of_zero_le h4
    have hjl : j < f.blocks.length := by omega
    refine ⟨offB f.blocks j, offB_lt hjl, ?_⟩
    rw [hj]; exact code_find hv hjl
theorem vok_x {n : Int} {y : Vins} (h : VOk n y) : ((2 ≤ y.op ∧ y.op ≤ 23) ∨ (40 ≤ y.op ∧ y.op ≤ 53)) ∧ regX y.d n ∧ regX y.a n ∧ regX y.b n ∧ I32 y.num ∧ (∀ r ∈ y.args, 0 ≤ r ∧ r < n) ∧ y.args.length ≤ 8 := by
  have hm := regX_of (regB_m1 n)
  have z0 : I32 0 := by unfold I32; decide
  have nn : ∀ r ∈ ([] : List Int), 0 ≤ r ∧ r < n := fun r hr => by cases hr
  cases h with
  | imm op d a z ho hd ha hz => exact ⟨.inl ⟨ho.1, by dsimp only; omega⟩, regX_of hd, regX_of ha, hm, by unfold I32; dsimp only; omega, nn, by simp⟩
  | three op d a b ho hd ha hb => exact ⟨.inl ⟨by dsimp only; omega, ho.2⟩, regX_of hd, regX_of ha, regX_of hb, z0, nn, by simp⟩
  | li d z hd hz => exact ⟨.inr (by dsimp only; omega), regX_of hd, hm, hm, hz, nn, by simp⟩
  | mv d a hd ha => exact ⟨.inr (by dsimp only; omega), regX_of hd, regX_of ha, hm, z0, nn, by simp⟩
  | get d name hd hn => exact ⟨.inr (by dsimp only; omega), regX_of hd, hm, hm, z0, nn, by simp⟩
  | set b name hb hn => exact ⟨.inr (by dsimp only; omega), hm, hm, regX_of hb, z0, nn, by simp⟩
  | idx d a name hd ha hn => exact ⟨.inr (by dsimp only; omega), regX_of hd, regX_of ha, hm, z0, nn, by simp⟩
  | put a b name ha hb hn => exact ⟨.inr (by dsimp only; omega), hm, regX_of ha, regX_of hb, z0, nn, by simp⟩
  | call d name args hd hn hl ha => exact ⟨.inr (by dsimp only; omega), regX_of hd, hm, hm, z0, fun r hr => regB_in (ha r hr), hl⟩
  | read d hd => exact ⟨.inr (by dsimp only; omega), regX_of hd, hm, hm, z0, nn, by simp⟩
  | print a ha => exact ⟨.inr (by dsimp only; omega), hm, regX_of ha, hm, z0, nn, by simp⟩
  | ret a ha => exact ⟨.inr (by dsimp only; omega), hm, regX_of ha, hm, z0, nn, by simp⟩
  | label z hz => exact ⟨.inr (by dsimp only; omega), hm, hm, hm, hz.2, nn, by simp⟩
  | jump z hz => exact ⟨.inr (by dsimp only; omega), hm, hm, hm, hz.2, nn, by simp⟩
  | bnez a z ha hz => exact ⟨.inr (by dsimp only; omega), hm, regX_of ha, hm, hz.2, nn, by simp⟩
  | beqz a z ha hz => exact ⟨.inr (by dsimp only; omega), hm, regX_of ha, hm, hz.2, nn, by simp⟩
theorem pick_vfnx {m : Mid} (hm : MayV m) (hl : LightV m) (hn : ∀ f ∈ m.fns, ∀ b ∈ f.blocks, ∀ x ∈ b.ins, I32 x.num) {f : Fn} (hf : f ∈ m.fns) : VFnX (pickP m) (pickFn f) := by
  obtain ⟨i, hi, e⟩ := List.getElem_of_mem hf
  have hV := (hm.fns i hi).fn
  rw [e] at hV
  obtain ⟨yl, hyl, hop, hpos⟩ := code_last hV.some hV.blocks
  have hlen := codeTo_len f.blocks f.blocks.length (hl.fns f hf).ni (hl.fns f hf).nb
  rw [codeTo_all] at hlen
  refine ⟨hV.params, hV.regs, hpos, by show (codeS f.blocks).length ≤ _; omega, fun k hk => ?_⟩
  have hk' : k < (codeS f.blocks).length := hk
  obtain ⟨y, hy⟩ : ∃ y, y = (codeS f.blocks)[k] := ⟨_, rfl⟩
  have hat := at_v hm hl hn hf (k := k) (y := y) (by rw [hy]; exact List.getElem?_eq_getElem hk')
  show VX (pickP m) f.regs (codeS f.blocks) k (codeS f.blocks)[k]
  rw [← hy]
  obtain ⟨o1, o2, o3, o4, o5, o6, o7⟩ := vok_x hat.ok
  refine ⟨o1, o2, o3, o4, o5, fun h1 h2 => ?_, fun h1 => ?_, o6, o7, fun h1 h2 => ?_, hat.jump⟩
  · obtain ⟨g, hg, hg1⟩ := hat.glob h1 h2
    show (globAt m.globals y.name).toNat < m.globals.length
    rw [hg1]; simpa using hg
  · obtain ⟨c, hc, hc1, hc2⟩ := hat.call h1
    exact ⟨c, by simpa [pickP] using hc, by rw [vfnAt_pick]; exact hc1, by simpa [pickP, pickFn] using hc2⟩
  · rcases Nat.lt_or_ge (k + 1) (codeS f.blocks).length with h3 | h3
    · exact h3
    · exfalso
      have ek : k = (codeS f.blocks).length - 1 := by omega
      rw [← ek, List.getElem?_eq_getElem hk', ← hy] at hyl
      injection hyl with hyl
      rw [← hyl] at hop
      omega
theorem pick_vpx {m : Mid} (hm : MayV m) (hl : LightV m) (hn : ∀ f ∈ m.fns, ∀ b ∈ f.blocks, ∀ x ∈ b.ins, I32 x.num) : VPX (pickP m) := ⟨fun v hv => by
  obtain ⟨f, hf, rfl⟩ := List.mem_map.1 hv
  exact pick_vfnx hm hl hn hf⟩
end Go.Proofs.Ytnfneinonkpmeaa
