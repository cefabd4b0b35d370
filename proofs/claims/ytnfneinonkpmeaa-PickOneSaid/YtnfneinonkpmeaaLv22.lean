/- brazierref12.Machine: call. -/
import Derived.OwnWalk
import Derived.Test.YtnfneinonkpmeaaLv13
namespace Go.Proofs.Ytnfneinonkpmeaa
open Go.RowKit
structure BoxS (E : Env) (r : Option Nat) (gr qb : Nat) (o : Obj) (W : World) : Prop where
  heap : W.heap[qb]? = some o
  nf : ¬ Foot E r qb
  ng : qb ≠ gr
section
variable {E : Env} {s : MS} {c : Nat} {r : Option Nat} {w w' : World} {gr : Nat} {regs : List Int}
theorem BoxS.below {qb : Nat} {o : Obj} {W W' : World} (h : BoxS E r gr qb o W) (hb : Below W.heap.size W W') : BoxS E r gr qb o W' := ⟨(hb.block qb (lt_of_heap h.heap)).trans h.heap, h.nf, h.ng⟩
theorem BoxS.mach {qb : Nat} {o : Obj} {W W' : World} (h : BoxS E r gr qb o W) (hc : Chg (fun k => k = E.mb) W W') : BoxS E r gr qb o W' := ⟨hc.heap h.heap fun e => h.nf (.inl e), h.nf, h.ng⟩
theorem BoxS.ins {qb : Nat} {o : Obj} {r' : Option Nat} {W W' : World} (h : BoxS E r gr qb o W) (hc : Chg (fun k => Foot E r k ∨ k = gr) W W') (hn : NewOr W r r') : BoxS E r' gr qb o W' :=
  ⟨hc.heap h.heap fun e => by
    rcases e with e | e
    · exact h.nf e
    · exact h.ng e, fun hf => h.nf (foot_old hn (lt_of_heap h.heap) hf), h.ng⟩
theorem fill_set (vals : List Int) (nr k : Nat) (hk : k < vals.length) (hn : vals.length ≤ nr) : (vals.take k ++ List.replicate (nr - k) 0).set k vals[k] = vals.take (k + 1) ++ List.replicate (nr - (k + 1)) 0 := by
  have e : nr - k = (nr - (k + 1)) + 1 := by omega
  rw [e, List.replicate_succ, List.set_append_right _ _ (by simp; omega)]
  have e2 : k - (vals.take k).length = 0 := by rw [List.length_take]; omega
  rw [e2, List.take_succ_eq_append_getElem hk]
  simp only [List.set_cons_zero, List.append_assoc, List.singleton_append]
theorem made_words (n : Nat) : (madeCells #[Value.int .i32 0] n).toList = i32s (List.replicate n 0) := by
  unfold madeCells i32s
  apply List.ext_getElem (by simp)
  intro j h1 h2
  simp [Nat.mod_one]
theorem words_made {w : World} {n g : Nat} (h : w.ownsRow 0 21 1 (.slice (some ⟨g, 0, none⟩) n n) n (madeCells #[Value.int .i32 0] n).toList) : WordsAt w g (List.replicate n 0) := by
  rw [made_words] at h
  rcases h.2 with ⟨h0, _⟩ | ⟨g', cap, cur, hv, _, hg, h1, h2, h3, h4⟩
  · cases h0
  · injection hv with ha _ hc
    injection ha with ha
    injection ha with ha _
    subst ha; subst hc
    unfold WordsAt
    rw [List.length_replicate]
    refine ⟨by simp [i32s], .inr ⟨g, 0, n, cur, rfl, rfl, hg, Nat.le_refl _, h2, by omega, ?_⟩⟩
    rw [List.drop_zero]
    exact h4
theorem info_w : (Try.prog.info? 21).map (fun i => (i.zero, i.size, i.bytes)) = some (some (.int .i32 0), 1, 4) := by kernel_rfl
theorem set4_chg (W : World) (q : Nat) (a b c d : Value) : Chg (fun k => k = q) W ((((W.setCell ⟨q, 0, none⟩ a).setCell ⟨q, 1, none⟩ b).setCell ⟨q, 2, none⟩ c).setCell ⟨q, 3, none⟩ d) :=
  ((((Chg.refl (fun k => k = q) W).setCell ⟨q, 0, none⟩ (fun _ => rfl) a).setCell ⟨q, 1, none⟩ (fun _ => rfl) b).setCell ⟨q, 2, none⟩ (fun _ => rfl) c).setCell ⟨q, 3, none⟩ (fun _ => rfl) d
theorem set4 {W : World} {q : Nat} {a b c d v : Value} {p o : Nat} (hne : p ≠ q) (h : W.cell? ⟨p, o, none⟩ = some v) : ((((W.setCell ⟨q, 0, none⟩ a).setCell ⟨q, 1, none⟩ b).setCell ⟨q, 2, none⟩ c).setCell ⟨q, 3, none⟩ d).cell? ⟨p, o, none⟩ = some v := (set4_chg W q a b c d).cell (p := ⟨p, o, none⟩) h hne
theorem set4_box {W : World} {q : Nat} {a b c d a0 b0 c0 d0 : Value} {t : Nat} (h : W.heap[q]? = some (.cells #[a0, b0, c0, d0] t (0, 0))) : ((((W.setCell ⟨q, 0, none⟩ a).setCell ⟨q, 1, none⟩ b).setCell ⟨q, 2, none⟩ c).setCell ⟨q, 3, none⟩ d).heap[q]? = some (.cells #[a, b, c, d] t (0, 0)) := by
  have h1 := heap_setCell_same W q 0 _ t a h
  have h2 := heap_setCell_same _ q 1 _ t b h1
  have h3 := heap_setCell_same _ q 2 _ t c h2
  have h4 := heap_setCell_same _ q 3 _ t d h3
  rw [h4]; simp
structure SelF (mb g off kf : Nat) (v0 v1 : Value) (f : Fn) (vB : Value) (W : World) : Prop where
  e0 : W.cell? ⟨mb, 0, none⟩ = some v0
  e1 : W.cell? ⟨mb, 1, none⟩ = some v1
  e2 : W.cell? ⟨g, off + kf * 4, none⟩ = some (.string f.name)
  e3 : W.cell? ⟨g, off + kf * 4 + 1, none⟩ = some (.int .i64 f.params)
  e4 : W.cell? ⟨g, off + kf * 4 + 2, none⟩ = some (.int .i64 f.regs)
  e5 : W.cell? ⟨g, off + kf * 4 + 3, none⟩ = some vB
theorem cellB7 {W W' : World} (hb : Below W.heap.size W W') {a : Addr} {v : Value} (h : W.cell? a = some v) : W'.cell? a = some v := (hb.cell (p := a) (World.block_lt_of_cell? W a h)).trans h
theorem SelF.below {mb g off kf : Nat} {v0 v1 : Value} {f : Fn} {vB : Value} {W W' : World} (h : SelF mb g off kf v0 v1 f vB W) (hb : Below W.heap.size W W') : SelF mb g off kf v0 v1 f vB W' :=
  ⟨cellB7 hb h.e0, cellB7 hb h.e1, cellB7 hb h.e2, cellB7 hb h.e3, cellB7 hb h.e4, cellB7 hb h.e5⟩
theorem blk_at2 {T S : Nat → Prop} {B : Option Addr} {fs : List Blk} (h : RdSl 5 (RdBlk w T) w T B fs) (hT : ∀ k, T k → k < w.heap.size → ¬ S k) (k : Nat) (hk : k < fs.length) (f : Blk) (hf : f = fs[k]) :
    ∃ g off A c, B = some ⟨g, off, none⟩ ∧ BlkOk f ∧ RdSl 8 (RdIns w T) w T A f.ins ∧ ∀ W, Chg S w W → W.cell? ⟨g, off + k * 5, none⟩ = some (.slice A f.ins.length c) ∧ W.cell? ⟨g, off + k * 5 + 1, none⟩ = some (.int .i64 f.kind)
      ∧ W.cell? ⟨g, off + k * 5 + 2, none⟩ = some (.int .i64 f.a) ∧ W.cell? ⟨g, off + k * 5 + 3, none⟩ = some (.int .i64 f.to) ∧ W.cell? ⟨g, off + k * 5 + 4, none⟩ = some (.int .i64 f.els) := by
  subst hf
  obtain ⟨g, off, rfl, ht, hg, hcl⟩ := h (by omega)
  obtain ⟨cs, hcs, ⟨hok, A1, c1, rfl, hsub⟩, hat⟩ := hcl k _ (List.getElem?_eq_getElem hk)
  have hn := hT g ht hg
  exact ⟨g, off, A1, c1, rfl, hok, hsub, fun W hc => ⟨hc.cell (p := ⟨g, off + k * 5, none⟩) (hat 0 _ rfl) hn, hc.cell (p := ⟨g, off + k * 5 + 1, none⟩) (hat 1 _ rfl) hn, hc.cell (p := ⟨g, off + k * 5 + 2, none⟩) (hat 2 _ rfl) hn, hc.cell (p := ⟨g, off + k * 5 + 3, none⟩) (hat 3 _ rfl) hn, hc.cell (p := ⟨g, off + k * 5 + 4, none⟩) (hat 4 _ rfl) hn⟩⟩
theorem ins_at2 {T S : Nat → Prop} {B : Option Addr} {fs : List Ins} (h : RdSl 8 (RdIns w T) w T B fs) (hT : ∀ k, T k → k < w.heap.size → ¬ S k) (k : Nat) (hk : k < fs.length) (f : Ins) (hf : f = fs[k]) :
    ∃ g off A c, B = some ⟨g, off, none⟩ ∧ InsOk f ∧ RdT w T A (ints f.args) ∧ ∀ W, Chg S w W → W.cell? ⟨g, off + k * 8, none⟩ = some (.int .i64 f.kind) ∧ W.cell? ⟨g, off + k * 8 + 1, none⟩ = some (.int .i64 f.op)
      ∧ W.cell? ⟨g, off + k * 8 + 2, none⟩ = some (.int .i64 f.d) ∧ W.cell? ⟨g, off + k * 8 + 3, none⟩ = some (.int .i64 f.a) ∧ W.cell? ⟨g, off + k * 8 + 4, none⟩ = some (.int .i64 f.b) ∧ W.cell? ⟨g, off + k * 8 + 5, none⟩ = some (.int .i32 f.num)
      ∧ W.cell? ⟨g, off + k * 8 + 6, none⟩ = some (.string f.name) ∧ W.cell? ⟨g, off + k * 8 + 7, none⟩ = some (.slice A f.args.length c) := by
  subst hf
  obtain ⟨g, off, rfl, ht, hg, hcl⟩ := h (by omega)
  obtain ⟨cs, hcs, ⟨hok, A1, c1, rfl, hsub⟩, hat⟩ := hcl k _ (List.getElem?_eq_getElem hk)
  have hn := hT g ht hg
  exact ⟨g, off, A1, c1, rfl, hok, hsub, fun W hc => ⟨hc.cell (p := ⟨g, off + k * 8, none⟩) (hat 0 _ rfl) hn, hc.cell (p := ⟨g, off + k * 8 + 1, none⟩) (hat 1 _ rfl) hn, hc.cell (p := ⟨g, off + k * 8 + 2, none⟩) (hat 2 _ rfl) hn, hc.cell (p := ⟨g, off + k * 8 + 3, none⟩) (hat 3 _ rfl) hn, hc.cell (p := ⟨g, off + k * 8 + 4, none⟩) (hat 4 _ rfl) hn,
    hc.cell (p := ⟨g, off + k * 8 + 5, none⟩) (hat 5 _ rfl) hn, hc.cell (p := ⟨g, off + k * 8 + 6, none⟩) (hat 6 _ rfl) hn, hc.cell (p := ⟨g, off + k * 8 + 7, none⟩) (hat 7 _ rfl) hn⟩⟩
theorem blkV_ins {nb n : Int} {b : Blk} (h : BlkV nb n b) : ∀ x ∈ b.ins, InsV n x := by
  cases h with
  | jump ins tt hi _ => exact hi
  | branch ins a tt els hi _ _ _ => exact hi
  | leave ins a hi _ => exact hi
theorem getD_mem {l : List Blk} {k : Nat} (h : k < l.length) : l.getD k noBlk ∈ l := by
  rw [List.getD_eq_getElem?_getD, List.getElem?_eq_getElem h]; exact List.getElem_mem h
theorem mem_of_rdT7 {T : Nat → Prop} {A : Option Addr} {xs : List Value} (h : RdT w T A xs) : ReadsAt w A xs := fun hp => by
  obtain ⟨g, off, hA, _, hg, hx⟩ := h hp
  exact ⟨g, off, hA, hg, hx⟩
theorem _root_.Go.Proofs.Ytnfneinonkpmeaa.ReadsAt.kept_t {T S : Nat → Prop} {A : Option Addr} {xs : List Value} (_ : ReadsAt w A xs) (hc : Chg S w w') (h : RdT w T A xs) (hT : ∀ k, T k → k < w.heap.size → ¬ S k) : ReadsAt w' A xs := mem_of_rdT7 (h.kept hc hT)
theorem stepF_ins {m : Mid} {inp : List Int} {s : MS} {fr : Fr} {K : List Fr} {x : Ins} (h : fr.blk.ins[fr.i]? = some x) : stepF m inp s fr K = exS m inp x s { fr with i := fr.i + 1 } K := by
  unfold stepF; rw [h]
theorem stepF_end {m : Mid} {inp : List Int} {s : MS} {fr : Fr} {K : List Fr} (h : fr.blk.ins[fr.i]? = none) : stepF m inp s fr K = exE fr.blk s fr K := by
  unfold stepF; rw [h]
theorem ite_P {α : Type} {P : α → Prop} {c : Prop} [Decidable c] {a b : α} (ha : P a) (hb : P b) : P (if c then a else b) := by
  split
  · exact ha
  · exact hb
theorem exS_steps {m : Mid} {inp : List Int} (x : Ins) (s : MS) (fr : Fr) (K : List Fr) : (exS m inp x s fr K).1.steps = s.steps := by
  unfold exS
  refine ite_P (P := fun c : Cfg => c.1.steps = s.steps) rfl ?_
  refine ite_P (P := fun c : Cfg => c.1.steps = s.steps) rfl ?_
  refine ite_P (P := fun c : Cfg => c.1.steps = s.steps) rfl ?_
  refine ite_P (P := fun c : Cfg => c.1.steps = s.steps) (by split <;> rfl) ?_
  refine ite_P (P := fun c : Cfg => c.1.steps = s.steps) (ite_P (P := fun c : Cfg => c.1.steps = s.steps) rfl rfl) ?_
  refine ite_P (P := fun c : Cfg => c.1.steps = s.steps) (ite_P (P := fun c : Cfg => c.1.steps = s.steps) rfl rfl) ?_
  refine ite_P (P := fun c : Cfg => c.1.steps = s.steps) (ite_P (P := fun c : Cfg => c.1.steps = s.steps) rfl rfl) ?_
  refine ite_P (P := fun c : Cfg => c.1.steps = s.steps) (ite_P (P := fun c : Cfg => c.1.steps = s.steps) rfl rfl) ?_
  exact ite_P (P := fun c : Cfg => c.1.steps = s.steps) rfl rfl
theorem retC_steps (dst v : Int) (s : MS) (K : List Fr) : (retC dst v s K).1.steps = s.steps := by cases K <;> rfl
theorem exE_steps (b : Blk) (s : MS) (fr : Fr) (K : List Fr) : (exE b s fr K).1.steps = s.steps := by
  unfold exE
  exact ite_P (P := fun c : Cfg => c.1.steps = s.steps) rfl (ite_P (P := fun c : Cfg => c.1.steps = s.steps) rfl (retC_steps _ _ _ _))
theorem stepC_steps {m : Mid} {inp : List Int} {fuel : Int} (a : Cfg) : a.1.steps ≤ (stepC m inp fuel a).1.steps := by
  obtain ⟨s, K⟩ := a
  cases K with
  | nil => exact Nat.le_refl _
  | cons fr K =>
    show _ ≤ (if s.fin ≠ 0 then (s, fr :: K) else if fuel ≤ (s.steps : Int) then (s.ended 5, fr :: K) else stepF m inp s.step fr K : Cfg).1.steps
    refine ite_P (P := fun c : Cfg => s.steps ≤ c.1.steps) (Nat.le_refl _) (ite_P (P := fun c : Cfg => s.steps ≤ c.1.steps) (Nat.le_refl _) ?_)
    unfold stepF
    split
    · rw [exS_steps]; simp [MS.step]
    · rw [exE_steps]; simp [MS.step]
theorem iterC_steps {m : Mid} {inp : List Int} {fuel : Int} : ∀ (n : Nat) (a : Cfg), a.1.steps ≤ (iterC m inp fuel n a).1.steps
  | 0, _ => Nat.le_refl _
  | n + 1, a => Nat.le_trans (stepC_steps a) (iterC_steps n _)
theorem Reach.steps {m : Mid} {inp : List Int} {fuel : Int} {a b : Cfg} (h : Reach m inp fuel a b) : a.1.steps ≤ b.1.steps := by
  obtain ⟨n, rfl⟩ := h
  exact iterC_steps n a
/-- A call that ended the run. -/
theorem CallS.fail {r0 r' : Option Nat} {f : Fn} {vals : List Int} {q : Nat} {vB : Value} {W W' : World} {s0 s' : MS} {c' : Nat} (h : CallS E w c r0 f q vB s r gr regs W) (hc : Chg (fun k => Foot E r k ∨ k = gr) W W') (hm : MacAt E s' c' r' W') (hn : NewOr W r r') (hf : s'.fin ≠ 0)
    (hr : ∀ K dst, K.length = c → ∃ K', ReachE E (s0, entry f vals dst :: K) (s', K')) : CallPost E s0 f vals c r0 w (.returned (.int .i32 0)) W' :=
  ⟨0, s', r', c', rfl, by unfold I32; simp, h.chg.trans hc fun k hk e => by
      rcases e with e | e
      · exact foot_old h.nw hk e
      · have := h.old.2; omega, hm, h.nw.trans hn h.chg.size, .inr ⟨hf, hr⟩⟩
theorem CallPost.after {f : Fn} {vals : List Int} {W1 W' : World} {e : Ending} (hc : Chg (Foot E r) w W1) (h : CallPost E s f vals c r W1 e W') : CallPost E s f vals c r w e W' := by
  obtain ⟨v, s', r', c', h1, h2, h3, h4, h5, h6⟩ := h
  exact ⟨v, s', r', c', h1, h2, hc.trans h3 fun _ _ h => h, h4, h5.mono hc.size, h6⟩
/-- What stands at a place of the function that runs. -/
structure MainI (E : Env) (w : World) (c : Nat) (r0 : Option Nat) (s0 : MS) (f : Fn) (vals : List Int) (q : Nat) (vB : Value) (gr nr at_ i : Nat) (s : MS) (r : Option Nat) (regs : List Int) (W : World) : Prop where
  st : CallS E w c r0 f q vB s r gr regs W
  fin : s.fin = 0
  len : regs.length = nr
  reach : ∀ K dst, K.length = c → ReachE E (s0, entry f vals dst :: K) (s, ⟨f, at_, i, regs, dst⟩ :: K)
set_option maxHeartbeats 16000000 in
set_option maxRecDepth 100000 in
theorem call_step (hE : EnvOk E) (hc : c < 32) (hC : c + 1 < 32 → CallC E (c + 1)) : CallC E c := by
  intro s r w name f vals Aa ca hin
  obtain ⟨hm, h0, ⟨kf, hkf, hfn, hfe⟩, hpar, hvb, hrd, hap⟩ := hin
  obtain ⟨_, _, _, _, _, m5, _, _, _, mf⟩ := hm.cells
  have hq : ((c : Int) == 32) = false := beq_eq_false_iff_ne.2 (by omega)
  have hM := hE.may.fns kf hkf
  rw [← hfe] at hM
  have hV := hM.fn
  have HE := Lib.hid hE
  have HC := Lib.hid hC
  have HM := Lib.hid hm
  have H0 := Lib.hid h0
  have HFM := Lib.hid hM
  have HRD := Lib.hid hrd
  have HAP := Lib.hid hap
  have HVB := Lib.hid hvb
  have hvl : vals.length ≤ 8 := by have := hV.params.2; omega
  have HF := Lib.hid (And.intro hfn hfe)
  obtain ⟨nr, hnr⟩ : ∃ nr : Nat, f.regs = (nr : Int) := ⟨f.regs.toNat, by have := hV.regs.1; have := hV.params.1; omega⟩
  have hnr1 : nr ≤ 4096 := by have := hV.regs.2; omega
  have hvn : vals.length ≤ nr := by have := hV.regs.1; omega
  have HNR := Lib.hid hnr
  clear hE hC hm h0 hfn hM hrd hap hvb hpar hV hnr
  go_enter Try.func29, Try.ntmps29
  go_upto_region 5 with (fail)
  obtain ⟨W1, hW1⟩ : ∃ W1, W1 = w.setCell ⟨E.mb, 5, none⟩ (.int .i64 ((c : Int) + 1)) := ⟨_, rfl⟩
  rw [← hW1]
  have hm1 : MacAt E s (c + 1) r W1 := by
    rw [hW1]
    exact HM.out.own HE.out 5 _ s (c + 1) rfl rfl ⟨Nat.le_refl _, HM.out.sl⟩ HM.out.rl (by omega) fun vT => by simp
  have hc1 : Chg (Foot E r) w W1 := by rw [hW1]; exact (Chg.refl _ w).setCell ⟨E.mb, 5, none⟩ (fun _ => .inl rfl) _
  have HM1 := Lib.hid hm1
  have HC1 := Lib.hid hc1
  clear hW1 m5 mf hq hc1
  obtain ⟨m0, m1, _⟩ := hm1.cells
  obtain ⟨g, off, A1, c1, hB, hg, hok, hsub, g0, g1, g2, g3⟩ := fn_at hm1.mid.fns kf hkf f hfe
  have HSUB := Lib.hid hsub
  have HOK := Lib.hid hok
  have HG := Lib.hid hg
  rw [hB] at m1
  have HBB := Lib.hid hB
  clear hm1 hsub hok hB hg hfe
  have HFA : Hid (∀ W, Below W1.heap.size W1 W → Calls Try.prog 44 #[.agg #[.slice E.A E.m.globals.length E.c, .slice (some ⟨g, off, none⟩) E.m.fns.length E.d], .string name] W fun e w' => e = .returned (.int .i64 (kf : Nat)) ∧ Below W.heap.size W w') := Lib.hid fun W hb => by
    have h1 := FnAt_any E.m E.A E.B E.c E.d name W (HM1.out.below hb).mid
    rw [HF.out.1, HBB.out] at h1
    exact h1
  have hnf : E.m.fns.length ≤ maxLen := HM1.out.mid.nfns
  unfold maxLen at hnf
  have HSX : Hid (∀ W, Below W1.heap.size W1 W → SelF E.mb g off kf (.slice E.A E.m.globals.length E.c) (.slice (some ⟨g, off, none⟩) E.m.fns.length E.d) f (.slice A1 f.blocks.length c1) W) := Lib.hid fun W hb => SelF.below ⟨m0, m1, g0, g1, g2, g3⟩ hb
  have ST : Hid (Below W1.heap.size W1 W1.drew) := Lib.hid dr
  have hne1 : E.mb ≠ W1.heap.size := by have := HM1.out.blt; omega
  have hne2 : g ≠ W1.heap.size := by have := HG.out; omega
  have ST2 : Hid (Below W1.heap.size W1 (W1.alloc (.cells #[.string ⟨#[]⟩, .int .i64 0, .int .i64 0, .slice none 0 0] 30)).drew) := Lib.hid (((Below.refl _ W1).alloc (Nat.le_refl _) _).trans (dr.mono (by simp)))
  go_region_held3 (fun Y => Y.cell? ⟨E.mb, 0, none⟩ = some (.slice E.A E.m.globals.length E.c) ∧ Y.cell? ⟨E.mb, 1, none⟩ = some (.slice (some ⟨g, off, none⟩) E.m.fns.length E.d) ∧ Y.cell? ⟨g, off + kf * 4, none⟩ = some (.string f.name) ∧ Y.cell? ⟨g, off + kf * 4 + 1, none⟩ = some (.int .i64 f.params) ∧ Y.cell? ⟨g, off + kf * 4 + 2, none⟩ = some (.int .i64 f.regs) ∧ Y.cell? ⟨g, off + kf * 4 + 3, none⟩ = some (.slice A1 f.blocks.length c1)) (first | with_reducible exact ⟨m0, m1, g0, g1, g2, g3⟩ | with_reducible exact ⟨set4 hne1 m0, set4 hne1 m1, set4 hne2 g0, set4 hne2 g1, set4 hne2 g2, set4 hne2 g3⟩ | go_keep)
    (first
    | (go_at_call 44; (with_reducible refine (HFA.out _ ST.out).mono ?_); rintro e wv ⟨rfl, hBv⟩; have ST := Lib.hid (ST.out.trans (hBv.mono ST.out.size)); clear hBv; obtain ⟨m0, m1, g0, g1, g2, g3⟩ := HSX.out _ ST.out)
    | (go_at_call 44; (with_reducible refine (HFA.out _ ST2.out).mono ?_); rintro e wv ⟨rfl, hBv⟩; have HZ := Lib.hid ((hBv.block W1.heap.size (by simp)).trans (heap_alloc_new W1 _)); have hz0 := cell_of_row wv W1.heap.size 0 _ _ _ HZ.out; have hz1 := cell_of_row wv W1.heap.size 1 _ _ _ HZ.out; have hz2 := cell_of_row wv W1.heap.size 2 _ _ _ HZ.out; have hz3 := cell_of_row wv W1.heap.size 3 _ _ _ HZ.out; have hzf := fun j => frozen_of_row wv W1.heap.size j _ _ HZ.out; simp only [List.getElem?_toArray, List.getElem?_cons_succ, List.getElem?_cons_zero] at hz0 hz1 hz2 hz3; have ST := Lib.hid (ST2.out.trans (hBv.mono ST2.out.size)); clear hBv; obtain ⟨m0, m1, g0, g1, g2, g3⟩ := HSX.out _ ST.out))
  all_goals first
    | (obtain ⟨W2, hW2⟩ : ∃ W2, W2 = (((wv.setCell ⟨W1.heap.size, 0, none⟩ (.string f.name)).setCell ⟨W1.heap.size, 1, none⟩ (.int .i64 f.params)).setCell ⟨W1.heap.size, 2, none⟩ (.int .i64 f.regs)).setCell ⟨W1.heap.size, 3, none⟩ (.slice A1 f.blocks.length c1) := ⟨_, rfl⟩
       obtain ⟨q, hqe⟩ : ∃ q, q = W1.heap.size := ⟨_, rfl⟩
       rw [← hW2, ← hqe]
       have hbox : W2.heap[q]? = some (.cells #[.string f.name, .int .i64 f.params, .int .i64 f.regs, .slice A1 f.blocks.length c1] 30 (0, 0)) := by rw [hW2, hqe]; exact set4_box HZ.out
       have hb2 : Below W1.heap.size W1 W2 := by rw [hW2]; exact ST.out.trans ((set4_chg wv W1.heap.size _ _ _ _).below ST.out.size fun k e => by omega)
       have hqo : W1.heap.size ≤ q := by omega
       clear hW2 hqe hz0 hz1 hz2 hz3 hzf)
    | (obtain ⟨W2, hW2⟩ : ∃ W2, W2 = wv.alloc (.cells #[.string f.name, .int .i64 f.params, .int .i64 f.regs, .slice A1 f.blocks.length c1] 30) := ⟨_, rfl⟩
       obtain ⟨q, hqe⟩ : ∃ q, q = wv.heap.size := ⟨_, rfl⟩
       rw [← hW2, ← hqe]
       have hbox : W2.heap[q]? = some (.cells #[.string f.name, .int .i64 f.params, .int .i64 f.regs, .slice A1 f.blocks.length c1] 30 (0, 0)) := by rw [hW2, hqe]; exact heap_alloc_new wv _
       have hb2 : Below W1.heap.size W1 W2 := by rw [hW2]; exact ST.out.alloc ST.out.size _
       have hqo : W1.heap.size ≤ q := by rw [hqe]; exact ST.out.size
       clear hW2 hqe)
  all_goals
    have hqs : w.heap.size ≤ W1.heap.size := HC1.out.size
    have HM2 := Lib.hid (HM1.out.below hb2)
    have HRD1 : Hid (ReadsAt W1 Aa (i32s vals)) := Lib.hid (HRD.out.kept HC1.out fun g off e _ => HAP.out g off e)
    have HBX := Lib.hid hbox
    have HB2 := Lib.hid hb2
    have HQ := Lib.hid (And.intro hqo hqs)
    have b2 : W2.cell? ⟨q, 2, none⟩ = some (.int .i64 f.regs) := cell_of_row _ _ _ _ _ _ hbox
    obtain ⟨ti, hti, hz0, hz1, hz2⟩ := info_parts info_w
    have HTI := Lib.hid (And.intro hti (And.intro hz0 (And.intro hz1 hz2)))
    clear hti hz0 hz1 hz2 hbox hb2 hqo hqs m0 m1 g0 g1 g2 g3 HFA HSX ST ST2 hne1 hne2 hnf
    go_wp2_with (at_make; refine wpList_make_full _ rfl _ _ 36 rfl 0 21 ti (.int .i32 0) 1 Try.underlying36 HTI.out.1 HTI.out.2.1 HTI.out.2.2.1 _ _ _ _ nr rfl rfl HNR.out HNR.out (by rw [HTI.out.2.2.2]; omega) (by unfold maxLen; omega) (Nat.zero_le _) ?_)
    intro W3 hown hgrow
    obtain ⟨gr, hgr⟩ : ∃ gr, gr = W2.heap.size := ⟨_, rfl⟩
    rw [← hgr] at hown ⊢
    have hw3 := words_made hown
    have hb3 : Below W2.heap.size W2 W3 := ⟨hgrow.os, hgrow.tape, hgrow.output, hgrow.size, fun k hk => hgrow.block k hk (by simp)⟩
    have hS : CallS E W1 c r f q (.slice A1 f.blocks.length c1) s r gr (List.replicate nr 0) W3 :=
      ⟨Chg.of_below (HB2.out.trans (hb3.mono HB2.out.size)) _, NewOr.refl _ _, HM2.out.below hb3,
        ⟨hw3, fun z hz => by rw [(List.mem_replicate.1 hz).2]; unfold I32; simp, by have := HE.out.base; have := HM2.out.blt; omega, fun hf => by have := HM2.out.footlt hf; omega, fun hf => by have := HM2.out.rowlt _ hf; omega⟩,
        (hb3.block q (lt_of_heap HBX.out)).trans HBX.out, fun hf => by have := HM1.out.footlt hf; have := HQ.out.1; omega, by have := lt_of_heap HBX.out; omega, HQ.out.1, by have := HB2.out.size; omega⟩
    have HS := Lib.hid hS
    clear hown hgrow hgr hw3 hb3 hS b2
    go_upto_region 8 with (fail)
    go_loopw [49] (fun i wr => ∃ (k : Nat), k ≤ vals.length ∧ i = .int .i64 (k : Nat) ∧ CallS E W1 c r f q (.slice A1 f.blocks.length c1) s r gr (vals.take k ++ List.replicate (nr - k) 0) wr) (fun i _ => vals.length - (intOf i).toNat)
    case atStart => exact ⟨0, by omega, rfl, by simpa using HS.out⟩
    case round =>
      clear HS
      obtain ⟨k, hk, rfl, hS⟩ := hrel
      have HS := Lib.hid hS
      clear hS
      by_cases hlt : k < vals.length
      · obtain ⟨ga, oa, hAa, hga, hcell⟩ := HRD1.out (by rw [i32s_len]; omega)
        have z1 := HS.out.chg.cell (p := ⟨ga, oa + k, none⟩) (hcell k (.int .i32 vals[k]) (by simp [i32s, hlt])) (HAP.out ga oa hAa)
        obtain ⟨v, hve⟩ : ∃ v, v = vals[k] := ⟨_, rfl⟩
        rw [← hve] at z1
        have hvi : I32 v := by rw [hve]; exact HVB.out _ (List.getElem_mem hlt)
        have hll : (vals.take k ++ List.replicate (nr - k) (0 : Int)).length = nr := by simp; omega
        obtain ⟨q1, q2⟩ := wsCell HS.out.reg.words k (by omega)
        obtain ⟨ov, hov⟩ : ∃ ov, ov = (vals.take k ++ List.replicate (nr - k) (0 : Int)).getD k 0 := ⟨_, rfl⟩
        rw [← hov] at q1
        have hset := fill_set vals nr k hlt hvn
        rw [← hve] at hset
        have hkn : k < nr := by omega
        have HVI := Lib.hid hvi
        have HLL := Lib.hid hll
        have HST := Lib.hid hset
        subst hAa
        clear hcell hve hvi hll hov hset hga
        go_wp2_with fail
        go_roundw
        case rel =>
          refine ⟨k + 1, by omega, by go_num, ?_⟩
          have hreg := HS.out.reg.set k (by rw [HLL.out]; exact hkn) v HVI.out
          rw [HST.out] at hreg
          have hch : Chg (fun i => Foot E r i ∨ i = gr) wr (wr.setCell ⟨gr, k, none⟩ (.int .i32 v)) := (Chg.refl _ wr).setCell ⟨gr, k, none⟩ (fun _ => .inr rfl) _
          exact HS.out.ins (HS.out.mac.reg HS.out.reg k _) hreg hch (NewOr.refl _ _)
        case measure => simp [intOf]; omega
      · obtain rfl : k = vals.length := by omega
        rw [List.take_length] at HS
        go_upto_region 12 with (fail)
        obtain ⟨W4, hW4⟩ : ∃ W4 : World, W4 = wr := ⟨_, rfl⟩
        rw [← hW4] at HS ⊢
        clear hW4
        have HEN : Hid (entry f vals = fun dst => ⟨f, 0, 0, vals ++ List.replicate (nr - vals.length) 0, dst⟩) := Lib.hid (by
          funext dst
          unfold entry newRegs
          rw [HNR.out]; rfl)
        have hlen0 : (vals ++ List.replicate (nr - vals.length) (0 : Int)).length = nr := by simp; omega
        have hnb0 : 0 < f.blocks.length := HFM.out.fn.some
        have HL0 := Lib.hid hlen0
        clear hlen0
        go_wp2_with fail
        go_loopw [11] (fun a wr => ∃ (at_ : Nat) (s1 : MS) (r1 : Option Nat) (regs1 : List Int), a = .int .i64 (at_ : Nat) ∧ MainI E W1 c r s f vals q (.slice A1 f.blocks.length c1) gr nr at_ 0 s1 r1 regs1 wr ∧ at_ < f.blocks.length) (fun _ wr => (E.fuel - stepsAt E.mb wr).toNat)
        case atStart =>
          exact ⟨0, s, r, _, rfl, ⟨HS.out, H0.out, HL0.out, fun K dst hK => by rw [HEN.out]; exact Reach.refl _⟩, hnb0⟩
        case round =>
          clear HS hnb0 HL0
          obtain ⟨at_, s1, r1, regs1, rfl, hI, hat⟩ := hrel
          have HI := Lib.hid hI
          clear hI
          have hTF : ∀ k, k < E.base → k < W1.heap.size → ¬ Foot E r k := fun k hk _ hf => by have := HM1.out.footbase HE.out hf; omega
          obtain ⟨b, hbe⟩ : ∃ b, b = f.blocks[at_] := ⟨_, rfl⟩
          obtain ⟨gb, ob, Ab, cb, hAb, hbok, hbsub, hbc⟩ := blk_at2 HSUB.out hTF at_ hat b hbe
          obtain ⟨e0, e1, e2, e3, e4⟩ := hbc wr HI.out.st.chg
          subst hAb
          have q3 := HI.out.st.cells.2
          obtain ⟨nb, hnb⟩ : ∃ nb, nb = f.blocks.length := ⟨_, rfl⟩
          have hnb1 : nb ≤ maxLen := by rw [hnb]; exact HOK.out.nblocks
          unfold maxLen at hnb1
          rw [← hnb] at q3
          have hat2 : at_ < nb := by rw [hnb]; exact hat
          have hni : b.ins.length ≤ maxLen := hbok.nins
          unfold maxLen at hni
          obtain ⟨ni, hnie⟩ : ∃ ni, ni = b.ins.length := ⟨_, rfl⟩
          rw [← hnie] at e0 hni
          have hbv : BlkV f.blocks.length f.regs b := HFM.out.fn.blocks b (by rw [hbe]; exact List.getElem_mem hat)
          have HBV := Lib.hid hbv
          have HBE : Hid (f.blocks.getD at_ noBlk = b) := Lib.hid (by rw [hbe]; simp [List.getD, hat])
          have HNB := Lib.hid hnb
          have HNI := Lib.hid hnie
          have HBS := Lib.hid hbsub
          have HTF := Lib.hid hTF
          have HAT := Lib.hid hat
          clear hbv hbe hnb hnie hbsub hbc hbok hTF hat
          go_upto_region 15 with (fail)
          obtain ⟨W5, hW5⟩ : ∃ W5, W5 = wr.alloc (.cells #[.slice Ab ni cb, .int .i64 b.kind, .int .i64 b.a, .int .i64 b.to, .int .i64 b.els] 58) := ⟨_, rfl⟩
          obtain ⟨qb, hqb⟩ : ∃ qb, qb = wr.heap.size := ⟨_, rfl⟩
          rw [← hW5, ← hqb]
          have hb5 : Below wr.heap.size wr W5 := by rw [hW5]; exact (Below.refl _ wr).alloc (Nat.le_refl _) _
          have hbx5 : BoxS E r1 gr qb (.cells #[.slice Ab ni cb, .int .i64 b.kind, .int .i64 b.a, .int .i64 b.to, .int .i64 b.els] 58 (0, 0)) W5 := ⟨by rw [hW5, hqb]; exact heap_alloc_new wr _, fun hf => by have := HI.out.st.mac.footlt hf; omega, by have := HI.out.st.reg.lt; omega⟩
          have HI5 : Hid (MainI E W1 c r s f vals q (.slice (some ⟨gb, ob, none⟩) f.blocks.length c1) gr nr at_ 0 s1 r1 regs1 W5) := Lib.hid ⟨(by have h6 := HI.out.st.below hb5; exact h6), HI.out.fin, HI.out.len, HI.out.reach⟩
          have HBX5 := Lib.hid hbx5
          clear hW5 hqb hb5 hbx5 e0 e1 e2 e3 e4 q3
          go_loopw [67] (fun i wr2 => ∃ (k : Nat) (s2 : MS) (r2 : Option Nat) (regs2 : List Int), k ≤ ni ∧ i = .int .i64 (k : Nat) ∧ MainI E W1 c r s f vals q (.slice (some ⟨gb, ob, none⟩) f.blocks.length c1) gr nr at_ k s2 r2 regs2 wr2 ∧ BoxS E r2 gr qb (.cells #[.slice Ab ni cb, .int .i64 b.kind, .int .i64 b.a, .int .i64 b.to, .int .i64 b.els] 58 (0, 0)) wr2 ∧ s1.steps ≤ s2.steps) (fun i _ => ni - (intOf i).toNat)
          case atStart => exact ⟨0, s1, r1, regs1, Nat.zero_le _, rfl, HI5.out, HBX5.out, Nat.le_refl _⟩
          case round =>
            clear HI5 HBX5
            obtain ⟨k, s2, r2, regs2, hk, rfl, hI2, hB2, hst⟩ := hrel
            have HI2 := Lib.hid hI2
            have HBX2 := Lib.hid hB2
            have HSTP := Lib.hid hst
            clear hI2 hB2 hst
            by_cases hlt : k < ni
            · obtain ⟨x, hxe⟩ : ∃ x, x = b.ins[k]'(by rw [← HNI.out]; exact hlt) := ⟨_, rfl⟩
              obtain ⟨gi, oi, Ax, cx, rfl, hxok, hxsub, hxc⟩ := ins_at2 HBS.out HTF.out k (by rw [← HNI.out]; exact hlt) x hxe
              obtain ⟨y0, y1, y2, y3, y4, y5, y6, y7⟩ := hxc wr HI2.out.st.chg
              have HXE : Hid (b.ins[k]? = some x) := Lib.hid (by rw [hxe]; exact List.getElem?_eq_getElem _)
              have HXM : Hid (x ∈ b.ins) := Lib.hid (by rw [hxe]; exact List.getElem_mem _)
              have HXS := Lib.hid hxsub
              have HXO := Lib.hid hxok
              clear hxe hxc hxsub hxok
              go_upto_region 17 with (fail)
              obtain ⟨W6, hW6⟩ : ∃ W6, W6 = wr.alloc (.cells #[.int .i64 x.kind, .int .i64 x.op, .int .i64 x.d, .int .i64 x.a, .int .i64 x.b, .int .i32 x.num, .string x.name, .slice Ax x.args.length cx] 54) := ⟨_, rfl⟩
              obtain ⟨qx, hqx⟩ : ∃ qx, qx = wr.heap.size := ⟨_, rfl⟩
              rw [← hW6, ← hqx]
              have hb6 : Below wr.heap.size wr W6 := by rw [hW6]; exact (Below.refl _ wr).alloc (Nat.le_refl _) _
              have HX6 : Hid (BoxS E r2 gr qx (.cells #[.int .i64 x.kind, .int .i64 x.op, .int .i64 x.d, .int .i64 x.a, .int .i64 x.b, .int .i32 x.num, .string x.name, .slice Ax x.args.length cx] 54 (0, 0)) W6) := Lib.hid ⟨by rw [hW6, hqx]; exact heap_alloc_new wr _, fun hf => by have := HI2.out.st.mac.footlt hf; omega, by have := HI2.out.st.reg.lt; omega⟩
              have HI6 : Hid (MainI E W1 c r s f vals q (.slice (some ⟨gb, ob, none⟩) f.blocks.length c1) gr nr at_ k s2 r2 regs2 W6) := Lib.hid ⟨HI2.out.st.below hb6, HI2.out.fin, HI2.out.len, HI2.out.reach⟩
              have HBX6 := Lib.hid (HBX2.out.below hb6)
              clear hW6 hqx hb6 y0 y1 y2 y3 y4 y5 y6 y7 HI2 HBX2
              by_cases hfu : E.fuel ≤ (s2.steps : Int)
              · have HFU := Lib.hid hfu
                clear hfu
                go_wp2_with fail
                refine (mstep_no HE.out HI6.out.st.mac HI6.out.fin HFU.out).mono ?_
                rintro e W7 ⟨rfl, hm7, hc7⟩
                have HS7 := Lib.hid (HI6.out.st.mach hm7 hc7)
                clear hm7 hc7
                go_wp2_with fail
                go_ret
                exact CallPost.after HC1.out (HS7.out.done (by simp [MS.ended]) fun K dst hK => ⟨_, (HI6.out.reach K dst hK).tail (stepC_open HI6.out.fin HFU.out)⟩)
              · have HFU := Lib.hid hfu
                clear hfu
                go_wp2_with fail
                refine (mstep_yes HE.out HI6.out.st.mac HI6.out.fin (by have := HFU.out; omega)).mono ?_
                rintro e W7 ⟨rfl, hm7, hc7⟩
                have HS7 := Lib.hid (HI6.out.st.mach hm7 hc7)
                have HX7 := HX6.out.mach hc7
                have HBX7 := Lib.hid (HBX6.out.mach hc7)
                have z0 := cell_of_row W7 qx 0 _ _ _ HX7.heap
                have z1 := cell_of_row W7 qx 1 _ _ _ HX7.heap
                have z2 := cell_of_row W7 qx 2 _ _ _ HX7.heap
                have z3 := cell_of_row W7 qx 3 _ _ _ HX7.heap
                have z4 := cell_of_row W7 qx 4 _ _ _ HX7.heap
                have z5 := cell_of_row W7 qx 5 _ _ _ HX7.heap
                have z6 := cell_of_row W7 qx 6 _ _ _ HX7.heap
                have z7 := cell_of_row W7 qx 7 _ _ _ HX7.heap
                simp only [List.getElem?_toArray, List.getElem?_cons_succ, List.getElem?_cons_zero] at z0 z1 z2 z3 z4 z5 z6 z7
                have hrl2 : regs2.length = nr := HI6.out.len
                have HIN : Hid (Calls Try.prog 46 #[.pointer (some ⟨E.mb, 0, none⟩), .slice (some ⟨gr, 0, none⟩) nr nr, .agg #[.int .i64 x.kind, .int .i64 x.op, .int .i64 x.d, .int .i64 x.a, .int .i64 x.b, .int .i32 x.num, .string x.name, .slice Ax x.args.length cx]] W7 (InsPost E s2.step x gr regs2 (c + 1) r2 W7)) := Lib.hid (by
                  have hxv : InsV (regs2.length : Int) x := by rw [hrl2, ← HNR.out]; exact blkV_ins HBV.out x HXM.out
                  have hxm : InsM E.m x := HFM.out.ins b (by rw [← HBE.out]; exact getD_mem HAT.out) x HXM.out
                  have hra : ReadsAt W7 Ax (ints x.args) := (mem_of_rdT7 HXS.out).kept_t HS7.out.chg HXS.out HTF.out
                  have h := mins_any HE.out HC.out HS7.out.mac HS7.out.reg HI6.out.fin (by have := HI6.out.st.mac.tl; simp only [MS.step]; omega) x hxv hxm HXO.out.num Ax cx hra
                  rw [hrl2] at h
                  exact h)
                clear hm7 hc7 HX7 hrl2
                go_wp2_with fail
                refine HIN.out.mono ?_
                rintro e W8 ⟨s5, r5, regs5, c5, rfl, hch, hmac, hreg, hlen, hnew, hfin⟩
                rcases hfin with ⟨hf0, rfl, hreach⟩ | ⟨hf1, hreach⟩
                · have HS8 := Lib.hid (HS7.out.ins hmac hreg hch hnew)
                  have HBX8 := Lib.hid (HBX7.out.ins hch hnew)
                  have HLN := Lib.hid (hlen.trans HI6.out.len)
                  have HRC := Lib.hid hreach
                  have HF0 := Lib.hid hf0
                  have m6 : W8.cell? ⟨E.mb, 6, none⟩ = some (.int .i64 0) := by rw [← hf0]; exact hmac.cells.2.2.2.2.2.2.1
                  clear hf0 hreach hch hmac hreg hlen hnew z0 z1 z2 z3 z4 z5 z6 z7 HIN
                  have hgo : ∀ K dst, K.length = c → ReachE E (s, entry f vals dst :: K) (s5, ⟨f, at_, k + 1, regs5, dst⟩ :: K) := fun K dst hK =>
                    ((HI6.out.reach K dst hK).tail (stepC_go HI6.out.fin (by have := HFU.out; omega))).trans (by
                      rw [stepF_ins (x := x) (by show (f.blocks.getD at_ noBlk).ins[k]? = some x; rw [HBE.out]; exact HXE.out)]
                      exact HRC.out ⟨f, at_, k + 1, regs2, dst⟩ K rfl (by omega))
                  have HGO := Lib.hid hgo
                  have hsteps : s2.steps ≤ s5.steps := by
                    have h1 := Reach.steps (HRC.out ⟨f, at_, k + 1, regs2, 0⟩ (List.replicate c ⟨f, 0, 0, [], 0⟩) rfl (by simp))
                    have h2 := exS_steps (m := E.m) (inp := E.inp) x s2.step ⟨f, at_, k + 1, regs2, 0⟩ (List.replicate c ⟨f, 0, 0, [], 0⟩)
                    have h3 : s2.step.steps = s2.steps + 1 := rfl
                    have h4 : (exS E.m E.inp x s2.step ⟨f, at_, k + 1, regs2, 0⟩ (List.replicate c ⟨f, 0, 0, [], 0⟩)).1.steps ≤ s5.steps := h1
                    omega
                  have HSS := Lib.hid hsteps
                  clear hgo hsteps
                  go_wp2_with fail
                  go_roundw
                  case rel => exact ⟨k + 1, s5, r5, regs5, hlt, by simp, ⟨HS8.out, HF0.out, HLN.out, HGO.out⟩, HBX8.out, Nat.le_trans HSTP.out HSS.out⟩
                  case measure => simp [intOf]; omega
                · have HPO : Hid (CallPost E s f vals c r W1 (.returned (.int .i32 0)) W8) := Lib.hid (HS7.out.fail hch hmac hnew hf1 fun K dst hK => by
                    obtain ⟨K', h⟩ := hreach ⟨f, at_, k + 1, regs2, dst⟩ K rfl (by omega)
                    refine ⟨K', ((HI6.out.reach K dst hK).tail (stepC_go HI6.out.fin (by have := HFU.out; omega))).trans ?_⟩
                    rw [stepF_ins (x := x) (by show (f.blocks.getD at_ noBlk).ins[k]? = some x; rw [HBE.out]; exact HXE.out)]
                    exact h)
                  have m6 : W8.cell? ⟨E.mb, 6, none⟩ = some (.int .i64 s5.fin) := hmac.cells.2.2.2.2.2.2.1
                  have hne : (s5.fin != 0) = true := bne_iff_ne.2 hf1
                  clear hreach hch hmac hreg hlen hnew z0 z1 z2 z3 z4 z5 z6 z7 HIN hf1
                  go_wp2_with fail
                  go_ret
                  exact CallPost.after HC1.out HPO.out
            · obtain rfl : k = ni := by omega
              go_upto_region 23 with (fail)
              by_cases hfu : E.fuel ≤ (s2.steps : Int)
              · have HFU := Lib.hid hfu
                clear hfu
                go_wp2_with fail
                refine (mstep_no HE.out HI2.out.st.mac HI2.out.fin HFU.out).mono ?_
                rintro e W7 ⟨rfl, hm7, hc7⟩
                have HS7 := Lib.hid (HI2.out.st.mach hm7 hc7)
                clear hm7 hc7
                go_wp2_with fail
                go_ret
                exact CallPost.after HC1.out (HS7.out.done (by simp [MS.ended]) fun K dst hK => ⟨_, (HI2.out.reach K dst hK).tail (stepC_open HI2.out.fin HFU.out)⟩)
              · have HFU := Lib.hid hfu
                clear hfu
                go_wp2_with fail
                refine (mstep_yes HE.out HI2.out.st.mac HI2.out.fin (by have := HFU.out; omega)).mono ?_
                rintro e W7 ⟨rfl, hm7, hc7⟩
                have HS7 := Lib.hid (HI2.out.st.mach hm7 hc7)
                have HBX7 := Lib.hid (HBX2.out.mach hc7)
                have hrch : ∀ K dst, K.length = c → ReachE E (s, entry f vals dst :: K) (exE b s2.step ⟨f, at_, k, regs2, dst⟩ K) := fun K dst hK =>
                  ((HI2.out.reach K dst hK).tail (stepC_go HI2.out.fin (by have := HFU.out; omega))).trans (by
                    rw [stepF_end (by show (f.blocks.getD at_ noBlk).ins[k]? = none; rw [HBE.out, HNI.out]; simp)]
                    show Reach _ _ _ (exE (f.blocks.getD at_ noBlk) _ _ _) _
                    rw [HBE.out]
                    exact Reach.refl _)
                have HRC := Lib.hid hrch
                have hmes : (E.fuel - (s2.step.steps : Int)).toNat < (E.fuel - (s1.steps : Int)).toNat := by
                  have h1 := HSTP.out
                  have h2 := HFU.out
                  have h3 : s2.step.steps = s2.steps + 1 := rfl
                  omega
                have HME := Lib.hid hmes
                have HLN2 := Lib.hid HI2.out.len
                have HF2 : Hid (s2.step.fin = 0) := Lib.hid HI2.out.fin
                have n1 := cell_of_row W7 qb 1 _ _ _ HBX7.out.heap
                have n2 := cell_of_row W7 qb 2 _ _ _ HBX7.out.heap
                have n3 := cell_of_row W7 qb 3 _ _ _ HBX7.out.heap
                have n4 := cell_of_row W7 qb 4 _ _ _ HBX7.out.heap
                simp only [List.getElem?_toArray, List.getElem?_cons_succ, List.getElem?_cons_zero] at n1 n2 n3 n4
                clear hm7 hc7 hrch hmes HBX2 HFU
                have hbv := HBV.out
                cases hbv with
                | jump ins tt hi ht =>
                  obtain ⟨t, rfl⟩ := Int.eq_ofNat_of_zero_le ht.1
                  have ht2 : t < f.blocks.length := by have := ht.2; omega
                  have HT2 := Lib.hid ht2
                  clear ht ht2 hi
                  go_wp2_with fail
                  go_roundw
                  case rel => exact ⟨t, s2.step, r2, regs2, rfl, ⟨HS7.out, HF2.out, HLN2.out, fun K dst hK => HRC.out K dst hK⟩, HT2.out⟩
                  case measure => rw [HS7.out.mac.stepsAt, HI.out.st.mac.stepsAt]; exact HME.out
                | branch ins ba tt els hi hba ht he =>
                  obtain ⟨t, rfl⟩ := Int.eq_ofNat_of_zero_le ht.1
                  obtain ⟨t2, rfl⟩ := Int.eq_ofNat_of_zero_le he.1
                  have HT2 : Hid (t < f.blocks.length) := Lib.hid (by have := ht.2; omega)
                  have HT3 : Hid (t2 < f.blocks.length) := Lib.hid (by have := he.2; omega)
                  rw [HNR.out, ← HLN2.out] at hba
                  obtain ⟨ka, rfl, hka⟩ := regB_k hba
                  obtain ⟨rv, _⟩ := wsCell HS7.out.reg.words ka hka
                  obtain ⟨v, hve⟩ : ∃ v, v = regs2.getD ka 0 := ⟨_, rfl⟩
                  rw [← hve] at rv
                  have HVE := Lib.hid hve
                  have hka2 : ka < nr := by rw [← HLN2.out]; exact hka
                  clear ht he hi hba hve hka
                  by_cases hv0 : v = 0
                  · subst hv0
                    have hrr : ∀ K dst, K.length = c → ReachE E (s, entry f vals dst :: K) (s2.step, ⟨f, t2, 0, regs2, dst⟩ :: K) := fun K dst hK => by
                      have h := HRC.out K dst hK
                      have e2 : getR regs2 (ka : Int) = 0 := by unfold getR; rw [show ((ka : Int)).toNat = ka from rfl, ← HVE.out]
                      simpa [exE, e2] using h
                    have HRR := Lib.hid hrr
                    clear hrr
                    go_wp2_with fail
                    go_roundw
                    case rel => exact ⟨t2, s2.step, r2, regs2, rfl, ⟨HS7.out, HF2.out, HLN2.out, HRR.out⟩, HT3.out⟩
                    case measure => rw [HS7.out.mac.stepsAt, HI.out.st.mac.stepsAt]; exact HME.out
                  · have hv1 : (v != 0) = true := bne_iff_ne.2 hv0
                    have hrr : ∀ K dst, K.length = c → ReachE E (s, entry f vals dst :: K) (s2.step, ⟨f, t, 0, regs2, dst⟩ :: K) := fun K dst hK => by
                      have h := HRC.out K dst hK
                      have e2 : getR regs2 (ka : Int) = v := by unfold getR; rw [show ((ka : Int)).toNat = ka from rfl, ← HVE.out]
                      simpa [exE, e2, hv0] using h
                    have HRR := Lib.hid hrr
                    have HV0 := Lib.hid hv0
                    clear hrr hv0
                    go_wp2_with fail
                    go_roundw
                    case rel => exact ⟨t, s2.step, r2, regs2, rfl, ⟨HS7.out, HF2.out, HLN2.out, HRR.out⟩, HT2.out⟩
                    case measure => rw [HS7.out.mac.stepsAt, HI.out.st.mac.stepsAt]; exact HME.out
                | leave ins ba hi hba =>
                  rw [HNR.out, ← HLN2.out] at hba
                  obtain ⟨ka, rfl, hka⟩ := regB_k hba
                  obtain ⟨rv, _⟩ := wsCell HS7.out.reg.words ka hka
                  obtain ⟨v, hve⟩ : ∃ v, v = regs2.getD ka 0 := ⟨_, rfl⟩
                  rw [← hve] at rv
                  have hvi : I32 v := by rw [hve]; exact getD_i32 HS7.out.reg.bd ka
                  have HVE := Lib.hid hve
                  have HVI := Lib.hid hvi
                  have hka2 : ka < nr := by rw [← HLN2.out]; exact hka
                  have hgm : gr ≠ E.mb := fun e => HS7.out.reg.foot (.inl e)
                  obtain ⟨_, _, _, _, _, m5, _, _, _, mf⟩ := HS7.out.mac.cells
                  clear hi hba hve hka hvi
                  go_wp2_with fail
                  go_ret
                  refine CallPost.after HC1.out ⟨v, s2.step, r2, c, rfl, HVI.out, HS7.out.chg.setCell ⟨E.mb, 5, none⟩ (fun _ => .inl rfl) _, HS7.out.mac.own HE.out 5 _ s2.step c rfl rfl ⟨Nat.le_refl _, HS7.out.mac.sl⟩ HS7.out.mac.rl (by omega) (fun vT => by simp), HS7.out.nw, .inl ⟨HF2.out, rfl, fun K dst hK => ?_⟩⟩
                  have h := HRC.out K dst hK
                  have e2 : getR regs2 (ka : Int) = v := by unfold getR; rw [show ((ka : Int)).toNat = ka from rfl, ← HVE.out]
                  simpa [exE, e2] using h
theorem call_any (hE : EnvOk E) : ∀ (n c : Nat), c + n + 1 = 32 → CallC E c
  | 0, c, h => call_step hE (by omega) fun h2 => by omega
  | n + 1, c, h => call_step hE (by omega) fun _ => call_any hE n (c + 1) (by omega)
end
end Go.Proofs.Ytnfneinonkpmeaa
