/- The picked code beside its blocks: memory; plain. -/
import Derived.Test.YtnfneinonkpmeaaLv20
import Derived.Test.YtnfneinonkpmeaaLv18
import Derived.Test.YtnfneinonkpmeaaLv19
namespace Go.Proofs.Ytnfneinonkpmeaa
section
variable {m : Mid} {inp : List Int} {fuel : Int} {fr : Fr} {vf : VFr} {s s' : MS} {K : List Fr} {K' : List VFr} {x : Ins}
theorem rowA_i32 (hs : MsV m s s') (g : Nat) : AllI (dataRow s g) := by
  unfold dataRow
  by_cases h : g < s.data.length
  · rw [List.getD_eq_getElem?_getD, List.getElem?_eq_getElem h]
    exact hs.dat _ (List.getElem_mem h)
  · rw [List.getD_eq_getElem?_getD, List.getElem?_eq_none (by omega)]
    intro z hz; cases hz
theorem row_eq (hs : MsV m s s') (g : Nat) : dataRow s' g = dataRow s g := by unfold dataRow; rw [hs.data]
theorem regB_opt {r n : Int} (h : regB r n true = true) : r = -1 ∨ (0 ≤ r ∧ r < n) := by
  unfold regB at h
  simp only [Bool.true_and, Bool.or_eq_true, Bool.and_eq_true, decide_eq_true_eq] at h
  omega
theorem came_load (hR : RightV m inp) (hs : MsV m s s') (h0 : s.fin = 0) (hV : VS m fr vf) (hK : StV m fr.dst K K') {d a : Int} {name : ByteArray} (hx : fr.blk.ins[fr.i]? = some ⟨5, 0, d, a, -1, 0, name, []⟩) (hd : regB d fr.fn.regs false = true) (ha : regB a fr.fn.regs true = true) (hf : (s.steps : Int) < fuel) :
    Came m inp fuel ⟨5, 0, d, a, -1, 0, name, []⟩ s fr K (s', vf :: K') := by
  obtain ⟨g, hg, hgn, _⟩ := ((hV.fnV hR.may).2 _ (blk_mem7 hV.atl) _ (List.mem_of_getElem? hx)).mem (.inl rfl)
  have hG : (globAt m.globals name).toNat = g := by rw [show globAt m.globals name = g from hgn]; rfl
  have hrow := hs.rows g hg
  have hAll := rowA_i32 hs g
  have h1 := hs.step
  rcases regB_opt ha with rfl | ⟨a0, a1⟩
  · refine ⟨_, one_ins hs h0 hV hx hf (k := 42) (y := ⟨42, d, -1, -1, 0, name, []⟩) rfl rfl (by decide), .inl ?_⟩
    show CV m (if (decide ((0 : Int) ≤ 0) && decide ((0 : Int) < ((dataRow s (globAt m.globals name).toNat).length : Int))) = true then (s.step, { fr with i := fr.i + 1 }.put d (getR (dataRow s (globAt m.globals name).toNat) 0) :: K) else _) (s'.step, vf.next.putIf d (getR (dataRow s' (globAt m.globals name).toNat) 0) :: K')
    rw [hG, row_eq hs, if_pos (by simp; omega)]
    exact out_put hV hK hx (t := s.step) (t' := s'.step) h0 h1 (regB_nn hd) (getA_i32 hAll 0) (fun h => by simp at h) rfl
  · have hne : a ≠ -1 := by omega
    have hy : insS (knownF fr) ⟨5, 0, d, a, -1, 0, name, []⟩ = [⟨44, d, a, -1, 0, name, []⟩] := by
      show [(⟨if a = -1 then 42 else 44, d, a, -1, 0, name, []⟩ : Vins)] = _
      rw [if_neg hne]
    have hr : rg vf.regs a = getR fr.regs a := by rw [rg_nn a0, hV.regs]
    refine ⟨_, one_ins hs h0 hV hx hf (k := 44) (y := ⟨44, d, a, -1, 0, name, []⟩) hy rfl (by decide), ?_⟩
    show OutV m (if (decide (0 ≤ (if 0 ≤ a then getR fr.regs a else 0)) && decide ((if 0 ≤ a then getR fr.regs a else 0) < ((dataRow s (globAt m.globals name).toNat).length : Int))) = true then (s.step, { fr with i := fr.i + 1 }.put d (getR (dataRow s (globAt m.globals name).toNat) (if 0 ≤ a then getR fr.regs a else 0)) :: K) else (s.step.ended 3, { fr with i := fr.i + 1 } :: K))
      (if (decide (0 ≤ rg vf.regs a) && decide (rg vf.regs a < ((dataRow s' (globAt m.globals name).toNat).length : Int))) = true then (s'.step, vf.next.putIf d (getR (dataRow s' (globAt m.globals name).toNat) (rg vf.regs a)) :: K') else (s'.step.ended 3, vf.next :: K'))
    rw [hG, row_eq hs, hr, if_pos a0]
    by_cases hc : (decide (0 ≤ getR fr.regs a) && decide (getR fr.regs a < ((dataRow s g).length : Int))) = true
    · rw [if_pos hc, if_pos hc]
      exact .inl (out_put hV hK hx (t := s.step) (t' := s'.step) h0 h1 (regB_nn hd) (getA_i32 hAll _) (fun h => by simp at h) hy)
    · rw [if_neg hc, if_neg hc]
      exact .inr (h1.ended (by decide))
theorem dataRow_set7 (s : MS) (g : Nat) (l : List Int) (i : Nat) : dataRow { s with data := s.data.set g l } i = if i = g ∧ g < s.data.length then l else dataRow s i := by
  unfold dataRow
  by_cases e : i = g
  · subst e
    by_cases hg : i < s.data.length
    · simp [List.getD, hg]
    · rw [List.set_eq_of_length_le (by omega)]; simp [hg]
  · simp [List.getD, List.getElem?_set_ne (Ne.symm e), e]
theorem MsV.store (h : MsV m s s') (g : Nat) (l : List Int) (hl : l.length = (dataRow s g).length) (hi : AllI l) : MsV m { s with data := s.data.set g l } { s' with data := s.data.set g l } := by
  refine ⟨rfl, h.fin, h.value, h.trace, h.reads, h.steps, fun r hr => ?_, by show (s.data.set g l).length = _; rw [List.length_set]; exact h.nd, fun i hi => ?_⟩
  · rcases List.mem_or_eq_of_mem_set hr with hr | rfl
    · exact h.dat r hr
    · exact hi
  · rw [dataRow_set7]
    split
    · rename_i e
      rw [hl, ← e.1]; exact h.rows i hi
    · exact h.rows i hi
theorem came_store (hR : RightV m inp) (hs : MsV m s s') (h0 : s.fin = 0) (hV : VS m fr vf) (hK : StV m fr.dst K K') {a b : Int} {name : ByteArray} (hx : fr.blk.ins[fr.i]? = some ⟨6, 0, -1, a, b, 0, name, []⟩) (ha : regB a fr.fn.regs true = true) (hb : regB b fr.fn.regs false = true) (hf : (s.steps : Int) < fuel) :
    Came m inp fuel ⟨6, 0, -1, a, b, 0, name, []⟩ s fr K (s', vf :: K') := by
  obtain ⟨g, hg, hgn, _⟩ := ((hV.fnV hR.may).2 _ (blk_mem7 hV.atl) _ (List.mem_of_getElem? hx)).mem (.inr rfl)
  have hG : (globAt m.globals name).toNat = g := by rw [show globAt m.globals name = g from hgn]; rfl
  have hrow := hs.rows g hg
  have hAll := rowA_i32 hs g
  have h1 := hs.step
  have hrb : rg vf.regs b = getR fr.regs b := by rw [rg_nn (regB_nn hb).1, hV.regs]
  have hst := fun j => h1.store g (setR (dataRow s g) j (getR fr.regs b)) (by show _ = (dataRow s g).length; unfold setR; rw [List.length_set]) (setR_i32 hAll (getA_i32 hV.i32 b))
  rcases regB_opt ha with rfl | ⟨a0, a1⟩
  · refine ⟨_, one_ins hs h0 hV hx hf (k := 43) (y := ⟨43, -1, -1, b, 0, name, []⟩) rfl rfl (by decide), .inl ?_⟩
    show CV m (if (decide ((0 : Int) ≤ 0) && decide ((0 : Int) < ((dataRow s (globAt m.globals name).toNat).length : Int))) = true then ({ s.step with data := s.data.set (globAt m.globals name).toNat (setR (dataRow s (globAt m.globals name).toNat) 0 (getR fr.regs b)) }, { fr with i := fr.i + 1 } :: K) else _)
      ({ s'.step with data := s'.data.set (globAt m.globals name).toNat (setR (dataRow s' (globAt m.globals name).toNat) 0 (rg vf.regs b)) }, vf.next.putIf (-1) 0 :: K')
    rw [hG, row_eq hs, hrb, hs.data, if_pos (by simp; omega)]
    exact out_skip hV hK hx (by exact h0) (hst 0) (show (-1 : Int) < 0 by decide) rfl 0
  · have hne : a ≠ -1 := by omega
    have hy : insS (knownF fr) ⟨6, 0, -1, a, b, 0, name, []⟩ = [⟨45, -1, a, b, 0, name, []⟩] := by
      show [(⟨if a = -1 then 43 else 45, -1, a, b, 0, name, []⟩ : Vins)] = _
      rw [if_neg hne]
    have hr : rg vf.regs a = getR fr.regs a := by rw [rg_nn a0, hV.regs]
    refine ⟨_, one_ins hs h0 hV hx hf (k := 45) (y := ⟨45, -1, a, b, 0, name, []⟩) hy rfl (by decide), ?_⟩
    show OutV m (if (decide (0 ≤ (if 0 ≤ a then getR fr.regs a else 0)) && decide ((if 0 ≤ a then getR fr.regs a else 0) < ((dataRow s (globAt m.globals name).toNat).length : Int))) = true then ({ s.step with data := s.data.set (globAt m.globals name).toNat (setR (dataRow s (globAt m.globals name).toNat) (if 0 ≤ a then getR fr.regs a else 0) (getR fr.regs b)) }, { fr with i := fr.i + 1 } :: K) else (s.step.ended 3, { fr with i := fr.i + 1 } :: K))
      (if (decide (0 ≤ rg vf.regs a) && decide (rg vf.regs a < ((dataRow s' (globAt m.globals name).toNat).length : Int))) = true then ({ s'.step with data := s'.data.set (globAt m.globals name).toNat (setR (dataRow s' (globAt m.globals name).toNat) (rg vf.regs a) (rg vf.regs b)) }, vf.next.putIf (-1) 0 :: K') else (s'.step.ended 3, vf.next :: K'))
    rw [hG, row_eq hs, hr, hrb, hs.data, if_pos a0]
    by_cases hc : (decide (0 ≤ getR fr.regs a) && decide (getR fr.regs a < ((dataRow s g).length : Int))) = true
    · rw [if_pos hc, if_pos hc]
      exact .inl (out_skip hV hK hx (by exact h0) (hst _) (show (-1 : Int) < 0 by decide) hy 0)
    · rw [if_neg hc, if_neg hc]
      exact .inr (h1.ended (by decide))
end
end Go.Proofs.Ytnfneinonkpmeaa
namespace Go.Proofs.Ytnfneinonkpmeaa
theorem knows_none {K : Int → Option Int} {regs : List Int} (h : Knows K regs) (d : Int) : Knows (updK K d none) regs := by
  intro r n hr hn
  unfold updK at hn
  split at hn
  · cases hn
  · exact h r n hr hn
theorem knows_put_none {K : Int → Option Int} {regs : List Int} (h : Knows K regs) {d : Int} (v : Int) (h0 : 0 ≤ d) (hd : K d = none) : Knows K (setR regs d v) := by
  intro r n hr hn
  by_cases e : r = d
  · subst e; rw [hd] at hn; cases hn
  · rw [getR_set_ne hr h0 e]; exact h r n hr hn
section
variable {m : Mid} {inp : List Int} {fuel : Int} {fr : Fr} {vf : VFr} {s s' : MS} {K : List Fr} {K' : List VFr} {x : Ins}
/-- A label is stepped over. -/
theorem land {v : VFn} {f : Fn} (hv : v = pickFn f) (h0 : s'.fin = 0) {t : Nat} (ht : t < f.blocks.length) {regs : List Int} {d : Int} :
    ReachV (pickP m) inp fuel (s', ⟨v, offB f.blocks t, regs, d⟩ :: K') (s', ⟨v, posI f.blocks t 0, regs, d⟩ :: K') := by
  subst hv
  have e : (⟨pickFn f, offB f.blocks t, regs, d⟩ : VFr).ins = labelS t := code_label ht
  have h := stepV_label (p := pickP m) (inp := inp) (fuel := fuel) (fr := ⟨pickFn f, offB f.blocks t, regs, d⟩) (K := K') h0 (by rw [e]; rfl)
  refine ReachV.step h ?_
  have e2 : posI f.blocks t 0 = offB f.blocks t + 1 := by simp [posI, insL]
  rw [e2]
  exact ReachV.refl _
theorem entry_vs (hm : MayV m) {name : ByteArray} {k : Nat} (hk : k < m.fns.length) (hn : fnAt m.fns name = k) {vals : List Int} (hl : (vals.length : Int) ≤ m.fns[k].regs) (hi : AllI vals) (d : Int) :
    VS m (entry (fnNamed m name) vals d) ⟨pickFn (fnNamed m name), posI (fnNamed m name).blocks 0 0, newRegs (fnNamed m name) vals, d⟩ ∧ 0 < (fnNamed m name).blocks.length := by
  have e : fnNamed m name = m.fns[k] := by unfold fnNamed; rw [hn]; simp [List.getD, hk]
  have hf := (hm.fns k hk).fn
  rw [e]
  refine ⟨⟨List.getElem_mem hk, rfl, hf.some, Nat.zero_le _, rfl, rfl, rfl, ?_, ?_, ?_⟩, hf.some⟩
  · show ((newRegs m.fns[k] vals).length : Int) = m.fns[k].regs
    unfold newRegs
    simp; omega
  · intro z hz
    rcases List.mem_append.1 hz with hz | hz
    · exact hi z hz
    · rw [(List.mem_replicate.1 hz).2]; unfold I32; decide
  · intro r n _ hn
    have e0 : knownAfter K0 (List.take (entry m.fns[k] vals d).i (entry m.fns[k] vals d).blk.ins) = K0 := by show knownAfter K0 (List.take 0 _) = K0; rw [List.take_zero]; rfl
    rw [e0] at hn
    cases hn
theorem came_call (hR : RightV m inp) (hs : MsV m s s') (h0 : s.fin = 0) (hV : VS m fr vf) (hK : StV m fr.dst K K') {d : Int} {name : ByteArray} {args : List Int} (hx : fr.blk.ins[fr.i]? = some ⟨7, 0, d, -1, -1, 0, name, args⟩) (hf : (s.steps : Int) < fuel) :
    Came m inp fuel ⟨7, 0, d, -1, -1, 0, name, args⟩ s fr K (s', vf :: K') := by
  obtain ⟨c, hc, hcn, hpar⟩ := ((hV.fnV hR.may).2 _ (blk_mem7 hV.atl) _ (List.mem_of_getElem? hx)).call rfl
  have hfv := (hR.may.fns c hc).fn
  have h1 := hs.step
  have hr := one_ins (inp := inp) (K' := K') hs h0 hV hx hf (k := 46) (y := ⟨46, d, -1, -1, 0, name, args⟩) rfl rfl (by decide)
  have e1 : vIns (pickP m) inp ⟨46, d, -1, -1, 0, name, args⟩ (rg vf.regs (-1)) (rg vf.regs (-1)) s'.step vf.next K' = if K'.length + 1 = 32 then (s'.step.ended 4, vf.next :: K') else (s'.step, vEntry (vNamed (pickP m) name) (args.map (getR vf.regs)) d :: vf.next :: K') := rfl
  have e2 : exS m inp ⟨7, 0, d, -1, -1, 0, name, args⟩ s.step { fr with i := fr.i + 1 } K = if K.length + 1 = 32 then (s.step.ended 4, { fr with i := fr.i + 1 } :: K) else (s.step, entry (fnNamed m name) (args.map (getR fr.regs)) d :: { fr with i := fr.i + 1 } :: K) := rfl
  rw [e1, hK.len] at hr
  unfold Came
  rw [e2]
  by_cases h32 : K.length + 1 = 32
  · rw [if_pos h32] at hr ⊢
    exact ⟨_, hr, .inr (h1.ended (by decide))⟩
  · rw [if_neg h32] at hr ⊢
    rw [vNamed_pick hc hcn, hV.regs] at hr
    obtain ⟨hE, hpos⟩ := entry_vs hR.may hc hcn (vals := args.map (getR fr.regs)) (by
      have h2 : m.fns[c].params = (args.length : Int) := hpar
      have := hfv.regs.1
      rw [List.length_map]; omega) (fun z hz => by obtain ⟨r, _, rfl⟩ := List.mem_map.1 hz; exact getA_i32 hV.i32 r) d
    have hl := land (m := m) (inp := inp) (fuel := 2 * fuel) (K' := vf.next :: K') (s' := s'.step) (v := pickFn (fnNamed m name)) rfl (hs.fin.trans h0) hpos (regs := newRegs (fnNamed m name) (args.map (getR fr.regs))) (d := d)
    refine ⟨_, hr.trans hl, .inl ⟨s.step, _, _, s'.step, _, _, rfl, rfl, h0, h1, hE, ?_⟩⟩
    obtain ⟨p1, p2⟩ := pos_next hV hx
    refine .cons d _ _ K K' ⟨hV.mem, hV.v, hV.atl, (List.getElem?_eq_some_iff.1 hx).1, p1.symm, hV.regs, hV.dst, hV.rl, hV.i32, ?_⟩ (fun _ => ?_) hK
    · show Knows (knownAfter K0 (fr.blk.ins.take (fr.i + 1))) fr.regs
      rw [p2]
      exact knows_none hV.known d
    · show knownAfter K0 (fr.blk.ins.take (fr.i + 1)) d = none
      rw [p2]
      show updK _ d none d = none
      simp [updK]
theorem ret_v (hf : s.fin = 0) (hs : MsV m s s') {v d : Int} (hv : I32 v) (hK : StV m d K K') : OutV m (retC d v s K) (retV d v s' K') := by
  cases hK with
  | nil => exact .inr ⟨by simp [retC], rfl, rfl, hs.trace, hs.reads, hs.steps⟩
  | cons d fr vf K K' h hd k =>
    refine .inl ⟨s, fr.putIf d v, K, s', vf.putIf d v, K', rfl, rfl, hf, hs, ?_, ?_⟩
    · unfold Fr.putIf VFr.putIf
      by_cases h0 : 0 ≤ d
      · rw [if_pos h0, if_pos h0]
        exact ⟨h.mem, h.v, h.atl, h.il, h.at_, by show setR vf.regs d v = setR fr.regs d v; rw [h.regs], h.dst, by show ((setR fr.regs d v).length : Int) = _; unfold setR; rw [List.length_set]; exact h.rl, setR_i32 h.i32 hv, knows_put_none h.known v h0 (hd h0)⟩
      · rw [if_neg h0, if_neg h0]
        exact h
    · have e : (fr.putIf d v).dst = fr.dst := by unfold Fr.putIf; split <;> rfl
      rw [e]; exact k
end
end Go.Proofs.Ytnfneinonkpmeaa
namespace Go.Proofs.Ytnfneinonkpmeaa
theorem offB_succ (bs : List Blk) (k : Nat) (h : k < bs.length) : offB bs (k + 1) = posI bs k (bs.getD k noBlk).ins.length + (endS (bs.getD k noBlk) ((k : Int) + 1)).length := by
  have hb : bs.getD k noBlk = bs[k] := by rw [List.getD_eq_getElem?_getD, List.getElem?_eq_getElem h]; rfl
  unfold posI
  rw [hb, List.take_length]
  unfold offB
  rw [List.take_succ_eq_append_getElem h, codeFrom_snoc, List.length_append, Nat.zero_add, List.length_take, Nat.min_eq_left (by omega)]
  simp only [blkS, List.length_cons, List.length_append]
  omega
theorem vOp_jump {p : VProg} {inp : List Int} {y : Vins} {s : MS} {fr : VFr} {K : List VFr} (h : y.op ≠ 49) (ho : y.op = 51 ∨ (y.op = 52 ∧ rg fr.regs y.a ≠ 0) ∨ (y.op = 53 ∧ rg fr.regs y.a = 0)) : vOp p inp y s fr K = (s, { fr with at_ := place fr.v.code y.num } :: K) := by
  unfold vOp
  rw [if_neg h, if_pos ho]
theorem vOp_pass {p : VProg} {inp : List Int} {y : Vins} {s : MS} {fr : VFr} {K : List VFr} (hd : y.d = -1) (ho : (y.op = 52 ∧ rg fr.regs y.a = 0) ∨ (y.op = 53 ∧ rg fr.regs y.a ≠ 0)) : vOp p inp y s fr K = (s, fr :: K) := by
  unfold vOp
  rw [if_neg (by omega), if_neg (by
    rintro (h | ⟨h, h'⟩ | ⟨h, h'⟩)
    · omega
    · rcases ho with ⟨_, h2⟩ | ⟨h1, _⟩
      · exact h' h2
      · omega
    · rcases ho with ⟨h1, _⟩ | ⟨_, h2⟩
      · omega
      · exact h2 h')]
  unfold vIns
  rw [if_neg (by omega), if_neg (by omega), if_neg (by omega), if_neg (by omega), if_neg (by omega), if_neg (by omega), if_neg (by omega), if_neg (by omega), if_neg (by omega), if_neg (by omega)]
  unfold VFr.putIf
  rw [hd, if_neg (by decide)]
section
variable {m : Mid} {inp : List Int} {fuel : Int} {fr : Fr} {vf : VFr} {s s' : MS} {K : List Fr} {K' : List VFr}
theorem code_end (hV : VS m fr vf) (hi : fr.i = fr.blk.ins.length) (j : Nat) (y : Vins) (hy : (endS fr.blk ((fr.at_ : Int) + 1))[j]? = some y) : vf.v.code.getD (vf.at_ + j) noVins = y := by
  refine hV.code j y ?_
  rw [hi, List.drop_length]
  exact hy
theorem after_end (hV : VS m fr vf) (hi : fr.i = fr.blk.ins.length) : vf.at_ + (endS fr.blk ((fr.at_ : Int) + 1)).length = offB fr.fn.blocks (fr.at_ + 1) := by
  rw [offB_succ _ _ hV.atl, hV.at_, hi]; rfl
/-- The frame that has come to a block. -/
theorem VS.go (hV : VS m fr vf) {t : Int} (h0 : 0 ≤ t) (h1 : t < fr.fn.blocks.length) : VS m { fr with at_ := t.toNat, i := 0 } ⟨vf.v, posI fr.fn.blocks t.toNat 0, vf.regs, vf.dst⟩ := by
  refine ⟨hV.mem, hV.v, by show t.toNat < fr.fn.blocks.length; omega, Nat.zero_le _, rfl, hV.regs, hV.dst, hV.rl, hV.i32, ?_⟩
  intro r n _ hn
  have e0 : knownAfter K0 (List.take 0 (Fr.blk { fr with at_ := t.toNat, i := 0 }).ins) = K0 := by rw [List.take_zero]; rfl
  have hn' : knownAfter K0 (List.take 0 (Fr.blk { fr with at_ := t.toNat, i := 0 }).ins) r = some n := hn
  rw [e0] at hn'
  cases hn'
theorem cv_go (hs : MsV m s s') (h0 : s.fin = 0) (hV : VS m fr vf) (hK : StV m fr.dst K K') {t : Int} (t0 : 0 ≤ t) (t1 : t < fr.fn.blocks.length) {k : Nat} (hk : k ≤ 2) {c' : VCfg}
    (hr : ReachV (pickP m) inp (2 * fuel) c' ({ s' with steps := s'.steps + k }, ⟨vf.v, offB fr.fn.blocks t.toNat, vf.regs, vf.dst⟩ :: K')) :
    ∃ c'', ReachV (pickP m) inp (2 * fuel) c' c'' ∧ OutV m (s.step, { fr with at_ := t.toNat, i := 0 } :: K) c'' :=
  ⟨_, hr.trans (land (s' := { s' with steps := s'.steps + k }) (t := t.toNat) hV.v (hs.fin.trans h0) (by omega)), .inl ⟨s.step, _, K, _, _, K', rfl, rfl, h0, hs.more k hk, hV.go t0 t1, hK⟩⟩
/-- A jump is taken. -/
theorem jump_to (hR : RightV m inp) (hV : VS m fr vf) {s' : MS} (h0 : s'.fin = 0) (hf : (s'.steps : Int) < 2 * fuel) {at_ : Nat} {y : Vins} {t : Int} (t0 : 0 ≤ t) (t1 : t < fr.fn.blocks.length) (hy : vf.v.code.getD at_ noVins = y) (hn : y.num = t)
    (ho : y.op = 51 ∨ (y.op = 52 ∧ rg vf.regs y.a ≠ 0) ∨ (y.op = 53 ∧ rg vf.regs y.a = 0)) :
    stepV (pickP m) inp (2 * fuel) (s', ⟨vf.v, at_, vf.regs, vf.dst⟩ :: K') = (s'.step, ⟨vf.v, offB fr.fn.blocks t.toNat, vf.regs, vf.dst⟩ :: K') := by
  have hop : y.op ≠ 50 ∧ y.op ≠ 49 := by omega
  rw [step_ins (vf := ⟨vf.v, at_, vf.regs, vf.dst⟩) (y := y) h0 hy hop.1 hf]
  rw [vOp_jump (fr := VFr.next ⟨vf.v, at_, vf.regs, vf.dst⟩) hop.2 ho]
  have hp := place_at (hV.insV hR.may) (show t.toNat < fr.fn.blocks.length by omega)
  have e : y.num = ((t.toNat : Nat) : Int) := by rw [hn]; omega
  show (s'.step, (⟨vf.v, place vf.v.code y.num, vf.regs, vf.dst⟩ : VFr) :: K') = _
  rw [e, hV.v]
  show (s'.step, (⟨pickFn fr.fn, place (codeS fr.fn.blocks) (t.toNat : Nat), vf.regs, vf.dst⟩ : VFr) :: K') = _
  rw [hp]
/-- A branch is not taken. -/
theorem pass_by {s' : MS} (h0 : s'.fin = 0) (hf : (s'.steps : Int) < 2 * fuel) {at_ : Nat} {y : Vins} (hy : vf.v.code.getD at_ noVins = y) (hd : y.d = -1)
    (ho : (y.op = 52 ∧ rg vf.regs y.a = 0) ∨ (y.op = 53 ∧ rg vf.regs y.a ≠ 0)) :
    stepV (pickP m) inp (2 * fuel) (s', ⟨vf.v, at_, vf.regs, vf.dst⟩ :: K') = (s'.step, ⟨vf.v, at_ + 1, vf.regs, vf.dst⟩ :: K') := by
  rw [step_ins (vf := ⟨vf.v, at_, vf.regs, vf.dst⟩) (y := y) h0 hy (by omega) hf]
  exact vOp_pass (fr := VFr.next ⟨vf.v, at_, vf.regs, vf.dst⟩) hd ho
theorem end_v (hR : RightV m inp) (hs : MsV m s s') (h0 : s.fin = 0) (hV : VS m fr vf) (hK : StV m fr.dst K K') (hi : fr.i = fr.blk.ins.length) (hf : (s.steps : Int) < fuel) :
    ∃ c'', ReachV (pickP m) inp (2 * fuel) (s', vf :: K') c'' ∧ OutV m (exE fr.blk s.step fr K) c'' := by
  have hbv := (hV.fnV hR.may).1.blocks _ (blk_mem7 hV.atl)
  have h2 := fuel_two hs hf
  have hc := code_end hV hi
  have ha := after_end hV hi
  have h0' := hs.fin.trans h0
  have hreg := hV.regs
  generalize hb : fr.blk = b at hbv hc ha
  cases hbv with
  | jump ins t hx ht =>
    show ∃ c'', _ ∧ OutV m (s.step, { fr with at_ := t.toNat, i := 0 } :: K) c''
    by_cases e : t = (fr.at_ : Int) + 1
    · have hE : endS ⟨ins, 1, 0, t, 0⟩ ((fr.at_ : Int) + 1) = [] := by simp [endS, e]
      rw [hE] at ha
      refine cv_go hs h0 hV hK ht.1 ht.2 (k := 0) (by decide) ?_
      have e2 : t.toNat = fr.at_ + 1 := by omega
      rw [e2, ← ha]
      exact ReachV.refl _
    · have hE : endS ⟨ins, 1, 0, t, 0⟩ ((fr.at_ : Int) + 1) = [jumpS t] := by simp [endS, e]
      rw [hE] at hc
      exact cv_go hs h0 hV hK ht.1 ht.2 (k := 1) (by decide) (ReachV.step (jump_to (K' := K') hR hV h0' (by omega) ht.1 ht.2 (hc 0 _ rfl) rfl (.inl rfl)) (ReachV.refl _))
  | branch ins a t els hx hra ht he =>
    obtain ⟨a0, a1⟩ := regB_nn hra
    have hr : rg vf.regs a = getR fr.regs a := by rw [rg_nn a0, hreg]
    show ∃ c'', _ ∧ OutV m (s.step, { fr with at_ := (if getR fr.regs a ≠ 0 then t else els).toNat, i := 0 } :: K) c''
    rw [← hr]
    by_cases e : t = (fr.at_ : Int) + 1
    · have hE : endS ⟨ins, 2, a, t, els⟩ ((fr.at_ : Int) + 1) = [⟨53, -1, a, -1, els, ⟨#[]⟩, []⟩] := by simp [endS, e]
      rw [hE] at hc ha
      by_cases hz : rg vf.regs a = 0
      · rw [if_neg (by simp [hz])]
        exact cv_go hs h0 hV hK he.1 he.2 (k := 1) (by decide) (ReachV.step (jump_to (K' := K') hR hV h0' (by omega) he.1 he.2 (hc 0 _ rfl) rfl (.inr (.inr ⟨rfl, hz⟩))) (ReachV.refl _))
      · rw [if_pos hz]
        refine cv_go hs h0 hV hK ht.1 ht.2 (k := 1) (by decide) (ReachV.step (pass_by (vf := vf) (K' := K') h0' (by omega) (hc 0 _ rfl) rfl (.inr ⟨rfl, hz⟩)) ?_)
        have e2 : t.toNat = fr.at_ + 1 := by omega
        rw [e2, ← ha]
        exact ReachV.refl _
    · by_cases hz : rg vf.regs a = 0
      · rw [if_neg (by simp [hz])]
        by_cases e3 : els = (fr.at_ : Int) + 1
        · have hE : endS ⟨ins, 2, a, t, els⟩ ((fr.at_ : Int) + 1) = [⟨52, -1, a, -1, t, ⟨#[]⟩, []⟩] := by simp [endS, e, e3]
          rw [hE] at hc ha
          refine cv_go hs h0 hV hK he.1 he.2 (k := 1) (by decide) (ReachV.step (pass_by (vf := vf) (K' := K') h0' (by omega) (hc 0 _ rfl) rfl (.inl ⟨rfl, hz⟩)) ?_)
          have e2 : els.toNat = fr.at_ + 1 := by omega
          rw [e2, ← ha]
          exact ReachV.refl _
        · have hE : endS ⟨ins, 2, a, t, els⟩ ((fr.at_ : Int) + 1) = [⟨52, -1, a, -1, t, ⟨#[]⟩, []⟩, jumpS els] := by simp [endS, e, e3]
          rw [hE] at hc ha
          exact cv_go hs h0 hV hK he.1 he.2 (k := 2) (by decide) (ReachV.step (pass_by (vf := vf) (K' := K') h0' (by omega) (hc 0 _ rfl) rfl (.inl ⟨rfl, hz⟩))
            (ReachV.step (jump_to (K' := K') (s' := s'.step) hR hV h0' (by simp only [MS.step]; omega) he.1 he.2 (hc 1 _ rfl) rfl (.inl rfl)) (ReachV.refl _)))
      · rw [if_pos hz]
        have hE : ∃ l, endS ⟨ins, 2, a, t, els⟩ ((fr.at_ : Int) + 1) = ⟨52, -1, a, -1, t, ⟨#[]⟩, []⟩ :: l := by simp [endS, e]
        obtain ⟨l, hE⟩ := hE
        rw [hE] at hc
        exact cv_go hs h0 hV hK ht.1 ht.2 (k := 1) (by decide) (ReachV.step (jump_to (K' := K') hR hV h0' (by omega) ht.1 ht.2 (hc 0 _ rfl) rfl (.inr (.inl ⟨rfl, hz⟩))) (ReachV.refl _))
  | leave ins a hx hra =>
    obtain ⟨a0, a1⟩ := regB_nn hra
    have hr : rg vf.regs a = getR fr.regs a := by rw [rg_nn a0, hreg]
    have hE : endS ⟨ins, 3, a, 0, 0⟩ ((fr.at_ : Int) + 1) = [threeS 49 (-1) a (-1)] := by simp [endS]
    rw [hE] at hc
    have e := step_ins (p := pickP m) (inp := inp) (fuel := 2 * fuel) (K := K') (vf := vf) (s := s') (y := threeS 49 (-1) a (-1)) h0' (hc 0 _ rfl) (show (49 : Int) ≠ 50 by decide) (by omega)
    have e2 : vOp (pickP m) inp (threeS 49 (-1) a (-1)) s'.step vf.next K' = retV vf.dst (rg vf.regs a) s'.step K' := rfl
    rw [e2, hr, hV.dst] at e
    exact ⟨_, ReachV.step e (ReachV.refl _), ret_v (s := s.step) (s' := s'.step) h0 hs.step (getA_i32 hV.i32 a) hK⟩
end
end Go.Proofs.Ytnfneinonkpmeaa
namespace Go.Proofs.Ytnfneinonkpmeaa
section
variable {m : Mid} {inp : List Int} {fuel : Int}
theorem exS_trace7 (x : Ins) (s : MS) (fr : Fr) (K : List Fr) : s.trace <+: (exS m inp x s fr K).1.trace := by
  unfold exS
  have P := fun (a b : Cfg) (c : Prop) [Decidable c] (ha : s.trace <+: a.1.trace) (hb : s.trace <+: b.1.trace) => show s.trace <+: (if c then a else b).1.trace from by split <;> assumption
  have r0 : s.trace <+: s.trace := List.prefix_refl _
  refine P _ _ _ r0 (P _ _ _ r0 (P _ _ _ r0 (P _ _ _ (by split <;> exact r0) (P _ _ _ (P _ _ _ r0 r0) (P _ _ _ (P _ _ _ r0 r0) (P _ _ _ (P _ _ _ r0 r0) (P _ _ _ (P _ _ _ r0 r0) (P _ _ _ (List.prefix_append _ _) r0))))))))
theorem putIf_trace {s : MS} {K : List VFr} : s.trace <+: ((s, K) : VCfg).1.trace := List.prefix_refl _
theorem vOp_trace (p : VProg) (x : Vins) (s : MS) (fr : VFr) (K : List VFr) : s.trace <+: (vOp p inp x s fr K).1.trace := by
  have P := fun (a b : VCfg) (c : Prop) [Decidable c] (ha : s.trace <+: a.1.trace) (hb : s.trace <+: b.1.trace) => show s.trace <+: (if c then a else b).1.trace from by split <;> assumption
  have r0 : s.trace <+: s.trace := List.prefix_refl _
  unfold vOp
  refine P _ _ _ (by cases K <;> exact r0) (P _ _ _ r0 ?_)
  unfold vIns
  exact P _ _ _ (by split <;> exact r0) (P _ _ _ r0 (P _ _ _ r0 (P _ _ _ r0 (P _ _ _ r0 (P _ _ _ (P _ _ _ r0 r0) (P _ _ _ (P _ _ _ r0 r0) (P _ _ _ (P _ _ _ r0 r0) (P _ _ _ (P _ _ _ r0 r0) (P _ _ _ (List.prefix_append _ _) r0)))))))))
theorem stepV_trace (p : VProg) (a : VCfg) : a.1.trace <+: (stepV p inp fuel a).1.trace := by
  obtain ⟨s, K⟩ := a
  cases K with
  | nil => exact List.prefix_refl _
  | cons fr K =>
    show s.trace <+: (if s.fin ≠ 0 then (s, fr :: K) else if fr.ins.op = 50 then (s, fr.next :: K) else if fuel ≤ (s.steps : Int) then (s.ended 5, fr :: K) else vOp p inp fr.ins s.step fr.next K : VCfg).1.trace
    split
    · exact List.prefix_refl _
    split
    · exact List.prefix_refl _
    split
    · exact List.prefix_refl _
    · exact vOp_trace (s := s.step) p _ _ _
theorem ReachV.trace {p : VProg} {a b : VCfg} (h : ReachV p inp fuel a b) : a.1.trace <+: b.1.trace := by
  obtain ⟨n, rfl⟩ := h
  induction n generalizing a with
  | zero => exact List.prefix_refl _
  | succ n ih => exact (stepV_trace p a).trans ih
/-- How the picked code's run ends beside the blocks'. -/
def KeepsV (r r' : MS) : Prop := (r.fin ≠ 5 → r'.fin = r.fin ∧ r'.value = r.value ∧ r'.trace = r.trace ∧ r'.reads = r.reads ∧ r'.steps ≤ 2 * r.steps) ∧ (r.fin = 5 → r.trace <+: r'.trace)
theorem step_v (hR : RightV m inp) {c : Cfg} {c' : VCfg} (hc : CV m c c') (hf : ¬ fuel ≤ (c.1.steps : Int)) : ∃ c'', ReachV (pickP m) inp (2 * fuel) c' c'' ∧ OutV m (stepC m inp fuel c) c'' := by
  obtain ⟨s, fr, K, s', vf, K', rfl, rfl, h0, hs, hV, hK⟩ := hc
  have hf' : (s.steps : Int) < fuel := by dsimp only at hf; omega
  rw [stepC_go h0 (by omega)]
  unfold stepF
  cases hx : fr.blk.ins[fr.i]? with
  | none => exact end_v hR hs h0 hV hK (by have := hV.il; have := List.getElem?_eq_none_iff.1 hx; omega) hf'
  | some x =>
    have hxv := hV.insV hR.may _ (blk_mem7 hV.atl) x (List.mem_of_getElem? hx)
    show Came m inp fuel x s fr K (s', vf :: K')
    cases hxv with
    | num d z hd => exact came_num hR hs h0 hV hK hx hd hf'
    | copy d a hd ha => exact came_copy hs h0 hV hK hx hd ha hf'
    | un op d a ho hd ha => exact came_un hs h0 hV hK hx ho hd ha hf'
    | bin op d a b ho hd ha hb => exact came_bin hs h0 hV hK hx ho hd ha hb hf'
    | load d a name hd ha hn => exact came_load hR hs h0 hV hK hx hd ha hf'
    | store a b name ha hb hn => exact came_store hR hs h0 hV hK hx ha hb hf'
    | call d name args hd hn hl ha => exact came_call hR hs h0 hV hK hx hf'
    | read d hd => exact came_read hR hs h0 hV hK hx hd hf'
    | print a ha => exact came_print hs h0 hV hK hx ha hf'
theorem runs_v (hR : RightV m inp) : ∀ (n : Nat) (c : Cfg) (c' : VCfg), CV m c c' → ∀ (r : Cfg) (r' : VCfg), iterC m inp fuel n c = r → r.1.fin ≠ 0 → ReachV (pickP m) inp (2 * fuel) c' r' → r'.1.fin ≠ 0 → KeepsV r.1 r'.1
  | 0, c, c', hc, r, r', hr, hr0, _, _ => by
    obtain ⟨s, fr, K, s', vf, K', rfl, rfl, h0, _⟩ := hc
    subst hr
    exact absurd h0 hr0
  | n + 1, c, c', hc, r, r', hr, hr0, hr', hr0' => by
    by_cases hf : fuel ≤ (c.1.steps : Int)
    · obtain ⟨s, fr, K, s', vf, K', rfl, rfl, h0, hs, _⟩ := hc
      have e : iterC m inp fuel (n + 1) (s, fr :: K) = (s.ended 5, fr :: K) := by
        show iterC m inp fuel n (stepC m inp fuel (s, fr :: K)) = _
        rw [stepC_open h0 hf]
        exact iterC_end (by simp [MS.ended]) n
      rw [e] at hr
      subst hr
      refine ⟨fun h => absurd rfl h, fun _ => ?_⟩
      have := hr'.trace
      show s.trace <+: r'.1.trace
      rw [← hs.trace]
      exact this
    · obtain ⟨c'', hreach, h⟩ := step_v hR hc hf
      have hon := hreach.on hr' hr0'
      rcases h with h | h
      · exact runs_v hR n _ c'' h r r' hr hr0 hon hr0'
      · obtain ⟨h1, h2, h3, h4, h5, h6⟩ := h
        have e1 : r = stepC m inp fuel c := by rw [← hr]; exact iterC_end h1 n
        have e2 : r' = c'' := hon.end_unique (ReachV.refl _) hr0' (by rw [h2]; exact h1) |>.symm ▸ rfl
        rw [e1, e2]
        exact ⟨fun _ => ⟨h2, h3, h4, h5, h6⟩, fun _ => by rw [h4]; exact List.prefix_refl _⟩
theorem pick_keeps (hR : RightV m inp) {r r' : MS} (h : RunsTo m inp fuel r) (h' : RunsToV (pickP m) inp (2 * fuel) r') : KeepsV r r' := by
  obtain ⟨h1, K, n, h2⟩ := h
  obtain ⟨k1, K', k2⟩ := h'
  obtain ⟨i, hi, hfn, hpar⟩ := hR.may.main
  have hfv := (hR.may.fns i hi).fn
  obtain ⟨hE, hpos⟩ := entry_vs hR.may (name := mainN) hi hfn (vals := []) (by have := hfv.params.1; have := hfv.regs.1; simp; omega) (fun z hz => by cases hz) (-1)
  have hl := land (m := m) (inp := inp) (fuel := 2 * fuel) (K' := []) (s' := ⟨data0 m, 0, 0, [], 0, 0⟩) (v := pickFn (fnNamed m mainN)) rfl rfl hpos (regs := newRegs (fnNamed m mainN) []) (d := -1)
  have hst : startV (pickP m) = (⟨data0 m, 0, 0, [], 0, 0⟩, [⟨pickFn (fnNamed m mainN), offB (fnNamed m mainN).blocks 0, newRegs (fnNamed m mainN) [], -1⟩]) := by
    unfold startV
    rw [show vNamed (pickP m) mainN = pickFn (fnNamed m mainN) from vNamed_pick hi hfn]
    rfl
  rw [hst] at k2
  refine runs_v hR n _ _ ⟨_, _, _, _, _, _, rfl, rfl, rfl, ⟨rfl, rfl, rfl, rfl, rfl, Nat.zero_le _, fun l hl => ?_, by simp [data0], fun i hi => ?_⟩, hE, .nil _⟩ _ _ h2 h1 (hl.on k2 k1) k1
  · obtain ⟨g, _, rfl⟩ := List.mem_map.1 hl
    intro z hz
    rw [(List.mem_replicate.1 hz).2]; unfold I32; decide
  · unfold dataRow data0
    simp [List.getD, hi]
    omega
end
end Go.Proofs.Ytnfneinonkpmeaa
namespace Go.Proofs.Ytnfneinonkpmeaa
def regX (r n : Int) : Prop := r = -1 ∨ (0 ≤ r ∧ r < n)
/-- What may stand at a place of the code. -/
structure VX (p : VProg) (n : Int) (code : List Vins) (k : Nat) (x : Vins) : Prop where
  op : (2 ≤ x.op ∧ x.op ≤ 23) ∨ (40 ≤ x.op ∧ x.op ≤ 53)
  d : regX x.d n
  a : regX x.a n
  b : regX x.b n
  num : I32 x.num
  glob : 42 ≤ x.op → x.op ≤ 45 → (globAt p.globals x.name).toNat < p.globals.length
  call : x.op = 46 → ∃ (j : Nat) (h : j < p.fns.length), vfnAt p.fns x.name = j ∧ p.fns[j].params = x.args.length
  args : ∀ r ∈ x.args, 0 ≤ r ∧ r < n
  nargs : x.args.length ≤ 8
  next : x.op ≠ 49 → x.op ≠ 51 → k + 1 < code.length
  jump : 51 ≤ x.op → ∃ j : Nat, j < code.length ∧ code.findIdx? (isLabel x.num) = some j
structure VFnX (p : VProg) (v : VFn) : Prop where
  params : 0 ≤ v.params ∧ v.params ≤ 8
  regs : v.params ≤ v.regs ∧ v.regs ≤ 4096
  some : 0 < v.code.length
  len : v.code.length ≤ 140737488
  code : ∀ k (h : k < v.code.length), VX p v.regs v.code k v.code[k]
structure VPX (p : VProg) : Prop where
  fns : ∀ v ∈ p.fns, VFnX p v
end Go.Proofs.Ytnfneinonkpmeaa
namespace Go.Proofs.Ytnfneinonkpmeaa

/-- An instruction of picked code that may be. -/
inductive VOk (n : Int) : Vins → Prop
  | imm (op d a z : Int) (ho : 2 ≤ op ∧ op ≤ 10) (hd : regB d n false = true) (ha : regB a n true = true) (hz : (op < 8 ∧ -2048 ≤ z ∧ z ≤ 2047) ∨ (8 ≤ op ∧ 0 ≤ z ∧ z ≤ 31)) : VOk n ⟨op, d, a, -1, z, ⟨#[]⟩, []⟩
  | three (op d a b : Int) (ho : 11 ≤ op ∧ op ≤ 23) (hd : regB d n false = true) (ha : regB a n true = true) (hb : regB b n true = true) : VOk n ⟨op, d, a, b, 0, ⟨#[]⟩, []⟩
  | li (d z : Int) (hd : regB d n false = true) (hz : I32 z) : VOk n ⟨40, d, -1, -1, z, ⟨#[]⟩, []⟩
  | mv (d a : Int) (hd : regB d n false = true) (ha : regB a n false = true) : VOk n ⟨41, d, a, -1, 0, ⟨#[]⟩, []⟩
  | get (d : Int) (name : ByteArray) (hd : regB d n false = true) (hn : isName name = true) : VOk n ⟨42, d, -1, -1, 0, name, []⟩
  | set (b : Int) (name : ByteArray) (hb : regB b n false = true) (hn : isName name = true) : VOk n ⟨43, -1, -1, b, 0, name, []⟩
  | idx (d a : Int) (name : ByteArray) (hd : regB d n false = true) (ha : regB a n false = true) (hn : isName name = true) : VOk n ⟨44, d, a, -1, 0, name, []⟩
  | put (a b : Int) (name : ByteArray) (ha : regB a n false = true) (hb : regB b n false = true) (hn : isName name = true) : VOk n ⟨45, -1, a, b, 0, name, []⟩
  | call (d : Int) (name : ByteArray) (args : List Int) (hd : regB d n true = true) (hn : isName name = true) (hl : args.length ≤ 8) (ha : ∀ r ∈ args, regB r n false = true) : VOk n ⟨46, d, -1, -1, 0, name, args⟩
  | read (d : Int) (hd : regB d n false = true) : VOk n ⟨47, d, -1, -1, 0, ⟨#[]⟩, []⟩
  | print (a : Int) (ha : regB a n false = true) : VOk n ⟨48, -1, a, -1, 0, ⟨#[]⟩, []⟩
  | ret (a : Int) (ha : regB a n false = true) : VOk n ⟨49, -1, a, -1, 0, ⟨#[]⟩, []⟩
  | label (z : Int) (hz : 0 ≤ z ∧ I32 z) : VOk n ⟨50, -1, -1, -1, z, ⟨#[]⟩, []⟩
  | jump (z : Int) (hz : 0 ≤ z ∧ I32 z) : VOk n ⟨51, -1, -1, -1, z, ⟨#[]⟩, []⟩
  | bnez (a z : Int) (ha : regB a n false = true) (hz : 0 ≤ z ∧ I32 z) : VOk n ⟨52, -1, a, -1, z, ⟨#[]⟩, []⟩
  | beqz (a z : Int) (ha : regB a n false = true) (hz : 0 ≤ z ∧ I32 z) : VOk n ⟨53, -1, a, -1, z, ⟨#[]⟩, []⟩
theorem regB_weak {r n : Int} (h : regB r n false = true) : regB r n true = true := by
  unfold regB at h ⊢
  simp only [Bool.false_and, Bool.or_false] at h
  simp [h]
theorem regB_m1 (n : Int) : regB (-1) n true = true := by unfold regB; simp
theorem regX_of {r n : Int} {q : Bool} (h : regB r n q = true) : regX r n := by
  unfold regB at h
  unfold regX
  simp only [Bool.or_eq_true, Bool.and_eq_true, decide_eq_true_eq] at h
  rcases h with h | h
  · exact .inr h
  · exact .inl h.2
theorem wrap_small (y : Int) (h5 : 0 ≤ y) (h6 : y < 32) : IntKind.wrap .i32 y = y := by
  have h7 : (2 : Int) ^ IntKind.bits .i32 = 4294967296 := by decide
  have h8 : (2 : Int) ^ (IntKind.bits .i32 - 1) = 2147483648 := by decide
  unfold IntKind.wrap
  rw [h7, h8]
  have h9 : y % 4294967296 = y := Int.emod_eq_of_lt h5 (by omega)
  rw [h9]
  have h10 : decide (y ≥ 2147483648) = false := decide_eq_false (by omega)
  simp [h10]
theorem low5_in (n : Int) : 0 ≤ low5 n ∧ low5 n ≤ 31 := by
  unfold low5
  have h2 : (BitVec.ofInt 32 n &&& BitVec.ofInt 32 31).toNat = (BitVec.ofInt 32 n).toNat % 32 := by
    rw [BitVec.toNat_and, show (BitVec.ofInt 32 31).toNat = 2 ^ 5 - 1 from by decide, Nat.and_two_pow_sub_one_eq_mod]
  show 0 ≤ IntKind.wrap .i32 _ ∧ IntKind.wrap .i32 _ ≤ 31
  rw [show IntKind.bits .i32 = 32 from rfl, h2, wrap_small _ (by omega) (by omega)]
  omega
theorem short_ok {n op d a z : Int} {y : Vins} (hd : regB d n false = true) (ha : regB a n false = true) (h : shortS op d a z = some y) : VOk n y := by
  have hf : ∀ k, fits12 k = true → -2048 ≤ k ∧ k ≤ 2047 := fun k hk => by unfold fits12 at hk; simp at hk; omega
  have hw := regB_weak ha
  have hm := regB_m1 n
  have h5 := low5_in z
  have I := fun (c : Prop) [Decidable c] (u : Vins) (h : (if c then some u else none) = some y) => show c ∧ y = u from by
    by_cases hc : c
    · rw [if_pos hc] at h; injection h with h; exact ⟨hc, h.symm⟩
    · rw [if_neg hc] at h; cases h
  have M := fun (k u : Int) (hk : 2 ≤ k ∧ k < 8) (hu : fits12 u = true) => show VOk n (withS k d a u) from .imm k d a u (by omega) hd hw (.inl ⟨hk.2, hf u hu⟩)
  unfold shortS at h
  by_cases h6 : op = 6
  · rw [if_pos h6] at h; injection h with h; subst h; exact .imm _ _ _ _ (by decide) hd hw (.inr ⟨by decide, h5⟩)
  rw [if_neg h6] at h
  by_cases h7 : op = 7
  · rw [if_pos h7] at h; injection h with h; subst h; exact .imm _ _ _ _ (by decide) hd hw (.inr ⟨by decide, h5⟩)
  rw [if_neg h7] at h
  by_cases h15 : op = 15
  · rw [if_pos h15] at h; rw [(I _ _ h).2]; exact .imm _ _ _ _ (by decide) hd hw (.inl ⟨by decide, by decide, by decide⟩)
  rw [if_neg h15] at h
  by_cases h16 : op = 16
  · rw [if_pos h16] at h; rw [(I _ _ h).2]; exact .three _ _ _ _ (by decide) hd hm hw
  rw [if_neg h16] at h
  by_cases h1 : op = 1
  · rw [if_pos h1] at h; rw [(I _ _ h).2]; exact M _ _ (by decide) (I _ _ h).1
  rw [if_neg h1] at h
  by_cases h2 : op = 2
  · rw [if_pos h2] at h; rw [(I _ _ h).2]; exact M _ _ (by decide) (I _ _ h).1
  rw [if_neg h2] at h
  by_cases h8 : op = 8
  · rw [if_pos h8] at h; rw [(I _ _ h).2]; exact M _ _ (by decide) (I _ _ h).1
  rw [if_neg h8] at h
  by_cases h9 : op = 9
  · rw [if_pos h9] at h; rw [(I _ _ h).2]; exact M _ _ (by decide) (I _ _ h).1
  rw [if_neg h9] at h
  by_cases h10 : op = 10
  · rw [if_pos h10] at h; rw [(I _ _ h).2]; exact M _ _ (by decide) (I _ _ h).1
  rw [if_neg h10] at h
  by_cases h11 : op = 11
  · rw [if_pos h11] at h; rw [(I _ _ h).2]; exact M _ _ (by decide) (I _ _ h).1
  rw [if_neg h11] at h
  cases h
theorem plain_in {op : Int} (h : 1 ≤ op ∧ op ≤ 11) : 11 ≤ plainS op ∧ plainS op ≤ 23 := by
  have : op = 1 ∨ op = 2 ∨ op = 3 ∨ op = 4 ∨ op = 5 ∨ op = 6 ∨ op = 7 ∨ op = 8 ∨ op = 9 ∨ op = 10 ∨ op = 11 := by omega
  rcases this with rfl | rfl | rfl | rfl | rfl | rfl | rfl | rfl | rfl | rfl | rfl <;> decide
theorem rest_ok {n op d a b : Int} (ho : 1 ≤ op ∧ op ≤ 16) (hd : regB d n false = true) (ha : regB a n false = true) (hb : regB b n false = true) : ∀ y ∈ binRest op d a b, VOk n y := by
  have hwa := regB_weak ha
  have hwb := regB_weak hb
  have hwd := regB_weak hd
  have hm := regB_m1 n
  intro y hy
  unfold binRest threeS withS at hy
  repeat' split at hy
  all_goals simp only [List.mem_cons, List.not_mem_nil, or_false] at hy
  · subst hy; exact .three _ _ _ _ (by decide) hd hwb hwa
  · rcases hy with rfl | rfl
    · exact .three _ _ _ _ (by decide) hd hwb hwa
    · exact .imm _ _ _ _ (by decide) hd hwd (.inl ⟨by decide, by decide, by decide⟩)
  · rcases hy with rfl | rfl
    · exact .three _ _ _ _ (by decide) hd hwa hwb
    · exact .imm _ _ _ _ (by decide) hd hwd (.inl ⟨by decide, by decide, by decide⟩)
  · rcases hy with rfl | rfl
    · exact .three _ _ _ _ (by decide) hd hwa hwb
    · exact .imm _ _ _ _ (by decide) hd hwd (.inl ⟨by decide, by decide, by decide⟩)
  · rcases hy with rfl | rfl
    · exact .three _ _ _ _ (by decide) hd hwa hwb
    · exact .three _ _ _ _ (by decide) hd hm hwd
  · subst hy; exact .three _ _ _ _ (plain_in (by omega)) hd hwa hwb
theorem first_ok {n : Int} {o : Option Vins} {l : List Vins} (h : ∀ y, o = some y → VOk n y) (k : ∀ y ∈ l, VOk n y) : ∀ y ∈ firstOf o l, VOk n y := by
  intro y hy
  cases o with
  | none => exact k y hy
  | some z => rw [List.mem_singleton.1 hy]; exact h z rfl
theorem insS_ok {n : Int} (K : Int → Option Int) {x : Ins} (h : InsV n x) (hz : I32 x.num) : ∀ y ∈ insS K x, VOk n y := by
  intro y hy
  unfold insS at hy
  cases h with
  | num d z hd => simp at hy; subst hy; exact .li d z hd hz
  | copy d a hd ha => simp at hy; subst hy; exact .mv d a hd ha
  | un op d a ho hd ha =>
    have hm := regB_m1 n
    have hw := regB_weak ha
    simp only [Int.reduceEq, if_false, if_true, List.mem_singleton] at hy
    subst hy
    (repeat' split) <;> first
      | exact .three _ _ _ _ (by decide) hd hm hw
      | exact .imm _ _ _ _ (by decide) hd hw (.inl ⟨by decide, by decide, by decide⟩)
  | bin op d a b ho hd ha hb =>
    simp only [Int.reduceEq, if_false, if_true] at hy
    unfold binS at hy
    refine first_ok (fun y hy => ?_) (first_ok (fun y hy => ?_) (rest_ok ho hd ha hb)) y hy
    · cases hk : K b with
      | none => rw [hk] at hy; cases hy
      | some z => rw [hk] at hy; exact short_ok hd ha hy
    · cases hk : (if turnsS op = true then K a else none) with
      | none => rw [hk] at hy; cases hy
      | some z => rw [hk] at hy; exact short_ok hd hb hy
  | load d a name hd ha hn =>
    simp at hy
    by_cases e : a = -1
    · subst e; simp at hy; subst hy; exact .get d name hd hn
    · rw [if_neg e] at hy; subst hy
      refine .idx d a name hd ?_ hn
      unfold regB at ha ⊢; simp [e] at ha; simp [ha]
  | store a b name ha hb hn =>
    simp at hy
    by_cases e : a = -1
    · subst e; simp at hy; subst hy; exact .set b name hb hn
    · rw [if_neg e] at hy; subst hy
      refine .put a b name ?_ hb hn
      unfold regB at ha ⊢; simp [e] at ha; simp [ha]
  | call d name args hd hn hl ha => simp at hy; subst hy; exact .call d name args hd hn hl ha
  | read d hd => simp at hy; subst hy; exact .read d hd
  | print a ha => simp at hy; subst hy; exact .print a ha
theorem endS_ok {nb n next : Int} {b : Blk} (h : BlkV nb n b) (hb : I32 b.to ∧ I32 b.els) : ∀ y ∈ endS b next, VOk n y ∧ (y.op = 51 ∨ y.op = 52 ∨ y.op = 53 → 0 ≤ y.num ∧ y.num < nb) := by
  intro y hy
  unfold endS jumpS threeS at hy
  cases h with
  | jump ins «to» hi ht =>
    dsimp only at hy hb
    rw [if_pos rfl] at hy
    by_cases e : «to» = next
    · rw [if_pos e] at hy; cases hy
    · rw [if_neg e] at hy
      rw [List.mem_singleton.1 hy]; exact ⟨.jump _ ⟨ht.1, hb.1⟩, fun _ => ht⟩
  | branch ins a «to» els hi ha ht he =>
    dsimp only at hy hb
    rw [if_neg (by decide), if_pos rfl] at hy
    by_cases e : «to» = next
    · rw [if_pos e] at hy
      rw [List.mem_singleton.1 hy]; exact ⟨.beqz _ _ ha ⟨he.1, hb.2⟩, fun _ => he⟩
    · rw [if_neg e] at hy
      rcases List.mem_cons.1 hy with rfl | hy
      · exact ⟨.bnez _ _ ha ⟨ht.1, hb.1⟩, fun _ => ht⟩
      · by_cases e2 : els = next
        · rw [if_pos e2] at hy; cases hy
        · rw [if_neg e2] at hy
          rw [List.mem_singleton.1 hy]; exact ⟨.jump _ ⟨he.1, hb.2⟩, fun _ => he⟩
  | leave ins a hi ha =>
    dsimp only at hy
    rw [if_neg (by decide), if_neg (by decide)] at hy
    rw [List.mem_singleton.1 hy]
    exact ⟨.ret _ ha, fun h => by dsimp only at h; omega⟩
/-- Where an instruction of picked code comes from. -/
theorem insL_from : ∀ (K : Int → Option Int) (xs : List Ins), ∀ y ∈ insL K xs, ∃ (K' : Int → Option Int) (x : Ins), x ∈ xs ∧ y ∈ insS K' x
  | _, [] => fun y hy => by cases hy
  | K, x :: xs => fun y hy => by
    rcases List.mem_append.1 hy with hy | hy
    · exact ⟨K, x, by simp, hy⟩
    · obtain ⟨K', x', h1, h2⟩ := insL_from _ xs y hy
      exact ⟨K', x', by simp [h1], h2⟩
theorem code_from : ∀ (i : Nat) (bs : List Blk), ∀ y ∈ codeFrom i bs, (∃ j : Nat, j < i + bs.length ∧ y = labelS j) ∨ (∃ (b : Blk) (K : Int → Option Int) (x : Ins), b ∈ bs ∧ x ∈ b.ins ∧ y ∈ insS K x) ∨ (∃ (b : Blk) (k : Int), b ∈ bs ∧ y ∈ endS b k)
  | _, [] => fun y hy => by cases hy
  | i, b :: bs => fun y hy => by
    rcases List.mem_append.1 hy with hy | hy
    · rcases List.mem_cons.1 hy with rfl | hy
      · exact .inl ⟨i, by simp, rfl⟩
      · rcases List.mem_append.1 hy with hy | hy
        · obtain ⟨K', x, h1, h2⟩ := insL_from _ _ y hy
          exact .inr (.inl ⟨b, K', x, by simp, h1, h2⟩)
        · exact .inr (.inr ⟨b, _, by simp, hy⟩)
    · rcases code_from (i + 1) bs y hy with ⟨j, h1, h2⟩ | ⟨b', K, x, h1, h2, h3⟩ | ⟨b', k, h1, h2⟩
      · exact .inl ⟨j, by simp only [List.length_cons]; omega, h2⟩
      · exact .inr (.inl ⟨b', K, x, by simp [h1], h2, h3⟩)
      · exact .inr (.inr ⟨b', k, by simp [h1], h2⟩)
/-- Where the labels are. -/
theorem label_at {n : Int} : ∀ (i : Nat) (bs : List Blk) (_ : ∀ b ∈ bs, ∀ x ∈ b.ins, InsV n x) (k : Nat) (y : Vins), (codeFrom i bs)[k]? = some y → y.op = 50 → ∃ j : Nat, j < bs.length ∧ k = (codeFrom i (bs.take j)).length ∧ y.num = ((i + j : Nat) : Int)
  | _, [], _, k, y, hk, _ => by simp [codeFrom] at hk
  | i, b :: bs, hv, k, y, hk, ho => by
    by_cases hl : k < (blkS i b).length
    · rw [show codeFrom i (b :: bs) = blkS i b ++ codeFrom (i + 1) bs from rfl, List.getElem?_append_left hl] at hk
      cases k with
      | zero =>
        have : y = labelS i := by unfold blkS at hk; simpa using hk.symm
        exact ⟨0, by simp, by simp [codeFrom], by rw [this]; simp [labelS]⟩
      | succ k =>
        exfalso
        have hm : y ∈ insL K0 b.ins ++ endS b ((i : Int) + 1) := by
          unfold blkS at hk
          rw [List.getElem?_cons_succ] at hk
          exact List.mem_of_getElem? hk
        rcases List.mem_append.1 hm with hm | hm
        · exact insL_op n _ _ (hv b (by simp)) y hm ho
        · exact endS_op _ _ y hm ho
    · rw [show codeFrom i (b :: bs) = blkS i b ++ codeFrom (i + 1) bs from rfl, List.getElem?_append_right (by omega)] at hk
      obtain ⟨j, h1, h2, h3⟩ := label_at (i + 1) bs (fun z hz => hv z (by simp [hz])) _ y hk ho
      refine ⟨j + 1, by simpa using h1, ?_, by rw [h3]; congr 1; omega⟩
      rw [List.take_succ_cons, show codeFrom i (b :: bs.take j) = blkS i b ++ codeFrom (i + 1) (bs.take j) from rfl, List.length_append]
      omega
theorem code_find {n : Int} {bs : List Blk} (hv : ∀ b ∈ bs, ∀ x ∈ b.ins, InsV n x) {k : Nat} (h : k < bs.length) : (codeS bs).findIdx? (isLabel k) = some (offB bs k) := by
  rw [code_split bs k h, findV_at (p := isLabel k) (y := labelS k) ?_ ?_]
  · rfl
  · intro x hx
    unfold isLabel
    by_cases e : x.op = 50
    · obtain ⟨j, _, h2, h3⟩ := code_labels n 0 _ (fun b hb => hv b (List.mem_of_mem_take hb)) x hx e
      have : j < k := by rw [List.length_take] at h2; omega
      simp [e, h3]; omega
    · simp [e]
  · simp [isLabel, labelS]
theorem offB_lt {bs : List Blk} {k : Nat} (h : k < bs.length) : offB bs k < (codeS bs).length := by
  rw [code_split bs k h]; unfold offB; simp
/-- The code's last instruction. -/
theorem code_last {n : Int} {bs : List Blk} (h0 : 0 < bs.length) (hb : ∀ b ∈ bs, BlkV bs.length n b) : ∃ y, (codeS bs)[(codeS bs).length - 1]? = some y ∧ (y.op = 49 ∨ y.op = 51) ∧ 0 < (codeS bs).length := by
  obtain ⟨k, hk⟩ : ∃ k, bs.length = k + 1 := ⟨bs.length - 1, by omega⟩
  have hkl : k < bs.length := by omega
  have hB := hb _ (List.getElem_mem hkl)
  have he : ∃ l y, endS bs[k] ((k : Int) + 1) = l ++ [y] ∧ (y.op = 49 ∨ y.op = 51) := by
    unfold endS
    generalize bs[k] = b at hB
    cases hB with
    | jump ins «to» hi ht =>
      refine ⟨[], jumpS «to», ?_, .inr rfl⟩
      rw [if_pos rfl, if_neg (by dsimp only; omega)]; rfl
    | branch ins a «to» els hi ha ht he =>
      refine ⟨[⟨52, -1, a, -1, «to», ⟨#[]⟩, []⟩], jumpS els, ?_, .inr rfl⟩
      rw [if_neg (by simp), if_pos rfl, if_neg (by dsimp only; omega), if_neg (by dsimp only; omega)]; rfl
    | leave ins a hi ha =>
      refine ⟨[], threeS 49 (-1) a (-1), ?_, .inl rfl⟩
      rw [if_neg (by simp), if_neg (by simp)]; rfl
  obtain ⟨l, y, h1, h2⟩ := he
  have hc : codeS bs = (codeFrom 0 (bs.take k) ++ (labelS k :: (insL K0 bs[k].ins ++ l))) ++ [y] := by
    rw [code_split bs k hkl, h1, List.drop_of_length_le (by omega)]
    simp [codeFrom]
  obtain ⟨P, hP⟩ : ∃ P, codeS bs = P ++ [y] := ⟨_, hc⟩
  rw [hP]
  exact ⟨y, by simp, h2, by simp⟩
end Go.Proofs.Ytnfneinonkpmeaa
