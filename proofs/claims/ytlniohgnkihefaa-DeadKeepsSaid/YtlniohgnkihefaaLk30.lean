/- A program without what nobody asks for runs as before, step for step or faster; plain. First: what a step keeps. -/
import Derived.Test.YtlniohgnkihefaaLk29
import Derived.Test.YtlniohgnkihefaaLk9
namespace Go.Proofs.Ytlniohgnkihefaa

/-- Which of the instructions stay: G k: what is of use ahead of the k-th. -/
inductive InsSim (G : Nat → Nat → Prop) : Nat → List Ins → List Ins → Prop
  | nil (k : Nat) : InsSim G k [] []
  | keep (k : Nat) (x : Ins) (xs ys : List Ins) (ask : ∀ n, askP x n = true → G k n) (pass : ∀ n, G (k + 1) n → (x.d < 0 ∨ n ≠ x.d.toNat) → G k n) (h : InsSim G (k + 1) xs ys) : InsSim G k (x :: xs) (x :: ys)
  | cut (k : Nat) (x : Ins) (xs ys : List Ins) (hk : x.kind = 7) (hd : 0 ≤ x.d) (hg : ¬ G (k + 1) x.d.toNat) (ask : ∀ n, askP x n = true → G k n) (pass : ∀ n, G (k + 1) n → G k n) (h : InsSim G (k + 1) xs ys) : InsSim G k (x :: xs) ({ x with d := -1 } :: ys)
  | drop (k : Nat) (x : Ins) (xs ys : List Ins) (hp : pureP x = true) (hg : ¬ G (k + 1) x.d.toNat ∨ (x.kind = 2 ∧ x.a = x.d)) (pass : ∀ n, G (k + 1) n → G k n) (h : InsSim G (k + 1) xs ys) : InsSim G k (x :: xs) ys
structure BlkSim (G : Nat → Nat → Prop) (b b' : Blk) : Prop where
  kind : b'.kind = b.kind
  a : b'.a = b.a
  to_ : b'.to = b.to
  els : b'.els = b.els
  ins : InsSim G 0 b.ins b'.ins
structure SimF (G : Nat → Nat → Nat → Prop) (f f' : Fn) : Prop where
  name : f'.name = f.name
  params : f'.params = f.params
  regs : f'.regs = f.regs
  nb : f'.blocks.length = f.blocks.length
  blk : ∀ i, i < f.blocks.length → BlkSim (G i) (f.blocks.getD i noBlk) (f'.blocks.getD i noBlk)
  fin : ∀ i, i < f.blocks.length → (f.blocks.getD i noBlk).kind ≠ 1 → 0 ≤ (f.blocks.getD i noBlk).a → (f.blocks.getD i noBlk).a < 65536 → G i (f.blocks.getD i noBlk).ins.length (f.blocks.getD i noBlk).a.toNat
  succ : ∀ i, i < f.blocks.length → ∀ t ∈ nextP (f.blocks.getD i noBlk), ∀ n, G t.toNat 0 n → G i (f.blocks.getD i noBlk).ins.length n
structure SimM (m m' : Mid) : Prop where
  globals : m'.globals = m.globals
  nf : m'.fns.length = m.fns.length
  fns : ∀ i (h : i < m.fns.length) (h' : i < m'.fns.length), ∃ G, SimF G m.fns[i] m'.fns[i]
theorem fnAt_names {fs fs' : List Fn} (h : fs'.map Fn.name = fs.map Fn.name) (nm : ByteArray) : fnAt fs' nm = fnAt fs nm := by
  have e : ∀ l : List Fn, fnAt l nm = match (l.map Fn.name).findIdx? (fun n => n.toList == nm.toList) with | some i => (i : Int) | none => -1 := fun l => by
    unfold fnAt
    rw [List.findIdx?_map]
    rfl
  rw [e, e, h]
theorem SimM.names {m m' : Mid} (h : SimM m m') : m'.fns.map Fn.name = m.fns.map Fn.name := by
  apply List.ext_getElem (by simp [h.nf])
  intro i h1 h2
  simp only [List.length_map] at h1 h2
  obtain ⟨G, hG⟩ := h.fns i h2 h1
  simp [hG.name]
theorem SimM.at_ {m m' : Mid} (h : SimM m m') (nm : ByteArray) : fnAt m'.fns nm = fnAt m.fns nm := fnAt_names h.names nm
def Agree (S : Nat → Prop) (l l' : List Int) : Prop := ∀ n, S n → l.getD n 0 = l'.getD n 0
/-- A frame beside the other one. -/
structure FrS (m : Mid) (G : Nat → Nat → Nat → Prop) (fr fr' : Fr) : Prop where
  mem : fr.fn ∈ m.fns
  sim : SimF G fr.fn fr'.fn
  at_ : fr'.at_ = fr.at_
  atl : fr.at_ < fr.fn.blocks.length
  il : fr.i ≤ fr.blk.ins.length
  ins : InsSim (G fr.at_) fr.i (fr.blk.ins.drop fr.i) (fr'.blk.ins.drop fr'.i)
  len : fr'.regs.length = fr.regs.length
  rl : (fr.regs.length : Int) = fr.fn.regs
/-- The callers; d, d': where the value goes. -/
inductive StSim (m : Mid) : Int → Int → List Fr → List Fr → Prop
  | nil (d d' : Int) : StSim m d d' [] []
  | same (d : Int) (G : Nat → Nat → Nat → Prop) (fr fr' : Fr) (K K' : List Fr) (h : FrS m G fr fr') (ha : Agree (fun n => G fr.at_ fr.i n ∧ (d < 0 ∨ n ≠ d.toNat)) fr.regs fr'.regs) (k : StSim m fr.dst fr'.dst K K') : StSim m d d (fr :: K) (fr' :: K')
  | less (d : Int) (G : Nat → Nat → Nat → Prop) (fr fr' : Fr) (K K' : List Fr) (hd : 0 ≤ d) (h : FrS m G fr fr') (hn : ¬ G fr.at_ fr.i d.toNat) (ha : Agree (G fr.at_ fr.i) fr.regs fr'.regs) (k : StSim m fr.dst fr'.dst K K') : StSim m d (-1) (fr :: K) (fr' :: K')
theorem StSim.len {m : Mid} {d d' : Int} {K K' : List Fr} (h : StSim m d d' K K') : K'.length = K.length := by
  induction h with
  | nil => rfl
  | same _ _ _ _ _ _ _ _ _ ih => simp [ih]
  | less _ _ _ _ _ _ _ _ _ _ _ ih => simp [ih]
structure MsSim (m : Mid) (s s' : MS) : Prop where
  data : s'.data = s.data
  fin : s'.fin = s.fin
  value : s'.value = s.value
  trace : s'.trace = s.trace
  reads : s'.reads = s.reads
  steps : s'.steps ≤ s.steps
  nd : s.data.length = m.globals.length
  rows : ∀ i, i < m.globals.length → 0 < (dataRow s i).length
theorem MsSim.row {m : Mid} {s s' : MS} (h : MsSim m s s') (i : Nat) : dataRow s' i = dataRow s i := by unfold dataRow; rw [h.data]
theorem MsSim.step {m : Mid} {s s' : MS} (h : MsSim m s s') : MsSim m s.step s'.step := ⟨h.data, h.fin, h.value, h.trace, h.reads, Nat.succ_le_succ h.steps, h.nd, h.rows⟩
theorem MsSim.step1 {m : Mid} {s s' : MS} (h : MsSim m s s') : MsSim m s.step s' := ⟨h.data, h.fin, h.value, h.trace, h.reads, Nat.le_succ_of_le h.steps, h.nd, h.rows⟩
/-- The two runs stand at one place. -/
def CSim (m : Mid) (c c' : Cfg) : Prop := ∃ s fr K s' fr' K' G, c = (s, fr :: K) ∧ c' = (s', fr' :: K') ∧ s.fin = 0 ∧ MsSim m s s' ∧ FrS m G fr fr' ∧ Agree (G fr.at_ fr.i) fr.regs fr'.regs ∧ StSim m fr.dst fr'.dst K K'
def EndEq (s s' : MS) : Prop := s.fin ≠ 0 ∧ s'.fin = s.fin ∧ s'.value = s.value ∧ s'.trace = s.trace ∧ s'.reads = s.reads ∧ s'.steps ≤ s.steps
def Out (m : Mid) (c c' : Cfg) : Prop := CSim m c c' ∨ EndEq c.1 c'.1
theorem MsSim.ended {m : Mid} {s s' : MS} (h : MsSim m s s') {k : Int} (hk : k ≠ 0) : EndEq (s.ended k) (s'.ended k) := ⟨hk, rfl, h.value, h.trace, h.reads, h.steps⟩
theorem agree_set {S : Nat → Prop} {l l' : List Int} (hl : l'.length = l.length) (d : Nat) (v : Int) (h : Agree (fun n => S n ∧ n ≠ d) l l') : Agree S (l.set d v) (l'.set d v) := by
  intro n hn
  by_cases e : n = d
  · subst e
    by_cases hd : n < l.length
    · simp [List.getD, hd, hl]
    · rw [List.set_eq_of_length_le (by omega), List.set_eq_of_length_le (by omega)]
      simp [List.getD, List.getElem?_eq_none (show l.length ≤ n by omega), List.getElem?_eq_none (show l'.length ≤ n by omega)]
  · have := h n ⟨hn, e⟩
    simpa [List.getD, List.getElem?_set_ne (Ne.symm e)] using this
theorem Agree.mono {S T : Nat → Prop} {l l' : List Int} (h : Agree S l l') (hT : ∀ n, T n → S n) : Agree T l l' := fun n hn => h n (hT n hn)
theorem FrS.put {m : Mid} {G : Nat → Nat → Nat → Prop} {fr fr' : Fr} (h : FrS m G fr fr') (d v : Int) : FrS m G (fr.put d v) (fr'.put d v) :=
  ⟨h.mem, h.sim, h.at_, h.atl, h.il, h.ins, by simp only [Fr.put, setR, List.length_set]; exact h.len, by simp only [Fr.put, setR, List.length_set]; exact h.rl⟩
theorem askA {x : Ins} {r : Int} (h0 : 0 ≤ r) (h1 : r < 65536) (h : r = x.a ∨ r = x.b ∨ r ∈ x.args) : askP x r.toNat = true := by
  have hi : inR r = true := by unfold inR; simp [h0, h1]
  unfold askP
  rcases h with rfl | rfl | h
  · simp [hi]
  · simp [hi]
  · have : ofSet x.args r.toNat = true := by
      unfold ofSet
      rw [List.any_eq_true]
      exact ⟨r, h, by simp [hi]⟩
    rw [this]; simp
/-- An instruction that both have. -/
structure KeepIn (m m' : Mid) (G : Nat → Nat → Nat → Prop) (x : Ins) (s s' : MS) (fr fr' : Fr) (K K' : List Fr) : Prop where
  may : MayV m
  simM : SimM m m'
  fin : s.fin = 0
  ms : MsSim m s s'
  frs : FrS m G fr fr'
  ask : Agree (fun n => askP x n = true) fr.regs fr'.regs
  pass : Agree (fun n => G fr.at_ fr.i n ∧ (x.d < 0 ∨ n ≠ x.d.toNat)) fr.regs fr'.regs
  st : StSim m fr.dst fr'.dst K K'
  v : InsV fr.fn.regs x
  vm : InsM m x
section
variable {m m' : Mid} {inp : List Int} {G : Nat → Nat → Nat → Prop} {x : Ins} {s s' : MS} {fr fr' : Fr} {K K' : List Fr}
theorem FrS.regs_le (hm : MayV m) (h : FrS m G fr fr') : fr.fn.regs ≤ 4096 := by
  obtain ⟨i, hi, e⟩ := List.getElem_of_mem h.mem
  rw [← e]; exact (hm.fns i hi).fn.regs.2
theorem KeepIn.reg (h : KeepIn m m' G x s s' fr fr' K K') {r : Int} (hr : regB r fr.fn.regs false = true) (hx : r = x.a ∨ r = x.b ∨ r ∈ x.args) : getR fr'.regs r = getR fr.regs r := by
  obtain ⟨h0, h1⟩ := regB_in hr
  have h2 := h.frs.regs_le h.may
  unfold getR
  exact (h.ask r.toNat (askA h0 (by omega) hx)).symm
theorem KeepIn.out_put (h : KeepIn m m' G x s s' fr fr' K K') (_ : 0 ≤ x.d) {t t' : MS} (hf : t.fin = 0) (ht : MsSim m t t') (v : Int) : Out m (t, fr.put x.d v :: K) (t', fr'.put x.d v :: K') :=
  .inl ⟨t, _, K, t', _, K', G, rfl, rfl, hf, ht, h.frs.put x.d v, by
    simp only [Fr.put, setR]
    exact agree_set h.frs.len x.d.toNat v (h.pass.mono fun n hn => ⟨hn.1, .inr hn.2⟩), h.st⟩
theorem KeepIn.out_same (h : KeepIn m m' G x s s' fr fr' K K') (hd : x.d < 0) {t t' : MS} (hf : t.fin = 0) (ht : MsSim m t t') : Out m (t, fr :: K) (t', fr' :: K') :=
  .inl ⟨t, _, K, t', _, K', G, rfl, rfl, hf, ht, h.frs, h.pass.mono fun _ hn => ⟨hn, .inl hd⟩, h.st⟩
theorem globAt_eq (h : SimM m m') (x : Ins) : idxG m' x = idxG m x := by unfold idxG; rw [h.globals]
theorem dataRow_set (s : MS) (g : Nat) (l : List Int) (i : Nat) : dataRow { s with data := s.data.set g l } i = if i = g ∧ g < s.data.length then l else dataRow s i := by
  unfold dataRow
  by_cases e : i = g
  · subst e
    by_cases hg : i < s.data.length
    · simp [List.getD, hg]
    · rw [List.set_eq_of_length_le (by omega)]; simp [hg]
  · simp [List.getD, List.getElem?_set_ne (Ne.symm e), e]
theorem entry_sim {f f' : Fn} (hf : f ∈ m.fns) (hs : SimF G f f') (hb : 0 < f.blocks.length) (hr : 0 ≤ f.regs) (vals : List Int) (hv : (vals.length : Int) ≤ f.regs) (d d' : Int) : FrS m G (entry f vals d) (entry f' vals d') ∧ (entry f' vals d').regs = (entry f vals d).regs := by
  have e : newRegs f' vals = newRegs f vals := by unfold newRegs; rw [hs.regs]
  refine ⟨⟨hf, hs, rfl, hb, Nat.zero_le _, ?_, ?_, ?_⟩, e⟩
  · exact (hs.blk 0 hb).ins
  · show (newRegs f' vals).length = (newRegs f vals).length; rw [e]
  · show ((newRegs f vals).length : Int) = f.regs
    unfold newRegs
    simp; omega
theorem SimM.named (h : SimM m m') {name : ByteArray} {k : Nat} (hk : k < m.fns.length) (hn : fnAt m.fns name = k) : ∃ G, SimF G (fnNamed m name) (fnNamed m' name) ∧ fnNamed m name ∈ m.fns ∧ fnNamed m name = m.fns[k] := by
  have hk' : k < m'.fns.length := by rw [h.nf]; exact hk
  obtain ⟨G, hG⟩ := h.fns k hk hk'
  have e1 := Proofs.Ytlniohgnkihefaa.named hk hn rfl
  have e2 := Proofs.Ytlniohgnkihefaa.named hk' (by rw [h.at_]; exact hn) rfl
  exact ⟨G, by rw [e1, e2]; exact hG, by rw [e1]; exact List.getElem_mem hk, e1⟩
end
end Go.Proofs.Ytlniohgnkihefaa
namespace Go.Proofs.Ytlniohgnkihefaa
section
variable {m m' : Mid} {inp : List Int} {G : Nat → Nat → Nat → Prop} {x : Ins} {s s' : MS} {fr fr' : Fr} {K K' : List Fr}
theorem KeepIn.out_end (h : KeepIn m m' G x s s' fr fr' K K') {k : Int} (hk : k ≠ 0) : Out m (s.ended k, fr :: K) (s'.ended k, fr' :: K') := .inr (h.ms.ended hk)
theorem KeepIn.idx (h : KeepIn m m' G x s s' fr fr' K K') (ha : regB x.a fr.fn.regs true = true) : idxI x fr'.regs = idxI x fr.regs := by
  unfold idxI
  by_cases h0 : 0 ≤ x.a
  · rw [if_pos h0, if_pos h0]
    refine h.reg ?_ (.inl rfl)
    unfold regB at ha ⊢
    simp only [Bool.or_eq_true, Bool.and_eq_true, decide_eq_true_eq] at ha ⊢
    rcases ha with ha | ⟨_, ha⟩
    · exact .inl ha
    · omega
  · rw [if_neg h0, if_neg h0]
theorem KeepIn.idxOk (h : KeepIn m m' G x s s' fr fr' K K') (ha : regB x.a fr.fn.regs true = true) : idxOk m' x fr'.regs s' = idxOk m x fr.regs s := by
  unfold Proofs.Ytlniohgnkihefaa.idxOk
  rw [h.idx ha, globAt_eq h.simM, h.ms.row]
theorem keep_out (h : KeepIn m m' G x s s' fr fr' K K') : Out m (exS m inp x s fr K) (exS m' inp x s' fr' K') := by
  have hl := h.st.len
  have hv := h.v
  generalize hn : fr.fn.regs = n at hv
  cases hv with
  | num d z hd => simpa [exS] using h.out_put (regB_in hd).1 h.fin h.ms z
  | copy d a hd ha =>
    have e := h.reg (r := a) (by rw [hn]; exact ha) (.inl rfl)
    simpa [exS, e] using h.out_put (regB_in hd).1 h.fin h.ms (getR fr.regs a)
  | un op d a ho hd ha =>
    have e := h.reg (r := a) (by rw [hn]; exact ha) (.inl rfl)
    simpa [exS, e] using h.out_put (regB_in hd).1 h.fin h.ms ((unO op (getR fr.regs a)).getD 0)
  | bin op d a b ho hd ha hb =>
    have e1 := h.reg (r := a) (by rw [hn]; exact ha) (.inl rfl)
    have e2 := h.reg (r := b) (by rw [hn]; exact hb) (.inr (.inl rfl))
    cases hbo : binO op (getR fr.regs a) (getR fr.regs b) with
    | none => simpa [exS, e1, e2, hbo] using h.out_end (k := 2) (by decide)
    | some v => simpa [exS, e1, e2, hbo] using h.out_put (regB_in hd).1 h.fin h.ms v
  | load d a name hd ha hnm =>
    have e1 := h.idxOk (by rw [hn]; exact ha)
    have e2 := h.idx (by rw [hn]; exact ha)
    cases hok : Proofs.Ytlniohgnkihefaa.idxOk m ⟨5, 0, d, a, -1, 0, name, []⟩ fr.regs s with
    | false =>
      rw [hok] at e1
      simpa [exS, hok, e1] using h.out_end (k := 3) (by decide)
    | true =>
      rw [hok] at e1
      have := h.out_put (regB_in hd).1 h.fin h.ms (getR (dataRow s (idxG m ⟨5, 0, d, a, -1, 0, name, []⟩)) (idxI ⟨5, 0, d, a, -1, 0, name, []⟩ fr.regs))
      simpa [exS, hok, e1, e2, globAt_eq h.simM, h.ms.row] using this
  | store a b name ha hb hnm =>
    have e1 := h.idxOk (by rw [hn]; exact ha)
    have e2 := h.idx (by rw [hn]; exact ha)
    have e3 := h.reg (r := b) (by rw [hn]; exact hb) (.inr (.inl rfl))
    cases hok : Proofs.Ytlniohgnkihefaa.idxOk m ⟨6, 0, -1, a, b, 0, name, []⟩ fr.regs s with
    | false =>
      rw [hok] at e1
      simpa [exS, hok, e1] using h.out_end (k := 3) (by decide)
    | true =>
      rw [hok] at e1
      have hms : MsSim m { s with data := s.data.set (idxG m ⟨6, 0, -1, a, b, 0, name, []⟩) (setR (dataRow s (idxG m ⟨6, 0, -1, a, b, 0, name, []⟩)) (idxI ⟨6, 0, -1, a, b, 0, name, []⟩ fr.regs) (getR fr.regs b)) }
          { s' with data := s'.data.set (idxG m ⟨6, 0, -1, a, b, 0, name, []⟩) (setR (dataRow s' (idxG m ⟨6, 0, -1, a, b, 0, name, []⟩)) (idxI ⟨6, 0, -1, a, b, 0, name, []⟩ fr.regs) (getR fr.regs b)) } := by
        refine ⟨by simp only [h.ms.data, h.ms.row], h.ms.fin, h.ms.value, h.ms.trace, h.ms.reads, h.ms.steps, by simp [h.ms.nd], fun i hi => ?_⟩
        rw [dataRow_set]
        split
        · rename_i hc
          unfold setR
          rw [List.length_set, ← hc.1]; exact h.ms.rows i hi
        · exact h.ms.rows i hi
      have := h.out_same (show (-1 : Int) < 0 by decide) (t := { s with data := s.data.set (idxG m ⟨6, 0, -1, a, b, 0, name, []⟩) (setR (dataRow s (idxG m ⟨6, 0, -1, a, b, 0, name, []⟩)) (idxI ⟨6, 0, -1, a, b, 0, name, []⟩ fr.regs) (getR fr.regs b)) }) h.fin hms
      simpa [exS, hok, e1, e2, e3, globAt_eq h.simM] using this
  | call d name args hd hnm hlen ha =>
    obtain ⟨k, hk, hfn, hpar⟩ := h.vm.call rfl
    obtain ⟨G2, hG2, hmem, hnm2⟩ := h.simM.named hk hfn
    have hfv := (h.may.fns k hk).fn
    have hargs : args.map (getR fr'.regs) = args.map (getR fr.regs) := by
      refine List.map_congr_left fun r hr => ?_
      exact h.reg (by rw [hn]; exact ha r hr) (.inr (.inr hr))
    by_cases h32 : K.length + 1 = 32
    · have h32' : K'.length + 1 = 32 := by omega
      simpa [exS, h32, h32'] using h.out_end (k := 4) (by decide)
    · have h32' : ¬ K'.length + 1 = 32 := by omega
      obtain ⟨hE, hR⟩ := entry_sim hmem hG2 (by rw [hnm2]; exact hfv.some) (by rw [hnm2]; have := hfv.params.1; have := hfv.regs.1; omega) (args.map (getR fr.regs)) (by rw [hnm2]; have := hfv.regs.1; rw [List.length_map]; dsimp only at hpar; omega) d d
      have hout : Out m (s, entry (fnNamed m name) (args.map (getR fr.regs)) d :: fr :: K) (s', entry (fnNamed m' name) (args.map (getR fr.regs)) d :: fr' :: K') :=
        .inl ⟨s, _, _, s', _, _, G2, rfl, rfl, h.fin, h.ms, hE, fun n _ => by rw [hR], .same d G fr fr' K K' h.frs (h.pass.mono fun n hn => hn) h.st⟩
      simpa [exS, h32, h32', hargs] using hout
  | read d hd =>
    by_cases hr : s.reads < inp.length
    · have hr' : s'.reads < inp.length := by rw [h.ms.reads]; exact hr
      have hms : MsSim m { s with reads := s.reads + 1 } { s' with reads := s'.reads + 1 } := ⟨h.ms.data, h.ms.fin, h.ms.value, h.ms.trace, by simp [h.ms.reads], h.ms.steps, h.ms.nd, h.ms.rows⟩
      have := h.out_put (regB_in hd).1 (t := { s with reads := s.reads + 1 }) h.fin hms (inp.getD s.reads 0)
      have e : s'.reads = s.reads := h.ms.reads
      simp only [exS, hr, hr', if_true]
      simpa [e] using this
    · have hr' : ¬ s'.reads < inp.length := by rw [h.ms.reads]; exact hr
      simpa [exS, hr, hr'] using h.out_put (regB_in hd).1 h.fin h.ms 0
  | print a ha =>
    have e := h.reg (r := a) (by rw [hn]; exact ha) (.inl rfl)
    have hms : MsSim m { s with trace := s.trace ++ [getR fr.regs a] } { s' with trace := s'.trace ++ [getR fr.regs a] } := ⟨h.ms.data, h.ms.fin, h.ms.value, by simp [h.ms.trace], h.ms.reads, h.ms.steps, h.ms.nd, h.ms.rows⟩
    simpa [exS, e] using h.out_same (show (-1 : Int) < 0 by decide) (t := { s with trace := s.trace ++ [getR fr.regs a] }) h.fin hms
end
end Go.Proofs.Ytlniohgnkihefaa
namespace Go.Proofs.Ytlniohgnkihefaa
section
variable {m m' : Mid} {inp : List Int} {G : Nat → Nat → Nat → Prop} {x : Ins} {s s' : MS} {fr fr' : Fr} {K K' : List Fr}
theorem cut_out (h : KeepIn m m' G x s s' fr fr' K K') (hk : x.kind = 7) (hd0 : 0 ≤ x.d) (hno : ¬ G fr.at_ fr.i x.d.toNat) : Out m (exS m inp x s fr K) (exS m' inp { x with d := -1 } s' fr' K') := by
  have hl := h.st.len
  have hv := h.v
  have hag : Agree (G fr.at_ fr.i) fr.regs fr'.regs := h.pass.mono fun n hn => ⟨hn, .inr fun e => hno (e ▸ hn)⟩
  generalize hn : fr.fn.regs = n at hv
  cases hv with
  | call d name args hd hnm hlen ha =>
    obtain ⟨k, hk, hfn, hpar⟩ := h.vm.call rfl
    obtain ⟨G2, hG2, hmem, hnm2⟩ := h.simM.named hk hfn
    have hfv := (h.may.fns k hk).fn
    have hargs : args.map (getR fr'.regs) = args.map (getR fr.regs) := by
      refine List.map_congr_left fun r hr => ?_
      exact h.reg (by rw [hn]; exact ha r hr) (.inr (.inr hr))
    by_cases h32 : K.length + 1 = 32
    · have h32' : K'.length + 1 = 32 := by omega
      simpa [exS, h32, h32'] using h.out_end (k := 4) (by decide)
    · have h32' : ¬ K'.length + 1 = 32 := by omega
      obtain ⟨hE, hR⟩ := entry_sim hmem hG2 (by rw [hnm2]; exact hfv.some) (by rw [hnm2]; have := hfv.params.1; have := hfv.regs.1; omega) (args.map (getR fr.regs)) (by rw [hnm2]; have := hfv.regs.1; rw [List.length_map]; dsimp only at hpar; omega) d (-1)
      have hout : Out m (s, entry (fnNamed m name) (args.map (getR fr.regs)) d :: fr :: K) (s', entry (fnNamed m' name) (args.map (getR fr.regs)) (-1) :: fr' :: K') :=
        .inl ⟨s, _, _, s', _, _, G2, rfl, rfl, h.fin, h.ms, hE, fun n _ => by rw [hR], .less d G fr fr' K K' hd0 h.frs hno hag h.st⟩
      simpa [exS, h32, h32', hargs] using hout
  | _ => simp at hk
theorem put_self (l : List Int) (d : Int) : setR l d (getR l d) = l := by
  unfold setR getR
  apply List.ext_getElem (by simp)
  intro i h1 h2
  by_cases e : i = d.toNat
  · subst e; simp [List.getD, h2]
  · rw [List.getElem_set_ne (Ne.symm e)]
theorem drop_put (frs : FrS m G fr fr') (ha : Agree (G fr.at_ fr.i) fr.regs fr'.regs) (st : StSim m fr.dst fr'.dst K K') (ms : MsSim m s s') (hf : s.fin = 0) {d : Int} (v : Int) (hg : ¬ G fr.at_ fr.i d.toNat ∨ v = getR fr.regs d) : CSim m (s, fr.put d v :: K) (s', fr' :: K') := by
  refine ⟨s, _, K, s', fr', K', G, rfl, rfl, hf, ms, ⟨frs.mem, frs.sim, frs.at_, frs.atl, frs.il, frs.ins, by simp only [Fr.put, setR, List.length_set]; exact frs.len, by simp only [Fr.put, setR, List.length_set]; exact frs.rl⟩, ?_, st⟩
  rcases hg with hg | rfl
  · intro n hn
    have hne : n ≠ d.toNat := fun e => hg (e ▸ hn)
    have := ha n hn
    simp only [Fr.put, setR]
    simpa [List.getD, List.getElem?_set_ne (Ne.symm hne)] using this
  · simp only [Fr.put, put_self]
    exact ha
theorem binO_some {op a b : Int} (h : 1 ≤ op ∧ op ≤ 16) (h4 : op ≠ 4) (h5 : op ≠ 5) : ∃ v, binO op a b = some v := by
  have : op = 1 ∨ op = 2 ∨ op = 3 ∨ op = 6 ∨ op = 7 ∨ op = 8 ∨ op = 9 ∨ op = 10 ∨ op = 11 ∨ op = 12 ∨ op = 13 ∨ op = 14 ∨ op = 15 ∨ op = 16 := by omega
  rcases this with rfl | rfl | rfl | rfl | rfl | rfl | rfl | rfl | rfl | rfl | rfl | rfl | rfl | rfl <;> exact ⟨_, rfl⟩
theorem drop_out (frs : FrS m G fr fr') (ha : Agree (G fr.at_ fr.i) fr.regs fr'.regs) (st : StSim m fr.dst fr'.dst K K') (ms : MsSim m s s') (hf : s.fin = 0) (hv : InsV fr.fn.regs x) (vm : InsM m x) (hp : pureP x = true) (hg : ¬ G fr.at_ fr.i x.d.toNat ∨ (x.kind = 2 ∧ x.a = x.d)) :
    CSim m (exS m inp x s fr K) (s', fr' :: K') := by
  generalize hn : fr.fn.regs = n at hv
  cases hv with
  | num d z hd =>
    have := drop_put frs ha st ms hf (d := d) z (.inl (by rcases hg with h | ⟨h, _⟩; exact h; simp at h))
    simpa [exS] using this
  | copy d a hd ha' =>
    have := drop_put frs ha st ms hf (d := d) (getR fr.regs a) (by
      rcases hg with h | ⟨_, h⟩
      · exact .inl h
      · dsimp only at h; exact .inr (by rw [h]))
    simpa [exS] using this
  | un op d a ho hd ha' =>
    have := drop_put frs ha st ms hf (d := d) ((unO op (getR fr.regs a)).getD 0) (.inl (by rcases hg with h | ⟨h, _⟩; exact h; simp at h))
    simpa [exS] using this
  | bin op d a b ho hd ha' hb =>
    have h45 : op ≠ 4 ∧ op ≠ 5 := by
      unfold pureP at hp
      simp at hp
      exact hp
    obtain ⟨v, hbo⟩ := binO_some (a := getR fr.regs a) (b := getR fr.regs b) ho h45.1 h45.2
    have := drop_put frs ha st ms hf (d := d) v (.inl (by rcases hg with h | ⟨h, _⟩; exact h; simp at h))
    simpa [exS, hbo] using this
  | load d a name hd ha' hnm =>
    have ha0 : a < 0 := by
      unfold pureP at hp
      simp at hp
      exact hp
    obtain ⟨g, hg1, hg2, _⟩ := vm.mem (.inl rfl)
    have hrow := ms.rows g hg1
    have hidx : idxG m ⟨5, 0, d, a, -1, 0, name, []⟩ = g := by unfold idxG; dsimp only at hg2 ⊢; rw [hg2]; simp
    have hI : idxI ⟨5, 0, d, a, -1, 0, name, []⟩ fr.regs = 0 := by unfold idxI; rw [if_neg (by dsimp only; omega)]
    have hok : Proofs.Ytlniohgnkihefaa.idxOk m ⟨5, 0, d, a, -1, 0, name, []⟩ fr.regs s = true := by
      unfold Proofs.Ytlniohgnkihefaa.idxOk
      rw [hidx, hI]
      simp; omega
    have := drop_put frs ha st ms hf (d := d) (getR (dataRow s (idxG m ⟨5, 0, d, a, -1, 0, name, []⟩)) (idxI ⟨5, 0, d, a, -1, 0, name, []⟩ fr.regs)) (.inl (by rcases hg with h | ⟨h, _⟩; exact h; simp at h))
    simpa [exS, hok] using this
  | _ => simp [pureP] at hp
theorem FrS.blkSim (h : FrS m G fr fr') : BlkSim (G fr.at_) fr.blk fr'.blk := by
  have := h.sim.blk fr.at_ h.atl
  unfold Fr.blk
  rw [h.at_]
  exact this
theorem FrS.fnV (hm : MayV m) (h : FrS m G fr fr') : FnV fr.fn ∧ ∀ b ∈ fr.fn.blocks, ∀ x ∈ b.ins, InsM m x := by
  obtain ⟨i, hi, e⟩ := List.getElem_of_mem h.mem
  rw [← e]; exact ⟨(hm.fns i hi).fn, (hm.fns i hi).ins⟩
theorem FrS.go (h : FrS m G fr fr') {t : Int} (h0 : 0 ≤ t) (h1 : t < fr.fn.blocks.length) : FrS m G { fr with at_ := t.toNat, i := 0 } { fr' with at_ := t.toNat, i := 0 } :=
  ⟨h.mem, h.sim, rfl, by show t.toNat < fr.fn.blocks.length; omega, Nat.zero_le _, (h.sim.blk t.toNat (by omega)).ins, h.len, h.rl⟩
theorem ret_out (hf : s.fin = 0) (ms : MsSim m s s') (v : Int) {d d' : Int} (st : StSim m d d' K K') : Out m (retC d v s K) (retC d' v s' K') := by
  cases st with
  | nil => exact .inr ⟨by simp [retC], rfl, rfl, ms.trace, ms.reads, ms.steps⟩
  | same _ G fr fr' K K' h ha k =>
    refine .inl ⟨s, _, K, s', _, K', G, rfl, rfl, hf, ms, ?_⟩
    by_cases hd : 0 ≤ d
    · unfold Fr.putIf
      rw [if_pos hd, if_pos hd]
      refine ⟨h.put d v, ?_, k⟩
      simp only [Fr.put, setR]
      exact agree_set h.len d.toNat v (ha.mono fun n hn => ⟨hn.1, .inr hn.2⟩)
    · unfold Fr.putIf
      rw [if_neg hd, if_neg hd]
      exact ⟨h, ha.mono fun n hn => ⟨hn, .inl (by omega)⟩, k⟩
  | less _ G fr fr' K K' hd h hn ha k =>
    refine .inl ?_
    have := drop_put h ha k ms hf (d := d) v (.inl hn)
    show CSim m (s, fr.putIf d v :: K) (s', fr'.putIf (-1) v :: K')
    unfold Fr.putIf
    rw [if_pos hd, if_neg (by decide)]
    exact this
theorem end_out (hm : MayV m) (frs : FrS m G fr fr') (hi : fr.i = fr.blk.ins.length) (ha : Agree (G fr.at_ fr.i) fr.regs fr'.regs) (st : StSim m fr.dst fr'.dst K K') (ms : MsSim m s s') (hf : s.fin = 0) : Out m (exE fr.blk s fr K) (exE fr'.blk s' fr' K') := by
  obtain ⟨hk, hba, hto, hel, _⟩ := frs.blkSim
  have hmem : fr.blk ∈ fr.fn.blocks := getD_mem frs.atl
  have hbv := (frs.fnV hm).1.blocks fr.blk hmem
  have hr := frs.regs_le hm
  have hfin := frs.sim.fin fr.at_ frs.atl
  have hsucc := frs.sim.succ fr.at_ frs.atl
  change fr.blk.kind ≠ 1 → 0 ≤ fr.blk.a → fr.blk.a < 65536 → G fr.at_ fr.blk.ins.length fr.blk.a.toNat at hfin
  change ∀ t ∈ nextP fr.blk, ∀ n, G t.toNat 0 n → G fr.at_ fr.blk.ins.length n at hsucc
  rw [← hi] at hfin hsucc
  have hreg : fr.blk.kind ≠ 1 → regB fr.blk.a fr.fn.regs false = true → getR fr'.regs fr.blk.a = getR fr.regs fr.blk.a := fun h1 h2 => by
    obtain ⟨h3, h4⟩ := regB_in h2
    unfold getR
    exact (ha _ (hfin h1 h3 (by omega))).symm
  unfold exE
  rw [hk, hba, hto, hel]
  generalize fr.blk = b at hbv hfin hsucc hreg
  cases hbv with
  | jump ins tt hx ht =>
    simp only [if_true]
    exact .inl ⟨s, _, K, s', _, K', G, rfl, rfl, hf, ms, frs.go ht.1 ht.2, fun n hn => ha n (hsucc tt (by simp [nextP]) n hn), st⟩
  | branch ins a tt els hx hra ht he =>
    have e := hreg (by simp) hra
    dsimp only at e
    have hout : ∀ t, t = tt ∨ t = els → Out m (s, { fr with at_ := t.toNat, i := 0 } :: K) (s', { fr' with at_ := t.toNat, i := 0 } :: K') := fun t htt => by
      have h1 : 0 ≤ t ∧ t < (fr.fn.blocks.length : Int) := by
        rcases htt with rfl | rfl
        · exact ht
        · exact he
      exact .inl ⟨s, _, K, s', _, K', G, rfl, rfl, hf, ms, frs.go h1.1 h1.2, fun n hn => ha n (hsucc t (by rcases htt with rfl | rfl <;> simp [nextP]) n hn), st⟩
    dsimp only
    rw [e]
    by_cases hz : getR fr.regs a = 0
    · simpa [hz] using hout els (.inr rfl)
    · simpa [hz] using hout tt (.inl rfl)
  | leave ins a hx hra =>
    have e := hreg (by simp) hra
    dsimp only at e ⊢
    rw [e]
    simpa using ret_out hf ms (getR fr.regs a) st
end
end Go.Proofs.Ytlniohgnkihefaa
namespace Go.Proofs.Ytlniohgnkihefaa
/-- How the second run ends beside the first one. -/
def KeepsR (r r' : MS) : Prop := (r.fin ≠ 5 → r'.fin = r.fin ∧ r'.value = r.value ∧ r'.trace = r.trace ∧ r'.reads = r.reads ∧ r'.steps ≤ r.steps) ∧ (r.fin = 5 → r.trace <+: r'.trace)
theorem KeepsR.refl (r : MS) : KeepsR r r := ⟨fun _ => ⟨rfl, rfl, rfl, rfl, Nat.le_refl _⟩, fun _ => List.prefix_refl _⟩
theorem KeepsR.trans {a b c : MS} (h : KeepsR a b) (k : KeepsR b c) : KeepsR a c := by
  refine ⟨fun ha => ?_, fun ha => ?_⟩
  · obtain ⟨h1, h2, h3, h4, h5⟩ := h.1 ha
    obtain ⟨k1, k2, k3, k4, k5⟩ := k.1 (by rw [h1]; exact ha)
    exact ⟨k1.trans h1, k2.trans h2, k3.trans h3, k4.trans h4, Nat.le_trans k5 h5⟩
  · by_cases hb : b.fin = 5
    · exact (h.2 ha).trans (k.2 hb)
    · rw [(k.1 hb).2.2.1]; exact h.2 ha
section
variable {m m' : Mid} {inp : List Int} {fuel : Int} {G : Nat → Nat → Nat → Prop} {x : Ins} {s s' : MS} {fr fr' : Fr} {K K' : List Fr}
theorem drop_cons {α : Type} {l xs : List α} {i : Nat} {x : α} (h : l.drop i = x :: xs) : l[i]? = some x ∧ l.drop (i + 1) = xs ∧ i < l.length := by
  have hl : i < l.length := by
    rcases Nat.lt_or_ge i l.length with h1 | h1
    · exact h1
    · rw [List.drop_eq_nil_of_le h1] at h; cases h
  rw [List.drop_eq_getElem_cons hl] at h
  injection h with h1 h2
  exact ⟨by rw [List.getElem?_eq_getElem hl, h1], h2, hl⟩
theorem FrS.insV (hm : MayV m) (h : FrS m G fr fr') {x : Ins} (hx : fr.blk.ins[fr.i]? = some x) : InsV fr.fn.regs x ∧ InsM m x := by
  obtain ⟨hv, hi⟩ := h.fnV hm
  have hb : fr.blk ∈ fr.fn.blocks := getD_mem h.atl
  have hmem : x ∈ fr.blk.ins := List.mem_of_getElem? hx
  exact ⟨blkV_ins (hv.blocks _ hb) x hmem, hi _ hb x hmem⟩
theorem sim_step (hm : MayV m) (hs : SimM m m') {c c' : Cfg} (hc : CSim m c c') (hf : ¬ fuel ≤ (c.1.steps : Int)) : CSim m (stepC m inp fuel c) c' ∨ Out m (stepC m inp fuel c) (stepC m' inp fuel c') := by
  obtain ⟨s, fr, K, s', fr', K', G, rfl, rfl, h0, ms, frs, ha, st⟩ := hc
  have h0' : s'.fin = 0 := ms.fin.trans h0
  have hf' : ¬ fuel ≤ (s'.steps : Int) := by have := ms.steps; dsimp only at hf; omega
  rw [stepC_go h0 hf, stepC_go h0' hf']
  have hins := frs.ins
  generalize hl1 : fr.blk.ins.drop fr.i = l1 at hins
  generalize hl2 : fr'.blk.ins.drop fr'.i = l2 at hins
  cases hins with
  | nil =>
    right
    have e1 : fr.i = fr.blk.ins.length := by have := frs.il; have := List.drop_eq_nil_iff.1 hl1; omega
    have e2 : fr.blk.ins[fr.i]? = none := by rw [e1]; simp
    have e3 : fr'.blk.ins[fr'.i]? = none := List.getElem?_eq_none (List.drop_eq_nil_iff.1 hl2)
    rw [stepF_end e2, stepF_end e3]
    exact end_out hm frs e1 ha st ms.step h0
  | keep k x xs ys ask pass h =>
    right
    obtain ⟨e1, e2, e3⟩ := drop_cons hl1
    obtain ⟨f1, f2, f3⟩ := drop_cons hl2
    obtain ⟨hv, vm⟩ := frs.insV hm e1
    rw [stepF_ins e1, stepF_ins f1]
    have frs1 : FrS m G { fr with i := fr.i + 1 } { fr' with i := fr'.i + 1 } := ⟨frs.mem, frs.sim, frs.at_, frs.atl, e3, by
      show InsSim (G fr.at_) (fr.i + 1) (fr.blk.ins.drop (fr.i + 1)) (fr'.blk.ins.drop (fr'.i + 1))
      rw [e2, f2]; exact h, frs.len, frs.rl⟩
    exact keep_out ⟨hm, hs, h0, ms.step, frs1, fun n hn => ha n (ask n hn), fun n hn => ha n (pass n hn.1 hn.2), st, hv, vm⟩
  | cut k x xs ys hk hd hg ask pass h =>
    right
    obtain ⟨e1, e2, e3⟩ := drop_cons hl1
    obtain ⟨f1, f2, f3⟩ := drop_cons hl2
    obtain ⟨hv, vm⟩ := frs.insV hm e1
    rw [stepF_ins e1, stepF_ins f1]
    have frs1 : FrS m G { fr with i := fr.i + 1 } { fr' with i := fr'.i + 1 } := ⟨frs.mem, frs.sim, frs.at_, frs.atl, e3, by
      show InsSim (G fr.at_) (fr.i + 1) (fr.blk.ins.drop (fr.i + 1)) (fr'.blk.ins.drop (fr'.i + 1))
      rw [e2, f2]; exact h, frs.len, frs.rl⟩
    exact cut_out ⟨hm, hs, h0, ms.step, frs1, fun n hn => ha n (ask n hn), fun n hn => ha n (pass n hn.1), st, hv, vm⟩ hk hd hg
  | drop k x xs ys hp hg pass h =>
    left
    obtain ⟨e1, e2, e3⟩ := drop_cons hl1
    obtain ⟨hv, vm⟩ := frs.insV hm e1
    rw [stepF_ins e1]
    have frs1 : FrS m G { fr with i := fr.i + 1 } fr' := ⟨frs.mem, frs.sim, frs.at_, frs.atl, e3, by
      show InsSim (G fr.at_) (fr.i + 1) (fr.blk.ins.drop (fr.i + 1)) (fr'.blk.ins.drop fr'.i)
      rw [e2, hl2]; exact h, frs.len, frs.rl⟩
    exact drop_out frs1 (fun n hn => ha n (pass n hn)) st ms.step1 h0 hv vm hp hg
theorem exS_trace (x : Ins) (s : MS) (fr : Fr) (K : List Fr) : s.trace <+: (exS m inp x s fr K).1.trace := by
  unfold exS
  have P := fun (a b : Cfg) (c : Prop) [Decidable c] (ha : s.trace <+: a.1.trace) (hb : s.trace <+: b.1.trace) => ite_P (P := fun c : Cfg => s.trace <+: c.1.trace) (c := c) ha hb
  have r0 : s.trace <+: s.trace := List.prefix_refl _
  refine P _ _ _ r0 (P _ _ _ r0 (P _ _ _ r0 (P _ _ _ (by split <;> exact r0) (P _ _ _ (P _ _ _ r0 r0) (P _ _ _ (P _ _ _ r0 r0) (P _ _ _ (P _ _ _ r0 r0) (P _ _ _ (P _ _ _ r0 r0) (P _ _ _ (List.prefix_append _ _) r0))))))))
theorem stepC_trace (a : Cfg) : a.1.trace <+: (stepC m inp fuel a).1.trace := by
  obtain ⟨s, K⟩ := a
  cases K with
  | nil => exact List.prefix_refl _
  | cons fr K =>
    show s.trace <+: (if s.fin ≠ 0 then (s, fr :: K) else if fuel ≤ (s.steps : Int) then (s.ended 5, fr :: K) else stepF m inp s.step fr K : Cfg).1.trace
    refine ite_P (P := fun c : Cfg => s.trace <+: c.1.trace) (List.prefix_refl _) (ite_P (P := fun c : Cfg => s.trace <+: c.1.trace) (List.prefix_refl _) ?_)
    unfold stepF
    split
    · exact exS_trace (s := s.step) _ _ _
    · unfold exE
      refine ite_P (P := fun c : Cfg => s.trace <+: c.1.trace) (List.prefix_refl _) (ite_P (P := fun c : Cfg => s.trace <+: c.1.trace) (List.prefix_refl _) ?_)
      cases K <;> exact List.prefix_refl _
theorem Reach.trace {a b : Cfg} (h : Reach m inp fuel a b) : a.1.trace <+: b.1.trace := by
  obtain ⟨n, rfl⟩ := h
  induction n generalizing a with
  | zero => exact List.prefix_refl _
  | succ n ih => exact (stepC_trace a).trans ih
theorem sim_runs (hm : MayV m) (hs : SimM m m') : ∀ (n : Nat) (c c' : Cfg), CSim m c c' → ∀ (r r' : Cfg), iterC m inp fuel n c = r → r.1.fin ≠ 0 → Reach m' inp fuel c' r' → r'.1.fin ≠ 0 → KeepsR r.1 r'.1
  | 0, c, c', hc, r, r', hr, hr0, _, _ => by
    obtain ⟨s, fr, K, s', fr', K', G, rfl, rfl, h0, _⟩ := hc
    subst hr
    exact absurd h0 hr0
  | n + 1, c, c', hc, r, r', hr, hr0, hr', hr0' => by
    by_cases hf : fuel ≤ (c.1.steps : Int)
    · obtain ⟨s, fr, K, s', fr', K', G, rfl, rfl, h0, ms, _⟩ := hc
      have e : iterC m inp fuel (n + 1) (s, fr :: K) = (s.ended 5, fr :: K) := by
        show iterC m inp fuel n (stepC m inp fuel (s, fr :: K)) = _
        rw [stepC_open h0 hf]
        exact iterC_end (by simp [MS.ended]) n
      rw [e] at hr
      subst hr
      refine ⟨fun h => absurd rfl h, fun _ => ?_⟩
      have := hr'.trace
      show s.trace <+: r'.1.trace
      rw [← ms.trace]
      exact this
    · rcases sim_step (inp := inp) hm hs hc hf with h | h | h
      · exact sim_runs hm hs n _ c' h r r' hr hr0 hr' hr0'
      · refine sim_runs hm hs n _ _ h r r' hr hr0 ?_ hr0'
        obtain ⟨p, hp⟩ := hr'
        cases p with
        | zero =>
          obtain ⟨s, fr, K, s', fr', K', G, rfl, rfl, h0, ms, _⟩ := hc
          rw [← hp] at hr0'
          exact absurd (ms.fin.trans h0) hr0'
        | succ p => exact ⟨p, hp⟩
      · obtain ⟨h1, h2, h3, h4, h5, h6⟩ := h
        have e1 : r = stepC m inp fuel c := by rw [← hr]; exact iterC_end h1 n
        have e2 : r' = stepC m' inp fuel c' := hr'.end_unique (Reach.one c') hr0' (by rw [h2]; exact h1)
        rw [e1, e2]
        exact ⟨fun _ => ⟨h2, h3, h4, h5, h6⟩, fun _ => by rw [h4]; exact List.prefix_refl _⟩
theorem start_sim (hm : MayV m) (hs : SimM m m') : CSim m (start m) (start m') := by
  obtain ⟨i, hi, hfn, hpar⟩ := hm.main
  obtain ⟨G, hG, hmem, hnm⟩ := hs.named (name := mainN) hi hfn
  have hfv := (hm.fns i hi).fn
  obtain ⟨hE, hR⟩ := entry_sim hmem hG (by rw [hnm]; exact hfv.some) (by rw [hnm]; have := hfv.params.1; have := hfv.regs.1; omega) [] (by rw [hnm]; have := hfv.params.1; have := hfv.regs.1; simp; omega) (-1) (-1)
  have hd : data0 m' = data0 m := by unfold data0; rw [hs.globals]
  refine ⟨_, _, _, _, _, _, G, rfl, rfl, rfl, ⟨hd, rfl, rfl, rfl, rfl, Nat.le_refl _, by simp [data0], fun i hi => ?_⟩, hE, fun n _ => by rw [hR], .nil _ _⟩
  unfold dataRow data0
  simp [List.getD, hi]
  omega
theorem sim_keeps (hm : MayV m) (hs : SimM m m') {r r' : MS} (h : RunsTo m inp fuel r) (h' : RunsTo m' inp fuel r') : KeepsR r r' := by
  obtain ⟨h1, K, n, h2⟩ := h
  obtain ⟨k1, K', k2⟩ := h'
  exact sim_runs hm hs n _ _ (start_sim hm hs) _ _ h2 h1 k2 k1
end
end Go.Proofs.Ytlniohgnkihefaa
