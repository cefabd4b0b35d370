/- brazierref12.Machine in memory. -/
import Derived.Test.YtnfneinonkpmeaaLv3
import Derived.Test.YtnfneinonkpmeaaLv10
import Derived.Deep.RegionHeld3
import Derived.Test.YtnfneinonkpmeaaLv4
import Derived.Deep.DeepCutAuto
import Derived.StillTailTactics
import Derived.Deep.RegionLaw
namespace Go.Proofs.Ytnfneinonkpmeaa
open Go.RowKit

def agI (x : Ins) (A : Option Addr) (c : Nat) : Value := .agg #[.int .i64 x.kind, .int .i64 x.op, .int .i64 x.d, .int .i64 x.a, .int .i64 x.b, .int .i32 x.num, .string x.name, .slice A x.args.length c]
/-- What a run goes by. -/
structure Env where
  m : Mid
  A : Option Addr
  c : Nat
  B : Option Addr
  d : Nat
  AD : Option Addr
  cD : Nat
  bs : List Nat
  inp : List Int
  Ai : Option Addr
  ci : Nat
  fuel : Int
  mb : Nat
  base : Nat
def i32s (l : List Int) : List Value := l.map (Value.int .i32)
theorem i32s_len (l : List Int) : (i32s l).length = l.length := by simp [i32s]
theorem i32s_set (l : List Int) (j : Nat) (v : Int) : i32s (l.set j v) = (i32s l).set j (.int .i32 v) := by simp [i32s]
/-- A row of words in block g, all of it. -/
def WordsAt (w : World) (g : Nat) (l : List Int) : Prop := RowAt w 21 1 (.slice (some ⟨g, 0, none⟩) l.length l.length) (some g) l.length (i32s l)
def Foot (E : Env) (r : Option Nat) (k : Nat) : Prop := k = E.mb ∨ k ∈ E.bs ∨ some k = r
def Env.row (E : Env) (k : Nat) : Prop := ∃ off, E.AD = some ⟨k, off, none⟩
/-- Where the machine's parts lie. -/
structure EnvOk (E : Env) : Prop where
  may : MayV E.m
  nodup : E.bs.Nodup
  nb : E.bs.length = E.m.globals.length
  mbs : E.mb ∉ E.bs
  base : E.base ≤ E.mb
  bbs : ∀ b ∈ E.bs, E.base ≤ b
  row : ∀ k, E.row k → k ≠ E.mb ∧ k ∉ E.bs
  fuel : I64 E.fuel ∧ E.fuel ≤ 100000
  inpL : E.inp.length ≤ maxLen
  inpW : ∀ z ∈ E.inp, I32 z
structure MacAt (E : Env) (s : MS) (calls : Nat) (r : Option Nat) (w : World) : Prop where
  obj : ∃ vT, w.heap[E.mb]? = some (.cells #[.slice E.A E.m.globals.length E.c, .slice E.B E.m.fns.length E.d, .slice E.AD E.m.globals.length E.cD, .slice E.Ai E.inp.length E.ci, .int .i64 E.fuel, .int .i64 calls, .int .i64 s.fin, .int .i32 s.value, vT, .int .i64 s.steps, .int .i64 s.reads] 81 (0, 0)) ∧
    RowAt w 21 1 vT r s.trace.length (i32s s.trace)
  nd : s.data.length = E.m.globals.length
  dlen : ∀ i (h : i < E.m.globals.length), (dataRow s i).length = (max 1 E.m.globals[i].size).toNat
  words : ∀ i (h : i < E.bs.length), WordsAt w E.bs[i] (dataRow s i)
  dat : ∀ l ∈ s.data, ∀ z ∈ l, I32 z
  outer : ∀ i (h : i < E.bs.length), ∃ g off, E.AD = some ⟨g, off, none⟩ ∧ w.cell? ⟨g, off + i, none⟩ = some (.slice (some ⟨E.bs[i], 0, none⟩) (dataRow s i).length (dataRow s i).length)
  mid : RdMid w (fun k => k < E.base) E.m E.A E.c E.B E.d
  inp : RdT w (fun k => k < E.base) E.Ai (i32s E.inp)
  tr : ∀ k, r = some k → E.base ≤ k ∧ k ≠ E.mb ∧ k ∉ E.bs ∧ ¬ E.row k
  trW : ∀ z ∈ s.trace, I32 z
  tl : s.trace.length ≤ s.steps
  sl : s.steps ≤ 100000
  rl : s.reads ≤ E.inp.length
  cl : calls ≤ 32
  rowlt : ∀ k, E.row k → k < w.heap.size

section
variable {E : Env} {s : MS} {calls : Nat} {r : Option Nat} {w w' : World}
theorem MacAt.blt (h : MacAt E s calls r w) : E.mb < w.heap.size := by obtain ⟨_, h1, _⟩ := h.obj; exact lt_of_heap h1
/-- What touches nothing of it. -/
theorem MacAt.kept {S : Nat → Prop} (h : MacAt E s calls r w) (hc : Chg S w w') (h1 : ∀ k, S k → k < w.heap.size → ¬ Foot E r k) (h2 : ∀ k, S k → k < w.heap.size → E.base ≤ k ∧ ¬ E.row k) : MacAt E s calls r w' := by
  obtain ⟨vT, ho, ht⟩ := h.obj
  have hT : ∀ k, k < E.base → k < w.heap.size → ¬ S k := fun k hk hl hS => by have := (h2 k hS hl).1; omega
  refine ⟨⟨vT, hc.heap ho (fun hS => h1 _ hS (lt_of_heap ho) (.inl rfl)), ht.kept hc fun k hk hS => h1 k hS (ht.lt k hk) (.inr (.inr hk.symm))⟩, h.nd, h.dlen, fun i hi => ?_, h.dat, fun i hi => ?_, h.mid.kept hc hT, h.inp.kept hc hT, h.tr, h.trW, h.tl, h.sl, h.rl, h.cl, fun k hk => Nat.lt_of_lt_of_le (h.rowlt k hk) hc.size⟩
  · have hw := h.words i hi
    exact RowAt.kept hw hc fun k hk hS => by
      cases hk
      exact h1 _ hS (hw.lt _ rfl) (.inr (.inl (List.getElem_mem hi)))
  · obtain ⟨g, off, e, hcell⟩ := h.outer i hi
    exact ⟨g, off, e, hc.cell (p := ⟨g, off + i, none⟩) hcell fun hS => (h2 g hS (World.block_lt_of_cell? w ⟨g, off + i, none⟩ hcell)).2 ⟨off, e⟩⟩
theorem MacAt.below (h : MacAt E s calls r w) (hb : Below w.heap.size w w') : MacAt E s calls r w' := h.kept (S := fun _ => False) (Chg.of_below hb _) (fun _ h => h.elim) fun _ h => h.elim
theorem MacAt.drew (h : MacAt E s calls r w) : MacAt E s calls r w.drew := h.below ⟨rfl, rfl, rfl, Nat.le_refl _, fun _ _ => rfl⟩
theorem MacAt.drewN (h : MacAt E s calls r w) (n : Nat) : MacAt E s calls r (w.drewN n) := h.below ⟨rfl, rfl, rfl, Nat.le_refl _, fun _ _ => rfl⟩
/-- A store into one of the machine's own cells. -/
theorem MacAt.own (hE : EnvOk E) (h : MacAt E s calls r w) (j : Nat) (v : Value) (s' : MS) (calls' : Nat) (hd : s'.data = s.data) (htr : s'.trace = s.trace) (hs : s.steps ≤ s'.steps ∧ s'.steps ≤ 100000) (hr : s'.reads ≤ E.inp.length) (hcl : calls' ≤ 32)
    (ha : ∀ vT, (#[.slice E.A E.m.globals.length E.c, .slice E.B E.m.fns.length E.d, .slice E.AD E.m.globals.length E.cD, .slice E.Ai E.inp.length E.ci, .int .i64 E.fuel, .int .i64 calls, .int .i64 s.fin, .int .i32 s.value, vT, .int .i64 s.steps, .int .i64 s.reads] : Array Value).setIfInBounds j v = #[.slice E.A E.m.globals.length E.c, .slice E.B E.m.fns.length E.d, .slice E.AD E.m.globals.length E.cD, .slice E.Ai E.inp.length E.ci, .int .i64 E.fuel, .int .i64 calls', .int .i64 s'.fin, .int .i32 s'.value, vT, .int .i64 s'.steps, .int .i64 s'.reads]) :
    MacAt E s' calls' r (w.setCell ⟨E.mb, j, none⟩ v) := by
  obtain ⟨vT, ho, ht⟩ := h.obj
  have hc := Chg.store w E.mb j v
  have hrow : ∀ i, dataRow s' i = dataRow s i := fun i => by unfold dataRow; rw [hd]
  have hT : ∀ k, k < E.base → k < w.heap.size → ¬ (k = E.mb) := fun k hk _ e => by have := hE.base; omega
  refine ⟨⟨vT, ?_, ?_⟩, by rw [hd]; exact h.nd, fun i hi => by rw [hrow]; exact h.dlen i hi, fun i hi => ?_, by rw [hd]; exact h.dat, fun i hi => ?_, h.mid.kept hc hT, h.inp.kept hc hT, h.tr, by rw [htr]; exact h.trW, by rw [htr]; have := h.tl; omega, hs.2, hr, hcl, fun k hk => Nat.lt_of_lt_of_le (h.rowlt k hk) hc.size⟩
  · rw [heap_setCell_same w E.mb j _ _ v ho, ha vT]
  · rw [htr]; exact ht.kept hc fun k hk e => (h.tr k hk).2.1 e
  · rw [hrow]; exact RowAt.kept (h.words i hi) hc fun k hk e => by cases hk; exact hE.mbs (e ▸ List.getElem_mem hi)
  · rw [hrow]
    obtain ⟨g, off, e, hcell⟩ := h.outer i hi
    exact ⟨g, off, e, hc.cell (p := ⟨g, off + i, none⟩) hcell fun e' => (hE.row g ⟨off, e⟩).1 e'⟩
/-- The machine's cells. -/
theorem MacAt.cells (h : MacAt E s calls r w) : w.cell? ⟨E.mb, 0, none⟩ = some (.slice E.A E.m.globals.length E.c) ∧ w.cell? ⟨E.mb, 1, none⟩ = some (.slice E.B E.m.fns.length E.d) ∧ w.cell? ⟨E.mb, 2, none⟩ = some (.slice E.AD E.m.globals.length E.cD) ∧ w.cell? ⟨E.mb, 3, none⟩ = some (.slice E.Ai E.inp.length E.ci) ∧
    w.cell? ⟨E.mb, 4, none⟩ = some (.int .i64 E.fuel) ∧ w.cell? ⟨E.mb, 5, none⟩ = some (.int .i64 calls) ∧ w.cell? ⟨E.mb, 6, none⟩ = some (.int .i64 s.fin) ∧ w.cell? ⟨E.mb, 9, none⟩ = some (.int .i64 s.steps) ∧ w.cell? ⟨E.mb, 10, none⟩ = some (.int .i64 s.reads) ∧ ∀ j, w.frozen? ⟨E.mb, j, none⟩ = false := by
  obtain ⟨vT, ho, _⟩ := h.obj
  refine ⟨?_, ?_, ?_, ?_, ?_, ?_, ?_, ?_, ?_, fun j => frozen_of_row w _ j _ _ ho⟩ <;> exact cell_of_row _ _ _ _ _ _ ho
theorem wsCell {g : Nat} {l : List Int} (h : WordsAt w g l) (j : Nat) (hj : j < l.length) : w.cell? ⟨g, j, none⟩ = some (.int .i32 (l.getD j 0)) ∧ w.frozen? ⟨g, j, none⟩ = false := by
  obtain ⟨g', off, cap, hv, hr, _, _, _, hc, hf⟩ := RowAt.form h (by omega)
  cases hr
  injection hv with ha _ _
  injection ha with ha
  injection ha with _ ho
  subst ho
  have := hc j (.int .i32 (l.getD j 0)) (by simp [i32s, List.getD, hj])
  rw [Nat.zero_add] at this
  exact ⟨this, hf j⟩
theorem words_set {g : Nat} {l : List Int} (h : WordsAt w g l) (j : Nat) (hj : j < l.length) (v : Int) : WordsAt (w.setCell ⟨g, j, none⟩ (.int .i32 v)) g (l.set j v) := by
  have := RowAt.stored h j (.int .i32 v) (by omega)
  rw [Nat.zero_add] at this
  unfold WordsAt
  rw [List.length_set, i32s_set]
  exact this
/-- A store into a word of a global. -/
theorem MacAt.word (hE : EnvOk E) (h : MacAt E s calls r w) (i : Nat) (hi : i < E.bs.length) (j : Nat) (hj : j < (dataRow s i).length) (v : Int) (hv : I32 v) :
    MacAt E { s with data := s.data.set i ((dataRow s i).set j v) } calls r (w.setCell ⟨E.bs[i], j, none⟩ (.int .i32 v)) := by
  obtain ⟨vT, ho, ht⟩ := h.obj
  have hc := Chg.store w E.bs[i] j (.int .i32 v)
  have hmem := List.getElem_mem hi
  have hT : ∀ k, k < E.base → k < w.heap.size → ¬ (k = E.bs[i]) := fun k hk _ e => by have := hE.bbs _ hmem; omega
  have hin : i < s.data.length := by have := h.nd; have := hE.nb; omega
  have hsame : dataRow { s with data := s.data.set i ((dataRow s i).set j v) } i = (dataRow s i).set j v := by
    unfold dataRow; simp [List.getD, hin]
  have hoth : ∀ q, q ≠ i → dataRow { s with data := s.data.set i ((dataRow s i).set j v) } q = dataRow s q := fun q hq => by
    unfold dataRow; simp [List.getD, List.getElem?_set_ne (Ne.symm hq)]
  have hlen : ∀ q, (dataRow { s with data := s.data.set i ((dataRow s i).set j v) } q).length = (dataRow s q).length := fun q => by
    by_cases e : q = i
    · rw [e, hsame, List.length_set]
    · rw [hoth q e]
  refine ⟨⟨vT, hc.heap ho fun e => hE.mbs (e ▸ hmem), ht.kept hc fun k hk e => (h.tr k hk).2.2.1 (e ▸ hmem)⟩, by simp [h.nd], fun q hq => by rw [hlen]; exact h.dlen q hq, fun q hq => ?_, fun l hl z hz => ?_, fun q hq => ?_, h.mid.kept hc hT, h.inp.kept hc hT, h.tr, h.trW, h.tl, h.sl, h.rl, h.cl, fun k hk => Nat.lt_of_lt_of_le (h.rowlt k hk) hc.size⟩
  · by_cases e : q = i
    · subst e; rw [hsame]; exact words_set (h.words q hq) j hj v
    · rw [hoth q e]
      exact RowAt.kept (h.words q hq) hc fun k hk e' => by
        cases hk
        exact e ((List.getElem_inj hE.nodup).1 e')
  · rcases List.mem_or_eq_of_mem_set hl with hl | rfl
    · exact h.dat l hl z hz
    · rcases List.mem_or_eq_of_mem_set hz with hz | rfl
      · exact h.dat _ (by unfold dataRow at hz ⊢; rw [List.getD_eq_getElem?_getD, List.getElem?_eq_getElem hin]; exact List.getElem_mem hin) z hz
      · exact hv
  · rw [hlen]
    obtain ⟨g, off, e, hcell⟩ := h.outer q hq
    exact ⟨g, off, e, hc.cell (p := ⟨g, off + q, none⟩) hcell fun e' => (hE.row g ⟨off, e⟩).2 (by rw [show g = E.bs[i] from e']; exact hmem)⟩
/-- One word more in the trace. -/
theorem MacAt.traced (hE : EnvOk E) (h : MacAt E s calls r w) {vT v' : Value} {r' : Option Nat} {va : Int} (hC : Chg (fun k => some k = r) w w')
    (ho : w'.heap[E.mb]? = some (.cells #[.slice E.A E.m.globals.length E.c, .slice E.B E.m.fns.length E.d, .slice E.AD E.m.globals.length E.cD, .slice E.Ai E.inp.length E.ci, .int .i64 E.fuel, .int .i64 calls, .int .i64 s.fin, .int .i32 s.value, vT, .int .i64 s.steps, .int .i64 s.reads] 81 (0, 0)))
    (hR : RowAt w' 21 1 v' r' (s.trace.length + 1) (i32s s.trace ++ [.int .i32 va])) (hN : NewOr w r r') (hva : I32 va) (htl : s.trace.length + 1 ≤ s.steps) :
    MacAt E { s with trace := s.trace ++ [va] } calls r' (w'.setCell ⟨E.mb, 8, none⟩ v') := by
  have hnew : ∀ k, r' = some k → E.base ≤ k ∧ k ≠ E.mb ∧ k ∉ E.bs ∧ ¬ E.row k := fun k hk => by
    rcases hN with rfl | ⟨j, hj, hjl⟩
    · exact h.tr k hk
    · rw [hj] at hk; cases hk
      have hb := h.blt
      refine ⟨by have := hE.base; omega, by omega, fun hm => ?_, fun hm => ?_⟩
      · obtain ⟨i, hi, e⟩ := List.getElem_of_mem hm
        have := RowAt.lt (h.words i hi) _ rfl
        omega
      · have := h.rowlt _ hm; omega
  have hc1 := Chg.store w' E.mb 8 v'
  have hrow : ∀ i, dataRow { s with trace := s.trace ++ [va] } i = dataRow s i := fun i => rfl
  have hc : Chg (fun k => k = E.mb ∨ some k = r) w (w'.setCell ⟨E.mb, 8, none⟩ v') := (hC.mono fun _ _ e => .inr e).setCell ⟨E.mb, 8, none⟩ (fun _ => .inl rfl) _
  have hT : ∀ k, k < E.base → k < w.heap.size → ¬ (k = E.mb ∨ some k = r) := fun k hk _ e => by
    rcases e with e | e
    · have := hE.base; omega
    · have := (h.tr k e.symm).1; omega
  refine ⟨⟨v', ?_, ?_⟩, h.nd, h.dlen, fun i hi => ?_, h.dat, fun i hi => ?_, h.mid.kept hc hT, h.inp.kept hc hT, hnew, fun z hz => ?_, by simpa using htl, h.sl, h.rl, h.cl, fun k hk => Nat.lt_of_lt_of_le (h.rowlt k hk) hc.size⟩
  · rw [heap_setCell_same w' E.mb 8 _ _ v' ho]; simp
  · have h2 := hR.kept hc1 fun k hk e => (hnew k hk).2.1 e
    simpa [i32s] using h2
  · exact RowAt.kept (h.words i hi) hc fun k hk e => by
      cases hk
      rcases e with e | e
      · exact hE.mbs (e ▸ List.getElem_mem hi)
      · exact (h.tr _ e.symm).2.2.1 (List.getElem_mem hi)
  · obtain ⟨g, off, e, hcell⟩ := h.outer i hi
    exact ⟨g, off, e, hc.cell (p := ⟨g, off + i, none⟩) hcell fun e' => by
      rcases e' with e' | e'
      · exact (hE.row g ⟨off, e⟩).1 e'
      · exact (h.tr g e'.symm).2.2.2 ⟨off, e⟩⟩
  · rcases List.mem_append.1 hz with hz | hz
    · exact h.trW z hz
    · rw [List.mem_singleton.1 hz]; exact hva
end
end Go.Proofs.Ytnfneinonkpmeaa
namespace Go.Proofs.Ytnfneinonkpmeaa
open Go.RowKit
section
variable {E : Env} {s : MS} {calls : Nat} {r : Option Nat} {w w' : World}
/-- One more: there is one. -/
theorem mstep_yes (hE : EnvOk E) (h : MacAt E s calls r w) (h0 : s.fin = 0) (hf : ¬ E.fuel ≤ (s.steps : Int)) :
    Calls Try.prog 45 #[.pointer (some ⟨E.mb, 0, none⟩)] w fun e w' => e = .returned (.bool true) ∧ MacAt E s.step calls r w' ∧ Chg (fun k => k = E.mb) w w' := by
  obtain ⟨c0, c1, c2, c3, c4, c5, c6, c9, c10, hfr⟩ := h.cells
  obtain ⟨mb, hmb⟩ : ∃ mb, mb = E.mb := ⟨_, rfl⟩
  rw [← hmb] at c4 c6 c9 hfr ⊢
  rw [h0] at c6
  have hf2 : ((s.steps : Int) < E.fuel) := by omega
  have hs : (s.steps : Int) ≤ 100000 := by have := h.sl; omega
  have hs0 : 0 ≤ (s.steps : Int) := by omega
  have HE := Lib.hid hE
  have HM := Lib.hid h
  have HB := Lib.hid hmb
  obtain ⟨n, hn⟩ : ∃ n : Int, n = (s.steps : Int) := ⟨_, rfl⟩
  obtain ⟨fu, hfu⟩ : ∃ fu, fu = E.fuel := ⟨_, rfl⟩
  rw [← hn] at c9 hf2 hs hs0
  rw [← hfu] at c4 hf2
  have HN := Lib.hid hn
  have HF := Lib.hid hfu
  clear c0 c1 c2 c3 c5 c10 h hE hmb hf hn hfu h0
  go_enter Try.func45, Try.ntmps45
  go_wp2_with fail
  go_quiet (fail)
  go_wp2_with fail
  go_ret
  refine ⟨rfl, ?_, ((Chg.refl (fun k => k = mb) w).drewN nq).setCell ⟨mb, 9, none⟩ (fun _ => rfl) _⟩
  rw [HB.out, HN.out]
  refine (HM.out.drewN nq).own HE.out 9 _ s.step calls rfl rfl ⟨by simp [MS.step], ?_⟩ HM.out.rl HM.out.cl fun vT => ?_
  · have h1 := HE.out.fuel.2; have h2 := HN.out; have h3 := HF.out; simp only [MS.step]; omega
  · simp [MS.step]
theorem mstep_no (hE : EnvOk E) (h : MacAt E s calls r w) (h0 : s.fin = 0) (hf : E.fuel ≤ (s.steps : Int)) :
    Calls Try.prog 45 #[.pointer (some ⟨E.mb, 0, none⟩)] w fun e w' => e = .returned (.bool false) ∧ MacAt E (s.ended 5) calls r w' ∧ Chg (fun k => k = E.mb) w w' := by
  obtain ⟨c0, c1, c2, c3, c4, c5, c6, c9, c10, hfr⟩ := h.cells
  obtain ⟨mb, hmb⟩ : ∃ mb, mb = E.mb := ⟨_, rfl⟩
  rw [← hmb] at c4 c6 c9 hfr ⊢
  rw [h0] at c6
  have hs : (s.steps : Int) ≤ 100000 := by have := h.sl; omega
  have hs0 : 0 ≤ (s.steps : Int) := by omega
  have HE := Lib.hid hE
  have HM := Lib.hid h
  have HB := Lib.hid hmb
  obtain ⟨n, hn⟩ : ∃ n : Int, n = (s.steps : Int) := ⟨_, rfl⟩
  obtain ⟨fu, hfu⟩ : ∃ fu, fu = E.fuel := ⟨_, rfl⟩
  rw [← hn] at c9 hs hs0
  rw [← hfu] at c4
  rw [← hn, ← hfu] at hf
  have HN := Lib.hid hn
  clear c0 c1 c2 c3 c5 c10 h hE hmb hn hfu h0
  go_enter Try.func45, Try.ntmps45
  go_wp2_with fail
  go_quiet (fail)
  go_wp2_with fail
  go_ret
  refine ⟨rfl, ?_, ((Chg.refl (fun k => k = mb) w).drewN nq).setCell ⟨mb, 6, none⟩ (fun _ => rfl) _⟩
  rw [HB.out]
  refine (HM.out.drewN nq).own HE.out 6 _ (s.ended 5) calls rfl rfl ⟨Nat.le_refl _, HM.out.sl⟩ HM.out.rl HM.out.cl fun vT => ?_
  simp [MS.ended]
end
end Go.Proofs.Ytnfneinonkpmeaa
namespace Go.Proofs.Ytnfneinonkpmeaa
open Go.RowKit
section
variable {E : Env} {s : MS} {calls : Nat} {r : Option Nat} {w w' : World}
theorem getR_i32 {l : List Int} (h : ∀ z ∈ l, I32 z) (a : Int) : I32 (getR l a) := by
  unfold getR
  by_cases ha : a.toNat < l.length
  · rw [List.getD_eq_getElem?_getD, List.getElem?_eq_getElem ha]; exact h _ (List.getElem_mem ha)
  · rw [List.getD_eq_getElem?_getD, List.getElem?_eq_none (by omega)]; unfold I32; simp
/-- What stands behind the box of the instruction. -/
structure IdxS (E : Env) (s : MS) (calls : Nat) (r : Option Nat) (w : World) (x : Ins) (gr : Nat) (regs : List Int) (bx : Nat) (Y : World) : Prop where
  below : Below w.heap.size w Y
  mac : MacAt E s calls r Y
  words : WordsAt Y gr regs
  nm : Y.cell? ⟨bx, 6, none⟩ = some (.string x.name)
  xa : Y.cell? ⟨bx, 3, none⟩ = some (.int .i64 x.a)
theorem IdxS.next {x : Ins} {gr : Nat} {regs : List Int} {bx : Nat} {Y Y' : World} (h : IdxS E s calls r w x gr regs bx Y) (hb : Below Y.heap.size Y Y') : IdxS E s calls r w x gr regs bx Y' :=
  ⟨h.below.trans (hb.mono h.below.size), h.mac.below hb, RowAt.kept h.words (S := fun _ => False) (Chg.of_below hb _) fun _ _ h => h, (hb.cell (p := ⟨bx, 6, none⟩) (World.block_lt_of_cell? Y ⟨bx, 6, none⟩ h.nm)).trans h.nm, (hb.cell (p := ⟨bx, 3, none⟩) (World.block_lt_of_cell? Y ⟨bx, 3, none⟩ h.xa)).trans h.xa⟩
/-- What 'index' hands back. -/
def IdxPost (E : Env) (s : MS) (calls : Nat) (r : Option Nat) (x : Ins) (regs : List Int) (w : World) (e : Ending) (w' : World) : Prop :=
  (idxOk E.m x regs s = true ∧ e = .returned (.tuple #[.int .i64 (idxG E.m x), .int .i64 (idxI x regs), .bool true]) ∧ Below w.heap.size w w') ∨
  (idxOk E.m x regs s = false ∧ e = .returned (.tuple #[.int .i64 0, .int .i64 0, .bool false]) ∧ MacAt E (s.ended 3) calls r w' ∧ Chg (fun k => k = E.mb) w w')
theorem IdxS.no {x : Ins} {gr : Nat} {regs : List Int} {bx : Nat} {Y : World} (hE : EnvOk E) (h : IdxS E s calls r w x gr regs bx Y) {g L : Nat} (hg : idxG E.m x = g) (hL : L = (dataRow s g).length) {z : Int} (hz : idxI x regs = z) (hn : z < 0 ∨ (L : Int) ≤ z) :
    IdxPost E s calls r x regs w (.returned (.tuple #[.int .i64 0, .int .i64 0, .bool false])) (Y.setCell ⟨E.mb, 6, none⟩ (.int .i64 3)) := by
  refine .inr ⟨?_, rfl, ?_, ?_⟩
  · unfold idxOk
    rw [hg, ← hL, hz]
    rw [Bool.and_eq_false_iff, decide_eq_false_iff_not, decide_eq_false_iff_not]
    omega
  · exact h.mac.own hE 6 _ (s.ended 3) calls rfl rfl ⟨Nat.le_refl _, h.mac.sl⟩ h.mac.rl h.mac.cl fun vT => by simp [MS.ended]
  · exact ((Chg.of_below h.below (fun k => k = E.mb))).setCell ⟨E.mb, 6, none⟩ (fun _ => rfl) _
theorem IdxS.yes {x : Ins} {gr : Nat} {regs : List Int} {bx : Nat} {Y : World} (h : IdxS E s calls r w x gr regs bx Y) {g L : Nat} (hg : idxG E.m x = g) (hL : L = (dataRow s g).length) {z : Int} (hz : idxI x regs = z) (h0 : 0 ≤ z) (hn : z < (L : Int)) :
    IdxPost E s calls r x regs w (.returned (.tuple #[.int .i64 (g : Nat), .int .i64 z, .bool true])) Y := by
  refine .inl ⟨?_, by rw [hg, hz], h.below⟩
  unfold idxOk
  rw [hg, ← hL, hz]
  simp [h0, hn]
set_option maxHeartbeats 4000000 in
set_option maxRecDepth 100000 in
theorem index_any (hE : EnvOk E) (h : MacAt E s calls r w) (x : Ins) (Ax : Option Addr) (cx : Nat) (g : Nat) (hg : g < E.m.globals.length) (hgl : globAt E.m.globals x.name = g) (gr : Nat) (regs : List Int)
    (hr : WordsAt w gr regs) (hw : ∀ z ∈ regs, I32 z) (ha : regB x.a regs.length true = true) :
    Calls Try.prog 61 #[.pointer (some ⟨E.mb, 0, none⟩), .slice (some ⟨gr, 0, none⟩) regs.length regs.length, agI x Ax cx] w (IdxPost E s calls r x regs w) := by
  obtain ⟨kind, op, d, a, b, num, name, args⟩ := x
  dsimp only at hgl ha
  have hE' := hE
  obtain ⟨w1, hw1, hb1, hlt1, hc⟩ := box_new w #[.int .i64 kind, .int .i64 op, .int .i64 d, .int .i64 a, .int .i64 b, .int .i32 num, .string name, .slice Ax args.length cx] 54
  obtain ⟨bx, hbx⟩ : ∃ bx, bx = w.heap.size := ⟨_, rfl⟩
  have hst : IdxS E s calls r w ⟨kind, op, d, a, b, num, name, args⟩ gr regs bx w1 := ⟨hb1, h.below hb1, RowAt.kept hr (S := fun _ => False) (Chg.of_below hb1 _) fun _ _ h => h, by rw [hbx]; exact hc 6, by rw [hbx]; exact hc 3⟩
  have ST := Lib.hid hst
  have HW1 := Lib.hid hw1
  have HE := Lib.hid hE
  have HBX := Lib.hid hbx
  have HG := Lib.hid hgl
  have HWS := Lib.hid hw
  have HGL : Hid (∀ W, MacAt E s calls r W → Calls Try.prog 28 #[.agg #[.slice E.A E.m.globals.length E.c, .slice E.B E.m.fns.length E.d], .string name] W fun e w' => e = .returned (.int .i64 (g : Nat)) ∧ Below W.heap.size W w') := Lib.hid fun W hM => by
    have h1 := GlobalAt_any E.m E.A E.B E.c E.d name W hM.mid
    rw [hgl] at h1
    exact h1
  obtain ⟨mb, hmb⟩ : ∃ mb, mb = E.mb := ⟨_, rfl⟩
  obtain ⟨c0, c1, _⟩ := hst.mac.cells
  have nm := hst.nm
  dsimp only at nm
  rw [← hmb] at c0 c1 ⊢
  have HMB := Lib.hid hmb
  clear hst hw1 hb1 hc hE hbx hgl hr hw h hmb hlt1
  dsimp only [agI]
  go_enter Try.func61, Try.ntmps61
  go_upto_region 1 with (fail)
  rw [← HW1.out, ← HBX.out]
  have ST := Lib.hid (ST.out.next (Y' := w1.drew) ⟨rfl, rfl, rfl, Nat.le_refl _, fun _ _ => rfl⟩)
  go_region_held3 (fun Y => Y.cell? ⟨mb, 0, none⟩ = some (.slice E.A E.m.globals.length E.c) ∧ Y.cell? ⟨mb, 1, none⟩ = some (.slice E.B E.m.fns.length E.d) ∧ Y.cell? ⟨bx, 6, none⟩ = some (.string name)) (first | exact ⟨c0, c1, nm⟩ | go_keep)
    (first
    | (go_at_call 28; (with_reducible refine (HGL.out _ ST.out.mac).mono ?_); rintro e wv ⟨rfl, hBv⟩; have ST := Lib.hid (ST.out.next hBv); clear hBv; obtain ⟨c0, c1, _⟩ := ST.out.mac.cells; rw [← HMB.out] at c0 c1; have nm := ST.out.nm; dsimp only at nm))
  all_goals
    obtain ⟨gd, od, hAD, hrow⟩ := ST.out.mac.outer g (by rw [hE'.nb]; exact hg)
    obtain ⟨L, hL⟩ : ∃ L, L = (dataRow s g).length := ⟨_, rfl⟩
    have hL1 : 1 ≤ L := by rw [hL, ST.out.mac.dlen g hg]; omega
    obtain ⟨_, _, c2, _, _, _, c6, _, _, hfr⟩ := ST.out.mac.cells
    rw [hAD] at c2
    rw [← HMB.out] at c2 c6 hfr
    rw [← hL] at hrow
    have xa := ST.out.xa
    dsimp only at xa
    obtain ⟨bg, hbg⟩ : ∃ bg, bg = E.bs[g]'(by rw [hE'.nb]; exact hg) := ⟨_, rfl⟩
    rw [← hbg] at hrow
    obtain ⟨ng, hng⟩ : ∃ ng, ng = E.m.globals.length := ⟨_, rfl⟩
    have hng64 : ng ≤ 64 := by rw [hng]; exact hE'.may.ng
    rw [← hng] at c2 hg
    have hLm : L ≤ 4096 := by
      have h1 := (hE'.may.globs g (by rw [← hng]; exact hg)).size.2
      rw [hL, ST.out.mac.dlen g (by rw [← hng]; exact hg)]; omega
    have hIG : idxG E.m ⟨kind, op, d, a, b, num, name, args⟩ = g := by unfold idxG; rw [HG.out]; simp
    have HIG := Lib.hid hIG
    have HL := Lib.hid hL
    have hcase : (0 ≤ a ∧ a < (regs.length : Int)) ∨ a = -1 := by
      unfold regB at ha
      simp only [Bool.or_eq_true, Bool.and_eq_true, decide_eq_true_eq] at ha
      omega
    clear hAD hL hbg hng c0 c1 nm hIG hE' ha
    rcases hcase with ⟨ha0, ha1⟩ | rfl
    · obtain ⟨k, rfl⟩ := Int.eq_ofNat_of_zero_le ha0
      have hk : k < regs.length := by omega
      obtain ⟨hz, _⟩ := wsCell ST.out.words k hk
      obtain ⟨z, hze⟩ : ∃ z, z = regs.getD k 0 := ⟨_, rfl⟩
      rw [← hze] at hz
      have hzb : I32 z := by
        have := getR_i32 HWS.out (k : Int)
        unfold getR at this
        rw [hze]; simpa using this
      have hix : idxI ⟨kind, op, d, (k : Int), b, num, name, args⟩ regs = z := by
        unfold idxI getR
        rw [if_pos (by simp), hze]; simp
      have HIX := Lib.hid hix
      unfold I32 at hzb
      obtain ⟨hz1, hz2⟩ := hzb
      have hrl : regs.length ≤ maxLen := by
        obtain ⟨_, _, _, _, _, h1, h2, _⟩ := RowAt.form ST.out.words (by omega)
        exact Nat.le_trans h1 h2
      unfold maxLen at hrl
      clear hix hze
      by_cases hneg : z < 0
      · go_wp2_with fail
        go_ret3
        rw [HMB.out]
        exact ST.out.no HE.out HIG.out HL.out HIX.out (.inl hneg)
      · have hn0 : (z < 0) = False := by simpa using hneg
        have hn1 : decide (z < 0) = false := by simpa using hneg
        have hge : 0 ≤ z := by omega
        clear hn0
        by_cases hlt : z < (L : Int)
        · go_wp2_with fail
          go_ret3
          exact ST.out.yes HIG.out HL.out HIX.out hge hlt
        · have hle : (L : Int) ≤ z := by omega
          go_wp2_with fail
          go_ret3
          rw [HMB.out]
          exact ST.out.no HE.out HIG.out HL.out HIX.out (.inr hle)
    · have hix : idxI ⟨kind, op, d, -1, b, num, name, args⟩ regs = 0 := by unfold idxI; rw [if_neg (by simp)]
      have HIX := Lib.hid hix
      clear hix
      have hll : ¬ ((L : Int) ≤ 0) := by omega
      go_wp2_with fail
      go_ret3
      exact ST.out.yes HIG.out HL.out HIX.out (by omega) (by omega)
end
end Go.Proofs.Ytnfneinonkpmeaa
namespace Go.Proofs.Ytnfneinonkpmeaa
open Go.RowKit
theorem dr {w : World} : Below w.heap.size w w.drew := ⟨rfl, rfl, rfl, Nat.le_refl _, fun _ _ => rfl⟩
theorem drN {w : World} {n : Nat} : Below w.heap.size w (w.drewN n) := ⟨rfl, rfl, rfl, Nat.le_refl _, fun _ _ => rfl⟩
theorem un_q (op x : Int) (hx : I32 x) (w : World) : Calls Try.prog 59 #[.int .i64 op, .int .i32 x] w fun e w' => e = .returned (.tuple #[.int .i32 ((unO op x).getD 0), .bool (unO op x).isSome]) ∧ ∃ n, w' = w.drewN n := (un_any op x hx w).mono fun _ _ h => ⟨h.2, h.1⟩
theorem bin_q (op x y : Int) (hx : I32 x) (hy : I32 y) (w : World) : Calls Try.prog 60 #[.int .i64 op, .int .i32 x, .int .i32 y] w fun e w' => e = .returned (.tuple #[.int .i32 ((binO op x y).getD 0), .bool (binO op x y).isSome]) ∧ ∃ n, w' = w.drewN n := (bin_any op x y hx hy w).mono fun _ _ h => ⟨h.2, h.1⟩
def ReachE (E : Env) (a b : Cfg) : Prop := Reach E.m E.inp E.fuel a b
/-- A call's registers. -/
structure RegAt (E : Env) (r : Option Nat) (gr : Nat) (regs : List Int) (w : World) : Prop where
  words : WordsAt w gr regs
  bd : ∀ z ∈ regs, I32 z
  base : E.base ≤ gr
  foot : ¬ Foot E r gr
  row : ¬ E.row gr
def InsPost (E : Env) (s : MS) (x : Ins) (gr : Nat) (regs : List Int) (c : Nat) (r : Option Nat) (w : World) (e : Ending) (w' : World) : Prop :=
  ∃ (s' : MS) (r' : Option Nat) (regs' : List Int) (c' : Nat), e = .returned (.tuple #[]) ∧ Chg (fun k => Foot E r k ∨ k = gr) w w' ∧ MacAt E s' c' r' w' ∧ RegAt E r' gr regs' w' ∧ regs'.length = regs.length ∧ NewOr w r r' ∧
  ((s'.fin = 0 ∧ c' = c ∧ ∀ fr K, fr.regs = regs → K.length + 1 = c → ReachE E (exS E.m E.inp x s fr K) (s', { fr with regs := regs' } :: K)) ∨
    (s'.fin ≠ 0 ∧ ∀ fr K, fr.regs = regs → K.length + 1 = c → ∃ K', ReachE E (exS E.m E.inp x s fr K) (s', K')))
section
variable {E : Env} {s : MS} {c : Nat} {r : Option Nat} {w w' : World} {gr : Nat} {regs : List Int}
theorem RegAt.kept {S : Nat → Prop} (h : RegAt E r gr regs w) (hc : Chg S w w') (hS : ¬ S gr) : RegAt E r gr regs w' := ⟨RowAt.kept h.words hc fun k hk => by cases hk; exact hS, h.bd, h.base, h.foot, h.row⟩
theorem RegAt.below (h : RegAt E r gr regs w) (hb : Below w.heap.size w w') : RegAt E r gr regs w' := h.kept (S := fun _ => False) (Chg.of_below hb _) fun h => h
theorem RegAt.lt (h : RegAt E r gr regs w) : gr < w.heap.size := RowAt.lt h.words _ rfl
theorem RegAt.set (h : RegAt E r gr regs w) (j : Nat) (hj : j < regs.length) (v : Int) (hv : I32 v) : RegAt E r gr (regs.set j v) (w.setCell ⟨gr, j, none⟩ (.int .i32 v)) :=
  ⟨words_set h.words j hj v, fun z hz => by
    rcases List.mem_or_eq_of_mem_set hz with hz | rfl
    · exact h.bd z hz
    · exact hv, h.base, h.foot, h.row⟩
theorem MacAt.reg (h : MacAt E s c r w) (hR : RegAt E r gr regs w) (j : Nat) (v : Value) : MacAt E s c r (w.setCell ⟨gr, j, none⟩ v) :=
  h.kept (Chg.store w gr j v) (fun k e _ => by rw [e]; exact hR.foot) fun k e _ => by rw [e]; exact ⟨hR.base, hR.row⟩
theorem regB_in {r n : Int} (h : regB r n false = true) : 0 ≤ r ∧ r < n := by
  unfold regB at h
  simp only [Bool.false_and, Bool.or_false, Bool.and_eq_true, decide_eq_true_eq] at h
  exact h
theorem regB_k {r : Int} {l : List Int} (h : regB r l.length false = true) : ∃ k : Nat, r = (k : Int) ∧ k < l.length := by
  obtain ⟨h1, h2⟩ := regB_in h
  obtain ⟨k, rfl⟩ := Int.eq_ofNat_of_zero_le h1
  exact ⟨k, rfl, by omega⟩
/-- A register is turned, and that is all. -/
theorem ins_set {x : Ins} {k : Nat} {v : Int} (hk : k < regs.length) (hv : I32 v) {Y Z : World} (hM : MacAt E s c r Y) (hR : RegAt E r gr regs Y) (hb : Below w.heap.size w Y) (h0 : s.fin = 0) (hZ : Z = Y.setCell ⟨gr, k, none⟩ (.int .i32 v))
    (hx : ∀ fr K, fr.regs = regs → K.length + 1 = c → exS E.m E.inp x s fr K = (s, { fr with regs := regs.set k v } :: K)) :
    InsPost E s x gr regs c r w (.returned (.tuple #[])) Z := by
  subst hZ
  refine ⟨s, r, regs.set k v, c, rfl, (Chg.of_below hb _).setCell ⟨gr, k, none⟩ (fun _ => .inr rfl) _, hM.reg hR k _, hR.set k hk v hv, by simp, NewOr.refl _ _, .inl ⟨h0, rfl, fun fr K e hl => ?_⟩⟩
  rw [hx fr K e hl]
  exact Reach.refl _
theorem opt_bd {o : Option Int} (h : ∀ v, o = some v → I32 v) : I32 (o.getD 0) := by
  cases o with
  | none => unfold I32; simp
  | some v => exact h v rfl
/-- The run ends here. -/
theorem ins_fail (hE : EnvOk E) {x : Ins} (k : Int) (hk : k ≠ 0) {Y Z : World} (hM : MacAt E s c r Y) (hR : RegAt E r gr regs Y) (hb : Below w.heap.size w Y) (hZ : Z = Y.setCell ⟨E.mb, 6, none⟩ (.int .i64 k))
    (hx : ∀ fr K, fr.regs = regs → K.length + 1 = c → exS E.m E.inp x s fr K = (s.ended k, fr :: K)) :
    InsPost E s x gr regs c r w (.returned (.tuple #[])) Z := by
  subst hZ
  refine ⟨s.ended k, r, regs, c, rfl, (Chg.of_below hb _).setCell ⟨E.mb, 6, none⟩ (fun _ => .inl (.inl rfl)) _, hM.own hE 6 _ (s.ended k) c rfl rfl ⟨Nat.le_refl _, hM.sl⟩ hM.rl hM.cl fun vT => by simp [MS.ended],
    hR.kept (Chg.store Y E.mb 6 _) fun e => hR.foot (.inl e), rfl, NewOr.refl _ _, .inr ⟨hk, fun fr K e hl => ⟨fr :: K, ?_⟩⟩⟩
  rw [hx fr K e hl]
  exact Reach.refl _
theorem ins_fail' {x : Ins} (k : Int) (hk : k ≠ 0) {Z : World} (hM : MacAt E (s.ended k) c r Z) (hR : RegAt E r gr regs Z) (hc : Chg (fun k => k = E.mb) w Z)
    (hx : ∀ fr K, fr.regs = regs → K.length + 1 = c → exS E.m E.inp x s fr K = (s.ended k, fr :: K)) :
    InsPost E s x gr regs c r w (.returned (.tuple #[])) Z := by
  refine ⟨s.ended k, r, regs, c, rfl, hc.mono fun _ _ e => .inl (.inl e), hM, hR, rfl, NewOr.refl _ _, .inr ⟨hk, fun fr K e hl => ⟨fr :: K, ?_⟩⟩⟩
  rw [hx fr K e hl]
  exact Reach.refl _
end
end Go.Proofs.Ytnfneinonkpmeaa
namespace Go.Proofs.Ytnfneinonkpmeaa
open Go.RowKit
section
variable {E : Env} {s : MS} {c : Nat} {r : Option Nat} {w w' : World} {gr : Nat} {regs : List Int}
set_option maxHeartbeats 4000000 in
set_option maxRecDepth 100000 in
theorem mins_1 (h : MacAt E s c r w) (hR : RegAt E r gr regs w) (h0 : s.fin = 0) (d z : Int) (hd : regB d regs.length false = true) (hz : I32 z) (Ax : Option Addr) (cx : Nat) :
    Calls Try.prog 46 #[.pointer (some ⟨E.mb, 0, none⟩), .slice (some ⟨gr, 0, none⟩) regs.length regs.length, .agg #[.int .i64 1, .int .i64 0, .int .i64 d, .int .i64 (-1), .int .i64 (-1), .int .i32 z, .string ⟨#[]⟩, .slice Ax 0 cx]] w (InsPost E s ⟨1, 0, d, -1, -1, z, ⟨#[]⟩, []⟩ gr regs c r w) := by
  obtain ⟨kd, rfl, hkd⟩ := regB_k hd
  obtain ⟨w1, hw1, hb1, hlt1, hc⟩ := box_new w #[.int .i64 1, .int .i64 0, .int .i64 kd, .int .i64 (-1), .int .i64 (-1), .int .i32 z, .string ⟨#[]⟩, .slice Ax 0 cx] 54
  obtain ⟨rd, qd⟩ := wsCell (hR.below hb1).words kd hkd
  obtain ⟨vd, ed⟩ : ∃ v, v = regs.getD kd 0 := ⟨_, rfl⟩
  rw [← ed] at rd
  have bd : I32 vd := by rw [ed]; have := getR_i32 hR.bd (kd : Int); unfold getR at this; simpa using this
  have EVd := Lib.hid ed
  have BVd := Lib.hid bd
  clear ed bd
  have HM := Lib.hid (h.below hb1)
  have HR := Lib.hid (hR.below hb1)
  have HB := Lib.hid hb1
  have H0 := Lib.hid h0
  have HW := Lib.hid hw1
  have x0 := hc 0
  have x2 := hc 2
  have x5 := hc 5
  simp only [List.getElem?_toArray, List.getElem?_cons_succ, List.getElem?_cons_zero] at x0 x2 x5
  obtain ⟨bx, hbx⟩ : ∃ bx, bx = w.heap.size := ⟨_, rfl⟩
  rw [← hbx] at x0 x2 x5
  have HBX := Lib.hid hbx
  have hrl : regs.length ≤ maxLen := by
    obtain ⟨_, _, _, _, _, h1, h2, _⟩ := RowAt.form hR.words (by omega)
    exact Nat.le_trans h1 h2
  unfold maxLen at hrl
  have hgk : bx ≠ gr := by rw [hbx]; have := hR.lt; omega
  have HZ := Lib.hid hz
  clear hz
  clear hd h hR hb1 hlt1 hc hw1 h0 hbx
  go_enter Try.func46, Try.ntmps46
  go_upto_region 1 with (fail)
  rw [← HW.out, ← HBX.out]
  go_wp2_with fail
  go_end0
  exact ins_set hkd HZ.out HM.out HR.out HB.out H0.out rfl fun fr K e hl => by simp [exS, Fr.put, setR, e]
set_option maxHeartbeats 4000000 in
set_option maxRecDepth 100000 in
theorem mins_2 (h : MacAt E s c r w) (hR : RegAt E r gr regs w) (h0 : s.fin = 0) (d a : Int) (hd : regB d regs.length false = true) (ha : regB a regs.length false = true) (Ax : Option Addr) (cx : Nat) :
    Calls Try.prog 46 #[.pointer (some ⟨E.mb, 0, none⟩), .slice (some ⟨gr, 0, none⟩) regs.length regs.length, .agg #[.int .i64 2, .int .i64 0, .int .i64 d, .int .i64 a, .int .i64 (-1), .int .i32 0, .string ⟨#[]⟩, .slice Ax 0 cx]] w (InsPost E s ⟨2, 0, d, a, -1, 0, ⟨#[]⟩, []⟩ gr regs c r w) := by
  obtain ⟨kd, rfl, hkd⟩ := regB_k hd
  obtain ⟨ka, rfl, hka⟩ := regB_k ha
  obtain ⟨w1, hw1, hb1, hlt1, hc⟩ := box_new w #[.int .i64 2, .int .i64 0, .int .i64 kd, .int .i64 ka, .int .i64 (-1), .int .i32 0, .string ⟨#[]⟩, .slice Ax 0 cx] 54
  obtain ⟨rd, qd⟩ := wsCell (hR.below hb1).words kd hkd
  obtain ⟨ra, qa⟩ := wsCell (hR.below hb1).words ka hka
  obtain ⟨vd, ed⟩ : ∃ v, v = regs.getD kd 0 := ⟨_, rfl⟩
  rw [← ed] at rd
  have bd : I32 vd := by rw [ed]; have := getR_i32 hR.bd (kd : Int); unfold getR at this; simpa using this
  have EVd := Lib.hid ed
  have BVd := Lib.hid bd
  clear ed bd
  obtain ⟨va, ea⟩ : ∃ v, v = regs.getD ka 0 := ⟨_, rfl⟩
  rw [← ea] at ra
  have ba : I32 va := by rw [ea]; have := getR_i32 hR.bd (ka : Int); unfold getR at this; simpa using this
  have EVa := Lib.hid ea
  have BVa := Lib.hid ba
  clear ea ba
  have HM := Lib.hid (h.below hb1)
  have HR := Lib.hid (hR.below hb1)
  have HB := Lib.hid hb1
  have H0 := Lib.hid h0
  have HW := Lib.hid hw1
  have x0 := hc 0
  have x2 := hc 2
  have x3 := hc 3
  simp only [List.getElem?_toArray, List.getElem?_cons_succ, List.getElem?_cons_zero] at x0 x2 x3
  obtain ⟨bx, hbx⟩ : ∃ bx, bx = w.heap.size := ⟨_, rfl⟩
  rw [← hbx] at x0 x2 x3
  have HBX := Lib.hid hbx
  have hrl : regs.length ≤ maxLen := by
    obtain ⟨_, _, _, _, _, h1, h2, _⟩ := RowAt.form hR.words (by omega)
    exact Nat.le_trans h1 h2
  unfold maxLen at hrl
  have hgk : bx ≠ gr := by rw [hbx]; have := hR.lt; omega
  clear hd ha h hR hb1 hlt1 hc hw1 h0 hbx
  go_enter Try.func46, Try.ntmps46
  go_upto_region 1 with (fail)
  rw [← HW.out, ← HBX.out]
  go_upto_region 5 with (fail)
  go_still_tail 9, (by kernel_rfl)
  change wpList _ _ _ _ _ w1.drew
  go_wp2_with fail
  go_end0
  exact ins_set hkd BVa.out HM.out.drew (HR.out.below dr) (HB.out.trans (dr.mono HB.out.size)) H0.out rfl fun fr K e hl => by
    simp only [exS, show getR fr.regs (ka : Int) = va from by unfold getR; rw [e, EVa.out]; rfl]
    simp [Fr.put, setR, e]
set_option maxHeartbeats 4000000 in
set_option maxRecDepth 100000 in
theorem mins_3 (h : MacAt E s c r w) (hR : RegAt E r gr regs w) (h0 : s.fin = 0) (op d a : Int) (hd : regB d regs.length false = true) (ha : regB a regs.length false = true) (Ax : Option Addr) (cx : Nat) :
    Calls Try.prog 46 #[.pointer (some ⟨E.mb, 0, none⟩), .slice (some ⟨gr, 0, none⟩) regs.length regs.length, .agg #[.int .i64 3, .int .i64 op, .int .i64 d, .int .i64 a, .int .i64 (-1), .int .i32 0, .string ⟨#[]⟩, .slice Ax 0 cx]] w (InsPost E s ⟨3, op, d, a, -1, 0, ⟨#[]⟩, []⟩ gr regs c r w) := by
  obtain ⟨kd, rfl, hkd⟩ := regB_k hd
  obtain ⟨ka, rfl, hka⟩ := regB_k ha
  obtain ⟨w1, hw1, hb1, hlt1, hc⟩ := box_new w #[.int .i64 3, .int .i64 op, .int .i64 kd, .int .i64 ka, .int .i64 (-1), .int .i32 0, .string ⟨#[]⟩, .slice Ax 0 cx] 54
  obtain ⟨rd, qd⟩ := wsCell (hR.below hb1).words kd hkd
  obtain ⟨ra, qa⟩ := wsCell (hR.below hb1).words ka hka
  obtain ⟨vd, ed⟩ : ∃ v, v = regs.getD kd 0 := ⟨_, rfl⟩
  rw [← ed] at rd
  have bd : I32 vd := by rw [ed]; have := getR_i32 hR.bd (kd : Int); unfold getR at this; simpa using this
  have EVd := Lib.hid ed
  have BVd := Lib.hid bd
  clear ed bd
  obtain ⟨va, ea⟩ : ∃ v, v = regs.getD ka 0 := ⟨_, rfl⟩
  rw [← ea] at ra
  have ba : I32 va := by rw [ea]; have := getR_i32 hR.bd (ka : Int); unfold getR at this; simpa using this
  have EVa := Lib.hid ea
  have BVa := Lib.hid ba
  clear ea ba
  have HM := Lib.hid (h.below hb1)
  have HR := Lib.hid (hR.below hb1)
  have HB := Lib.hid hb1
  have H0 := Lib.hid h0
  have HW := Lib.hid hw1
  have x0 := hc 0
  have x1 := hc 1
  have x2 := hc 2
  have x3 := hc 3
  simp only [List.getElem?_toArray, List.getElem?_cons_succ, List.getElem?_cons_zero] at x0 x1 x2 x3
  obtain ⟨bx, hbx⟩ : ∃ bx, bx = w.heap.size := ⟨_, rfl⟩
  rw [← hbx] at x0 x1 x2 x3
  have HBX := Lib.hid hbx
  have hrl : regs.length ≤ maxLen := by
    obtain ⟨_, _, _, _, _, h1, h2, _⟩ := RowAt.form hR.words (by omega)
    exact Nat.le_trans h1 h2
  unfold maxLen at hrl
  have hgk : bx ≠ gr := by rw [hbx]; have := hR.lt; omega
  have HU := Lib.hid fun W => un_q op va BVa.out W
  clear hd ha h hR hb1 hlt1 hc hw1 h0 hbx
  go_enter Try.func46, Try.ntmps46
  go_upto_region 1 with (fail)
  rw [← HW.out, ← HBX.out]
  go_upto_region 7 with (fail)
  go_quiet ((go_at_call 59; exact Calls.quiet_of (HU.out _)))
  go_wp2_with fail
  go_end0
  exact ins_set hkd (opt_bd fun v h => unO_bd h) (HM.out.drewN nq) (HR.out.below drN) (HB.out.trans (drN.mono HB.out.size)) H0.out rfl fun fr K e hl => by
    simp only [exS, show getR fr.regs (ka : Int) = va from by unfold getR; rw [e, EVa.out]; rfl]
    simp [Fr.put, setR, e]
set_option maxHeartbeats 4000000 in
set_option maxRecDepth 100000 in
theorem mins_4 (h : MacAt E s c r w) (hR : RegAt E r gr regs w) (h0 : s.fin = 0) (hE : EnvOk E) (op d a b : Int) (hd : regB d regs.length false = true) (ha : regB a regs.length false = true) (hb : regB b regs.length false = true) (Ax : Option Addr) (cx : Nat) :
    Calls Try.prog 46 #[.pointer (some ⟨E.mb, 0, none⟩), .slice (some ⟨gr, 0, none⟩) regs.length regs.length, .agg #[.int .i64 4, .int .i64 op, .int .i64 d, .int .i64 a, .int .i64 b, .int .i32 0, .string ⟨#[]⟩, .slice Ax 0 cx]] w (InsPost E s ⟨4, op, d, a, b, 0, ⟨#[]⟩, []⟩ gr regs c r w) := by
  obtain ⟨kd, rfl, hkd⟩ := regB_k hd
  obtain ⟨ka, rfl, hka⟩ := regB_k ha
  obtain ⟨kb, rfl, hkb⟩ := regB_k hb
  obtain ⟨w1, hw1, hb1, hlt1, hc⟩ := box_new w #[.int .i64 4, .int .i64 op, .int .i64 kd, .int .i64 ka, .int .i64 kb, .int .i32 0, .string ⟨#[]⟩, .slice Ax 0 cx] 54
  obtain ⟨rd, qd⟩ := wsCell (hR.below hb1).words kd hkd
  obtain ⟨ra, qa⟩ := wsCell (hR.below hb1).words ka hka
  obtain ⟨rb, qb⟩ := wsCell (hR.below hb1).words kb hkb
  obtain ⟨vd, ed⟩ : ∃ v, v = regs.getD kd 0 := ⟨_, rfl⟩
  rw [← ed] at rd
  have bd : I32 vd := by rw [ed]; have := getR_i32 hR.bd (kd : Int); unfold getR at this; simpa using this
  have EVd := Lib.hid ed
  have BVd := Lib.hid bd
  clear ed bd
  obtain ⟨va, ea⟩ : ∃ v, v = regs.getD ka 0 := ⟨_, rfl⟩
  rw [← ea] at ra
  have ba : I32 va := by rw [ea]; have := getR_i32 hR.bd (ka : Int); unfold getR at this; simpa using this
  have EVa := Lib.hid ea
  have BVa := Lib.hid ba
  clear ea ba
  obtain ⟨vb, eb⟩ : ∃ v, v = regs.getD kb 0 := ⟨_, rfl⟩
  rw [← eb] at rb
  have bb : I32 vb := by rw [eb]; have := getR_i32 hR.bd (kb : Int); unfold getR at this; simpa using this
  have EVb := Lib.hid eb
  have BVb := Lib.hid bb
  clear eb bb
  have HM := Lib.hid (h.below hb1)
  have HR := Lib.hid (hR.below hb1)
  have HB := Lib.hid hb1
  have H0 := Lib.hid h0
  have HW := Lib.hid hw1
  have x0 := hc 0
  have x1 := hc 1
  have x2 := hc 2
  have x3 := hc 3
  have x4 := hc 4
  simp only [List.getElem?_toArray, List.getElem?_cons_succ, List.getElem?_cons_zero] at x0 x1 x2 x3 x4
  obtain ⟨bx, hbx⟩ : ∃ bx, bx = w.heap.size := ⟨_, rfl⟩
  rw [← hbx] at x0 x1 x2 x3 x4
  have HBX := Lib.hid hbx
  have hrl : regs.length ≤ maxLen := by
    obtain ⟨_, _, _, _, _, h1, h2, _⟩ := RowAt.form hR.words (by omega)
    exact Nat.le_trans h1 h2
  unfold maxLen at hrl
  have hgk : bx ≠ gr := by rw [hbx]; have := hR.lt; omega
  obtain ⟨_, _, m2, _, _, _, m6, _, m10, mf⟩ := (h.below hb1).cells
  obtain ⟨mb, hmb⟩ : ∃ mb, mb = E.mb := ⟨_, rfl⟩
  rw [← hmb] at m2 m6 m10 mf ⊢
  have HMB := Lib.hid hmb
  have hbm : bx ≠ mb := by rw [hbx, hmb]; have := h.blt; omega
  have HE := Lib.hid hE
  clear hmb hE
  clear m2 m10
  clear hd ha hb h hR hb1 hlt1 hc hw1 h0 hbx
  cases ho : binO op va vb with
  | none =>
    have HU : Hid (∀ W, Calls Try.prog 60 #[.int .i64 op, .int .i32 va, .int .i32 vb] W fun e w' => e = .returned (.tuple #[.int .i32 0, .bool false]) ∧ ∃ n, w' = W.drewN n) := Lib.hid fun W => by
      have := bin_q op va vb BVa.out BVb.out W
      rw [ho] at this; exact this
    have HO := Lib.hid ho
    clear ho
    go_enter Try.func46, Try.ntmps46
    go_upto_region 1 with (fail)
    rw [← HW.out, ← HBX.out]
    go_upto_region 10 with (fail)
    go_quiet ((go_at_call 60; exact Calls.quiet_of (HU.out _)))
    go_wp2_with fail
    go_end0
    rw [HMB.out]
    exact ins_fail HE.out 2 (by decide) (HM.out.drewN nq) (HR.out.below drN) (HB.out.trans (drN.mono HB.out.size)) rfl fun fr K e hl => by
      simp only [exS, show getR fr.regs (ka : Int) = va from by unfold getR; rw [e, EVa.out]; rfl, show getR fr.regs (kb : Int) = vb from by unfold getR; rw [e, EVb.out]; rfl, HO.out]
      simp
  | some v =>
    have HU : Hid (∀ W, Calls Try.prog 60 #[.int .i64 op, .int .i32 va, .int .i32 vb] W fun e w' => e = .returned (.tuple #[.int .i32 v, .bool true]) ∧ ∃ n, w' = W.drewN n) := Lib.hid fun W => by
      have := bin_q op va vb BVa.out BVb.out W
      rw [ho] at this; exact this
    have HO := Lib.hid ho
    clear ho
    go_enter Try.func46, Try.ntmps46
    go_upto_region 1 with (fail)
    rw [← HW.out, ← HBX.out]
    go_upto_region 10 with (fail)
    go_quiet ((go_at_call 60; exact Calls.quiet_of (HU.out _)))
    go_wp2_with fail
    go_end0
    exact ins_set hkd (binO_bd HO.out) (HM.out.drewN nq) (HR.out.below drN) (HB.out.trans (drN.mono HB.out.size)) H0.out rfl fun fr K e hl => by
      simp only [exS, show getR fr.regs (ka : Int) = va from by unfold getR; rw [e, EVa.out]; rfl, show getR fr.regs (kb : Int) = vb from by unfold getR; rw [e, EVb.out]; rfl, HO.out]
      simp [Fr.put, setR, e]

end
end Go.Proofs.Ytnfneinonkpmeaa
