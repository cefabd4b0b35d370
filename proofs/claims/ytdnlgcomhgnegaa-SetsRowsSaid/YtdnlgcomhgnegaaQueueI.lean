/- A queue of int in memory: Push, Pop, Len. (Written by wip/gen.py out of XQueue.in.) -/
import Derived.Test.YtdnlgcomhgnegaaBitsC
import Derived.Test.YtdnlgcomhgnegaaMap
import Derived.WalkSpells
namespace Go.Proofs.Ytdnlgcomhgnegaa.QI
open Go.RowKit Go.Maps

abbrev El := Int
def enc (x : El) : Value := Value.int .i64 x
def lit (x : El) : Lit := Lit.int .i64 x
def okK (x : El) : Prop := I64 x
theorem lit_inj {x y : El} (h : lit x = lit y) : x = y := by
  injection h
theorem isKey (x : El) : WideAt.IsKeyLit (lit x) := trivial
theorem law : Keyed Try.prog 3 := int_keyed Try.underlying3
theorem key_of {x : El} (h : okK x) : keyOf Try.prog 3 (enc x) = some (lit x) := keyOf_int_mk Try.underlying3 (WalkArith.wf_i64 h)
theorem zeroB (w : World) : (zeroValue 4).run Try.prog w = .ok (.bool false) w := by kernel_rfl
theorem info_el : (Try.prog.info? 3).map (fun i => (i.zero, i.size, i.bytes)) = some (some (.int .i64 0), 1, 8) := by kernel_rfl

/-- What the queue's map says: true at what is in it. -/
noncomputable def inQ (l : List El) : Lit → Option Lit := fun k => @ite _ (∃ x ∈ l, lit x = k) (Classical.propDecidable _) (some (.bool true)) none
theorem inQ_in {l : List El} {x : El} (h : x ∈ l) : inQ l (lit x) = some (.bool true) := by unfold inQ; rw [if_pos ⟨x, h, rfl⟩]
theorem inQ_out {l : List El} {x : El} (h : x ∉ l) : inQ l (lit x) = none := by
  unfold inQ; rw [if_neg]; rintro ⟨y, hy, e⟩; exact h (lit_inj e ▸ hy)
theorem inQ_snoc (l : List El) (x : El) (k : Lit) : upd (inQ l) (lit x) (some (.bool true)) k = inQ (l ++ [x]) k := by
  by_cases e : k = lit x
  · subst e; rw [upd_same, inQ_in (by simp)]
  · rw [upd_other _ _ e]
    unfold inQ
    congr 1
    apply propext
    constructor
    · rintro ⟨y, hy, h⟩; exact ⟨y, by simp [hy], h⟩
    · rintro ⟨y, hy, h⟩
      rcases List.mem_append.1 hy with hy | hy
      · exact ⟨y, hy, h⟩
      · simp at hy; subst hy; exact absurd h.symm e
theorem inQ_tail {l : List El} {x : El} (h : x ∉ l) (k : Lit) : upd (inQ (x :: l)) (lit x) none k = inQ l k := by
  by_cases e : k = lit x
  · subst e; rw [upd_same, inQ_out h]
  · rw [upd_other _ _ e]
    unfold inQ
    congr 1
    apply propext
    constructor
    · rintro ⟨y, hy, h'⟩
      rcases List.mem_cons.1 hy with hy | hy
      · subst hy; exact absurd h'.symm e
      · exact ⟨y, hy, h'⟩
    · rintro ⟨y, hy, h'⟩; exact ⟨y, by simp [hy], h'⟩

def encs (l : List El) : List Value := l.map enc
theorem encs_snoc (l : List El) (x : El) : encs (l ++ [x]) = encs l ++ [enc x] := by simp [encs]

/-- What the map's field holds. -/
def MapF (w : World) (n : Nat) (l : List El) : Option Nat → Prop
  | none => l = []
  | some m => MapAt Try.prog 3 4 w m n (inQ l)

/-- A queue in memory: block b holds the slice of l and the map of what is in it; r, mo: their blocks; n: how many entries the map has at most. -/
structure QAt (w : World) (b : Nat) (r mo : Option Nat) (n : Nat) (l : List El) : Prop where
  ex : ∃ v, w.heap[b]? = some (.cells #[v, .map mo] 54 (0, 0)) ∧ RowAt w 3 1 v r l.length (encs l)
  map : MapF w n l mo
  nodup : l.Nodup
  ok : ∀ x ∈ l, okK x

def FootQ (b : Nat) (r mo : Option Nat) (k : Nat) : Prop := k = b ∨ some k = r ∨ some k = mo

theorem QAt.made {w : World} {b : Nat} (h : w.heap[b]? = some (.cells #[.slice none 0 0, .map none] 54 (0, 0))) : QAt w b none none 0 [] :=
  ⟨⟨_, h, RowAt.nil _ _ _⟩, rfl, List.nodup_nil, by simp⟩
theorem MapF.kept {w w' : World} {n : Nat} {l : List El} {mo : Option Nat} {S : Nat → Prop} (h : MapF w n l mo) (hc : Chg S w w') (hm : ∀ k, mo = some k → ¬ S k) : MapF w' n l mo := by
  cases mo with
  | none => exact h
  | some m => exact MapAt.kept h hc (hm m rfl)
theorem QAt.kept {w w' : World} {b n : Nat} {r mo : Option Nat} {l : List El} {S : Nat → Prop} (h : QAt w b r mo n l) (hc : Chg S w w') (hS : ∀ k, FootQ b r mo k → ¬ S k) : QAt w' b r mo n l := by
  obtain ⟨v, h1, h2⟩ := h.ex
  exact ⟨⟨v, hc.heap h1 (hS b (.inl rfl)), h2.kept hc fun k hk => hS k (.inr (.inl hk.symm))⟩, h.map.kept hc fun k hk => hS k (.inr (.inr hk.symm)), h.nodup, h.ok⟩
theorem QAt.lt {w : World} {b n : Nat} {r mo : Option Nat} {l : List El} (h : QAt w b r mo n l) : ∀ k, FootQ b r mo k → k < w.heap.size := by
  obtain ⟨v, h1, h2⟩ := h.ex
  rintro k (rfl | hk | hk)
  · exact lt_of_heap h1
  · exact h2.lt k hk.symm
  · have := h.map
    rw [← hk] at this
    exact MapAt.lt this

theorem len_any {w : World} {b n : Nat} {r mo : Option Nat} {l : List El} (h : QAt w b r mo n l) :
    Calls Try.prog 22 #[.pointer (some ⟨b, 0, none⟩)] w fun e w' => e = .returned (.int .i64 (l.length : Nat)) ∧ w = w' := by
  obtain ⟨v, h1, h2⟩ := h.ex
  obtain ⟨A, c, rfl, _⟩ := h2.shape
  have hc : w.cell? ⟨b, 0, none⟩ = some (.slice A l.length c) := by simp [World.cell?, h1]
  clear h1 h2 h
  go_enter Try.func22, Try.ntmps22
  go_wp2
  go_ret
  exact ⟨rfl, rfl⟩
theorem len_nil (w : World) :
    Calls Try.prog 22 #[.pointer none] w fun e w' => e = .returned (.int .i64 0) ∧ w = w' := by
  go_enter Try.func22, Try.ntmps22
  go_wp2
  go_ret
  exact ⟨rfl, rfl⟩

/-- Is it in? -/
noncomputable def isIn (x : El) (l : List El) : Bool := @decide (x ∈ l) (Classical.propDecidable _)
theorem isIn_true {x : El} {l : List El} : isIn x l = true ↔ x ∈ l := by unfold isIn; exact @decide_eq_true_iff _ (Classical.propDecidable _)
theorem isIn_of {x : El} {l : List El} (h : x ∈ l) : isIn x l = true := isIn_true.2 h
theorem isIn_not {x : El} {l : List El} (h : x ∉ l) : isIn x l = false := by
  cases e : isIn x l with
  | false => rfl
  | true => exact absurd (isIn_true.1 e) h

/-- The map's answer. -/
theorem look_any {w : World} {n : Nat} {mo : Option Nat} {l : List El} (h : MapF w n l mo) {x : El} (hx : okK x) :
    (Instr.lookup 52 (.map mo) (enc x) false).run Try.prog w = .ok (.bool (isIn x l)) w := by
  have hz : plainElem (H := Unit) Try.prog 4 (.bool false) = some (.lit (.bool false), []) := plainElem_bool Try.underlying4 false
  cases mo with
  | none =>
    have h0 : l = [] := h
    subst h0
    rw [isIn_not (by simp)]
    exact Maps.look_nil false law Try.underlying52 (zeroB w) (key_of hx)
  | some m =>
    rw [MapAt.look h law Try.underlying52 (zeroB w) hz (key_of hx)]
    by_cases e : x ∈ l
    · rw [inQ_in e, isIn_of e]; rfl
    · rw [inQ_out e, isIn_not e]; rfl

/-- Behind a push or a pop: the queue, and what may have turned. -/
structure QStep (w : World) (b : Nat) (r mo : Option Nat) (w' : World) (r' mo' : Option Nat) (n' : Nat) (l' : List El) : Prop where
  at_ : QAt w' b r' mo' n' l'
  chg : Chg (FootQ b r mo) w w'
  nr : NewOr w r r'
  nm : NewOr w mo mo'

theorem QStep.refl {w : World} {b n : Nat} {r mo : Option Nat} {l : List El} (h : QAt w b r mo n l) : QStep w b r mo w r mo n l := ⟨h, Chg.refl _ _, .refl _ _, .refl _ _⟩
theorem QStep.trans {w w1 w2 : World} {b n1 n2 : Nat} {r mo r1 mo1 r2 mo2 : Option Nat} {l1 l2 : List El} (h : QStep w b r mo w1 r1 mo1 n1 l1) (k : QStep w1 b r1 mo1 w2 r2 mo2 n2 l2) : QStep w b r mo w2 r2 mo2 n2 l2 :=
  ⟨k.at_, h.chg.trans k.chg (fun i hi hf => by
    rcases hf with hf | hf | hf
    · exact .inl hf
    · exact .inr (.inl (h.nr.old hi hf.symm).symm)
    · exact .inr (.inr (h.nm.old hi hf.symm).symm)), h.nr.trans k.nr h.chg.size, h.nm.trans k.nm h.chg.size⟩

theorem two_setCell {w : World} {b : Nat} {v0 v1 u : Value} {t : Nat} (h : w.heap[b]? = some (.cells #[v0, v1] t (0, 0))) : (w.setCell ⟨b, 0, none⟩ u).heap[b]? = some (.cells #[u, v1] t (0, 0)) ∧ (w.setCell ⟨b, 1, none⟩ u).heap[b]? = some (.cells #[v0, u] t (0, 0)) :=
  ⟨heap_setCell_same w b 0 #[v0, v1] t u h, heap_setCell_same w b 1 #[v0, v1] t u h⟩

/-- Behind the store into the map, the append, the store of the slice. -/
theorem QStep.pushed {w w1 w2 : World} {b n m : Nat} {v v' : Value} {r r' : Option Nat} {l : List El} (h : QAt w b r (some m) n l) (x : El) (hx : okK x) (hout : x ∉ l)
    (hb : w.heap[b]? = some (.cells #[v, .map (some m)] 54 (0, 0)))
    (hM : MapAt Try.prog 3 4 w1 m (n + 1) (upd (inQ l) (lit x) (some (.bool true)))) (hC1 : Chg (fun k => k = m) w w1)
    (hR : RowAt w2 3 1 v' r' (l.length + 1) (encs l ++ [enc x])) (hC2 : Chg (fun k => some k = r) w1 w2) (hN : NewOr w1 r r') :
    w2.heap[b]? = some (.cells #[v, .map (some m)] 54 (0, 0)) ∧ QStep w b r (some m) (w2.setCell ⟨b, 0, none⟩ v') r' (some m) (n + 1) (l ++ [x]) := by
  obtain ⟨v0, h1, h2⟩ := h.ex
  have hMw : MapAt Try.prog 3 4 w m n (inQ l) := h.map
  have hbm : b ≠ m := MapAt.ne_cells hMw hb
  have hrb : r ≠ some b := row_ne_of_type h2 h1 (by decide)
  have hrm : r ≠ some m := by
    intro e
    obtain ⟨es, clock, hm⟩ := hMw.obj
    rcases h2.2 with ⟨_, h0, _⟩ | ⟨g, _, _, cur, _, h0, hg, _⟩
    · rw [h0] at e; cases e
    · rw [h0] at e; cases e; rw [hg] at hm; cases hm
  have hb1 := hC1.heap hb hbm
  have hb2 := hC2.heap hb1 (fun e => hrb e.symm)
  have hM2 := hM.kept hC2 (fun e => hrm e.symm)
  have hs := Chg.store w2 b 0 v'
  have hrb' : r' ≠ some b := row_ne_of_type hR hb2 (by decide)
  refine ⟨hb2, ⟨⟨⟨v', (two_setCell hb2).1, ?_⟩, ?_, ?_, ?_⟩, ?_, ?_, .refl _ _⟩⟩
  · rw [List.length_append, encs_snoc]; exact hR.kept hs fun k hk e => hrb' (by rw [hk, e])
  · exact (hM2.kept hs fun e => hbm e.symm).congr (inQ_snoc l x)
  · rw [List.nodup_append]
    refine ⟨h.nodup, by simp, ?_⟩
    intro a ha c hc
    simp at hc; subst hc
    intro e; subst e; exact hout ha
  · intro y hy
    rcases List.mem_append.1 hy with hy | hy
    · exact h.ok y hy
    · simp at hy; subst hy; exact hx
  · exact (((hC1.mono (T := FootQ b r (some m)) fun i _ e => .inr (.inr (by rw [e]))).trans hC2 fun i _ e => .inr (.inl e)).trans hs fun i _ e => .inl e)
  · exact hN.mono hC1.size

set_option maxHeartbeats 1000000 in
set_option maxRecDepth 100000 in
/-- Push of one that is not there, the map made. -/
theorem push_made {w : World} {b n m : Nat} {r : Option Nat} {l : List El} (h : QAt w b r (some m) n l) (x : El) (hx : okK x) (hout : x ∉ l) (hn : n < 1000000000000) (hl : l.length < 1000000000000) :
    Calls Try.prog 17 #[.pointer (some ⟨b, 0, none⟩), enc x] w fun e w' => e = .returned (.bool true) ∧ ∃ r', QStep w b r (some m) w' r' (some m) (n + 1) (l ++ [x]) := by
  obtain ⟨v, h1, h2⟩ := h.ex
  obtain ⟨A, c, rfl, _⟩ := h2.shape
  have hlook := look_any h.map hx
  rw [isIn_not hout] at hlook
  have hc0 : w.cell? ⟨b, 0, none⟩ = some (.slice A l.length c) := by simp [World.cell?, h1]
  have hc1 : w.cell? ⟨b, 1, none⟩ = some (.map (some m)) := by simp [World.cell?, h1]
  have hM : MapAt Try.prog 3 4 w m n (inQ l) := h.map
  have qT : ∀ (w : World) (r : Option Nat), (binOp .eql 52 (.map r) (.map none)).run Try.prog w = .ok (.bool r.isNone) w := fun w r => run_eql_map_nil w _ _ _ r Try.underlying52
  have hbm : b ≠ m := MapAt.ne_cells hM h1
  have hrm : ∀ k, r = some k → ¬ (k = m) := by
    intro k hk e
    subst e
    obtain ⟨es, clock, hm⟩ := hM.obj
    rcases h2.2 with ⟨_, h0, _⟩ | ⟨g, _, _, cur, _, h0, hg, _⟩
    · rw [h0] at hk; cases hk
    · rw [h0] at hk; cases hk; rw [hg] at hm; cases hm
  have HH := Lib.hid h
  have HX := Lib.hid hx
  have HO := Lib.hid hout
  have HB := Lib.hid h1
  have HR := Lib.hid h2
  have HRM := Lib.hid hrm
  have HMM := Lib.hid hM
  clear h hx hout h1 h2 hrm hM
  unfold enc at *
  go_enter Try.func17, Try.ntmps17
  go_wp2_with (first
    | (at_mapUpdate; refine wpList_map_put rfl _ _ _ 52 rfl 3 4 law Try.underlying52 HMM.out (by unfold maxLen; omega) rfl _ _ (lit x) (.bool true) rfl rfl (key_of HX.out) (isKey x) [] (plainElem_bool Try.underlying4 true) ?_; intro w1 hM1 hC1; have hb1 := hC1.heap HB.out hbm; have hc01 : w1.cell? ⟨b, 0, none⟩ = some (.slice A l.length c) := (by simp [World.cell?, hb1]); have HB1 := Lib.hid hb1; clear hb1)
    | (at_builtin; refine wpList_append_one _ rfl _ _ 33 3 (.int .i64 0) 8 rfl Try.underlying33 info_el rfl (HR.out.kept hC1 HRM.out) _ rfl rfl rfl (by omega) (by unfold maxLen; omega) ?_; intro v' r' w2 hR' hC2 hN; obtain ⟨A', c', rfl, _⟩ := hR'.shape; obtain ⟨hb2, hG⟩ := QStep.pushed HH.out x HX.out HO.out HB.out hM1 hC1 hR' hC2 hN; have hc02 : w2.cell? ⟨b, 0, none⟩ = some (.slice A l.length c) := (by simp [World.cell?, hb2]); have hf02 : w2.frozen? ⟨b, 0, none⟩ = false := (by simp [World.frozen?, hb2])))
  go_ret
  exact ⟨rfl, _, hG⟩

theorem QStep.mapped {w : World} {b n : Nat} {r : Option Nat} {l : List El} {v : Value} (h : QAt w b r none n l) (hb : w.heap[b]? = some (.cells #[v, .map none] 54 (0, 0))) :
    QStep w b r none ((w.setCell ⟨b, 1, none⟩ (.map (some w.heap.size))).alloc (.map #[] 0)) r (some w.heap.size) 0 l ∧
    ((w.setCell ⟨b, 1, none⟩ (.map (some w.heap.size))).alloc (.map #[] 0)).heap[b]? = some (.cells #[v, .map (some w.heap.size)] 54 (0, 0)) := by
  obtain ⟨v0, h1, h2⟩ := h.ex
  rw [hb] at h1
  have hv : v = v0 := by injection h1 with h1; injection h1 with h1; injection h1 with h1; injection h1
  subst hv
  have hs := Chg.store w b 1 (.map (some w.heap.size))
  have hsz : (w.setCell ⟨b, 1, none⟩ (.map (some w.heap.size))).heap.size = w.heap.size := by simp [World.setCell]
  have ha : Chg (fun _ => False) (w.setCell ⟨b, 1, none⟩ (.map (some w.heap.size))) ((w.setCell ⟨b, 1, none⟩ (.map (some w.heap.size))).alloc (.map #[] 0)) := (Chg.refl _ _).alloc _
  have hb1 := ha.heap (two_setCell (u := .map (some w.heap.size)) hb).2 (fun h => h)
  have hl : l = [] := h.map
  subst hl
  have hM := MapAt.made (w.setCell ⟨b, 1, none⟩ (.map (some w.heap.size))) Try.prog 3 4
  rw [hsz] at hM
  refine ⟨⟨⟨⟨v, hb1, (h2.kept hs fun k hk e => ?_).kept ha (fun _ _ h => h)⟩, ?_, h.nodup, h.ok⟩, ?_, .refl _ _, .inr ⟨_, rfl, Nat.le_refl _⟩⟩, hb1⟩
  · exact row_ne_of_type h2 hb (by decide) (by rw [hk, e])
  · refine MapAt.congr hM fun k => ?_
    unfold inQ; rw [if_neg (by simp)]
  · exact (hs.mono (T := FootQ b r none) fun _ _ h => .inl h).trans ha fun i _ e => e.elim

set_option maxHeartbeats 1000000 in
set_option maxRecDepth 100000 in
/-- Push of one that is not there, no map made yet. -/
theorem push_first {w : World} {b n : Nat} {r : Option Nat} {l : List El} (h : QAt w b r none n l) (x : El) (hx : okK x) :
    Calls Try.prog 17 #[.pointer (some ⟨b, 0, none⟩), enc x] w fun e w' => e = .returned (.bool true) ∧ ∃ r' m', QStep w b r none w' r' (some m') 1 (l ++ [x]) := by
  obtain ⟨v, h1, h2⟩ := h.ex
  obtain ⟨A, c, rfl, _⟩ := h2.shape
  have hlook := look_any h.map hx
  have hl0 : l = [] := h.map
  subst hl0
  rw [isIn_not (by simp)] at hlook
  have hc0 : w.cell? ⟨b, 0, none⟩ = some (.slice A 0 c) := by simp [World.cell?, h1]
  have hc1 : w.cell? ⟨b, 1, none⟩ = some (.map none) := by simp [World.cell?, h1]
  have hf1 : w.frozen? ⟨b, 1, none⟩ = false := by simp [World.frozen?, h1]
  have hlt := lt_of_heap h1
  obtain ⟨hS, h1'⟩ := QStep.mapped h h1
  have qT : ∀ (w : World) (r : Option Nat), (binOp .eql 52 (.map r) (.map none)).run Try.prog w = .ok (.bool r.isNone) w := fun w r => run_eql_map_nil w _ _ _ r Try.underlying52
  have hmm := @run_makeMap Try.prog
  have HX := Lib.hid hx
  have HS := Lib.hid hS
  have hM : MapAt Try.prog 3 4 ((w.setCell ⟨b, 1, none⟩ (.map (some w.heap.size))).alloc (.map #[] 0)) w.heap.size 0 (inQ []) := HS.out.at_.map
  obtain ⟨v0, h3, h4⟩ := HS.out.at_.ex
  have hbm : b ≠ w.heap.size := by omega
  have hrm : ∀ k, r = some k → ¬ (k = w.heap.size) := by
    intro k hk e
    rcases HS.out.nr with h5 | ⟨j, h5, h6⟩
    · have := h4.lt k hk
      subst e
      obtain ⟨es, clock, hm⟩ := hM.obj
      rcases h4.2 with ⟨_, h0, _⟩ | ⟨g, _, _, cur, _, h0, hg, _⟩
      · rw [h0] at hk; cases hk
      · rw [h0] at hk; cases hk; rw [hg] at hm; cases hm
    · have := h4.lt k hk
      subst e
      obtain ⟨es, clock, hm⟩ := hM.obj
      rcases h4.2 with ⟨_, h0, _⟩ | ⟨g, _, _, cur, _, h0, hg, _⟩
      · rw [h0] at hk; cases hk
      · rw [h0] at hk; cases hk; rw [hg] at hm; cases hm
  have hv0 : v0 = .slice A 0 c := by rw [h1'] at h3; injection h3 with h3; injection h3 with h3; injection h3 with h3; injection h3 with h3 _; exact h3.symm
  subst hv0
  have HMM := Lib.hid hM
  have HB := Lib.hid h1'
  have HR := Lib.hid h4
  have HRM := Lib.hid hrm
  clear h hx hS h2 hM h3 h4 hrm h1' h1
  unfold enc at *
  go_enter Try.func17, Try.ntmps17
  go_wp2_with (first
    | (at_mapUpdate; refine wpList_map_put rfl _ _ _ 52 rfl 3 4 law Try.underlying52 HMM.out (by unfold maxLen; omega) rfl _ _ (lit x) (.bool true) rfl rfl (key_of HX.out) (isKey x) [] (plainElem_bool Try.underlying4 true) ?_; intro w1 hM1 hC1; have hb1 := hC1.heap HB.out hbm; have hc01 : w1.cell? ⟨b, 0, none⟩ = some (.slice A 0 c) := (by simp [World.cell?, hb1]); have HB1 := Lib.hid hb1; clear hb1)
    | (at_builtin; refine wpList_append_one _ rfl _ _ 33 3 (.int .i64 0) 8 rfl Try.underlying33 info_el rfl (HR.out.kept hC1 HRM.out) _ rfl rfl rfl (by decide) (by unfold maxLen; decide) ?_; intro v' r' w2 hR' hC2 hN; obtain ⟨A', c', rfl, _⟩ := hR'.shape; obtain ⟨hb2, hG⟩ := QStep.pushed HS.out.at_ x HX.out (by simp) HB.out hM1 hC1 hR' hC2 hN; have hc02 : w2.cell? ⟨b, 0, none⟩ = some (.slice A 0 c) := (by simp [World.cell?, hb2]); have hf02 : w2.frozen? ⟨b, 0, none⟩ = false := (by simp [World.frozen?, hb2])))
  go_ret
  exact ⟨rfl, _, _, HS.out.trans hG⟩
theorem push_there {w : World} {b n : Nat} {r mo : Option Nat} {l : List El} (h : QAt w b r mo n l) (x : El) (hx : okK x) (hin : x ∈ l) :
    Calls Try.prog 17 #[.pointer (some ⟨b, 0, none⟩), enc x] w fun e w' => e = .returned (.bool false) ∧ w = w' := by
  obtain ⟨v, h1, h2⟩ := h.ex
  have hlook := look_any h.map hx
  rw [isIn_of hin] at hlook
  have hc1 : w.cell? ⟨b, 1, none⟩ = some (.map mo) := by simp [World.cell?, h1]
  clear h hx hin h1 h2
  unfold enc at *
  go_enter Try.func17, Try.ntmps17
  go_wp2_with fail
  go_ret
  exact ⟨rfl, rfl⟩
theorem push_nil (x : El) (w : World) :
    Calls Try.prog 17 #[.pointer none, enc x] w fun e w' => e = .returned (.bool false) ∧ w = w' := by
  unfold enc
  go_enter Try.func17, Try.ntmps17
  go_wp2_with fail
  go_ret
  exact ⟨rfl, rfl⟩
/-- Push, whatever there is. -/
theorem push_any {w : World} {b n : Nat} {r mo : Option Nat} {l : List El} (h : QAt w b r mo n l) (x : El) (hx : okK x) (hn : n < 1000000000000) (hl : l.length < 1000000000000) :
    Calls Try.prog 17 #[.pointer (some ⟨b, 0, none⟩), enc x] w fun e w' => e = .returned (.bool (!isIn x l)) ∧ ∃ r' mo', QStep w b r mo w' r' mo' (n + 1) (if isIn x l then l else l ++ [x]) := by
  by_cases hin : x ∈ l
  · refine (push_there h x hx hin).mono ?_
    rintro e w' ⟨rfl, rfl⟩
    rw [isIn_of hin]
    refine ⟨rfl, r, mo, QStep.refl ⟨h.ex, ?_, h.nodup, h.ok⟩⟩
    have := h.map
    cases mo with
    | none => exact this
    | some m => exact MapAt.mono this (Nat.le_succ _)
  · rw [isIn_not hin]
    cases mo with
    | none =>
      refine (push_first h x hx).mono ?_
      rintro e w' ⟨rfl, r', m', hG⟩
      refine ⟨rfl, r', some m', ⟨⟨hG.at_.ex, MapAt.mono hG.at_.map (by omega), hG.at_.nodup, hG.at_.ok⟩, hG.chg, hG.nr, hG.nm⟩⟩
    | some m =>
      refine (push_made h x hx hin hn hl).mono ?_
      rintro e w' ⟨rfl, r', hG⟩
      exact ⟨rfl, r', some m, hG⟩

theorem push_out {w : World} {b n : Nat} {r mo : Option Nat} {l : List El} (h : QAt w b r mo n l) (x : El) (hx : okK x) (hn : n < 1000000000000) (hl : l.length < 1000000000000) (hout : x ∉ l) :
    Calls Try.prog 17 #[.pointer (some ⟨b, 0, none⟩), enc x] w fun e w' => e = .returned (.bool true) ∧ ∃ r' mo', QStep w b r mo w' r' mo' (n + 1) (l ++ [x]) := by
  have := push_any h x hx hn hl
  rw [isIn_not hout] at this
  exact this

theorem pop_empty {w : World} {b n : Nat} {r mo : Option Nat} (h : QAt w b r mo n []) :
    Calls Try.prog 18 #[.pointer (some ⟨b, 0, none⟩)] w fun e w' => e = .returned (.tuple #[(.int .i64 0), .bool false]) ∧ w = w' := by
  have hl := len_any h
  clear h
  go_enter Try.func18, Try.ntmps18
  go_wp2_with (go_at_call 22; refine hl.mono ?_; rintro e w' ⟨rfl, rfl⟩)
  go_ret2
  exact ⟨rfl, rfl⟩
theorem pop_nil (w : World) :
    Calls Try.prog 18 #[.pointer none] w fun e w' => e = .returned (.tuple #[(.int .i64 0), .bool false]) ∧ w = w' := by
  go_enter Try.func18, Try.ntmps18
  go_wp2_with (go_at_call 22; refine (len_nil _).mono ?_; rintro e w' ⟨rfl, rfl⟩)
  go_ret2
  exact ⟨rfl, rfl⟩

theorem encs_tail (x : El) (l : List El) : (encs (x :: l)).drop 1 = encs l := rfl
theorem row_tail {w : World} {g off c e : Nat} {r : Option Nat} {x : El} {l : List El} (h : RowAt w e 1 (.slice (some ⟨g, off, none⟩) (x :: l).length c) r (x :: l).length (encs (x :: l))) (hc : ¬ c = 1) :
    RowAt w e 1 (.slice (some ⟨g, off + 1, none⟩) l.length (c - 1)) r l.length (encs l) := by
  obtain ⟨_, _, _, hv, _, hcap, _⟩ := h.form (by simp)
  injection hv with _ _ hcc
  subst hcc
  simp only [List.length_cons] at hcap
  have := h.rest (k := 1) (by simp) (by omega)
  rw [encs_tail] at this
  simpa using this
theorem row_tail1 {w : World} {g off e : Nat} {r : Option Nat} {x : El} {l : List El} (h : RowAt w e 1 (.slice (some ⟨g, off, none⟩) (x :: l).length 1) r (x :: l).length (encs (x :: l))) :
    RowAt w e 1 (.slice (some ⟨g, off, none⟩) l.length 0) r l.length (encs l) := by
  rcases h.2 with ⟨h0, _⟩ | ⟨g', off', cap', cur, hv, hr, hg, h1, h2, h3, h4⟩
  · cases h0
  · injection hv with ha _ hcc
    subst hcc
    injection ha with ha
    injection ha with hgg ho
    subst hgg; subst ho
    simp only [List.length_cons] at h1
    have hl : l = [] := List.eq_nil_of_length_eq_zero (by omega)
    subst hl
    exact ⟨rfl, .inr ⟨g, off, 0, cur, rfl, hr, hg, Nat.le_refl _, Nat.zero_le _, by omega, by simp [encs]⟩⟩

theorem row_if {w : World} {g off c e : Nat} {r : Option Nat} {x : El} {l : List El} (h : RowAt w e 1 (.slice (some ⟨g, off, none⟩) (x :: l).length c) r (x :: l).length (encs (x :: l))) :
    RowAt w e 1 (.slice (if c = 1 then some ⟨g, off, none⟩ else some ⟨g, off + 1, none⟩) l.length (c - 1)) r l.length (encs l) := by
  by_cases hc : c = 1
  · subst hc; rw [if_pos rfl]; exact row_tail1 h
  · rw [if_neg hc]; exact row_tail h hc
theorem QStep.popped {w w2 : World} {b n m : Nat} {v v' : Value} {r : Option Nat} {x : El} {l : List El} (h : QAt w b r (some m) n (x :: l)) (hb : w.heap[b]? = some (.cells #[v, .map (some m)] 54 (0, 0)))
    (hR : RowAt w 3 1 v' r l.length (encs l)) (hM : MapAt Try.prog 3 4 w2 m n (upd (inQ (x :: l)) (lit x) none)) (hC : Chg (fun k => k = m) (w.setCell ⟨b, 0, none⟩ v') w2) : QStep w b r (some m) w2 r (some m) n l := by
  have hMw : MapAt Try.prog 3 4 w m n (inQ (x :: l)) := h.map
  have hbm : b ≠ m := MapAt.ne_cells hMw hb
  have hrb : r ≠ some b := row_ne_of_type hR hb (by decide)
  have hrm : ∀ k, r = some k → ¬ (k = m) := by
    intro k hk e
    subst e
    obtain ⟨es, clock, hm⟩ := hMw.obj
    rcases hR.2 with ⟨_, h0, _⟩ | ⟨g, _, _, cur, _, h0, hg, _⟩
    · rw [h0] at hk; cases hk
    · rw [h0] at hk; cases hk; rw [hg] at hm; cases hm
  have hs := Chg.store w b 0 v'
  have hnd := List.nodup_cons.1 h.nodup
  refine ⟨⟨⟨v', hC.heap (two_setCell hb).1 hbm, (hR.kept hs fun k hk e => hrb (by rw [hk, e])).kept hC hrm⟩, hM.congr (inQ_tail hnd.1), hnd.2, fun y hy => h.ok y (by simp [hy])⟩, ?_, .refl _ _, .refl _ _⟩
  exact (hs.mono (T := FootQ b r (some m)) fun i _ e => .inl e).trans hC fun i _ e => .inr (.inr (by rw [e]))

set_option maxHeartbeats 1000000 in
set_option maxRecDepth 100000 in
theorem pop_some {w : World} {b n : Nat} {r mo : Option Nat} {x : El} {l : List El} (h : QAt w b r mo n (x :: l)) :
    Calls Try.prog 18 #[.pointer (some ⟨b, 0, none⟩)] w fun e w' => e = .returned (.tuple #[enc x, .bool true]) ∧ QStep w b r mo w' r mo n l := by
  have hl := len_any h
  cases mo with
  | none => exact absurd h.map (by simp [MapF])
  | some m =>
  obtain ⟨v, h1, h2⟩ := h.ex
  have hMs : ∀ v', MapAt Try.prog 3 4 (w.setCell ⟨b, 0, none⟩ v') m n (inQ (x :: l)) := fun v' => MapAt.kept h.map (Chg.store w b 0 v') fun e => MapAt.ne_cells (show MapAt Try.prog 3 4 w m n (inQ (x :: l)) from h.map) h1 e.symm
  have hok := h.ok x (by simp)
  obtain ⟨g, off, c, rfl, hr, hcap, hm2, hg, hcl, _⟩ := h2.form (by simp)
  have hx := hcl 0 (enc x) rfl
  rw [Nat.add_zero] at hx
  have hc0 : w.cell? ⟨b, 0, none⟩ = some (.slice (some ⟨g, off, none⟩) (l.length + 1) c) := by simp [World.cell?, h1]
  have hf0 : w.frozen? ⟨b, 0, none⟩ = false := by simp [World.frozen?, h1]
  have hc1 : w.cell? ⟨b, 1, none⟩ = some (.map (some m)) := by simp [World.cell?, h1]
  simp only [List.length_cons] at hl hcap
  have HH := Lib.hid h
  have HB := Lib.hid h1
  have HR := Lib.hid h2
  have HL := Lib.hid hl
  have HRR := Lib.hid hr
  have hm3 : l.length + 1 ≤ 9223372036854775807 := by unfold maxLen at hm2; omega
  have HMS := Lib.hid hMs
  have HK := Lib.hid hok
  clear h h1 h2 hcl hl hr hMs hok
  unfold enc at *
  go_enter Try.func18, Try.ntmps18
  go_wp2_with (first
    | (go_at_call 22; refine HL.out.mono ?_; rintro e w' ⟨rfl, rfl⟩)
    | (at_delete; refine wpList_map_del rfl _ _ 52 3 rfl 4 law Try.underlying52 (HMS.out _) rfl _ (lit x) rfl (key_of HK.out) ?_; intro w2 hM2 hC2))
  all_goals
    go_ret2
    exact ⟨rfl, QStep.popped HH.out HB.out (row_if HR.out) hM2 hC2⟩
end Go.Proofs.Ytdnlgcomhgnegaa.QI
