/- dead.live's first loop: what stands between its rounds, and within a round's region. -/
import Derived.Test.YtlniohgnkihefaaLiveB
import Derived.Test.YtlniohgnkihefaaStep
namespace Go.Proofs.Ytlniohgnkihefaa
open Go.RowKit

def ptrN (b : Nat) : Value := .pointer (some ⟨b, 0, none⟩)
def bits0 : Obj := .cells #[.slice none 0 0] 81
structure Grow1 (w : World) (bx bl k : Nat) (oF : Obj) (vI vO : Value) (rI rO : Option Nat) (ps qs : List Nat) (W : World) : Prop where
  below : Below w.heap.size w W
  fbox : W.heap[bx]? = some oF
  gbox : W.heap[bx + 1]? = some (.cells #[.slice none 0 0, .slice none 0 0] 61 (0, 0))
  apart : bx + 1 ≠ bl
  box : W.heap[bl]? = some (.cells #[vI, vO] 61 (0, 0))
  I : RowAt W 65 1 vI rI k (ps.map ptrN)
  O : RowAt W 65 1 vO rO k (qs.map ptrN)
  lowI : ∀ j, rI = some j → w.heap.size ≤ j
  lowO : ∀ j, rO = some j → w.heap.size ≤ j
  ne : ∀ j, rI = some j → rO ≠ some j
  zero : ∀ b ∈ ps ++ qs, w.heap.size ≤ b ∧ W.heap[b]? = some bits0
  nodup : (ps ++ qs).Nodup
  il : ps.length = k
  ol : qs.length = k
/-- Within a round's region that began at V. -/
structure R4 (V : World) (bl : Nat) (rI rO : Option Nat) (x y : Value) (vI' : Value) (rI' : Option Nat) (nI : Nat) (cI : List Value) (vO' : Value) (rO' : Option Nat) (nO : Nat) (cO : List Value) (new : List (Nat × Obj)) (W : World) : Prop where
  chg : Chg (fun j => some j = rI ∨ some j = rO ∨ j = bl) V W
  box : W.heap[bl]? = some (.cells #[x, y] 61 (0, 0))
  low : bl < V.heap.size
  I : RowAt W 65 1 vI' rI' nI cI
  O : RowAt W 65 1 vO' rO' nO cO
  nI : NewOr V rI rI'
  nO : NewOr V rO rO'
  ne : ∀ j, rI' = some j → rO' ≠ some j
  ltI : ∀ j, rI = some j → j < V.heap.size
  ltO : ∀ j, rO = some j → j < V.heap.size
  news : ∀ q ∈ new, V.heap.size ≤ q.1 ∧ W.heap[q.1]? = some q.2
section
variable {V W W2 : World} {bl : Nat} {rI rO rI' rO' : Option Nat} {x y vI' vO' : Value} {nI nO : Nat} {cI cO : List Value} {new : List (Nat × Obj)}
theorem Grow1.r4 {w : World} {bx k : Nat} {oF : Obj} {vI vO : Value} {ps qs : List Nat} (h : Grow1 w bx bl k oF vI vO rI rO ps qs V) : R4 V bl rI rO vI vO vI rI k (ps.map ptrN) vO rO k (qs.map ptrN) [] V :=
  ⟨Chg.refl _ _, h.box, lt_of_heap h.box, h.I, h.O, .refl _ _, .refl _ _, h.ne, h.I.lt, h.O.lt, fun _ h => by cases h⟩
theorem R4.cells (h : R4 V bl rI rO x y vI' rI' nI cI vO' rO' nO cO new W) : W.cell? ⟨bl, 0, none⟩ = some x ∧ W.cell? ⟨bl, 1, none⟩ = some y := ⟨by rw [cell_of_row _ _ _ _ _ _ h.box]; rfl, by rw [cell_of_row _ _ _ _ _ _ h.box]; rfl⟩
theorem R4.drew (h : R4 V bl rI rO x y vI' rI' nI cI vO' rO' nO cO new W) : R4 V bl rI rO x y vI' rI' nI cI vO' rO' nO cO new W.drew := ⟨h.chg.drew, h.box, h.low, h.I.drew, h.O.drew, h.nI, h.nO, h.ne, h.ltI, h.ltO, h.news⟩
theorem R4.alloc (h : R4 V bl rI rO x y vI' rI' nI cI vO' rO' nO cO new W) (o : Obj) : ∃ p W', W.heap.size = p ∧ W.alloc o = W' ∧ R4 V bl rI rO x y vI' rI' nI cI vO' rO' nO cO ((p, o) :: new) W' ∧ (∀ q ∈ new, q.1 ≠ p) :=
  ⟨_, _, rfl, rfl, ⟨h.chg.alloc o, (heap_alloc_old W o (lt_of_heap h.box)).trans h.box, h.low, h.I.alloc o, h.O.alloc o, h.nI, h.nO, h.ne, h.ltI, h.ltO, fun q hq => by
    rcases List.mem_cons.1 hq with rfl | hq
    · exact ⟨h.chg.size, heap_alloc_new W o⟩
    · exact ⟨(h.news q hq).1, (Chg.heap ((Chg.refl (fun _ => False) W).alloc o) (h.news q hq).2 fun h => h)⟩⟩, fun q hq => by have := lt_of_heap (h.news q hq).2; omega⟩
theorem R4.newcell (h : R4 V bl rI rO x y vI' rI' nI cI vO' rO' nO cO new W) {q t : Nat} {u : Value} (hq : (q, .cells #[u] t) ∈ new) : ∀ j v, ([u] : List Value)[j]? = some v → W.cell? ((⟨q, 0, none⟩ : Addr).add j) = some v := fun j v hv => by
  rw [show ((⟨q, 0, none⟩ : Addr).add j) = ⟨q, j, none⟩ from by by_cases e : j = 0 <;> simp [Addr.add, e], cell_of_row _ _ _ _ _ _ (h.news _ hq).2, ← Array.getElem?_toList]
  exact hv
theorem R4.appI {vI : Value} (h : R4 V bl rI rO x y vI rI nI cI vO' rO' nO cO new W) {v' : Value} {r' : Option Nat} {u : Value} (hR : RowAt W2 65 1 v' r' (nI + 1) (cI ++ [u])) (hC : Chg (fun k => some k = rI) W W2) (hN : NewOr W rI r') :
    R4 V bl rI rO x y v' r' (nI + 1) (cI ++ [u]) vO' rO' nO cO new W2 := by
  refine ⟨h.chg.trans hC fun i _ e => .inl e, hC.heap h.box fun e => row_ne_of_type h.I h.box (by decide) e.symm, h.low, hR, h.O.kept hC fun k hk e => h.ne k e.symm hk, (h.nI.trans hN h.chg.size), h.nO, fun j hj hj2 => ?_, h.ltI, h.ltO, fun q hq => ⟨(h.news q hq).1, hC.heap (h.news q hq).2 fun e => ?_⟩⟩
  · rcases hN with e | ⟨k, e, hk⟩
    · exact h.ne j (by rw [← e]; exact hj) hj2
    · rw [e] at hj; cases hj
      have h1 := h.O.lt j hj2
      omega
  · have h1 := h.ltI q.1 e.symm
    have h2 := (h.news q hq).1
    omega
theorem R4.appO {vO : Value} (h : R4 V bl rI rO x y vI' rI' nI cI vO rO nO cO new W) {v' : Value} {r' : Option Nat} {u : Value} (hR : RowAt W2 65 1 v' r' (nO + 1) (cO ++ [u])) (hC : Chg (fun k => some k = rO) W W2) (hN : NewOr W rO r') :
    R4 V bl rI rO x y vI' rI' nI cI v' r' (nO + 1) (cO ++ [u]) new W2 := by
  refine ⟨h.chg.trans hC fun i _ e => .inr (.inl e), hC.heap h.box fun e => row_ne_of_type h.O h.box (by decide) e.symm, h.low, h.I.kept hC fun k hk e => h.ne k hk e.symm, hR, h.nI, (h.nO.trans hN h.chg.size), fun j hj hj2 => ?_, h.ltI, h.ltO, fun q hq => ⟨(h.news q hq).1, hC.heap (h.news q hq).2 fun e => ?_⟩⟩
  · rcases hN with e | ⟨k, e, hk⟩
    · exact h.ne j hj (by rw [← e]; exact hj2)
    · rw [e] at hj2; cases hj2
      have h1 := h.I.lt j hj
      omega
  · have h1 := h.ltO q.1 e.symm
    have h2 := (h.news q hq).1
    omega
theorem R4.stI (h : R4 V bl rI rO x y vI' rI' nI cI vO' rO' nO cO new W) (z : Value) : R4 V bl rI rO z y vI' rI' nI cI vO' rO' nO cO new (W.setCell ⟨bl, 0, none⟩ z) := by
  have hc := Chg.store W bl 0 z
  have hb := h.box
  exact ⟨h.chg.trans hc fun i _ e => .inr (.inr e), heap_setCell_same W bl 0 #[x, y] 61 z hb, h.low, h.I.kept hc fun j hj e => row_ne_of_type h.I hb (by decide) (by rw [hj, e]), h.O.kept hc fun j hj e => row_ne_of_type h.O hb (by decide) (by rw [hj, e]), h.nI, h.nO, h.ne, h.ltI, h.ltO,
    fun q hq => ⟨(h.news q hq).1, hc.heap (h.news q hq).2 fun e => by have := (h.news q hq).1; have := h.low; omega⟩⟩
theorem R4.stO (h : R4 V bl rI rO x y vI' rI' nI cI vO' rO' nO cO new W) (z : Value) : R4 V bl rI rO x z vI' rI' nI cI vO' rO' nO cO new (W.setCell ⟨bl, 1, none⟩ z) := by
  have hc := Chg.store W bl 1 z
  have hb := h.box
  exact ⟨h.chg.trans hc fun i _ e => .inr (.inr e), heap_setCell_same W bl 1 #[x, y] 61 z hb, h.low, h.I.kept hc fun j hj e => row_ne_of_type h.I hb (by decide) (by rw [hj, e]), h.O.kept hc fun j hj e => row_ne_of_type h.O hb (by decide) (by rw [hj, e]), h.nI, h.nO, h.ne, h.ltI, h.ltO,
    fun q hq => ⟨(h.news q hq).1, hc.heap (h.news q hq).2 fun e => by have := (h.news q hq).1; have := h.low; omega⟩⟩
/-- A box of another kind lies as it lay. -/
theorem R4.other (h : R4 V bl rI rO x y vI' rI' nI cI vO' rO' nO cO new W) {vI vO : Value} {a b : Nat} {xI xO : List Value} (hI : RowAt V 65 1 vI rI a xI) (hO : RowAt V 65 1 vO rO b xO) {k : Nat} {c : Array Value} {t : Nat} {f : Nat × Nat}
    (hk : V.heap[k]? = some (.cells c t f)) (ht : t ≠ 65) (hb : k ≠ bl) : W.heap[k]? = some (.cells c t f) :=
  h.chg.heap hk fun e => by
    rcases e with e | e | e
    · exact row_ne_of_type hI hk ht e.symm
    · exact row_ne_of_type hO hk ht e.symm
    · exact hb e
/-- Both appended, both stored. -/
theorem R4.fin {w : World} {bx k : Nat} {cF : Array Value} {vI vO : Value} {ps qs : List Nat} (hG : Grow1 w bx bl k (.cells cF 31) vI vO rI rO ps qs V) {p q : Nat}
    (h : R4 V bl rI rO vI' vO' vI' rI' (k + 1) (ps.map ptrN ++ [ptrN p]) vO' rO' (k + 1) (qs.map ptrN ++ [ptrN q]) new W) (hp : (p, bits0) ∈ new) (hq : (q, bits0) ∈ new) (hpq : p ≠ q) (hbl : w.heap.size ≤ bl) :
    Grow1 w bx bl (k + 1) (.cells cF 31) vI' vO' rI' rO' (ps ++ [p]) (qs ++ [q]) W := by
  have hz := hG.below.size
  have hne : ∀ b, V.heap[b]? = some bits0 → b ≠ bl := fun b hb e => by rw [e, hG.box] at hb; cases hb
  obtain ⟨hp1, hp2⟩ := h.news _ hp
  obtain ⟨hq1, hq2⟩ := h.news _ hq
  refine ⟨?_, ?_, h.other hG.I hG.O hG.gbox (by decide) hG.apart, hG.apart, h.box, ?_, ?_, ?_, ?_, h.ne, fun b hb' => ?_, ?_, by simp [hG.il], by simp [hG.ol]⟩
  · refine hG.below.trans (h.chg.below hz fun i e => ?_)
    rcases e with e | e | e
    · exact hG.lowI i e.symm
    · exact hG.lowO i e.symm
    · rw [e]; exact hbl
  · refine h.other hG.I hG.O hG.fbox (by decide) fun e => ?_
    have := hG.fbox
    rw [e, hG.box] at this; cases this
  · rw [List.map_append]; exact h.I
  · rw [List.map_append]; exact h.O
  · intro j hj
    rcases h.nI with e | ⟨i, e, hi⟩
    · exact hG.lowI j (by rw [← e]; exact hj)
    · rw [e] at hj; cases hj; omega
  · intro j hj
    rcases h.nO with e | ⟨i, e, hi⟩
    · exact hG.lowO j (by rw [← e]; exact hj)
    · rw [e] at hj; cases hj; omega
  · have hold : b ∈ ps ++ qs ∨ b = p ∨ b = q := by
      simp only [List.mem_append, List.mem_singleton] at hb' ⊢
      rcases hb' with (h | h) | (h | h)
      · exact .inl (.inl h)
      · exact .inr (.inl h)
      · exact .inl (.inr h)
      · exact .inr (.inr h)
    rcases hold with hb2 | rfl | rfl
    · exact ⟨(hG.zero b hb2).1, h.other hG.I hG.O (hG.zero b hb2).2 (by decide) (hne b (hG.zero b hb2).2)⟩
    · exact ⟨by omega, hp2⟩
    · exact ⟨by omega, hq2⟩
  · have hlt : ∀ b ∈ ps ++ qs, b < V.heap.size := fun b hb => lt_of_heap (hG.zero b hb).2
    have hn := hG.nodup
    rw [List.nodup_append] at hn ⊢
    have hps : ∀ b ∈ ps, b < V.heap.size := fun b hb => hlt b (List.mem_append_left _ hb)
    have hqs : ∀ b ∈ qs, b < V.heap.size := fun b hb => hlt b (List.mem_append_right _ hb)
    have hp1' : V.heap.size ≤ p := hp1
    have hq1' : V.heap.size ≤ q := hq1
    refine ⟨?_, ?_, ?_⟩
    · rw [List.nodup_append]
      exact ⟨hn.1, by simp, fun a ha b hb => by rw [List.mem_singleton.1 hb]; have := hps a ha; omega⟩
    · rw [List.nodup_append]
      exact ⟨hn.2.1, by simp, fun a ha b hb => by rw [List.mem_singleton.1 hb]; have := hqs a ha; omega⟩
    · intro a ha b hb
      simp only [List.mem_append, List.mem_singleton] at ha hb
      rcases ha with ha | rfl <;> rcases hb with hb | rfl
      · exact hn.2.2 a ha b hb
      · have := hps a ha; omega
      · have := hqs b hb; omega
      · exact hpq
end
/-- The first loop is done: all sets are there, empty. -/
theorem Grow1.flow {w W : World} {bx bl n : Nat} {oF : Obj} {vI vO : Value} {rI rO : Option Nat} {ps qs : List Nat} (h : Grow1 w bx bl n oF vI vO rI rO ps qs W) :
    FlowM w bl n vI vO (ps.map (fun b => ⟨b, none, []⟩) ++ qs.map (fun b => ⟨b, none, []⟩)) [] W := by
  have hl1 : (ps.map (fun b => (⟨b, none, []⟩ : BM))).length = n := by simp [h.il]
  have hmp : ∀ l : List Nat, (l.map (fun b => (⟨b, none, []⟩ : BM))).map BM.ptr = l.map ptrN := fun l => by rw [List.map_map]; rfl
  have hall : ps.map (fun b => (⟨b, none, []⟩ : BM)) ++ qs.map (fun b => ⟨b, none, []⟩) = (ps ++ qs).map fun b => ⟨b, none, []⟩ := by rw [List.map_append]
  refine ⟨h.below, h.box, ⟨rI, ?_⟩, ⟨rO, ?_⟩, ?_, ?_, by simp [h.il, h.ol]⟩
  · rw [← hl1, List.take_left', hl1, hmp]
    · exact h.I
    · rfl
  · rw [List.drop_left' hl1, hmp]; exact h.O
  · rw [List.append_nil, hall]
    refine ⟨fun p hp => ?_, fun i j hi hj hne => ?_⟩
    · obtain ⟨b, hb, rfl⟩ := List.mem_map.1 hp
      exact ⟨⟨_, (h.zero b hb).2, RowAt.nil _ _ _⟩, fun x hx => (by cases hx), (by simp)⟩
    · simp only [List.getElem_map]
      refine ⟨fun e => hne ?_, fun k hk => by cases hk⟩
      exact (List.getElem_inj h.nodup).1 e
  · rw [List.append_nil, hall]
    intro p hp
    obtain ⟨b, hb, rfl⟩ := List.mem_map.1 hp
    exact ⟨(h.zero b hb).1, fun k hk => by cases hk⟩
end Go.Proofs.Ytlniohgnkihefaa
