/- dead.live's first loop: what stands between its rounds, and within a round's region. -/
import Derived.Test.YtlniohgnkihefaaLk7
import Derived.RangeFuncLeaves
namespace Go.Proofs.Ytlniohgnkihefaa
open Go.RowKit

def ptrN (b : Nat) : Value := .pointer (some ⟨b, 0, none⟩)
def bits0 : Obj := .cells #[.slice none 0 0] 81
structure Grow1 (w : World) (bx bl k : Nat) (oF : Obj) (vI vO : Value) (rI rO : Option Nat) (ps qs : List Nat) (W : World) : Prop where
  below : Below w.heap.size w W
  fbox : W.heap[bx]? = some oF
  gbox : W.heap[bx + 1]? = some (.cells #[.slice none 0 0, .slice none 0 0] 61 (0, 0))
  apart : bx + 1 ≠ bl
  box : W.heap[bl]? = some (.cells #[vI, vO] 61 (0, 0))
  I : RowAt W 65 1 vI rI k (ps.map ptrN)
  O : RowAt W 65 1 vO rO k (qs.map ptrN)
  lowI : ∀ j, rI = some j → w.heap.size ≤ j
  lowO : ∀ j, rO = some j → w.heap.size ≤ j
  ne : ∀ j, rI = some j → rO ≠ some j
  zero : ∀ b ∈ ps ++ qs, w.heap.size ≤ b ∧ W.heap[b]? = some bits0
  nodup : (ps ++ qs).Nodup
  il : ps.length = k
  ol : qs.length = k
/-- Within a round's region that began at V. -/
structure R4 (V : World) (bl : Nat) (rI rO : Option Nat) (x y : Value) (vI' : Value) (rI' : Option Nat) (nI : Nat) (cI : List Value) (vO' : Value) (rO' : Option Nat) (nO : Nat) (cO : List Value) (new : List (Nat × Obj)) (W : World) : Prop where
  chg : Chg (fun j => some j = rI ∨ some j = rO ∨ j = bl) V W
  box : W.heap[bl]? = some (.cells #[x, y] 61 (0, 0))
  low : bl < V.heap.size
  I : RowAt W 65 1 vI' rI' nI cI
  O : RowAt W 65 1 vO' rO' nO cO
  nI : NewOr V rI rI'
  nO : NewOr V rO rO'
  ne : ∀ j, rI' = some j → rO' ≠ some j
  ltI : ∀ j, rI = some j → j < V.heap.size
  ltO : ∀ j, rO = some j → j < V.heap.size
  news : ∀ q ∈ new, V.heap.size ≤ q.1 ∧ W.heap[q.1]? = some q.2
section
variable {V W W2 : World} {bl : Nat} {rI rO rI' rO' : Option Nat} {x y vI' vO' : Value} {nI nO : Nat} {cI cO : List Value} {new : List (Nat × Obj)}
theorem Grow1.r4 {w : World} {bx k : Nat} {oF : Obj} {vI vO : Value} {ps qs : List Nat} (h : Grow1 w bx bl k oF vI vO rI rO ps qs V) : R4 V bl rI rO vI vO vI rI k (ps.map ptrN) vO rO k (qs.map ptrN) [] V :=
  ⟨Chg.refl _ _, h.box, lt_of_heap h.box, h.I, h.O, .refl _ _, .refl _ _, h.ne, h.I.lt, h.O.lt, fun _ h => by cases h⟩
theorem R4.cells (h : R4 V bl rI rO x y vI' rI' nI cI vO' rO' nO cO new W) : W.cell? ⟨bl, 0, none⟩ = some x ∧ W.cell? ⟨bl, 1, none⟩ = some y := ⟨by rw [cell_of_row _ _ _ _ _ _ h.box]; rfl, by rw [cell_of_row _ _ _ _ _ _ h.box]; rfl⟩
theorem R4.drew (h : R4 V bl rI rO x y vI' rI' nI cI vO' rO' nO cO new W) : R4 V bl rI rO x y vI' rI' nI cI vO' rO' nO cO new W.drew := ⟨h.chg.drew, h.box, h.low, h.I.drew, h.O.drew, h.nI, h.nO, h.ne, h.ltI, h.ltO, h.news⟩
theorem R4.alloc (h : R4 V bl rI rO x y vI' rI' nI cI vO' rO' nO cO new W) (o : Obj) : ∃ p W', W.heap.size = p ∧ W.alloc o = W' ∧ R4 V bl rI rO x y vI' rI' nI cI vO' rO' nO cO ((p, o) :: new) W' ∧ (∀ q ∈ new, q.1 ≠ p) :=
  ⟨_, _, rfl, rfl, ⟨h.chg.alloc o, (heap_alloc_old W o (lt_of_heap h.box)).trans h.box, h.low, h.I.alloc o, h.O.alloc o, h.nI, h.nO, h.ne, h.ltI, h.ltO, fun q hq => by
    rcases List.mem_cons.1 hq with rfl | hq
    · exact ⟨h.chg.size, heap_alloc_new W o⟩
    · exact ⟨(h.news q hq).1, (Chg.heap ((Chg.refl (fun _ => False) W).alloc o) (h.news q hq).2 fun h => h)⟩⟩, fun q hq => by have := lt_of_heap (h.news q hq).2; omega⟩
theorem R4.newcell (h : R4 V bl rI rO x y vI' rI' nI cI vO' rO' nO cO new W) {q t : Nat} {u : Value} (hq : (q, .cells #[u] t) ∈ new) : ∀ j v, ([u] : List Value)[j]? = some v → W.cell? ((⟨q, 0, none⟩ : Addr).add j) = some v := fun j v hv => by
  rw [show ((⟨q, 0, none⟩ : Addr).add j) = ⟨q, j, none⟩ from by by_cases e : j = 0 <;> simp [Addr.add, e], cell_of_row _ _ _ _ _ _ (h.news _ hq).2, ← Array.getElem?_toList]
  exact hv
theorem R4.appI {vI : Value} (h : R4 V bl rI rO x y vI rI nI cI vO' rO' nO cO new W) {v' : Value} {r' : Option Nat} {u : Value} (hR : RowAt W2 65 1 v' r' (nI + 1) (cI ++ [u])) (hC : Chg (fun k => some k = rI) W W2) (hN : NewOr W rI r') :
    R4 V bl rI rO x y v' r' (nI + 1) (cI ++ [u]) vO' rO' nO cO new W2 := by
  refine ⟨h.chg.trans hC fun i _ e => .inl e, hC.heap h.box fun e => row_ne_of_type h.I h.box (by decide) e.symm, h.low, hR, h.O.kept hC fun k hk e => h.ne k e.symm hk, (h.nI.trans hN h.chg.size), h.nO, fun j hj hj2 => ?_, h.ltI, h.ltO, fun q hq => ⟨(h.news q hq).1, hC.heap (h.news q hq).2 fun e => ?_⟩⟩
  · rcases hN with e | ⟨k, e, hk⟩
    · exact h.ne j (by rw [← e]; exact hj) hj2
    · rw [e] at hj; cases hj
      have h1 := h.O.lt j hj2
      omega
  · have h1 := h.ltI q.1 e.symm
    have h2 := (h.news q hq).1
    omega
theorem R4.appO {vO : Value} (h : R4 V bl rI rO x y vI' rI' nI cI vO rO nO cO new W) {v' : Value} {r' : Option Nat} {u : Value} (hR : RowAt W2 65 1 v' r' (nO + 1) (cO ++ [u])) (hC : Chg (fun k => some k = rO) W W2) (hN : NewOr W rO r') :
    R4 V bl rI rO x y vI' rI' nI cI v' r' (nO + 1) (cO ++ [u]) new W2 := by
  refine ⟨h.chg.trans hC fun i _ e => .inr (.inl e), hC.heap h.box fun e => row_ne_of_type h.O h.box (by decide) e.symm, h.low, h.I.kept hC fun k hk e => h.ne k hk e.symm, hR, h.nI, (h.nO.trans hN h.chg.size), fun j hj hj2 => ?_, h.ltI, h.ltO, fun q hq => ⟨(h.news q hq).1, hC.heap (h.news q hq).2 fun e => ?_⟩⟩
  · rcases hN with e | ⟨k, e, hk⟩
    · exact h.ne j hj (by rw [← e]; exact hj2)
    · rw [e] at hj2; cases hj2
      have h1 := h.I.lt j hj
      omega
  · have h1 := h.ltO q.1 e.symm
    have h2 := (h.news q hq).1
    omega
theorem R4.stI (h : R4 V bl rI rO x y vI' rI' nI cI vO' rO' nO cO new W) (z : Value) : R4 V bl rI rO z y vI' rI' nI cI vO' rO' nO cO new (W.setCell ⟨bl, 0, none⟩ z) := by
  have hc := Chg.store W bl 0 z
  have hb := h.box
  exact ⟨h.chg.trans hc fun i _ e => .inr (.inr e), heap_setCell_same W bl 0 #[x, y] 61 z hb, h.low, h.I.kept hc fun j hj e => row_ne_of_type h.I hb (by decide) (by rw [hj, e]), h.O.kept hc fun j hj e => row_ne_of_type h.O hb (by decide) (by rw [hj, e]), h.nI, h.nO, h.ne, h.ltI, h.ltO,
    fun q hq => ⟨(h.news q hq).1, hc.heap (h.news q hq).2 fun e => by have := (h.news q hq).1; have := h.low; omega⟩⟩
theorem R4.stO (h : R4 V bl rI rO x y vI' rI' nI cI vO' rO' nO cO new W) (z : Value) : R4 V bl rI rO x z vI' rI' nI cI vO' rO' nO cO new (W.setCell ⟨bl, 1, none⟩ z) := by
  have hc := Chg.store W bl 1 z
  have hb := h.box
  exact ⟨h.chg.trans hc fun i _ e => .inr (.inr e), heap_setCell_same W bl 1 #[x, y] 61 z hb, h.low, h.I.kept hc fun j hj e => row_ne_of_type h.I hb (by decide) (by rw [hj, e]), h.O.kept hc fun j hj e => row_ne_of_type h.O hb (by decide) (by rw [hj, e]), h.nI, h.nO, h.ne, h.ltI, h.ltO,
    fun q hq => ⟨(h.news q hq).1, hc.heap (h.news q hq).2 fun e => by have := (h.news q hq).1; have := h.low; omega⟩⟩
/-- A box of another kind lies as it lay. -/
theorem R4.other (h : R4 V bl rI rO x y vI' rI' nI cI vO' rO' nO cO new W) {vI vO : Value} {a b : Nat} {xI xO : List Value} (hI : RowAt V 65 1 vI rI a xI) (hO : RowAt V 65 1 vO rO b xO) {k : Nat} {c : Array Value} {t : Nat} {f : Nat × Nat}
    (hk : V.heap[k]? = some (.cells c t f)) (ht : t ≠ 65) (hb : k ≠ bl) : W.heap[k]? = some (.cells c t f) :=
  h.chg.heap hk fun e => by
    rcases e with e | e | e
    · exact row_ne_of_type hI hk ht e.symm
    · exact row_ne_of_type hO hk ht e.symm
    · exact hb e
/-- Both appended, both stored. -/
theorem R4.fin {w : World} {bx k : Nat} {cF : Array Value} {vI vO : Value} {ps qs : List Nat} (hG : Grow1 w bx bl k (.cells cF 31) vI vO rI rO ps qs V) {p q : Nat}
    (h : R4 V bl rI rO vI' vO' vI' rI' (k + 1) (ps.map ptrN ++ [ptrN p]) vO' rO' (k + 1) (qs.map ptrN ++ [ptrN q]) new W) (hp : (p, bits0) ∈ new) (hq : (q, bits0) ∈ new) (hpq : p ≠ q) (hbl : w.heap.size ≤ bl) :
    Grow1 w bx bl (k + 1) (.cells cF 31) vI' vO' rI' rO' (ps ++ [p]) (qs ++ [q]) W := by
  have hz := hG.below.size
  have hne : ∀ b, V.heap[b]? = some bits0 → b ≠ bl := fun b hb e => by rw [e, hG.box] at hb; cases hb
  obtain ⟨hp1, hp2⟩ := h.news _ hp
  obtain ⟨hq1, hq2⟩ := h.news _ hq
  refine ⟨?_, ?_, h.other hG.I hG.O hG.gbox (by decide) hG.apart, hG.apart, h.box, ?_, ?_, ?_, ?_, h.ne, fun b hb' => ?_, ?_, by simp [hG.il], by simp [hG.ol]⟩
  · refine hG.below.trans (h.chg.below hz fun i e => ?_)
    rcases e with e | e | e
    · exact hG.lowI i e.symm
    · exact hG.lowO i e.symm
    · rw [e]; exact hbl
  · refine h.other hG.I hG.O hG.fbox (by decide) fun e => ?_
    have := hG.fbox
    rw [e, hG.box] at this; cases this
  · rw [List.map_append]; exact h.I
  · rw [List.map_append]; exact h.O
  · intro j hj
    rcases h.nI with e | ⟨i, e, hi⟩
    · exact hG.lowI j (by rw [← e]; exact hj)
    · rw [e] at hj; cases hj; omega
  · intro j hj
    rcases h.nO with e | ⟨i, e, hi⟩
    · exact hG.lowO j (by rw [← e]; exact hj)
    · rw [e] at hj; cases hj; omega
  · have hold : b ∈ ps ++ qs ∨ b = p ∨ b = q := by
      simp only [List.mem_append, List.mem_singleton] at hb' ⊢
      rcases hb' with (h | h) | (h | h)
      · exact .inl (.inl h)
      · exact .inr (.inl h)
      · exact .inl (.inr h)
      · exact .inr (.inr h)
    rcases hold with hb2 | rfl | rfl
    · exact ⟨(hG.zero b hb2).1, h.other hG.I hG.O (hG.zero b hb2).2 (by decide) (hne b (hG.zero b hb2).2)⟩
    · exact ⟨by omega, hp2⟩
    · exact ⟨by omega, hq2⟩
  · have hlt : ∀ b ∈ ps ++ qs, b < V.heap.size := fun b hb => lt_of_heap (hG.zero b hb).2
    have hn := hG.nodup
    rw [List.nodup_append] at hn ⊢
    have hps : ∀ b ∈ ps, b < V.heap.size := fun b hb => hlt b (List.mem_append_left _ hb)
    have hqs : ∀ b ∈ qs, b < V.heap.size := fun b hb => hlt b (List.mem_append_right _ hb)
    have hp1' : V.heap.size ≤ p := hp1
    have hq1' : V.heap.size ≤ q := hq1
    refine ⟨?_, ?_, ?_⟩
    · rw [List.nodup_append]
      exact ⟨hn.1, by simp, fun a ha b hb => by rw [List.mem_singleton.1 hb]; have := hps a ha; omega⟩
    · rw [List.nodup_append]
      exact ⟨hn.2.1, by simp, fun a ha b hb => by rw [List.mem_singleton.1 hb]; have := hqs a ha; omega⟩
    · intro a ha b hb
      simp only [List.mem_append, List.mem_singleton] at ha hb
      rcases ha with ha | rfl <;> rcases hb with hb | rfl
      · exact hn.2.2 a ha b hb
      · have := hps a ha; omega
      · have := hqs b hb; omega
      · exact hpq
end
/-- The first loop is done: all sets are there, empty. -/
theorem Grow1.flow {w W : World} {bx bl n : Nat} {oF : Obj} {vI vO : Value} {rI rO : Option Nat} {ps qs : List Nat} (h : Grow1 w bx bl n oF vI vO rI rO ps qs W) :
    FlowM w bl n vI vO (ps.map (fun b => ⟨b, none, []⟩) ++ qs.map (fun b => ⟨b, none, []⟩)) [] W := by
  have hl1 : (ps.map (fun b => (⟨b, none, []⟩ : BM))).length = n := by simp [h.il]
  have hmp : ∀ l : List Nat, (l.map (fun b => (⟨b, none, []⟩ : BM))).map BM.ptr = l.map ptrN := fun l => by rw [List.map_map]; rfl
  have hall : ps.map (fun b => (⟨b, none, []⟩ : BM)) ++ qs.map (fun b => ⟨b, none, []⟩) = (ps ++ qs).map fun b => ⟨b, none, []⟩ := by rw [List.map_append]
  refine ⟨h.below, h.box, ⟨rI, ?_⟩, ⟨rO, ?_⟩, ?_, ?_, by simp [h.il, h.ol]⟩
  · rw [← hl1, List.take_left', hl1, hmp]
    · exact h.I
    · rfl
  · rw [List.drop_left' hl1, hmp]; exact h.O
  · rw [List.append_nil, hall]
    refine ⟨fun p hp => ?_, fun i j hi hj hne => ?_⟩
    · obtain ⟨b, hb, rfl⟩ := List.mem_map.1 hp
      exact ⟨⟨_, (h.zero b hb).2, RowAt.nil _ _ _⟩, fun x hx => (by cases hx), (by simp)⟩
    · simp only [List.getElem_map]
      refine ⟨fun e => hne ?_, fun k hk => by cases hk⟩
      exact (List.getElem_inj h.nodup).1 e
  · rw [List.append_nil, hall]
    intro p hp
    obtain ⟨b, hb, rfl⟩ := List.mem_map.1 hp
    exact ⟨(h.zero b hb).1, fun k hk => by cases hk⟩
end Go.Proofs.Ytlniohgnkihefaa
namespace Go.Proofs.Ytlniohgnkihefaa
open Go.RowKit

theorem KT.own {W0 X Y : World} {row : Option Nat} (h : KT W0 X) (hg : X.grownBy Y row) (hr : ∀ r, row = some r → W0.heap.size ≤ r) : KT W0 Y :=
  ⟨Nat.le_trans h.size hg.size, fun k o hk ho => (hg.block k (lt_of_heap (h.blk k o hk ho)) fun e => by have := hr k e.symm; have := lt_of_heap hk; omega).trans (h.blk k o hk ho)⟩
theorem KT.kpw {W W' : World} (h : KT W W') {Bn : Nat} {v : Value} (hB : Boxed W Bn 29 v) {w : World} {A : Option Addr} (hA : ∀ g off, A = some ⟨g, off, none⟩ → g < w.heap.size) (h1 : Below w.heap.size w W) (h2 : Below w.heap.size w W') : KpW Bn A W W' := by
  refine ⟨(Boxed.kt hB h (by decide)).trans (Eq.symm hB), fun g off e => ?_⟩
  rw [h1.block g (hA g off e), h2.block g (hA g off e)]
theorem KT.kpwI {W W' : World} (h : KT W W') {Bn : Nat} {v : Value} (hB : Boxed W Bn 43 v) {w : World} {A : Option Addr} (hA : ∀ g off, A = some ⟨g, off, none⟩ → g < w.heap.size) (h1 : Below w.heap.size w W) (h2 : Below w.heap.size w W') : KpW Bn A W W' := by
  refine ⟨(Boxed.kt hB h (by decide)).trans (Eq.symm hB), fun g off e => ?_⟩
  rw [h1.block g (hA g off e), h2.block g (hA g off e)]

/-- Function's box, the sets, and the box of 'again'. -/
structure LvS (w : World) (bx bl bb n : Nat) (cF : Array Value) (vI vO : Value) (b : Bool) (ps ex : List BM) (W : World) : Prop where
  flow : FlowM w bl n vI vO ps ex W
  fbox : W.heap[bx]? = some (.cells cF 31)
  gbox : W.heap[bx + 1]? = some (.cells #[.slice none 0 0, .slice none 0 0] 61 (0, 0))
  bbox : Boxed W bb 4 (.bool b)
  bbl : w.heap.size ≤ bb
section
variable {w W W' : World} {bx bl bb n : Nat} {cF : Array Value} {vI vO : Value} {b : Bool} {ps ex : List BM}
theorem LvS.below (h : LvS w bx bl bb n cF vI vO b ps ex W) (hb : Below W.heap.size W W') : LvS w bx bl bb n cF vI vO b ps ex W' :=
  ⟨h.flow.below_ hb, (hb.block bx (lt_of_heap h.fbox)).trans h.fbox, (hb.block _ (lt_of_heap h.gbox)).trans h.gbox, (hb.block bb (lt_of_heap h.bbox)).trans h.bbox, h.bbl⟩
theorem bool_foot {q : Nat} {r : Option Nat} {ws : List Nat} (hq : BitsAt W q r ws) (hb : Boxed W bb 4 (.bool b)) : ¬ FootB q r bb := by
  obtain ⟨v, h1, h2⟩ := hq.ex
  have hb' : W.heap[bb]? = some (.cells #[.bool b] 4 (0, 0)) := hb
  rintro (e | e)
  · rw [e, h1] at hb'; cases hb'
  · exact row_ne_of_type h2 hb' (by decide) e.symm
theorem LvS.grow (h : LvS w bx bl bb n cF vI vO b ps ex W) (i : Nat) (hi : i < ps.length) {r' : Option Nat} {ws' : List Nat} (g : GrowAt W ps[i].b ps[i].r ps[i].ws W' r' ws') :
    LvS w bx bl bb n cF vI vO b (ps.set i ⟨ps[i].b, r', ws'⟩) ex W' ∧ KT W W' := by
  obtain ⟨h1, h2⟩ := h.flow.grow i hi g
  exact ⟨⟨h1, h2.blk bx _ h.fbox (by rintro ⟨c, f, h | h | h⟩ <;> cases h), h2.blk _ _ h.gbox (by rintro ⟨c, f, h | h | h⟩ <;> cases h), g.chg.heap h.bbox (bool_foot (h.flow.at_ i hi) h.bbox), h.bbl⟩, h2⟩
theorem LvS.growX {p : BM} (h : LvS w bx bl bb n cF vI vO b ps [p] W) {r' : Option Nat} {ws' : List Nat} (g : GrowAt W p.b p.r p.ws W' r' ws') :
    LvS w bx bl bb n cF vI vO b ps [⟨p.b, r', ws'⟩] W' ∧ KT W W' := by
  obtain ⟨h1, h2⟩ := h.flow.growX g
  exact ⟨⟨h1, h2.blk bx _ h.fbox (by rintro ⟨c, f, h | h | h⟩ <;> cases h), h2.blk _ _ h.gbox (by rintro ⟨c, f, h | h | h⟩ <;> cases h), g.chg.heap h.bbox (bool_foot (h.flow.sets.at_ p (by simp)) h.bbox), h.bbl⟩, h2⟩
theorem LvS.push (h : LvS w bx bl bb n cF vI vO b ps [] W) {q : Nat} {r : Option Nat} {ws : List Nat} (g : NewBits W W' q r ws) : LvS w bx bl bb n cF vI vO b ps [⟨q, r, ws⟩] W' := by
  have h1 := h.below g.below
  exact ⟨h.flow.push g, h1.fbox, h1.gbox, h1.bbox, h1.bbl⟩
theorem LvS.pop (h : LvS w bx bl bb n cF vI vO b ps ex W) : LvS w bx bl bb n cF vI vO b ps [] W := ⟨h.flow.pop, h.fbox, h.gbox, h.bbox, h.bbl⟩
theorem LvS.store (h : LvS w bx bl bb n cF vI vO b ps ex W) (c : Bool) : LvS w bx bl bb n cF vI vO c ps ex (W.setCell ⟨bb, 0, none⟩ (.bool c)) ∧ KT W (W.setCell ⟨bb, 0, none⟩ (.bool c)) := by
  have hk := KT.store_bool h.bbox (.bool c)
  refine ⟨⟨h.flow.bool h.bbox h.bbl _, hk.blk bx _ h.fbox (by rintro ⟨c, f, h | h | h⟩ <;> cases h), hk.blk _ _ h.gbox (by rintro ⟨c, f, h | h | h⟩ <;> cases h), ?_, h.bbl⟩, hk⟩
  exact heap_setCell_same W bb 0 #[.bool b] 4 (.bool c) h.bbox
/-- Another box for 'again'. -/
theorem LvS.turn (h : LvS w bx bl bb n cF vI vO b ps ex W) (c : Bool) : LvS w bx bl W.heap.size n cF vI vO c ps ex (W.alloc (.cells #[.bool c] 4)) := by
  have h1 := h.below ((Below.refl _ W).alloc (Nat.le_refl _) (.cells #[.bool c] 4))
  exact ⟨h1.flow, h1.fbox, h1.gbox, Boxed.new W _ _, h.flow.below.size⟩
theorem LvS.own (h : LvS w bx bl bb n cF vI vO b ps ex W) {row : Option Nat} (hg : W.grownBy W' row) (hr : ∀ r, row = some r → w.heap.size ≤ r ∧ ∃ o : Obj, W.heap[r]? = some o ∧ o.isCells = false) : LvS w bx bl bb n cF vI vO b ps ex W' := by
  have hr2 : ∀ r, row = some r → ∃ o : Obj, W.heap[r]? = some o ∧ o.isCells = false := fun r e => (hr r e).2
  exact ⟨h.flow.own hg hr, ((own_chg hg).block bx (lt_of_heap h.fbox) (own_ne hr2 h.fbox)).trans h.fbox, ((own_chg hg).block _ (lt_of_heap h.gbox) (own_ne hr2 h.gbox)).trans h.gbox, ((own_chg hg).block bb (lt_of_heap h.bbox) (own_ne hr2 h.bbox)).trans h.bbox, h.bbl⟩
theorem row_cell {e : Nat} {g off c m : Nat} {r : Option Nat} {xs : List Value} (h : RowAt W e 1 (.slice (some ⟨g, off, none⟩) m c) r m xs) (hp : 0 < m) (j : Nat) (u : Value) (hj : xs[j]? = some u) : W.cell? ⟨g, off + j, none⟩ = some u := by
  obtain ⟨g', off', cap, hv, _, _, _, _, hc, _⟩ := h.form hp
  cases hv
  exact hc j u hj
theorem LvS.cellI {g off c : Nat} (h : LvS w bx bl bb n cF (.slice (some ⟨g, off, none⟩) n c) vO b ps ex W) (i : Nat) (hi : i < n) (hip : i < ps.length) : W.cell? ⟨g, off + i, none⟩ = some (.pointer (some ⟨ps[i].b, 0, none⟩)) := by
  obtain ⟨r, hr⟩ := h.flow.rI
  refine row_cell hr (by omega) i _ ?_
  rw [List.getElem?_map, List.getElem?_take_of_lt hi, List.getElem?_eq_getElem hip]; rfl
theorem LvS.cellO {g off c : Nat} (h : LvS w bx bl bb n cF vI (.slice (some ⟨g, off, none⟩) n c) b ps ex W) (i : Nat) (hi : i < n) (hip : n + i < ps.length) : W.cell? ⟨g, off + i, none⟩ = some (.pointer (some ⟨ps[n + i].b, 0, none⟩)) := by
  obtain ⟨r, hr⟩ := h.flow.rO
  refine row_cell hr (by omega) i _ ?_
  rw [List.getElem?_map, List.getElem?_drop, List.getElem?_eq_getElem hip]; rfl
theorem LvS.cells (h : LvS w bx bl bb n cF vI vO b ps ex W) : W.cell? ⟨bl, 0, none⟩ = some vI ∧ W.cell? ⟨bl, 1, none⟩ = some vO ∧ W.cell? ⟨bb, 0, none⟩ = some (.bool b) :=
  ⟨by rw [cell_of_row _ _ _ _ _ _ h.flow.box]; rfl, by rw [cell_of_row _ _ _ _ _ _ h.flow.box]; rfl, Boxed.cell h.bbox⟩
theorem LvS.shapes (h : LvS w bx bl bb n cF vI vO b ps ex W) : (∃ A c, vI = .slice A n c) ∧ ∃ A c, vO = .slice A n c := by
  obtain ⟨r, h1⟩ := h.flow.rI
  obtain ⟨r2, h2⟩ := h.flow.rO
  obtain ⟨A, c, e, _⟩ := h1.shape
  obtain ⟨A2, c2, e2, _⟩ := h2.shape
  exact ⟨⟨A, c, e⟩, A2, c2, e2⟩
theorem LvS.shapes1 (h : LvS w bx bl bb n cF vI vO b ps ex W) (hn : 0 < n) : (∃ g off c, vI = .slice (some ⟨g, off, none⟩) n c) ∧ ∃ g off c, vO = .slice (some ⟨g, off, none⟩) n c := by
  obtain ⟨r, h1⟩ := h.flow.rI
  obtain ⟨r2, h2⟩ := h.flow.rO
  obtain ⟨g, off, c, e, _⟩ := h1.form hn
  obtain ⟨g2, off2, c2, e2, _⟩ := h2.form hn
  exact ⟨⟨g, off, c, e⟩, g2, off2, c2, e2⟩
theorem LvS.drew (h : LvS w bx bl bb n cF vI vO b ps ex W) : LvS w bx bl bb n cF vI vO b ps ex W.drew := h.below (Below.refl _ W).drew
end
/-- Two sets of the flow, not one. -/
theorem flow_ne {w W : World} {bl n : Nat} {vI vO : Value} {ps ex : List BM} (h : FlowM w bl n vI vO ps ex W) (i j : Nat) (hi : i < ps.length) (hj : j < ps.length) (hne : i ≠ j) : ∀ k, ps[j].r = some k → ps[i].r ≠ some k := fun k hk hk2 => by
  have h1 := (h.sets.apart i j (by rw [List.length_append]; omega) (by rw [List.length_append]; omega) hne).2
  rw [List.getElem_append_left hi, List.getElem_append_left hj] at h1
  exact h1 k hk2 hk
theorem flow_neX {w W : World} {bl n : Nat} {vI vO : Value} {ps : List BM} {p : BM} (h : FlowM w bl n vI vO ps [p] W) (i : Nat) (hi : i < ps.length) : ∀ k, p.r = some k → ps[i].r ≠ some k := fun k hk hk2 => by
  have h1 := (h.sets.apart i ps.length (by rw [List.length_append]; omega) (by rw [List.length_append]; simp) (by omega)).2
  rw [List.getElem_append_left hi, List.getElem_append_right (Nat.le_refl _)] at h1
  simp only [Nat.sub_self, List.getElem_cons_zero] at h1
  exact h1 k hk2 hk
theorem IntsAt.kt {W W' : World} {A : Option Addr} {l : List Int} (h : IntsAt W A l) (k : KT W W') : IntsAt W' A l := fun hp => by
  obtain ⟨g, h1, h2⟩ := h hp
  exact ⟨g, h1, k.blk g _ h2 (by rintro ⟨c, f, h | h | h⟩ <;> cases h)⟩
theorem IntsAt.cell {W : World} {g off : Nat} {l : List Int} (h : IntsAt W (some ⟨g, off, none⟩) l) (j : Nat) (hj : j < l.length) : W.cell? ⟨g, off + j, none⟩ = some (.int .i64 l[j]) := by
  obtain ⟨g', h1, h2⟩ := h (by omega)
  cases h1
  rw [Nat.zero_add, cell_of_row _ _ _ _ _ _ h2, ← Array.getElem?_toList]
  simp [ints, hj]
theorem IntsAt.shape {W : World} {A : Option Addr} {l : List Int} (h : IntsAt W A l) (hp : 0 < l.length) : ∃ g, A = some ⟨g, 0, none⟩ := by
  obtain ⟨g, h1, _⟩ := h hp
  exact ⟨g, h1⟩
/-- What stands between two rounds of the outer loop. -/
structure LvO (w : World) (ks : List Blk) (bx bl bb n : Nat) (cF : Array Value) (vI vO : Value) (b : Bool) (ps : List BM) (ds : List Deferred) (gk : Nat) (W : World) : Prop where
  s : LvS w bx bl bb n cF vI vO b ps [] W
  marks : Marks W ds
  mlow : ∀ d ∈ ds, ∀ E, d.target = .collected E → w.heap.size ≤ E
  way : Way ks (inS n ps) (outS n ps)
  cl : b = false → ∀ j, Shut1 ks (inS n ps) (outS n ps) j
  num : gk = 2 * (2 * n * 65536 - totB 65536 ps) + (if b = true then 1 else 0)
theorem totB_nil (N : Nat) (ps : List BM) (h : ∀ p ∈ ps, p.ws = []) : totB N ps = 0 := by
  unfold totB
  have hc : ∀ N, cntP N (memW []) = 0 := fun N => by
    induction N with
    | zero => rfl
    | succ N ih => unfold cntP; rw [ih, if_neg (by simp [memW])]
  induction ps with
  | nil => rfl
  | cons a ps ih =>
    rw [List.map_cons, List.sum_cons, ih fun p hp => h p (by simp [hp]), h a (by simp), hc]
theorem way_nil (ks : List Blk) (n : Nat) (ps : List BM) (h : ∀ p ∈ ps, p.ws = []) : Way ks (inS n ps) (outS n ps) := by
  have h0 : ∀ i, memW (wsAt ps i) = fun _ => false := fun i => by
    unfold wsAt
    cases e : ps[i]? with
    | none => funext x; simp [memW]
    | some p => simp only; rw [h p (List.mem_of_getElem? e)]; funext x; simp [memW]
  have h1 : inS n ps = fun _ _ => false := by
    funext i; unfold inS; rw [h0]; split <;> rfl
  have h2 : outS n ps = fun _ _ => false := by
    funext i; unfold outS; rw [h0]; split <;> rfl
  rw [h1, h2]; exact Way.start ks
theorem Grow1.lvo {w W : World} {ks : List Blk} {bx bl n : Nat} {cF : Array Value} {vI vO : Value} {rI rO : Option Nat} {ps qs : List Nat} (h : Grow1 w bx bl n (.cells cF 31) vI vO rI rO ps qs W) :
    LvO w ks bx bl W.heap.size n cF vI vO true (ps.map (fun b => ⟨b, none, []⟩) ++ qs.map (fun b => ⟨b, none, []⟩)) [] (2 * (2 * n * 65536) + 1) (W.alloc (.cells #[.bool true] 4)) := by
  have hall : ∀ p ∈ ps.map (fun b => (⟨b, none, []⟩ : BM)) ++ qs.map (fun b => (⟨b, none, []⟩ : BM)), p.ws = [] := fun p hp => by
    rcases List.mem_append.1 hp with hp | hp <;> (obtain ⟨b, _, rfl⟩ := List.mem_map.1 hp; rfl)
  have hb : Below W.heap.size W (W.alloc (.cells #[.bool true] 4)) := (Below.refl _ W).alloc (Nat.le_refl _) _
  refine ⟨⟨h.flow.below_ hb, (hb.block _ (lt_of_heap h.fbox)).trans h.fbox, (hb.block _ (lt_of_heap h.gbox)).trans h.gbox, Boxed.new W _ _, h.below.size⟩, .nil, (fun _ h => by cases h), way_nil ks n _ hall, fun e => (by cases e), ?_⟩
  rw [totB_nil _ _ hall]; rfl
theorem Marks.chg {W W' : World} {ds : List Deferred} {S : Nat → Prop} (h : Marks W ds) (hc : Chg S W W') (hS : ∀ k, S k → ∃ c t f, W.heap[k]? = some (.cells c t f)) : Marks W' ds := by
  induction h with
  | nil => exact .nil
  | cons D ds hD hn _ ih =>
    refine .cons D ds (hc.heap hD fun e => ?_) hn ih
    obtain ⟨c, t, f, e2⟩ := hS D e
    rw [hD] at e2; cases e2
/-- The result is stored. -/
theorem FlowM.result {w W : World} {bl n : Nat} {vI vO : Value} {ps ex : List BM} (h : FlowM w bl n vI vO ps ex W) {q : Nat} {c : Array Value} {f : Nat × Nat} (hq : W.heap[q]? = some (.cells c 61 f)) (hne : bl ≠ q) (hN : w.heap.size ≤ q) (j : Nat) (u : Value) :
    FlowM w bl n vI vO ps ex (W.setCell ⟨q, j, none⟩ u) := by
  have hc := Chg.store W q j u
  obtain ⟨r, hr⟩ := h.rI
  obtain ⟨r2, hr2⟩ := h.rO
  refine ⟨h.below.trans (hc.below h.below.size fun i e => by rw [e]; exact hN), hc.heap h.box hne, ⟨r, hr.kept hc fun k e e2 => row_ne_of_type hr hq (by decide) (by rw [e, e2])⟩, ⟨r2, hr2.kept hc fun k e e2 => row_ne_of_type hr2 hq (by decide) (by rw [e, e2])⟩, h.sets.chg hc fun p hp => ?_, h.low, h.len⟩
  obtain ⟨v', h1, h2⟩ := (h.sets.at_ p hp).ex
  refine ⟨fun e => ?_, fun k hk e => row_ne_of_type h2 hq (by decide) (by rw [hk, e])⟩
  rw [e, hq] at h1; cases h1
/-- What dead.live gives. -/
def LiveD (w : World) (ks : List Blk) (e : Ending) (w' : World) : Prop := ∃ vI vO ps bl, e = .returned (.agg #[vI, vO]) ∧ FlowM w bl ks.length vI vO ps [] w' ∧
  ∀ i, i < ks.length → (∀ x, inS ks.length ps i x = true ↔ LiveIn ks i x) ∧ ∀ x, outS ks.length ps i x = true ↔ LiveOut ks i x
/-- All marks are taken at the end. -/
theorem leaves_marks {P : Program} {n : Nat} {fn : Func} {tmps : Array Value} {R : Ending → World → Prop} (I : World → Prop)
    {B : Nat} (hI : ∀ (W : World) (D : Nat), B ≤ D → I W → W.heap[D]? = some (.deferred (some [])) → I (W.putObj D (.deferred none))) (hend : ∀ W, I W → LeavesIn Fence.wide n P fn tmps R [] .returning W) :
    ∀ (ds : List Deferred) (W : World), Marks W ds → (∀ d ∈ ds, ∀ E, d.target = .collected E → B ≤ E) → I W → LeavesInM Fence.wide n P fn tmps R ds .returning W := by
  intro ds
  induction ds with
  | nil => intro W _ _ h; exact hend W h
  | cons d ds ih =>
    intro W hM hlow h
    cases hM with
    | cons D _ hD hn hs =>
      refine ⟨by simp, .inl ⟨D, _, rfl, run_takeDeferred hD, ih _ ?_ (fun d hd => hlow d (by simp [hd])) (hI W D (hlow { target := .collected D, args := #[] } (by simp) D rfl) h hD)⟩⟩
      refine hs.grown (grownBy_putObj' W D _) fun r e d hd E hE e2 => ?_
      have e' : D = r := by injection e
      have := hn d hd E hE
      omega
end Go.Proofs.Ytlniohgnkihefaa
namespace Go.Proofs.Ytlniohgnkihefaa
open Go.RowKit

theorem KpW.put {Bn B : Nat} {A : Option Addr} (hB : Bn < B) (hA : ∀ g off, A = some ⟨g, off, none⟩ → g < B) (W : World) (l : Nat) (o' : Obj) (hl : B ≤ l) : KpW Bn A W (W.putObj l o') :=
  ⟨World.putObj_heap_other (by omega), fun g off e => World.putObj_heap_other (by have := hA g off e; omega)⟩
/-- Only where there is a round. -/
def KpG (N Bn : Nat) (A : Option Addr) (W W' : World) : Prop := 0 < N → KpW Bn A W W'
theorem KpG.trans {N Bn : Nat} {A : Option Addr} {X Y Z : World} (h : KpG N Bn A X Y) (k : KpG N Bn A Y Z) : KpG N Bn A X Z := fun hp => (h hp).trans (k hp)
theorem stops_guard {α : Type} {F : Fence} {n : Nat} {P : Program} {g : Nat} {lb : Array Value} {encs : α → Array Value} {S Sp : List α → Prop} {N Bn : Nat} {A : Option Addr} {w : World} (h : SeqStopsK F n P g lb encs (KpW Bn A) S Sp N w) :
    SeqStopsK F n P g lb encs (KpG N Bn A) S Sp N w := fun l J Jx W hW hJ hJx hY h0 =>
  h l J Jx W hW hJ hJx (fun pre x W1 hj hlt => (hY pre x W1 hj hlt).mono (by
    rintro e W' (⟨he, h1, h2⟩ | h1)
    · exact .inl ⟨he, h1, h2 (by omega)⟩
    · exact .inr h1)) h0
theorem blkRow_lt {w : World} {A : Option Addr} {bs : List BlkQ} (h : BlkRow w A bs) (hp : 0 < bs.length) : ∀ g off, A = some ⟨g, off, none⟩ → g < w.heap.size := fun g off e => by
  obtain ⟨g', off', e', h', _⟩ := h hp
  rw [e] at e'; cases e'; exact h'
theorem insRow_lt {w : World} {A : Option Addr} {bs : List InsQ} (h : InsRow w A bs) (hp : 0 < bs.length) : ∀ g off, A = some ⟨g, off, none⟩ → g < w.heap.size := fun g off e => by
  obtain ⟨g', off', e', h', _⟩ := h hp
  rw [e] at e'; cases e'; exact h'
def metR {β : Type} {bs : List β} (l : List (ElR bs)) : List Nat := (valsR l).map Prod.fst
/-- Between two blocks. -/
structure BlkI (w : World) (ks : List Blk) (bx bl bb n : Nat) (cF : Array Value) (vI vO : Value) (ds : List Deferred) (T0 Bn : Nat) (vB : Value) (b b2 : Bool) (ps : List BM) (met : List Nat) (W : World) : Prop where
  s : LvS w bx bl bb n cF vI vO b ps [] W
  pass : PassB 65536 ks n ps T0 b2 (fun j => j ∈ met)
  marks : Marks W ds
  bn : Boxed W Bn 29 vB
section
variable {w : World} {ks : List Blk} {bx bl bb n : Nat} {cF : Array Value} {vI vO : Value} {ds : List Deferred} {T0 Bn : Nat} {vB : Value} {b b2 : Bool} {ps : List BM} {met : List Nat}
theorem Boxed.own1 {X Y : World} {Bn t : Nat} {v : Value} {row : Option Nat} (h : Boxed X Bn t v) (hg : X.grownBy Y row) (hr : ∀ r, row = some r → ∃ o : Obj, X.heap[r]? = some o ∧ o.isCells = false) : Boxed Y Bn t v :=
  ((own_chg hg).block Bn (lt_of_heap h) (own_ne hr h)).trans h
theorem BlkI.own {X Y : World} {row : Option Nat} (h : BlkI w ks bx bl bb n cF vI vO ds T0 Bn vB b b2 ps met X) (hg : X.grownBy Y row) {B : Nat} (hr : ∀ r, row = some r → B ≤ r ∧ ∃ o : Obj, X.heap[r]? = some o ∧ o.isCells = false)
    (hB : w.heap.size ≤ B) (hds : ∀ d ∈ ds, ∀ E, d.target = .collected E → E < B) : BlkI w ks bx bl bb n cF vI vO ds T0 Bn vB b b2 ps met Y :=
  ⟨h.s.own hg fun r e => ⟨Nat.le_trans hB (hr r e).1, (hr r e).2⟩, h.pass, h.marks.grown hg fun r e d hd E hE => by have := (hr r e).1; have := hds d hd E hE; omega, Boxed.own1 h.bn hg fun r e => (hr r e).2⟩
theorem BlkI.below {W W' : World} (h : BlkI w ks bx bl bb n cF vI vO ds T0 Bn vB b b2 ps met W) (hb : Below W.heap.size W W') : BlkI w ks bx bl bb n cF vI vO ds T0 Bn vB b b2 ps met W' :=
  ⟨h.s.below hb, h.pass, h.marks.kt (KT.of_below hb), Boxed.kt h.bn (KT.of_below hb) (by decide)⟩
end
theorem BlkI.done {w Z : World} {ks : List Blk} {bx bl bb n : Nat} {cF : Array Value} {vI vO : Value} {ds : List Deferred} {Bn : Nat} {vB : Value} {b : Bool} {ps0 ps : List BM} {bs : List BlkQ} {xs : List (ElR bs)} {B D gk : Nat}
    (h : BlkI w ks bx bl bb n cF vI vO ds (totB 65536 ps0) Bn vB b b ps (metR xs) Z) (hS : valsR xs = revI bs) (hD : Z.heap[D]? = some (.deferred (some []))) (hBD : B ≤ D) (hB : w.heap.size ≤ B) (hds : ∀ d ∈ ds, ∀ E, d.target = .collected E → E < B) (hlow : ∀ d ∈ ds, ∀ E, d.target = .collected E → w.heap.size ≤ E)
    (hbs : bs.length = ks.length) (hgk : gk = 2 * (2 * n * 65536 - totB 65536 ps0) + 1) :
    2 * (2 * n * 65536 - totB 65536 ps) + (if b = true then 1 else 0) < gk ∧
      LvO w ks bx bl Z.heap.size n cF vI vO b ps ({ target := .collected D, args := #[] } :: ds) (2 * (2 * n * 65536 - totB 65536 ps) + (if b = true then 1 else 0)) (Z.alloc (.cells #[.bool b] 4)) := by
  have hal : Below Z.heap.size Z (Z.alloc (.cells #[.bool b] 4)) := (Below.refl _ _).alloc (Nat.le_refl _) _
  have hle := totB_le 65536 ps
  rw [h.s.flow.len] at hle
  have hge := h.pass.ge
  refine ⟨?_, h.s.turn b, .cons D ds ((hal.block D (lt_of_heap hD)).trans hD) (fun d hd E hE => by have := hds d hd E hE; omega) (h.marks.kt (KT.of_below hal)), fun d hd E hE => ?_, h.pass.way, fun e j => ?_, rfl⟩
  · cases b with
    | true => have := h.pass.gt rfl; rw [if_pos rfl]; omega
    | false => rw [if_neg (by simp)]; omega
  · rcases List.mem_cons.1 hd with rfl | hd
    · cases hE; omega
    · exact hlow d hd E hE
  · intro hj
    refine h.pass.cl e j ?_ hj
    unfold metR
    rw [hS]
    exact List.mem_map.2 ⟨_, revI_has bs j (by rw [hbs]; exact hj), rfl⟩
theorem next_lt {m : Nat} {k : Blk} (h : BlkF m k) : ∀ t ∈ nextP k, 0 ≤ t ∧ t.toNat < m := by
  intro t ht
  have h1 := h.to
  have h2 := h.els
  unfold nextP at ht
  rcases h.kind with e | e | e <;> rw [e] at ht h1 h2 <;> simp at ht h1 h2
  · omega
  · rcases ht with rfl | rfl <;> omega
theorem map_b_set (ps : List BM) (i : Nat) {q : Nat} {r0 : Option Nat} {w0 : List Nat} (h : ps[i]? = some ⟨q, r0, w0⟩) (r : Option Nat) (ws : List Nat) : (ps.set i ⟨q, r, ws⟩).map BM.b = ps.map BM.b := by
  rw [List.map_set]
  apply List.ext_getElem (by simp)
  intro j h1 h2
  by_cases e : i = j
  · subst e
    obtain ⟨hi, he⟩ := List.getElem?_eq_some_iff.1 h
    rw [List.getElem_set_self, List.getElem_map, he]
  · rw [List.getElem_set_ne e]
def Sel (bl bb gI oI gO oO cI cO n xO xI bO bI : Nat) (b : Bool) (Y : World) : Prop :=
  Y.cell? ⟨bl, 0, none⟩ = some (.slice (some ⟨gI, oI, none⟩) n cI) ∧ Y.cell? ⟨bl, 1, none⟩ = some (.slice (some ⟨gO, oO, none⟩) n cO) ∧ Y.cell? ⟨gO, xO, none⟩ = some (.pointer (some ⟨bO, 0, none⟩)) ∧ Y.cell? ⟨gI, xI, none⟩ = some (.pointer (some ⟨bI, 0, none⟩)) ∧ Y.cell? ⟨bb, 0, none⟩ = some (.bool b)
theorem LvS.sel {w W : World} {bx bl bb n : Nat} {cF : Array Value} {gI oI cI gO oO cO : Nat} {b : Bool} {ps ex : List BM} (h : LvS w bx bl bb n cF (.slice (some ⟨gI, oI, none⟩) n cI) (.slice (some ⟨gO, oO, none⟩) n cO) b ps ex W) {i t bO bI : Nat} (hi : i < n) (ht : t < n)
    (hO : (ps.map BM.b)[n + i]? = some bO) (hI : (ps.map BM.b)[t]? = some bI) : Sel bl bb gI oI gO oO cI cO n (oO + i) (oI + t) bO bI b W := by
  have hl := h.flow.len
  have h1 := h.cellO i hi (by omega)
  have h2 := h.cellI t ht (by omega)
  rw [List.getElem?_map, List.getElem?_eq_getElem (by omega)] at hO hI
  injection hO with hO
  injection hI with hI
  rw [hO] at h1; rw [hI] at h2
  exact ⟨h.cells.1, h.cells.2.1, h1, h2, h.cells.2.2⟩
section
variable {w W W' : World} {ks : List Blk} {bx bl bb n : Nat} {cF : Array Value} {vI vO : Value} {ds : List Deferred} {T0 Bn : Nat} {vB : Value} {b b2 : Bool} {ps : List BM} {met : List Nat}
theorem BlkI.join (h : BlkI w ks bx bl bb n cF vI vO ds T0 Bn vB b b2 ps met W) (hn : n = ks.length) {i : Nat} (hi : i < ks.length) {t : Int} {tn : Nat} (ht : t ∈ nextP ks[i]) (et : t = (tn : Int)) (htn : tn < n) {bO bI : Nat} {rO rI rJ : Option Nat} {wsO wsI wsJ : List Nat}
    (hO : ps[n + i]? = some ⟨bO, rO, wsO⟩) (hI : ps[tn]? = some ⟨bI, rI, wsI⟩) (g : GrowAt W bO rO wsO W' rJ wsJ) (hm : ∀ x, memW wsJ x = (memW wsO x || memW wsI x)) :
    BlkI w ks bx bl bb n cF vI vO ds T0 Bn vB b (newTo wsO wsI wsI.length || b2) (ps.set (n + i) ⟨bO, rJ, wsJ⟩) met W' ∧ KT W W' ∧
      Sub (inS n (ps.set (n + i) ⟨bO, rJ, wsJ⟩) tn) (outS n (ps.set (n + i) ⟨bO, rJ, wsJ⟩) i) ∧ Sub (outS n ps i) (outS n (ps.set (n + i) ⟨bO, rJ, wsJ⟩) i) ∧ inS n (ps.set (n + i) ⟨bO, rJ, wsJ⟩) = inS n ps := by
  obtain ⟨h1, e1⟩ := List.getElem?_eq_some_iff.1 hO
  obtain ⟨h2, e2⟩ := List.getElem?_eq_some_iff.1 hI
  have et2 : t.toNat = tn := by omega
  have hb2 := (h.s.flow.at_ tn h2).len
  rw [e2] at hb2
  obtain ⟨s1, k1⟩ := h.s.grow (n + i) h1 (r' := rJ) (ws' := wsJ) (by rw [e1]; exact g)
  have hp := h.pass.joinO hn h.s.flow.len hi (t := t) ht (by omega) (r := rJ) (ws' := wsJ) h1 (by omega) (by simp only [et2, e2]; dsimp only at hb2; omega) (by simp only [et2, e1, e2]; exact hm)
  simp only [et2, e1, e2] at hp s1
  exact ⟨⟨s1, hp.1, h.marks.kt k1, Boxed.kt h.bn k1 (by decide)⟩, k1, hp.2⟩
theorem BlkI.store (h : BlkI w ks bx bl bb n cF vI vO ds T0 Bn vB b b2 ps met W) : BlkI w ks bx bl bb n cF vI vO ds T0 Bn vB b2 b2 ps met (W.setCell ⟨bb, 0, none⟩ (.bool b2)) ∧ KT W (W.setCell ⟨bb, 0, none⟩ (.bool b2)) := by
  obtain ⟨s1, k1⟩ := h.s.store b2
  exact ⟨⟨s1, h.pass, h.marks.kt k1, Boxed.kt h.bn k1 (by decide)⟩, k1⟩
end
/-- A block's box, as a round has it. -/
def BlkBox (W : World) (q : Nat) (x : BlkQ) : Prop := W.heap[q]? = some (.cells #[.slice x.A x.k.ins.length x.c, .int .i64 x.k.kind, .int .i64 x.k.a, .int .i64 x.k.to, .int .i64 x.k.els] 45 (0, 0))
theorem BlkBox.kt {W W' : World} {q : Nat} {x : BlkQ} (h : BlkBox W q x) (k : KT W W') : BlkBox W' q x := k.blk q _ h (by rintro ⟨c, f, h | h | h⟩ <;> cases h)
theorem BlkBox.own {X Y : World} {q : Nat} {x : BlkQ} {row : Option Nat} (h : BlkBox X q x) (hg : X.grownBy Y row) (hr : ∀ r, row = some r → ∃ o : Obj, X.heap[r]? = some o ∧ o.isCells = false) : BlkBox Y q x :=
  ((own_chg hg).block q (lt_of_heap h) (own_ne hr h)).trans h
def InsBox (W : World) (q : Nat) (x : InsQ) : Prop := W.heap[q]? = some (.cells #[.int .i64 x.k.kind, .int .i64 x.k.op, .int .i64 x.k.d, .int .i64 x.k.a, .int .i64 x.k.b, .int .i32 x.k.num, .string x.k.name, .slice x.A x.k.args.length x.c] 48 (0, 0))
theorem InsBox.own {X Y : World} {q : Nat} {x : InsQ} {row : Option Nat} (h : InsBox X q x) (hg : X.grownBy Y row) (hr : ∀ r, row = some r → ∃ o : Obj, X.heap[r]? = some o ∧ o.isCells = false) : InsBox Y q x :=
  ((own_chg hg).block q (lt_of_heap h) (own_ne hr h)).trans h
def SelE (bl gO oO cO n xO bO q : Nat) (x : BlkQ) (Y : World) : Prop :=
  (Y.cell? ⟨q, 0, none⟩ = some (.slice x.A x.k.ins.length x.c) ∧ Y.cell? ⟨q, 1, none⟩ = some (.int .i64 x.k.kind) ∧ Y.cell? ⟨q, 2, none⟩ = some (.int .i64 x.k.a) ∧ Y.cell? ⟨q, 3, none⟩ = some (.int .i64 x.k.to) ∧ Y.cell? ⟨q, 4, none⟩ = some (.int .i64 x.k.els)) ∧
  Y.cell? ⟨bl, 1, none⟩ = some (.slice (some ⟨gO, oO, none⟩) n cO) ∧ Y.cell? ⟨gO, xO, none⟩ = some (.pointer (some ⟨bO, 0, none⟩))
theorem BlkBox.cells {W : World} {q : Nat} {x : BlkQ} (h : BlkBox W q x) : W.cell? ⟨q, 0, none⟩ = some (.slice x.A x.k.ins.length x.c) ∧ W.cell? ⟨q, 1, none⟩ = some (.int .i64 x.k.kind) ∧ W.cell? ⟨q, 2, none⟩ = some (.int .i64 x.k.a) ∧ W.cell? ⟨q, 3, none⟩ = some (.int .i64 x.k.to) ∧ W.cell? ⟨q, 4, none⟩ = some (.int .i64 x.k.els) := by
  refine ⟨?_, ?_, ?_, ?_, ?_⟩ <;> (rw [cell_of_row _ _ _ _ _ _ h]; rfl)
theorem LvS.selE {w W : World} {bx bl bb n : Nat} {cF : Array Value} {vI : Value} {gO oO cO : Nat} {b : Bool} {ps ex : List BM} (h : LvS w bx bl bb n cF vI (.slice (some ⟨gO, oO, none⟩) n cO) b ps ex W) {i bO q : Nat} {x : BlkQ} (hi : i < n)
    (hO : (ps.map BM.b)[n + i]? = some bO) (hq : BlkBox W q x) : SelE bl gO oO cO n (oO + i) bO q x W := by
  have hl := h.flow.len
  have h1 := h.cellO i hi (by omega)
  rw [List.getElem?_map, List.getElem?_eq_getElem (by omega)] at hO
  injection hO with hO
  rw [hO] at h1
  exact ⟨hq.cells, h.cells.2.1, h1⟩
theorem selE_below {bl gO oO cO n xO bO q : Nat} {x : BlkQ} {Y Y' : World} (h : SelE bl gO oO cO n xO bO q x Y) (hb : Below Y.heap.size Y Y') : SelE bl gO oO cO n xO bO q x Y' := by
  have k : ∀ {a : Addr} {v : Value}, Y.cell? a = some v → Y'.cell? a = some v := fun {a v} h => (hb.cell (p := a) (World.block_lt_of_cell? Y a h)).trans h
  exact ⟨⟨k h.1.1, k h.1.2.1, k h.1.2.2.1, k h.1.2.2.2.1, k h.1.2.2.2.2⟩, k h.2.1, k h.2.2⟩
theorem bits_below {W W' : World} {q : Nat} {r : Option Nat} {ws : List Nat} (h : BitsAt W q r ws) (hb : Below W.heap.size W W') : BitsAt W' q r ws := h.kept (Chg.of_below hb (fun _ => False)) (fun h => h) (fun _ _ h => h)
/-- The data's own bounds. -/
def DataF (ks : List Blk) : Prop := ∀ k ∈ ks, BlkOk k ∧ ∀ x ∈ k.ins, InsOk x
/-- Within a block: the set that is turned beside. -/
structure BlkE (w : World) (ks : List Blk) (bx bl bb n : Nat) (cF : Array Value) (vI vO : Value) (ds : List Deferred) (T0 Bn : Nat) (vB : Value) (b : Bool) (ps : List BM) (se : BM) (B9 : Nat) (met : List Nat) (W : World) : Prop where
  s : LvS w bx bl bb n cF vI vO b ps [se] W
  pass : PassB 65536 ks n ps T0 b (fun j => j ∈ met)
  marks : Marks W ds
  bn : Boxed W Bn 29 vB
  b9 : Boxed W B9 65 (.pointer (some ⟨se.b, 0, none⟩))
theorem NewBits.alloc {w w' : World} {q : Nat} {r : Option Nat} {ws : List Nat} (h : NewBits w w' q r ws) (o : Obj) : NewBits w (w'.alloc o) q r ws :=
  ⟨h.at_.kept ((Chg.refl (fun _ => False) w').alloc o) (fun h => h) (fun _ _ h => h), h.below.alloc h.below.size o, h.nb, h.nr⟩
theorem NewBits.before {w w' : World} {q : Nat} {r : Option Nat} {ws : List Nat} {o : Obj} (h : NewBits (w.alloc o) w' q r ws) (u : Value) : NewBits w (w'.setCell ⟨w.heap.size, 0, none⟩ u) q r ws := by
  have hs : (w.alloc o).heap.size = w.heap.size + 1 := by simp
  have h1 := h.nb
  have h2 := h.nr
  rw [hs] at h1 h2
  have hb : Below w.heap.size w w' := ((Below.refl _ w).alloc (Nat.le_refl _) o).trans (h.below.mono (by simp))
  exact ⟨h.at_.kept (Chg.store w' w.heap.size 0 u) (fun e => by omega) (fun k hk e => by have := h2 k hk; omega), hb.trans ((Chg.store w' w.heap.size 0 u).below hb.size fun i e => by rw [e]; exact Nat.le_refl _), by omega, fun k hk => by have := h2 k hk; omega⟩
section
variable {w W W' : World} {ks : List Blk} {bx bl bb n : Nat} {cF : Array Value} {vI vO : Value} {ds : List Deferred} {T0 Bn : Nat} {vB : Value} {b : Bool} {ps : List BM} {met : List Nat}
theorem BlkI.push (h : BlkI w ks bx bl bb n cF vI vO ds T0 Bn vB b b ps met W) {s B9 : Nat} {r : Option Nat} {ws : List Nat} (g : NewBits W W' s r ws) (h9 : Boxed W' B9 65 (.pointer (some ⟨s, 0, none⟩))) :
    BlkE w ks bx bl bb n cF vI vO ds T0 Bn vB b ps ⟨s, r, ws⟩ B9 met W' ∧ KT W W' :=
  ⟨⟨h.s.push g, h.pass, h.marks.kt (KT.of_below g.below), Boxed.kt h.bn (KT.of_below g.below) (by decide), h9⟩, KT.of_below g.below⟩
theorem BlkE.below {s : BM} {B9 : Nat} (h : BlkE w ks bx bl bb n cF vI vO ds T0 Bn vB b ps s B9 met W) (hb : Below W.heap.size W W') : BlkE w ks bx bl bb n cF vI vO ds T0 Bn vB b ps s B9 met W' :=
  ⟨h.s.below hb, h.pass, h.marks.kt (KT.of_below hb), Boxed.kt h.bn (KT.of_below hb) (by decide), Boxed.kt h.b9 (KT.of_below hb) (by decide)⟩
theorem BlkE.grow {s : BM} {B9 : Nat} (h : BlkE w ks bx bl bb n cF vI vO ds T0 Bn vB b ps s B9 met W) {r' : Option Nat} {ws' : List Nat} (g : GrowAt W s.b s.r s.ws W' r' ws') : BlkE w ks bx bl bb n cF vI vO ds T0 Bn vB b ps ⟨s.b, r', ws'⟩ B9 met W' ∧ KT W W' := by
  obtain ⟨s1, k1⟩ := h.s.growX g
  exact ⟨⟨s1, h.pass, h.marks.kt k1, Boxed.kt h.bn k1 (by decide), Boxed.kt h.b9 k1 (by decide)⟩, k1⟩
theorem BlkE.own {s : BM} {B9 : Nat} {row : Option Nat} (h : BlkE w ks bx bl bb n cF vI vO ds T0 Bn vB b ps s B9 met W) (hg : W.grownBy W' row) {B : Nat} (hr : ∀ r, row = some r → B ≤ r ∧ ∃ o : Obj, W.heap[r]? = some o ∧ o.isCells = false)
    (hB : w.heap.size ≤ B) (hds : ∀ d ∈ ds, ∀ E, d.target = .collected E → E < B) : BlkE w ks bx bl bb n cF vI vO ds T0 Bn vB b ps s B9 met W' :=
  ⟨h.s.own hg fun r e => ⟨Nat.le_trans hB (hr r e).1, (hr r e).2⟩, h.pass, h.marks.grown hg fun r e d hd E hE => by have := (hr r e).1; have := hds d hd E hE; omega, Boxed.own1 h.bn hg fun r e => (hr r e).2, Boxed.own1 h.b9 hg fun r e => (hr r e).2⟩
end
theorem InsBox.cells {W : World} {q : Nat} {x : InsQ} (h : InsBox W q x) : W.cell? ⟨q, 0, none⟩ = some (.int .i64 x.k.kind) ∧ W.cell? ⟨q, 1, none⟩ = some (.int .i64 x.k.op) ∧ W.cell? ⟨q, 2, none⟩ = some (.int .i64 x.k.d) ∧ W.cell? ⟨q, 3, none⟩ = some (.int .i64 x.k.a) ∧ W.cell? ⟨q, 4, none⟩ = some (.int .i64 x.k.b) ∧
    W.cell? ⟨q, 5, none⟩ = some (.int .i32 x.k.num) ∧ W.cell? ⟨q, 6, none⟩ = some (.string x.k.name) ∧ W.cell? ⟨q, 7, none⟩ = some (.slice x.A x.k.args.length x.c) := by
  refine ⟨?_, ?_, ?_, ?_, ?_, ?_, ?_, ?_⟩ <;> (rw [cell_of_row _ _ _ _ _ _ h]; rfl)
def foldA (l : List (Nat × InsQ)) (S : Nat → Bool) : Nat → Bool := l.foldl (fun S q => aheadP q.2.k S) S
theorem foldA_snoc (l : List (Nat × InsQ)) (q : Nat × InsQ) (S : Nat → Bool) : foldA (l ++ [q]) S = aheadP q.2.k (foldA l S) := by simp [foldA]
theorem foldA_all (xs : List InsQ) (k : Blk) (h : xs.map InsQ.k = k.ins) (S : Nat → Bool) : foldA (revI xs) (endP k S) = blkP k S := by
  unfold foldA blkP tailP
  rw [rev_fold InsQ.k, h]
/-- Between two instructions of a block. -/
structure InsI (w : World) (ks : List Blk) (bx bl bb n : Nat) (cF : Array Value) (vI vO : Value) (ds : List Deferred) (T0 Bn : Nat) (vB : Value) (b : Bool) (ps : List BM) (s B9 : Nat) (met : List Nat) (V2 : World) (Bn2 : Nat) (v2 : Value) (S : Nat → Bool) (W : World) : Prop where
  ex : ∃ (r : Option Nat) (ws : List Nat), BlkE w ks bx bl bb n cF vI vO ds T0 Bn vB b ps ⟨s, r, ws⟩ B9 met W ∧ memW ws = S
  kt : KT V2 W
  bn : Boxed W Bn2 43 v2
section
variable {w W W' V2 : World} {ks : List Blk} {bx bl bb n : Nat} {cF : Array Value} {vI vO : Value} {ds : List Deferred} {T0 Bn : Nat} {vB : Value} {b : Bool} {ps : List BM} {s B9 Bn2 : Nat} {v2 : Value} {met : List Nat} {S : Nat → Bool}
theorem InsI.below (h : InsI w ks bx bl bb n cF vI vO ds T0 Bn vB b ps s B9 met V2 Bn2 v2 S W) (hb : Below W.heap.size W W') : InsI w ks bx bl bb n cF vI vO ds T0 Bn vB b ps s B9 met V2 Bn2 v2 S W' := by
  obtain ⟨⟨r, ws, h1, h2⟩, h3, h4⟩ := h
  exact ⟨⟨r, ws, h1.below hb, h2⟩, h3.trans (KT.of_below hb), Boxed.kt h4 (KT.of_below hb) (by decide)⟩
theorem InsI.own {row : Option Nat} (h : InsI w ks bx bl bb n cF vI vO ds T0 Bn vB b ps s B9 met V2 Bn2 v2 S W) (hg : W.grownBy W' row) (hr : ∀ r, row = some r → V2.heap.size ≤ r ∧ ∃ o : Obj, W.heap[r]? = some o ∧ o.isCells = false)
    (hB : w.heap.size ≤ V2.heap.size) (hds : ∀ d ∈ ds, ∀ E, d.target = .collected E → E < V2.heap.size) : InsI w ks bx bl bb n cF vI vO ds T0 Bn vB b ps s B9 met V2 Bn2 v2 S W' := by
  obtain ⟨⟨r, ws, h1, h2⟩, h3, h4⟩ := h
  exact ⟨⟨r, ws, h1.own hg hr hB hds, h2⟩, h3.own hg fun r e => (hr r e).1, Boxed.own1 h4 hg fun r e => (hr r e).2⟩
/-- One instruction. -/
theorem InsI.step {r r' : Option Nat} {ws ws' : List Nat} {x : Ins} (h : BlkE w ks bx bl bb n cF vI vO ds T0 Bn vB b ps ⟨s, r, ws⟩ B9 met W) (hk : KT V2 W) (hb : Boxed W Bn2 43 v2) (hm : memW ws = S)
    (g : GrowAt W s r ws W' r' ws') (hm' : ∀ n, memW ws' n = aheadP x (memW ws) n) : InsI w ks bx bl bb n cF vI vO ds T0 Bn vB b ps s B9 met V2 Bn2 v2 (aheadP x S) W' ∧ KT W W' := by
  obtain ⟨h1, k1⟩ := h.grow g
  exact ⟨⟨⟨r', ws', h1, by rw [← hm]; exact funext hm'⟩, hk.trans k1, Boxed.kt hb k1 (by decide)⟩, k1⟩
def SelD (bl bb gI oI cI n xI bI B9 s : Nat) (b : Bool) (Y : World) : Prop :=
  Y.cell? ⟨bl, 0, none⟩ = some (.slice (some ⟨gI, oI, none⟩) n cI) ∧ Y.cell? ⟨gI, xI, none⟩ = some (.pointer (some ⟨bI, 0, none⟩)) ∧ Y.cell? ⟨B9, 0, none⟩ = some (.pointer (some ⟨s, 0, none⟩)) ∧ Y.cell? ⟨bb, 0, none⟩ = some (.bool b)
theorem LvS.selD {gI oI cI : Nat} {ex : List BM} (h : LvS w bx bl bb n cF (.slice (some ⟨gI, oI, none⟩) n cI) vO b ps ex W) {i bI : Nat} (hi : i < n) (hI : (ps.map BM.b)[i]? = some bI) (h9 : Boxed W B9 65 (.pointer (some ⟨s, 0, none⟩))) : SelD bl bb gI oI cI n (oI + i) bI B9 s b W := by
  have hl := h.flow.len
  have h2 := h.cellI i hi (by omega)
  rw [List.getElem?_map, List.getElem?_eq_getElem (by omega)] at hI
  injection hI with hI
  rw [hI] at h2
  exact ⟨h.cells.1, h2, Boxed.cell h9, h.cells.2.2⟩
/-- The set at the block's beginning takes in what was gathered; the result is stored. -/
theorem BlkE.joinI {r : Option Nat} {ws : List Nat} (h : BlkE w ks bx bl bb n cF vI vO ds T0 Bn vB b ps ⟨s, r, ws⟩ B9 met W) (hn : n = ks.length) {i : Nat} (hi : i < ks.length) {bI : Nat} {rI rJ : Option Nat} {wsI wsJ : List Nat}
    (hI : ps[i]? = some ⟨bI, rI, wsI⟩) (hc : memW ws = blkP ks[i] (outS n ps i)) (hs : ∀ t ∈ nextP ks[i], Sub (inS n ps t.toNat) (outS n ps i)) (g : GrowAt W bI rI wsI W' rJ wsJ) (hm : ∀ x, memW wsJ x = (memW wsI x || memW ws x)) :
    BlkI w ks bx bl bb n cF vI vO ds T0 Bn vB b (newTo wsI ws ws.length || b) (ps.set i ⟨bI, rJ, wsJ⟩) (met ++ [i]) W' ∧ KT W W' ∧ Boxed W' B9 65 (.pointer (some ⟨s, 0, none⟩)) := by
  obtain ⟨h1, e1⟩ := List.getElem?_eq_some_iff.1 hI
  have hb2 := (h.s.flow.sets.at_ ⟨s, r, ws⟩ (by simp)).len
  obtain ⟨s1, k1⟩ := h.s.grow i h1 (r' := rJ) (ws' := wsJ) (by rw [e1]; exact g)
  have hp := h.pass.joinI hn h.s.flow.len hi (r := rJ) (ws' := wsJ) (wc := ws) h1 (by dsimp only at hb2; omega) hc (by rw [e1]; exact hm) hs
  simp only [e1] at hp s1
  refine ⟨⟨s1.pop, ⟨hp.way, hp.ge, hp.gt, fun e j hj => hp.cl e j ?_⟩, h.marks.kt k1, Boxed.kt h.bn k1 (by decide)⟩, k1, Boxed.kt h.b9 k1 (by decide)⟩
  rcases List.mem_append.1 hj with hj | hj
  · exact .inl hj
  · exact .inr (List.mem_singleton.1 hj)
end
theorem metR_snoc {β : Type} {bs : List β} (l : List (ElR bs)) (x : ElR bs) : metR (l ++ [x]) = metR l ++ [x.1.1] := by unfold metR; rw [valsR_snoc]; simp
end Go.Proofs.Ytlniohgnkihefaa
