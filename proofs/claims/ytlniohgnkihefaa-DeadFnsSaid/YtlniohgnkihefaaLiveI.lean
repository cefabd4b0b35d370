/- dead.live's second loop: what lies in memory between its steps. -/
import Derived.Test.YtlniohgnkihefaaLiveR
import Derived.RangeFuncLeaves
namespace Go.Proofs.Ytlniohgnkihefaa
open Go.RowKit

theorem KT.own {W0 X Y : World} {row : Option Nat} (h : KT W0 X) (hg : X.grownBy Y row) (hr : ∀ r, row = some r → W0.heap.size ≤ r) : KT W0 Y :=
  ⟨Nat.le_trans h.size hg.size, fun k o hk ho => (hg.block k (lt_of_heap (h.blk k o hk ho)) fun e => by have := hr k e.symm; have := lt_of_heap hk; omega).trans (h.blk k o hk ho)⟩
theorem KT.kpw {W W' : World} (h : KT W W') {Bn : Nat} {v : Value} (hB : Boxed W Bn 29 v) {w : World} {A : Option Addr} (hA : ∀ g off, A = some ⟨g, off, none⟩ → g < w.heap.size) (h1 : Below w.heap.size w W) (h2 : Below w.heap.size w W') : KpW Bn A W W' := by
  refine ⟨(Boxed.kt hB h (by decide)).trans (Eq.symm hB), fun g off e => ?_⟩
  rw [h1.block g (hA g off e), h2.block g (hA g off e)]
theorem KT.kpwI {W W' : World} (h : KT W W') {Bn : Nat} {v : Value} (hB : Boxed W Bn 43 v) {w : World} {A : Option Addr} (hA : ∀ g off, A = some ⟨g, off, none⟩ → g < w.heap.size) (h1 : Below w.heap.size w W) (h2 : Below w.heap.size w W') : KpW Bn A W W' := by
  refine ⟨(Boxed.kt hB h (by decide)).trans (Eq.symm hB), fun g off e => ?_⟩
  rw [h1.block g (hA g off e), h2.block g (hA g off e)]

/-- Function's box, the sets, and the box of 'again'. -/
structure LvS (w : World) (bx bl bb n : Nat) (cF : Array Value) (vI vO : Value) (b : Bool) (ps ex : List BM) (W : World) : Prop where
  flow : FlowM w bl n vI vO ps ex W
  fbox : W.heap[bx]? = some (.cells cF 31)
  gbox : W.heap[bx + 1]? = some (.cells #[.slice none 0 0, .slice none 0 0] 61 (0, 0))
  bbox : Boxed W bb 4 (.bool b)
  bbl : w.heap.size ≤ bb
section
variable {w W W' : World} {bx bl bb n : Nat} {cF : Array Value} {vI vO : Value} {b : Bool} {ps ex : List BM}
theorem LvS.below (h : LvS w bx bl bb n cF vI vO b ps ex W) (hb : Below W.heap.size W W') : LvS w bx bl bb n cF vI vO b ps ex W' :=
  ⟨h.flow.below_ hb, (hb.block bx (lt_of_heap h.fbox)).trans h.fbox, (hb.block _ (lt_of_heap h.gbox)).trans h.gbox, (hb.block bb (lt_of_heap h.bbox)).trans h.bbox, h.bbl⟩
theorem bool_foot {q : Nat} {r : Option Nat} {ws : List Nat} (hq : BitsAt W q r ws) (hb : Boxed W bb 4 (.bool b)) : ¬ FootB q r bb := by
  obtain ⟨v, h1, h2⟩ := hq.ex
  have hb' : W.heap[bb]? = some (.cells #[.bool b] 4 (0, 0)) := hb
  rintro (e | e)
  · rw [e, h1] at hb'; cases hb'
  · exact row_ne_of_type h2 hb' (by decide) e.symm
theorem LvS.grow (h : LvS w bx bl bb n cF vI vO b ps ex W) (i : Nat) (hi : i < ps.length) {r' : Option Nat} {ws' : List Nat} (g : GrowAt W ps[i].b ps[i].r ps[i].ws W' r' ws') :
    LvS w bx bl bb n cF vI vO b (ps.set i ⟨ps[i].b, r', ws'⟩) ex W' ∧ KT W W' := by
  obtain ⟨h1, h2⟩ := h.flow.grow i hi g
  exact ⟨⟨h1, h2.blk bx _ h.fbox (by rintro ⟨c, f, h | h | h⟩ <;> cases h), h2.blk _ _ h.gbox (by rintro ⟨c, f, h | h | h⟩ <;> cases h), g.chg.heap h.bbox (bool_foot (h.flow.at_ i hi) h.bbox), h.bbl⟩, h2⟩
theorem LvS.growX {p : BM} (h : LvS w bx bl bb n cF vI vO b ps [p] W) {r' : Option Nat} {ws' : List Nat} (g : GrowAt W p.b p.r p.ws W' r' ws') :
    LvS w bx bl bb n cF vI vO b ps [⟨p.b, r', ws'⟩] W' ∧ KT W W' := by
  obtain ⟨h1, h2⟩ := h.flow.growX g
  exact ⟨⟨h1, h2.blk bx _ h.fbox (by rintro ⟨c, f, h | h | h⟩ <;> cases h), h2.blk _ _ h.gbox (by rintro ⟨c, f, h | h | h⟩ <;> cases h), g.chg.heap h.bbox (bool_foot (h.flow.sets.at_ p (by simp)) h.bbox), h.bbl⟩, h2⟩
theorem LvS.push (h : LvS w bx bl bb n cF vI vO b ps [] W) {q : Nat} {r : Option Nat} {ws : List Nat} (g : NewBits W W' q r ws) : LvS w bx bl bb n cF vI vO b ps [⟨q, r, ws⟩] W' := by
  have h1 := h.below g.below
  exact ⟨h.flow.push g, h1.fbox, h1.gbox, h1.bbox, h1.bbl⟩
theorem LvS.pop (h : LvS w bx bl bb n cF vI vO b ps ex W) : LvS w bx bl bb n cF vI vO b ps [] W := ⟨h.flow.pop, h.fbox, h.gbox, h.bbox, h.bbl⟩
theorem LvS.store (h : LvS w bx bl bb n cF vI vO b ps ex W) (c : Bool) : LvS w bx bl bb n cF vI vO c ps ex (W.setCell ⟨bb, 0, none⟩ (.bool c)) ∧ KT W (W.setCell ⟨bb, 0, none⟩ (.bool c)) := by
  have hk := KT.store_bool h.bbox (.bool c)
  refine ⟨⟨h.flow.bool h.bbox h.bbl _, hk.blk bx _ h.fbox (by rintro ⟨c, f, h | h | h⟩ <;> cases h), hk.blk _ _ h.gbox (by rintro ⟨c, f, h | h | h⟩ <;> cases h), ?_, h.bbl⟩, hk⟩
  exact heap_setCell_same W bb 0 #[.bool b] 4 (.bool c) h.bbox
/-- Another box for 'again'. -/
theorem LvS.turn (h : LvS w bx bl bb n cF vI vO b ps ex W) (c : Bool) : LvS w bx bl W.heap.size n cF vI vO c ps ex (W.alloc (.cells #[.bool c] 4)) := by
  have h1 := h.below ((Below.refl _ W).alloc (Nat.le_refl _) (.cells #[.bool c] 4))
  exact ⟨h1.flow, h1.fbox, h1.gbox, Boxed.new W _ _, h.flow.below.size⟩
theorem LvS.own (h : LvS w bx bl bb n cF vI vO b ps ex W) {row : Option Nat} (hg : W.grownBy W' row) (hr : ∀ r, row = some r → w.heap.size ≤ r ∧ ∃ o : Obj, W.heap[r]? = some o ∧ o.isCells = false) : LvS w bx bl bb n cF vI vO b ps ex W' := by
  have hr2 : ∀ r, row = some r → ∃ o : Obj, W.heap[r]? = some o ∧ o.isCells = false := fun r e => (hr r e).2
  exact ⟨h.flow.own hg hr, ((own_chg hg).block bx (lt_of_heap h.fbox) (own_ne hr2 h.fbox)).trans h.fbox, ((own_chg hg).block _ (lt_of_heap h.gbox) (own_ne hr2 h.gbox)).trans h.gbox, ((own_chg hg).block bb (lt_of_heap h.bbox) (own_ne hr2 h.bbox)).trans h.bbox, h.bbl⟩
theorem row_cell {e : Nat} {g off c m : Nat} {r : Option Nat} {xs : List Value} (h : RowAt W e 1 (.slice (some ⟨g, off, none⟩) m c) r m xs) (hp : 0 < m) (j : Nat) (u : Value) (hj : xs[j]? = some u) : W.cell? ⟨g, off + j, none⟩ = some u := by
  obtain ⟨g', off', cap, hv, _, _, _, _, hc, _⟩ := h.form hp
  cases hv
  exact hc j u hj
theorem LvS.cellI {g off c : Nat} (h : LvS w bx bl bb n cF (.slice (some ⟨g, off, none⟩) n c) vO b ps ex W) (i : Nat) (hi : i < n) (hip : i < ps.length) : W.cell? ⟨g, off + i, none⟩ = some (.pointer (some ⟨ps[i].b, 0, none⟩)) := by
  obtain ⟨r, hr⟩ := h.flow.rI
  refine row_cell hr (by omega) i _ ?_
  rw [List.getElem?_map, List.getElem?_take_of_lt hi, List.getElem?_eq_getElem hip]; rfl
theorem LvS.cellO {g off c : Nat} (h : LvS w bx bl bb n cF vI (.slice (some ⟨g, off, none⟩) n c) b ps ex W) (i : Nat) (hi : i < n) (hip : n + i < ps.length) : W.cell? ⟨g, off + i, none⟩ = some (.pointer (some ⟨ps[n + i].b, 0, none⟩)) := by
  obtain ⟨r, hr⟩ := h.flow.rO
  refine row_cell hr (by omega) i _ ?_
  rw [List.getElem?_map, List.getElem?_drop, List.getElem?_eq_getElem hip]; rfl
theorem LvS.cells (h : LvS w bx bl bb n cF vI vO b ps ex W) : W.cell? ⟨bl, 0, none⟩ = some vI ∧ W.cell? ⟨bl, 1, none⟩ = some vO ∧ W.cell? ⟨bb, 0, none⟩ = some (.bool b) :=
  ⟨by rw [cell_of_row _ _ _ _ _ _ h.flow.box]; rfl, by rw [cell_of_row _ _ _ _ _ _ h.flow.box]; rfl, Boxed.cell h.bbox⟩
theorem LvS.shapes (h : LvS w bx bl bb n cF vI vO b ps ex W) : (∃ A c, vI = .slice A n c) ∧ ∃ A c, vO = .slice A n c := by
  obtain ⟨r, h1⟩ := h.flow.rI
  obtain ⟨r2, h2⟩ := h.flow.rO
  obtain ⟨A, c, e, _⟩ := h1.shape
  obtain ⟨A2, c2, e2, _⟩ := h2.shape
  exact ⟨⟨A, c, e⟩, A2, c2, e2⟩
theorem LvS.shapes1 (h : LvS w bx bl bb n cF vI vO b ps ex W) (hn : 0 < n) : (∃ g off c, vI = .slice (some ⟨g, off, none⟩) n c) ∧ ∃ g off c, vO = .slice (some ⟨g, off, none⟩) n c := by
  obtain ⟨r, h1⟩ := h.flow.rI
  obtain ⟨r2, h2⟩ := h.flow.rO
  obtain ⟨g, off, c, e, _⟩ := h1.form hn
  obtain ⟨g2, off2, c2, e2, _⟩ := h2.form hn
  exact ⟨⟨g, off, c, e⟩, g2, off2, c2, e2⟩
theorem LvS.drew (h : LvS w bx bl bb n cF vI vO b ps ex W) : LvS w bx bl bb n cF vI vO b ps ex W.drew := h.below (Below.refl _ W).drew
end
/-- Two sets of the flow, not one. -/
theorem flow_ne {w W : World} {bl n : Nat} {vI vO : Value} {ps ex : List BM} (h : FlowM w bl n vI vO ps ex W) (i j : Nat) (hi : i < ps.length) (hj : j < ps.length) (hne : i ≠ j) : ∀ k, ps[j].r = some k → ps[i].r ≠ some k := fun k hk hk2 => by
  have h1 := (h.sets.apart i j (by rw [List.length_append]; omega) (by rw [List.length_append]; omega) hne).2
  rw [List.getElem_append_left hi, List.getElem_append_left hj] at h1
  exact h1 k hk2 hk
theorem flow_neX {w W : World} {bl n : Nat} {vI vO : Value} {ps : List BM} {p : BM} (h : FlowM w bl n vI vO ps [p] W) (i : Nat) (hi : i < ps.length) : ∀ k, p.r = some k → ps[i].r ≠ some k := fun k hk hk2 => by
  have h1 := (h.sets.apart i ps.length (by rw [List.length_append]; omega) (by rw [List.length_append]; simp) (by omega)).2
  rw [List.getElem_append_left hi, List.getElem_append_right (Nat.le_refl _)] at h1
  simp only [Nat.sub_self, List.getElem_cons_zero] at h1
  exact h1 k hk2 hk
theorem IntsAt.kt {W W' : World} {A : Option Addr} {l : List Int} (h : IntsAt W A l) (k : KT W W') : IntsAt W' A l := fun hp => by
  obtain ⟨g, h1, h2⟩ := h hp
  exact ⟨g, h1, k.blk g _ h2 (by rintro ⟨c, f, h | h | h⟩ <;> cases h)⟩
theorem IntsAt.cell {W : World} {g off : Nat} {l : List Int} (h : IntsAt W (some ⟨g, off, none⟩) l) (j : Nat) (hj : j < l.length) : W.cell? ⟨g, off + j, none⟩ = some (.int .i64 l[j]) := by
  obtain ⟨g', h1, h2⟩ := h (by omega)
  cases h1
  rw [Nat.zero_add, cell_of_row _ _ _ _ _ _ h2, ← Array.getElem?_toList]
  simp [ints, hj]
theorem IntsAt.shape {W : World} {A : Option Addr} {l : List Int} (h : IntsAt W A l) (hp : 0 < l.length) : ∃ g, A = some ⟨g, 0, none⟩ := by
  obtain ⟨g, h1, _⟩ := h hp
  exact ⟨g, h1⟩
/-- What stands between two rounds of the outer loop. -/
structure LvO (w : World) (ks : List Blk) (bx bl bb n : Nat) (cF : Array Value) (vI vO : Value) (b : Bool) (ps : List BM) (ds : List Deferred) (gk : Nat) (W : World) : Prop where
  s : LvS w bx bl bb n cF vI vO b ps [] W
  marks : Marks W ds
  mlow : ∀ d ∈ ds, ∀ E, d.target = .collected E → w.heap.size ≤ E
  way : Way ks (inS n ps) (outS n ps)
  cl : b = false → ∀ j, Shut1 ks (inS n ps) (outS n ps) j
  num : gk = 2 * (2 * n * 65536 - totB 65536 ps) + (if b = true then 1 else 0)
theorem totB_nil (N : Nat) (ps : List BM) (h : ∀ p ∈ ps, p.ws = []) : totB N ps = 0 := by
  unfold totB
  have hc : ∀ N, cntP N (memW []) = 0 := fun N => by
    induction N with
    | zero => rfl
    | succ N ih => unfold cntP; rw [ih, if_neg (by simp [memW])]
  induction ps with
  | nil => rfl
  | cons a ps ih =>
    rw [List.map_cons, List.sum_cons, ih fun p hp => h p (by simp [hp]), h a (by simp), hc]
theorem way_nil (ks : List Blk) (n : Nat) (ps : List BM) (h : ∀ p ∈ ps, p.ws = []) : Way ks (inS n ps) (outS n ps) := by
  have h0 : ∀ i, memW (wsAt ps i) = fun _ => false := fun i => by
    unfold wsAt
    cases e : ps[i]? with
    | none => funext x; simp [memW]
    | some p => simp only; rw [h p (List.mem_of_getElem? e)]; funext x; simp [memW]
  have h1 : inS n ps = fun _ _ => false := by
    funext i; unfold inS; rw [h0]; split <;> rfl
  have h2 : outS n ps = fun _ _ => false := by
    funext i; unfold outS; rw [h0]; split <;> rfl
  rw [h1, h2]; exact Way.start ks
theorem Grow1.lvo {w W : World} {ks : List Blk} {bx bl n : Nat} {cF : Array Value} {vI vO : Value} {rI rO : Option Nat} {ps qs : List Nat} (h : Grow1 w bx bl n (.cells cF 31) vI vO rI rO ps qs W) :
    LvO w ks bx bl W.heap.size n cF vI vO true (ps.map (fun b => ⟨b, none, []⟩) ++ qs.map (fun b => ⟨b, none, []⟩)) [] (2 * (2 * n * 65536) + 1) (W.alloc (.cells #[.bool true] 4)) := by
  have hall : ∀ p ∈ ps.map (fun b => (⟨b, none, []⟩ : BM)) ++ qs.map (fun b => (⟨b, none, []⟩ : BM)), p.ws = [] := fun p hp => by
    rcases List.mem_append.1 hp with hp | hp <;> (obtain ⟨b, _, rfl⟩ := List.mem_map.1 hp; rfl)
  have hb : Below W.heap.size W (W.alloc (.cells #[.bool true] 4)) := (Below.refl _ W).alloc (Nat.le_refl _) _
  refine ⟨⟨h.flow.below_ hb, (hb.block _ (lt_of_heap h.fbox)).trans h.fbox, (hb.block _ (lt_of_heap h.gbox)).trans h.gbox, Boxed.new W _ _, h.below.size⟩, .nil, (fun _ h => by cases h), way_nil ks n _ hall, fun e => (by cases e), ?_⟩
  rw [totB_nil _ _ hall]; rfl
theorem Marks.chg {W W' : World} {ds : List Deferred} {S : Nat → Prop} (h : Marks W ds) (hc : Chg S W W') (hS : ∀ k, S k → ∃ c t f, W.heap[k]? = some (.cells c t f)) : Marks W' ds := by
  induction h with
  | nil => exact .nil
  | cons D ds hD hn _ ih =>
    refine .cons D ds (hc.heap hD fun e => ?_) hn ih
    obtain ⟨c, t, f, e2⟩ := hS D e
    rw [hD] at e2; cases e2
/-- The result is stored. -/
theorem FlowM.result {w W : World} {bl n : Nat} {vI vO : Value} {ps ex : List BM} (h : FlowM w bl n vI vO ps ex W) {q : Nat} {c : Array Value} {f : Nat × Nat} (hq : W.heap[q]? = some (.cells c 61 f)) (hne : bl ≠ q) (hN : w.heap.size ≤ q) (j : Nat) (u : Value) :
    FlowM w bl n vI vO ps ex (W.setCell ⟨q, j, none⟩ u) := by
  have hc := Chg.store W q j u
  obtain ⟨r, hr⟩ := h.rI
  obtain ⟨r2, hr2⟩ := h.rO
  refine ⟨h.below.trans (hc.below h.below.size fun i e => by rw [e]; exact hN), hc.heap h.box hne, ⟨r, hr.kept hc fun k e e2 => row_ne_of_type hr hq (by decide) (by rw [e, e2])⟩, ⟨r2, hr2.kept hc fun k e e2 => row_ne_of_type hr2 hq (by decide) (by rw [e, e2])⟩, h.sets.chg hc fun p hp => ?_, h.low, h.len⟩
  obtain ⟨v', h1, h2⟩ := (h.sets.at_ p hp).ex
  refine ⟨fun e => ?_, fun k hk e => row_ne_of_type h2 hq (by decide) (by rw [hk, e])⟩
  rw [e, hq] at h1; cases h1
/-- What dead.live gives. -/
def LiveD (w : World) (ks : List Blk) (e : Ending) (w' : World) : Prop := ∃ vI vO ps bl, e = .returned (.agg #[vI, vO]) ∧ FlowM w bl ks.length vI vO ps [] w' ∧
  ∀ i, i < ks.length → (∀ x, inS ks.length ps i x = true ↔ LiveIn ks i x) ∧ ∀ x, outS ks.length ps i x = true ↔ LiveOut ks i x
/-- All marks are taken at the end. -/
theorem leaves_marks {P : Program} {n : Nat} {fn : Func} {tmps : Array Value} {R : Ending → World → Prop} (I : World → Prop)
    {B : Nat} (hI : ∀ (W : World) (D : Nat), B ≤ D → I W → W.heap[D]? = some (.deferred (some [])) → I (W.putObj D (.deferred none))) (hend : ∀ W, I W → LeavesIn Fence.wide n P fn tmps R [] .returning W) :
    ∀ (ds : List Deferred) (W : World), Marks W ds → (∀ d ∈ ds, ∀ E, d.target = .collected E → B ≤ E) → I W → LeavesInM Fence.wide n P fn tmps R ds .returning W := by
  intro ds
  induction ds with
  | nil => intro W _ _ h; exact hend W h
  | cons d ds ih =>
    intro W hM hlow h
    cases hM with
    | cons D _ hD hn hs =>
      refine ⟨by simp, .inl ⟨D, _, rfl, run_takeDeferred hD, ih _ ?_ (fun d hd => hlow d (by simp [hd])) (hI W D (hlow { target := .collected D, args := #[] } (by simp) D rfl) h hD)⟩⟩
      refine hs.grown (grownBy_putObj' W D _) fun r e d hd E hE e2 => ?_
      have e' : D = r := by injection e
      have := hn d hd E hE
      omega
end Go.Proofs.Ytlniohgnkihefaa
