/- Blocks by the kind of their memory; what dead.Fn and the reference have between their rounds. -/
import Derived.Test.YtlniohgnkihefaaDoorLj11
import Derived.Test.YtlniohgnkihefaaDoorLj7
import Derived.Laws.Bits64b
import Derived.WalkSpells
import Derived.Lib.SliceRun
import Derived.Test.YtlniohgnkihefaaDoorLj2
import Derived.Test.YtlniohgnkihefaaDoorLj4
import Derived.Test.YtlniohgnkihefaaDoorLj3
import Derived.RangeFuncNested
import Derived.RangeFuncBound
import Derived.RangeFuncCalls
import Derived.RangeFuncLeaves
import Derived.Shelf.Abstract
import Derived.Shelf.RegionOpen
import Derived.WalkKit
import Derived.OwnWalkIn
import Derived.TacticsInMore
import Derived.LoopNIn
import Derived.LoopIn
import Derived.RangeFuncBox
import Derived.Maps.AppendAt
import Derived.Test.YtlniohgnkihefaaDoorLj9
namespace Go.Proofs.YtlniohgnkihefaaDoor
open Go.RowKit
def blkQ (x : BlkQ) : List Value := blkCells x.k (.slice x.A x.k.ins.length x.c)
def blkRowC (xs : List BlkQ) : List Value := (xs.map blkQ).flatten
theorem blkRow_all (xs : List BlkQ) : ∀ c ∈ xs.map blkQ, c.length = 5 := fun c hc => by obtain ⟨x, _, rfl⟩ := List.mem_map.1 hc; rfl
theorem blkRowC_len (xs : List BlkQ) : (blkRowC xs).length = xs.length * 5 := by unfold blkRowC; rw [flat_len (blkRow_all xs), List.length_map]
theorem blkRowC_at (xs : List BlkQ) (i : Nat) (h : i < xs.length) (j : Nat) (u : Value) (hu : (blkQ xs[i])[j]? = some u) : (blkRowC xs)[i * 5 + j]? = some u := by
  have hj : j < 5 := (List.getElem?_eq_some_iff.1 hu).1
  unfold blkRowC
  rw [flat_at (blkRow_all xs) i j hj, List.getElem?_map, List.getElem?_eq_getElem h]
  exact hu
theorem blkRowC_snoc (xs : List BlkQ) (x : BlkQ) : blkRowC (xs ++ [x]) = blkRowC xs ++ blkQ x := by simp [blkRowC]
theorem blkQ_plain (x : BlkQ) : ∀ u ∈ blkQ x, u.oneCell' = true := by
  intro u hu
  simp [blkQ, blkCells] at hu
  rcases hu with rfl | rfl | rfl | rfl | rfl <;> rfl
theorem info_blk : (Tryd.prog.info? 43).map (fun i => (i.zero, i.size, i.bytes)) = some (some (.agg #[.slice none 0 0, .int .i64 0, .int .i64 0, .int .i64 0, .int .i64 0]), 5, 56) := by kernel_rfl
def BlkIn (W : World) (B : Nat) (A : Option Addr) (l : List Blk) : Prop := ∃ xs : List BlkQ, xs.map BlkQ.k = l ∧
  (0 < xs.length → ∃ g off c f, A = some ⟨g, off, none⟩ ∧ W.heap[g]? = some (.cells c 43 f) ∧ ∀ i (h : i < xs.length) j u, (blkQ xs[i])[j]? = some u → c[off + i * 5 + j]? = some u) ∧ ∀ y ∈ xs, InsIn W B y.A y.k.ins
theorem BlkIn.mem {W : World} {B : Nat} {A : Option Addr} {l : List Blk} (h : BlkIn W B A l) : BlkMem W A l := by
  obtain ⟨xs, h1, h2, h3⟩ := h
  refine ⟨xs, h1, fun hp => ?_, fun y hy => (h3 y hy).mem⟩
  obtain ⟨g, off, c, f, hA, hg, hc⟩ := h2 hp
  exact ⟨g, off, hA, lt_of_heap hg, fun i hi j v hv => by rw [cell_of_row _ _ _ _ _ _ hg]; exact hc i hi j v hv⟩
theorem BlkIn.ko {B : Nat} {W W' : World} {A : Option Addr} {l : List Blk} (h : BlkIn W B A l) (k : KO B true W W') : BlkIn W' B A l := by
  obtain ⟨xs, h1, h2, h3⟩ := h
  refine ⟨xs, h1, fun hp => ?_, fun y hy => (h3 y hy).ko k⟩
  obtain ⟨g, off, c, f, hA, hg, hc⟩ := h2 hp
  exact ⟨g, off, c, f, hA, k.typ g c _ f hg (.inr (.inr ⟨rfl, rfl⟩)), hc⟩
theorem blkIn_of_row {W : World} {B : Nat} {A : Option Addr} {c n : Nat} {r : Option Nat} {xs : List BlkQ} (h : RowAt W 43 5 (.slice A n c) r n (blkRowC xs)) (ha : ∀ y ∈ xs, InsIn W B y.A y.k.ins) : BlkIn W B A (xs.map BlkQ.k) := by
  refine ⟨xs, rfl, fun hp => ?_, ha⟩
  have hn : xs.length = n := by have := h.1; rw [blkRowC_len] at this; omega
  rcases h.2 with ⟨_, _, h0⟩ | ⟨g, off, cap, cur, hv, _, hg, h1, h2, h3, h4⟩
  · omega
  · injection hv with hA _ _
    refine ⟨g, off, cur, (0, 0), hA, hg, fun i hi j u hu => ?_⟩
    have := blkRowC_at xs i hi j u hu
    rw [← h4, List.getElem?_take] at this
    split at this
    · rw [List.getElem?_drop] at this; rw [← Array.getElem?_toList, Nat.add_assoc]; exact this
    · cases this
theorem ArgM.up {W : World} {B B' : Nat} {A : Option Addr} {zs : List Int} (h : ArgM W B A zs) (hB : B ≤ B') : ArgM W B' A zs := by
  rcases h with h | ⟨h1, h2⟩
  · exact .inl h
  · exact .inr ⟨h1, fun hp g off e => Nat.lt_of_lt_of_le (h2 hp g off e) hB⟩
theorem InsIn.up {W : World} {B B' : Nat} {A : Option Addr} {l : List Ins} (h : InsIn W B A l) (hB : B ≤ B') : InsIn W B' A l := by
  obtain ⟨xs, h1, h2, h3⟩ := h
  exact ⟨xs, h1, h2, fun y hy => (h3 y hy).up hB⟩
theorem blkMem_at {W : World} {A : Option Addr} {ks : List Blk} (h : BlkMem W A ks) (k : Nat) (hk : k < ks.length) : ∃ (g off : Nat) (x : BlkQ), A = some ⟨g, off, none⟩ ∧ x.k = ks[k] ∧ InsMem W x.A x.k.ins ∧ g < W.heap.size ∧
    W.cell? ⟨g, off + k * 5, none⟩ = some (.slice x.A x.k.ins.length x.c) ∧ W.cell? ⟨g, off + k * 5 + 1, none⟩ = some (.int .i64 x.k.kind) ∧ W.cell? ⟨g, off + k * 5 + 2, none⟩ = some (.int .i64 x.k.a) ∧ W.cell? ⟨g, off + k * 5 + 3, none⟩ = some (.int .i64 x.k.to) ∧ W.cell? ⟨g, off + k * 5 + 4, none⟩ = some (.int .i64 x.k.els) := by
  obtain ⟨bs, h1, h2, h3⟩ := h
  have hkb : k < bs.length := by rw [← h1, List.length_map] at hk; exact hk
  obtain ⟨g, off, hA, hg, hc⟩ := h2 (by omega)
  refine ⟨g, off, bs[k], hA, by simp only [← h1, List.getElem_map], h3 _ (List.getElem_mem _), hg, hc k hkb 0 _ rfl, hc k hkb 1 _ rfl, hc k hkb 2 _ rfl, hc k hkb 3 _ rfl, hc k hkb 4 _ rfl⟩
/-- The blocks that are there so far. -/
structure BlkI2 (W1 : World) (B : Nat) (ks : List Blk) (O : St) (k : Nat) (v : Value) (rr : Option Nat) (W : World) : Prop where
  below : Below W1.heap.size W1 W
  row : ∃ xs : List BlkQ, xs.map BlkQ.k = (nxtO O ks).take k ∧ RowAt W 43 5 v rr k (blkRowC xs) ∧ ∀ y ∈ xs, InsIn W B y.A y.k.ins
  low : ∀ q, rr = some q → W1.heap.size ≤ q
section
variable {W1 W W' : World} {B : Nat} {ks : List Blk} {O : St} {k : Nat} {v : Value} {rr : Option Nat}
theorem BlkI2.start (W : World) (B : Nat) (ks : List Blk) (O : St) : BlkI2 W B ks O 0 (.slice none 0 0) none W := ⟨Below.refl _ _, ⟨[], by simp, RowAt.nil _ _ _, fun _ h => by cases h⟩, fun _ h => by cases h⟩
theorem BlkI2.below_ (h : BlkI2 W1 B ks O k v rr W) (hB : B ≤ W1.heap.size) (hb : Below W.heap.size W W') : BlkI2 W1 B ks O k v rr W' := by
  obtain ⟨xs, h1, h2, h3⟩ := h.row
  exact ⟨h.below.trans (hb.mono h.below.size), ⟨xs, h1, h2.kept (Chg.of_below hb (fun _ => False)) (fun _ _ h => h), fun y hy => (h3 y hy).ko (KO.of_below (b := false) hb (Nat.le_trans hB h.below.size))⟩, h.low⟩
/-- One more. -/
theorem BlkI2.push (h : BlkI2 W1 B ks O k v rr W) (hB : B ≤ W1.heap.size) {xs : List BlkQ} (he : xs.map BlkQ.k = (nxtO O ks).take k) (ha : ∀ y ∈ xs, InsIn W B y.A y.k.ins) (hk : k < ks.length) {A : Option Addr} {c : Nat} (hy : InsIn W B A (swBlk ks[k] (O k)).ins) {v' : Value} {rr' : Option Nat}
    (hR : RowAt W' 43 5 v' rr' (k + 1) (blkRowC xs ++ blkQ ⟨swBlk ks[k] (O k), A, c⟩)) (hC : Chg (fun k => some k = rr) W W') (hN : NewOr W rr rr') : BlkI2 W1 B ks O (k + 1) v' rr' W' := by
  have hko : KO B false W W' := by
    refine KO.of_chg hC (Nat.le_trans hB h.below.size) fun q hq => ⟨Nat.le_trans hB (h.low q hq.symm), fun c t f hc => ?_⟩
    obtain ⟨ys, _, hr, _⟩ := h.row
    rcases hr.2 with ⟨_, e2, _⟩ | ⟨g', off, cap, cur, _, e2, hg', _⟩
    · rw [e2] at hq; cases hq
    · rw [e2] at hq; cases hq; rw [hg'] at hc; cases hc
      exact ⟨by decide, by decide, fun e => by cases e⟩
  refine ⟨h.below.trans (hC.below h.below.size fun q hq => h.low q hq.symm), ⟨xs ++ [⟨swBlk ks[k] (O k), A, c⟩], ?_, by rw [blkRowC_snoc]; exact hR, fun y hy' => ?_⟩, fun q hq => hN.ge h.below.size h.low q hq⟩
  · rw [List.map_append, he, List.take_succ_eq_append_getElem (by rw [nxtO_len]; exact hk), nxtO_at O ks k hk]; rfl
  · rcases List.mem_append.1 hy' with hy' | hy'
    · exact (ha y hy').ko hko
    · rw [List.mem_singleton.1 hy']; exact hy.ko hko
end
/-- A function's box. -/
def FnBox (W : World) (q : Nat) (nm : ByteArray) (pa re : Int) (v : Value) : Prop := W.heap[q]? = some (.cells #[.string nm, .int .i64 pa, .int .i64 re, v] 30 (0, 0))
theorem FnBox.cells {W : World} {q : Nat} {nm : ByteArray} {pa re : Int} {v : Value} (h : FnBox W q nm pa re v) : W.cell? ⟨q, 0, none⟩ = some (.string nm) ∧ W.cell? ⟨q, 1, none⟩ = some (.int .i64 pa) ∧ W.cell? ⟨q, 2, none⟩ = some (.int .i64 re) ∧ W.cell? ⟨q, 3, none⟩ = some v := by
  refine ⟨?_, ?_, ?_, ?_⟩ <;> (rw [cell_of_row _ _ _ _ _ _ h]; rfl)
theorem FnBox.below {W W' : World} {q : Nat} {nm : ByteArray} {pa re : Int} {v : Value} (h : FnBox W q nm pa re v) (hb : Below W.heap.size W W') : FnBox W' q nm pa re v := (hb.block q (lt_of_heap h)).trans h
theorem flow_cellO {w W : World} {bl n : Nat} {vI : Value} {g off c : Nat} {ps ex : List BM} (h : FlowM w bl n vI (.slice (some ⟨g, off, none⟩) n c) ps ex W) (i : Nat) (hi : i < n) (hip : n + i < ps.length) : W.cell? ⟨g, off + i, none⟩ = some (.pointer (some ⟨ps[n + i].b, 0, none⟩)) := by
  obtain ⟨r, hr⟩ := h.rO
  refine row_cell hr (by omega) i _ ?_
  rw [List.getElem?_map, List.getElem?_drop, List.getElem?_eq_getElem hip]; rfl
theorem flow_shapes {w W : World} {bl n : Nat} {vI vO : Value} {ps ex : List BM} (h : FlowM w bl n vI vO ps ex W) : (∃ A c, vI = .slice A n c) ∧ ∃ A c, vO = .slice A n c := by
  obtain ⟨r, h1⟩ := h.rI
  obtain ⟨r2, h2⟩ := h.rO
  obtain ⟨A, c, e, _⟩ := h1.shape
  obtain ⟨A2, c2, e2, _⟩ := h2.shape
  exact ⟨⟨A, c, e⟩, A2, c2, e2⟩
theorem flow_shapeO {w W : World} {bl n : Nat} {vI vO : Value} {ps ex : List BM} (h : FlowM w bl n vI vO ps ex W) (hn : 0 < n) : ∃ g off c, vO = .slice (some ⟨g, off, none⟩) n c := by
  obtain ⟨r2, h2⟩ := h.rO
  obtain ⟨g2, off2, c2, e2, _⟩ := h2.form hn
  exact ⟨g2, off2, c2, e2⟩
/-- Between two rounds of the outer loop. -/
structure FnI (w : World) (B bx : Nat) (f : Fn) (b : Bool) (ks : List Blk) (A : Option Addr) (c : Nat) (W : World) : Prop where
  below : Below w.heap.size w W
  box : FnBox W bx f.name f.params f.regs (.slice A ks.length c)
  res : FnBox W (bx + 1) ⟨#[]⟩ 0 0 (.slice none 0 0)
  mem : BlkMem W A ks
  flow : FlowF ks
  data : DataF ks
  fin : finK ks = finK f.blocks
  len : ks.length = f.blocks.length
  own : b = false → nxt ks = ks ∧ BlkIn W B A ks
open Classical in
theorem outS_outOf {ks : List Blk} {ps : List BM} (h : ∀ i, i < ks.length → (∀ x, inS ks.length ps i x = true ↔ LiveIn ks i x) ∧ ∀ x, outS ks.length ps i x = true ↔ LiveOut ks i x) : nxtO (outS ks.length ps) ks = nxt ks ∧ ∀ m, m ≤ ks.length → trnO (outS ks.length ps) ks m = trnO (outOf ks) ks m := by
  have key : ∀ i, i < ks.length → outS ks.length ps i = outOf ks i := fun i hi => by
    funext x
    have := (h i hi).2 x
    unfold outOf
    cases e : outS ks.length ps i x with
    | true => rw [decide_eq_true (this.1 e)]
    | false => rw [decide_eq_false fun hl => by rw [this.2 hl] at e; cases e]
  constructor
  · unfold nxt
    apply List.ext_getElem (by simp [nxtO])
    intro i h1 h2
    rw [nxtO_len] at h1
    rw [nxtO_at _ ks i h1, nxtO_at _ ks i h1, key i h1]
  · intro m
    induction m with
    | zero => intro _; rw [trnO_zero, trnO_zero]
    | succ m ih => intro hm; rw [trnO_succ _ _ _ (by omega), trnO_succ _ _ _ (by omega), ih (by omega), key m (by omega)]
/-- A round is done: the blocks stored. -/
theorem FnI.next {w W V : World} {B bx : Nat} {f : Fn} {b : Bool} {ks : List Blk} {A : Option Addr} {c : Nat} (h : FnI w B bx f b ks A c W) (hwb : w.heap.size ≤ bx) (hBw : B ≤ w.heap.size) (hb : Below W.heap.size W V) {A' : Option Addr} {c' : Nat} (hn : BlkIn V B A' (nxt ks)) :
    FnI w B bx f (trn ks) (nxt ks) A' c' (V.setCell ⟨bx, 3, none⟩ (.slice A' ks.length c')) := by
  have hbox := h.box.below hb
  have hres := h.res.below hb
  have hS := Chg.store V bx 3 (.slice A' ks.length c')
  have hVB := h.below.trans (hb.mono h.below.size)
  have hlen : (nxt ks).length = ks.length := nxtO_len _ _
  have hko : KO B true V (V.setCell ⟨bx, 3, none⟩ (.slice A' ks.length c')) := KO.of_chg hS (Nat.le_trans hBw hVB.size) fun k hk => by
    rw [hk]
    refine ⟨by omega, fun c t f e => ?_⟩
    rw [show V.heap[bx]? = _ from hbox] at e; cases e
    exact ⟨by decide, by decide, fun _ => by decide⟩
  have hin := hn.ko hko
  refine ⟨hVB.trans (hS.below hVB.size fun k hk => by rw [hk]; exact hwb), ?_, hS.heap hres fun e => by omega, hin.mem, nxtO_flow h.flow, nxtO_data h.data h.flow, by rw [finK_nxt, h.fin], by rw [hlen, h.len], fun e => ⟨?_, hin⟩⟩
  · rw [hlen]
    exact heap_setCell_same V bx 3 _ 30 (.slice A' ks.length c') hbox
  · have := nxtO_same e
    show nxt (nxt ks) = nxt ks
    rw [show nxt ks = ks from this]; exact this
theorem FnI.cost {ks : List Blk} : 2 * costK (nxt ks) + boolN (.bool (trn ks)) < 2 * costK ks + 1 := by
  have h := nxtO_cost (outOf ks) ks
  cases e : trn ks with
  | true => have := h.2 e; show 2 * costK (nxtO (outOf ks) ks) + 1 < _; omega
  | false => have := h.1; show 2 * costK (nxtO (outOf ks) ks) + 0 < _; omega
theorem chg4 {W : World} {q : Nat} {b0 b1 b2 b3 : Value} : Chg (fun k => k = q) W ((((W.setCell ⟨q, 0, none⟩ b0).setCell ⟨q, 1, none⟩ b1).setCell ⟨q, 2, none⟩ b2).setCell ⟨q, 3, none⟩ b3) := by
  have h := Chg.refl (fun k => k = q) W
  replace h := h.setCell ⟨q, 0, none⟩ (fun _ => rfl) b0
  replace h := h.setCell ⟨q, 1, none⟩ (fun _ => rfl) b1
  replace h := h.setCell ⟨q, 2, none⟩ (fun _ => rfl) b2
  replace h := h.setCell ⟨q, 3, none⟩ (fun _ => rfl) b3
  exact h
theorem box4 {W : World} {q t : Nat} {a0 a1 a2 a3 b0 b1 b2 b3 : Value} (h : W.heap[q]? = some (.cells #[a0, a1, a2, a3] t (0, 0))) :
    ((((W.setCell ⟨q, 0, none⟩ b0).setCell ⟨q, 1, none⟩ b1).setCell ⟨q, 2, none⟩ b2).setCell ⟨q, 3, none⟩ b3).heap[q]? = some (.cells #[b0, b1, b2, b3] t (0, 0)) := by
  have h0 := heap_setCell_same W q 0 _ t b0 h
  have h1 := heap_setCell_same _ q 1 _ t b1 h0
  have h2 := heap_setCell_same _ q 2 _ t b2 h1
  have h3 := heap_setCell_same _ q 3 _ t b3 h2
  exact h3
def FnD (w : World) (f : Fn) (e : Ending) (w' : World) : Prop := ∃ A c, e = .returned (fnAgg { f with blocks := finK f.blocks } A c) ∧ Below w.heap.size w w' ∧ BlkIn w' w.heap.size A (finK f.blocks)
theorem FnI.out_ {w W W' : World} {bx : Nat} {f : Fn} {ks : List Blk} {A : Option Addr} {c : Nat} (h : FnI w w.heap.size bx f false ks A c W) (hbx : bx = w.heap.size) (hc : Chg (fun k => k = bx + 1) W W') :
    ks = finK f.blocks ∧ Below w.heap.size w W' ∧ BlkIn W' w.heap.size A (finK f.blocks) := by
  obtain ⟨h1, h2⟩ := h.own rfl
  have he : ks = finK f.blocks := by rw [← h.fin, finK_same h1]
  refine ⟨he, h.below.trans (hc.below h.below.size fun k e => by omega), ?_⟩
  rw [← he]
  refine h2.ko (KO.of_chg hc h.below.size fun k e => ⟨by omega, fun c t f e2 => ?_⟩)
  rw [e, show W.heap[bx + 1]? = _ from h.res] at e2
  cases e2
  exact ⟨by decide, by decide, fun _ => by decide⟩
end Go.Proofs.YtlniohgnkihefaaDoor
namespace Go.Proofs.YtlniohgnkihefaaDoor
open Go.RowKit
variable {w : World}
theorem insM_at {A : Option Addr} {l : List Ins} (h : InsMem w A l) (k : Nat) (hk : k < l.length) (x : Ins) (hx : x = l[k]) : ∃ (g off : Nat) (Ax : Option Addr) (c : Nat), A = some ⟨g, off, none⟩ ∧ g < w.heap.size ∧ ReadsAt w Ax (ints x.args) ∧
    w.cell? ⟨g, off + k * 8, none⟩ = some (.int .i64 x.kind) ∧ w.cell? ⟨g, off + k * 8 + 1, none⟩ = some (.int .i64 x.op) ∧ w.cell? ⟨g, off + k * 8 + 2, none⟩ = some (.int .i64 x.d) ∧ w.cell? ⟨g, off + k * 8 + 3, none⟩ = some (.int .i64 x.a) ∧ w.cell? ⟨g, off + k * 8 + 4, none⟩ = some (.int .i64 x.b) ∧
    w.cell? ⟨g, off + k * 8 + 5, none⟩ = some (.int .i32 x.num) ∧ w.cell? ⟨g, off + k * 8 + 6, none⟩ = some (.string x.name) ∧ w.cell? ⟨g, off + k * 8 + 7, none⟩ = some (.slice Ax x.args.length c) := by
  obtain ⟨xs, h1, h2, h3⟩ := h
  have hkb : k < xs.length := by rw [← h1, List.length_map] at hk; exact hk
  have hx2 : x = xs[k].k := by rw [hx]; simp only [← h1, List.getElem_map]
  obtain ⟨g, off, hA, hg, hc⟩ := h2 (by omega)
  have hr := h3 _ (List.getElem_mem hkb)
  rw [← hx2] at hr
  have hc' := hc k hkb
  rw [← hx2] at hc'
  exact ⟨g, off, xs[k].A, xs[k].c, hA, hg, hr, hc' 0 _ rfl, hc' 1 _ rfl, hc' 2 _ rfl, hc' 3 _ rfl, hc' 4 _ rfl, hc' 5 _ rfl, hc' 6 _ rfl, hc' 7 _ rfl⟩
theorem readsAt {A : Option Addr} {l : List Int} (h : ReadsAt w A (ints l)) (q : Nat) (hq : q < l.length) : ∃ (g off : Nat), A = some ⟨g, off, none⟩ ∧ g < w.heap.size ∧ w.cell? ⟨g, off + q, none⟩ = some (.int .i64 (l.getD q 0)) := by
  obtain ⟨g, off, hA, hg, hc⟩ := h (by rw [ints_length]; omega)
  exact ⟨g, off, hA, hg, hc q _ (ints_at l q hq)⟩
theorem blkM_at {A : Option Addr} {l : List Blk} (h : BlkMem w A l) (k : Nat) (hk : k < l.length) (x : Blk) (hx : x = l[k]) : ∃ (g off : Nat) (Ax : Option Addr) (c : Nat), A = some ⟨g, off, none⟩ ∧ g < w.heap.size ∧ InsMem w Ax x.ins ∧
    w.cell? ⟨g, off + k * 5, none⟩ = some (.slice Ax x.ins.length c) ∧ w.cell? ⟨g, off + k * 5 + 1, none⟩ = some (.int .i64 x.kind) ∧ w.cell? ⟨g, off + k * 5 + 2, none⟩ = some (.int .i64 x.a) ∧ w.cell? ⟨g, off + k * 5 + 3, none⟩ = some (.int .i64 x.to) ∧ w.cell? ⟨g, off + k * 5 + 4, none⟩ = some (.int .i64 x.els) := by
  obtain ⟨xs, h1, h2, h3⟩ := h
  have hkb : k < xs.length := by rw [← h1, List.length_map] at hk; exact hk
  have hx2 : x = xs[k].k := by rw [hx]; simp only [← h1, List.getElem_map]
  obtain ⟨g, off, hA, hg, hc⟩ := h2 (by omega)
  have hr := h3 _ (List.getElem_mem hkb)
  rw [← hx2] at hr
  have hc' := hc k hkb
  rw [← hx2] at hc'
  exact ⟨g, off, xs[k].A, xs[k].c, hA, hg, hr, hc' 0 _ rfl, hc' 1 _ rfl, hc' 2 _ rfl, hc' 3 _ rfl, hc' 4 _ rfl⟩
end Go.Proofs.YtlniohgnkihefaaDoor
namespace Go.Proofs.YtlniohgnkihefaaDoor
open Go.RowKit
open Classical in
theorem out_leave {k : Blk} (hk : k.kind = 3) : outOf [k] 0 = fun _ => false := by
  funext n
  unfold outOf
  refine decide_eq_false fun h => ?_
  have h0 : Sol [k] (fun _ => blkP k fun _ => false) (fun _ _ => false) := by
    intro i hi
    obtain rfl : i = 0 := by simp at hi; omega
    refine ⟨?_, rfl⟩
    funext m
    show false = succP k _ m
    unfold succP nextP
    rw [if_neg (by omega), if_neg (by omega)]
    rfl
  have := h _ _ h0
  cases this
theorem nxt_leave {k : Blk} (hk : k.kind = 3) : nxt [k] = [swBlk k fun _ => false] := by
  unfold nxt nxtO
  rw [List.mapIdx_cons, out_leave hk]
  rfl
def insD (d z : Int) : Ins := ⟨1, 0, d, -1, -1, z, ⟨#[]⟩, []⟩
def insO (op : Int) : Ins := ⟨4, op, 2, 1, 0, 0, ⟨#[]⟩, []⟩
def exB (l : List Ins) : Blk := ⟨l, 3, 1, 0, 0⟩
def exF (op : Int) : Fn := ⟨⟨#[109, 97, 105, 110]⟩, 0, 3, [exB [insD 0 1, insD 1 2, insO op]]⟩
theorem fin_div : finK (exF 4).blocks = (exF 4).blocks := finK_same (nxt_leave rfl)
theorem fin_add : finK (exF 1).blocks = [exB [insD 1 2]] := by
  have h : nxt (exF 1).blocks = [exB [insD 1 2]] := nxt_leave rfl
  rw [← finK_nxt, h]
  exact finK_same (nxt_leave rfl)
theorem ex_flow (op : Int) : FlowF (exF op).blocks := by
  refine ⟨by show 1 ≤ 1000; omega, fun k hk => ?_⟩
  obtain rfl : k = exB [insD 0 1, insD 1 2, insO op] := by simpa [exF] using hk
  refine ⟨by show 3 ≤ 1000; omega, .inr (.inr rfl), by show (1 : Int) < 65536; omega, fun e => absurd rfl e, fun e => (by simp [exB] at e), fun x hx => ?_⟩
  simp only [exB, List.mem_cons, List.not_mem_nil, or_false] at hx
  rcases hx with rfl | rfl | rfl
  · exact ⟨⟨by show (-1 : Int) < 65536; omega, by show (-1 : Int) < 65536; omega, fun r hr => by cases hr⟩, Nat.zero_le _⟩
  · exact ⟨⟨by show (-1 : Int) < 65536; omega, by show (-1 : Int) < 65536; omega, fun r hr => by cases hr⟩, Nat.zero_le _⟩
  · exact ⟨⟨by show (1 : Int) < 65536; omega, by show (0 : Int) < 65536; omega, fun r hr => by cases hr⟩, Nat.zero_le _⟩
theorem ex_data (op : Int) (h : 1 ≤ op ∧ op ≤ 16) : DataF (exF op).blocks := by
  intro k hk
  obtain rfl : k = exB [insD 0 1, insD 1 2, insO op] := by simpa [exF] using hk
  refine ⟨⟨by show I64 3; unfold I64; omega, by show I64 1; unfold I64; omega, by show I64 0; unfold I64; omega, by show I64 0; unfold I64; omega, by show 3 ≤ maxLen; unfold maxLen; omega⟩, fun x hx => ?_⟩
  simp only [exB, List.mem_cons, List.not_mem_nil, or_false] at hx
  rcases hx with rfl | rfl | rfl
  · exact ⟨by show I64 1; unfold I64; omega, by show I64 0; unfold I64; omega, by show I64 0; unfold I64; omega, by show I64 (-1); unfold I64; omega, by show I64 (-1); unfold I64; omega, by show I32 1; unfold I32; omega, Nat.zero_le _, Nat.zero_le _, fun z hz => by cases hz⟩
  · exact ⟨by show I64 1; unfold I64; omega, by show I64 0; unfold I64; omega, by show I64 1; unfold I64; omega, by show I64 (-1); unfold I64; omega, by show I64 (-1); unfold I64; omega, by show I32 2; unfold I32; omega, Nat.zero_le _, Nat.zero_le _, fun z hz => by cases hz⟩
  · exact ⟨by show I64 4; unfold I64; omega, by show I64 op; unfold I64; omega, by show I64 2; unfold I64; omega, by show I64 1; unfold I64; omega, by show I64 0; unfold I64; omega, by show I32 0; unfold I32; omega, Nat.zero_le _, Nat.zero_le _, fun z hz => by cases hz⟩
theorem readsNil {w : World} {xs : List Value} (h : xs = []) (A : Option Addr) : ReadsAt w A xs := fun hp => by rw [h] at hp; cases hp
/-- The example in memory. -/
theorem ex_mem {W : World} {p q e e' : Nat} {fr fr' : Nat × Nat} (op : Int) (hp : W.heap[p]? = some (.cells #[.int .i64 1, .int .i64 0, .int .i64 0, .int .i64 (-1), .int .i64 (-1), .int .i32 1, .string ⟨#[]⟩, .slice none 0 0, .int .i64 1, .int .i64 0, .int .i64 1, .int .i64 (-1), .int .i64 (-1), .int .i32 2, .string ⟨#[]⟩, .slice none 0 0, .int .i64 4, .int .i64 op, .int .i64 2, .int .i64 1, .int .i64 0, .int .i32 0, .string ⟨#[]⟩, .slice none 0 0] e fr))
    (hq : W.heap[q]? = some (.cells #[.slice (some ⟨p, 0, none⟩) 3 3, .int .i64 3, .int .i64 1, .int .i64 0, .int .i64 0] e' fr')) : BlkMem W (some ⟨q, 0, none⟩) (exF op).blocks := by
  refine ⟨[⟨exB [insD 0 1, insD 1 2, insO op], some ⟨p, 0, none⟩, 3⟩], rfl, fun _ => ⟨q, 0, rfl, lt_of_heap hq, fun i hi j v hv => ?_⟩, fun b hb => ?_⟩
  · obtain rfl : i = 0 := by simp at hi; omega
    rw [show 0 + 0 * 5 + j = j from by omega, cell_of_row _ _ _ _ _ _ hq, ← Array.getElem?_toList]
    exact hv
  · rw [List.mem_singleton.1 hb]
    refine ⟨[⟨insD 0 1, none, 0⟩, ⟨insD 1 2, none, 0⟩, ⟨insO op, none, 0⟩], rfl, fun _ => ⟨p, 0, rfl, lt_of_heap hp, fun i hi j v hv => ?_⟩, fun x hx => ?_⟩
    · have hj : j < 8 := by
        have := (List.getElem?_eq_some_iff.1 hv).1
        simpa [insCells] using this
      rw [cell_of_row _ _ _ _ _ _ hp, ← Array.getElem?_toList, Nat.zero_add]
      match i, hi with
      | 0, _ => rw [← hv]; match j, hj with
        | 0, _ | 1, _ | 2, _ | 3, _ | 4, _ | 5, _ | 6, _ | 7, _ => rfl
      | 1, _ => rw [← hv]; match j, hj with
        | 0, _ | 1, _ | 2, _ | 3, _ | 4, _ | 5, _ | 6, _ | 7, _ => rfl
      | 2, _ => rw [← hv]; match j, hj with
        | 0, _ | 1, _ | 2, _ | 3, _ | 4, _ | 5, _ | 6, _ | 7, _ => rfl
    · simp only [List.mem_cons, List.not_mem_nil, or_false] at hx
      rcases hx with rfl | rfl | rfl <;> exact readsNil rfl _
end Go.Proofs.YtlniohgnkihefaaDoor
namespace Go.Proofs.YtlniohgnkihefaaDoor
open Go.RowKit

/-- The library's table, in its variable. -/
def TabAt (w : World) : Prop := ∀ j, j < 64 → w.cell? ⟨0, j, none⟩ = some (.int .u8 (Lib.deBruijn64tab.getD j 0))

theorem tz_core (x k idx : Nat) (w : World) (hx0 : ((x : Int) == 0) = false)
    (key : IntKind.u64.wrap (bits BinOp.and IntKind.u64 (x : Int) (IntKind.u64.wrap (-(x : Int))) * 285870213051353865) / 288230376151711744 = (idx : Int))
    (hi : idx < 64) (hk : k < 64) (hcell : w.cell? ⟨0, idx, none⟩ = some (.int .u8 k)) :
    Calls Tryd.prog 60 #[.int .u64 x] w fun e w' => e = .returned (.int .i64 k) ∧ w = w' := by
  go_enter Tryd.func60, Tryd.ntmps60
  go_wp2_with (simp only [key])
  go_ret
  exact ⟨rfl, rfl⟩
theorem tz_key (x a : Nat) (hx : x < 18446744073709551616) (hlow : x &&& (18446744073709551616 - x) = a) (h0 : x ≠ 0) :
    IntKind.u64.wrap (bits BinOp.and IntKind.u64 (x : Int) (IntKind.u64.wrap (-(x : Int))) * 285870213051353865) / 288230376151711744 = ((a * 285870213051353865 % 18446744073709551616 / 288230376151711744 : Nat) : Int) := by
  have e1 : IntKind.u64.wrap (-(x : Int)) = ((18446744073709551616 - x : Nat) : Int) := by rw [IntKind.wrap_u64]; omega
  rw [e1, bits_and_u64_nat x _ hx (by omega), hlow, IntKind.wrap_u64]
  omega
theorem tz_any (x : Nat) (hx : x < big64) (hx0 : x ≠ 0) (w : World) (hT : TabAt w) :
    Calls Tryd.prog 60 #[.int .u64 x] w fun e w' => e = .returned (.int .i64 (Lib.ctz 64 x : Nat)) ∧ w = w' := by
  obtain ⟨hlow, hk⟩ := Lib.lowest_bit 64 x hx0 hx
  obtain ⟨hi, htab⟩ := Lib.deBruijn64_at _ hk
  have hcell := hT _ hi
  rw [htab] at hcell
  exact tz_core x _ _ w (by simp; omega) (tz_key x _ hx hlow hx0) hi hk hcell

end Go.Proofs.YtlniohgnkihefaaDoor
namespace Go.Proofs.YtlniohgnkihefaaDoor
open Go.RowKit Go.Shelf
attribute [local go_sem] Oper.semAt_some

/-- The block of the slice that block b holds. -/
def rowOf (W : World) (b : Nat) : Option Nat :=
  match W.heap[b]? with
  | some (Obj.cells cs _ _) => match cs[0]? with
    | some (Value.slice (some a) _ _) => some a.block
    | _ => none
  | _ => none
/-- What a round keeps: words, but those of the set at b; the library's table. -/
def KpB (b : Nat) (W W' : World) : Prop := ∀ k, (U64At W k ∨ k = 0) → rowOf W b ≠ some k → W'.heap[k]? = W.heap[k]? ∧ rowOf W' b ≠ some k
theorem KpB.refl (b : Nat) (W : World) : KpB b W W := fun _ _ h => ⟨rfl, h⟩
theorem KpB.trans {b : Nat} {A B C : World} (h : KpB b A B) (k : KpB b B C) : KpB b A C := by
  intro i hi hr
  obtain ⟨h1, h2⟩ := h i hi hr
  obtain ⟨k1, k2⟩ := k i (hi.imp (fun ⟨c, hc⟩ => ⟨c, h1.trans hc⟩) id) h2
  exact ⟨k1.trans h1, k2⟩
theorem KpB.put {b n l : Nat} {o o' : Obj} {W : World} (hb : b < n) (hn : n ≤ l) (h : W.heap[l]? = some o) (ho : o.isCells = false) : KpB b W (W.putObj l o') := by
  intro k hk hr
  have hne : k ≠ l := by
    rintro rfl
    rcases hk with ⟨c, hc⟩ | rfl
    · rw [hc] at h; cases h; cases ho
    · omega
  refine ⟨World.putObj_heap_other hne, ?_⟩
  unfold rowOf at hr ⊢
  rw [World.putObj_heap_other (show b ≠ l by omega)]
  exact hr
theorem rowOf_bits {w : World} {b : Nat} {r : Option Nat} {ws : List Nat} (h : BitsAt w b r ws) : rowOf w b = r := by
  obtain ⟨v, h1, h2⟩ := h.ex
  unfold rowOf
  rw [h1]
  rcases h2.2 with ⟨rfl, rfl, _⟩ | ⟨g, off, cap, cur, rfl, rfl, _⟩ <;> rfl
theorem KpB.tab {b : Nat} {W W' : World} (h : KpB b W W') (hr : rowOf W b ≠ some 0) (hT : TabAt W) : TabAt W' := fun j hj => (World.cell?_of_block (h 0 (.inr rfl) hr).1).trans (hT j hj)
/-- A world that grew: nothing of what lay is turned. -/
theorem KpB.below {b : Nat} {W W' : World} (h : Below W.heap.size W W') (hb : b < W.heap.size) (h0 : 0 < W.heap.size) : KpB b W W' := by
  intro k hk hr
  have hlt : k < W.heap.size := by
    rcases hk with ⟨c, hc⟩ | rfl
    · exact lt_of_heap hc
    · exact h0
  refine ⟨h.block k hlt, ?_⟩
  unfold rowOf at hr ⊢
  rw [h.block b hb]
  exact hr
theorem grownBy_none {W W' : World} (h : Below W.heap.size W W') : W.grownBy W' none := ⟨h.os, h.tape, h.output, h.size, fun k hk _ => h.block k hk⟩

theorem memW_word (ws : List Nat) (i j : Nat) (hj : j < 64) : memW ws (64 * i + j) = (ws.getD i 0).testBit j := by
  unfold memW
  rw [show (64 * i + j) / 64 = i from by omega, show (64 * i + j) % 64 = j from by omega]

theorem word_less (x : Nat) (h : x < 18446744073709551616) (h0 : ¬ x = 0) : Value.int .u64 (bits BinOp.and IntKind.u64 (x : Int) ((x : Int) - 1)) = Value.int .u64 ((x &&& (x - 1) : Nat) : Int) := by
  have e1 : (x : Int) - 1 = ((x - 1 : Nat) : Int) := by omega
  rw [e1, bits_and_u64_nat x _ h (by omega)]
set_option maxRecDepth 100000 in
set_option maxHeartbeats 2000000 in
theorem each1_in (n : Nat) (hn : 1 ≤ n) (l Bn b : Nat) (r : Option Nat) (ws : List Nat) (J Jx : List Int → World → Prop)
    (hY : ∀ pre x W, J pre W → pre ++ [x] <+: listW ws → YieldAt Fence.wide (n - 1) Tryd.prog l #[.int .i64 x] W fun e W' =>
      (e = .returned (.bool true) ∧ J (pre ++ [x]) W' ∧ KpB b W W') ∨ (e = .returned (.bool false) ∧ Jx (pre ++ [x]) W'))
    (W : World) (hJ : AbidesFrom W.heap.size J) (hBn : W.cell? ⟨Bn, 0, none⟩ = some (.pointer (some ⟨b, 0, none⟩))) (hb : BitsAt W b r ws) (hr0 : r ≠ some 0) (hT : TabAt W) (h0 : J [] W) :
    CallsIn Fence.wide n Tryd.prog 58 #[.func (.yield l) #[] #[], .pointer (some ⟨Bn, 0, none⟩)] W fun e W' => (∃ v, e = .returned v) ∧
      ((∃ ys, ys = listW ws ∧ J ys W') ∨ (∃ pre, pre <+: listW ws ∧ Jx pre W')) := by
  obtain ⟨v, hv1, hv2⟩ := hb.ex
  have hvc : W.cell? ⟨b, 0, none⟩ = some v := cell_of_row _ _ _ _ _ _ hv1
  have hl1024 := hb.len
  have HB := Lib.hid hb
  have HV2 := Lib.hid hv2
  have HT := Lib.hid hT
  clear hb hv1 hv2 hT
  refine callsIn_of_wp Tryd.func58 rfl trivial ?_ rfl
  simp only [Tryd.ntmps58, List.size_toArray, List.length_cons, List.length_nil, Nat.reduceAdd, Nat.reduceSub, Array.replicate_succ, Array.replicate_zero, List.push_toArray, List.append_toArray, List.nil_append, List.cons_append]
  gi_wp2_with (first
    | (refine ⟨trivial, ?_⟩; gi_at_call 52; refine (callsIn_wide.2 (words_cell b v _ hvc)).mono ?_; rintro e w' ⟨rfl, rfl⟩)
    | (refine ⟨trivial, ?_⟩; gi_at_call 59; refine (callsIn_wide.2 (clone64_any v r ws _ hl1024 HV2.out)).mono ?_; rintro e Wc ⟨hBc, Ac, cc, rfl, hcl⟩; have HBC := Lib.hid hBc; have HCL := Lib.hid hcl; clear hBc hcl))
  have hJc := hJ [] W Wc none h0 (grownBy_none HBC.out) (fun r e => by cases e)
  have hbl := HB.out.blt
  have h0l : 0 < W.heap.size := World.block_lt_of_cell? W ⟨0, 0, none⟩ (HT.out 0 (by omega))
  have hkp := KpB.below HBC.out hbl h0l
  have hrow : rowOf Wc b = r := by
    have h1 := HB.out.kept (Chg.of_below HBC.out (fun _ => False)) (fun h => h) (fun _ _ h => h)
    exact rowOf_bits h1
  have HROW := Lib.hid hrow
  have HTC : Hid (TabAt Wc) := Lib.hid (hkp.tab (by rw [rowOf_bits HB.out]; exact hr0) HT.out)
  have HJC := Lib.hid hJc
  clear hJc hkp hrow hvc hBn h0 hbl h0l
  gi_loopw [9] (fun i wr => ∃ k : Nat, k ≤ ws.length ∧ i = .int .i64 k ∧ J (upToL ws (64 * k)) wr ∧ KpB b Wc wr) (fun i _ => ws.length - (intOf i).toNat)
  case atStart => exact ⟨0, Nat.zero_le _, rfl, HJC.out, KpB.refl _ _⟩
  case round =>
    obtain ⟨k, hk, rfl, hJk, hkp⟩ := hrel
    have HJK := Lib.hid hJk
    have HKP := Lib.hid hkp
    clear hJk hkp
    by_cases hlt : k < ws.length
    · obtain ⟨g, off, rfl, hgn, hgu, hgc⟩ := HCL.out (by omega)
      have hgr : rowOf Wc b ≠ some g := by
        rw [HROW.out]
        intro e
        have := HB.out.rlt g e
        omega
      have hcell := (World.cell?_of_block (a := ⟨g, off + k, none⟩) (HKP.out g (.inl hgu) hgr).1).trans (hgc k _ (cells64_at ws k hlt))
      have hwd := getD_lt HB.out.lt k
      have HGU := Lib.hid hgu
      have HGR := Lib.hid hgr
      obtain ⟨wd, hwde⟩ : ∃ wd, wd = ws.getD k 0 := ⟨_, rfl⟩
      rw [← hwde] at hcell hwd
      have HWD := Lib.hid hwde
      clear hgu hgc hgr hwde hgn
      gi_wp2
      obtain ⟨w3, hw3⟩ : ∃ w3 : World, w3 = wr := ⟨_, rfl⟩
      rw [← hw3] at HJK HKP
      rw [← hw3]
      clear hw3 hcell
      gi_loopw [4] (fun s4 wr => ∃ (x t : Nat), s4 = .int .u64 (x : Int) ∧ x < 18446744073709551616 ∧ t ≤ 64 ∧ (∀ j, x.testBit j = (decide (t ≤ j) && wd.testBit j)) ∧ J (upToL ws (64 * k + t)) wr ∧ KpB b Wc wr) (fun s4 _ => (intOf s4).toNat)
      case atStart => exact ⟨wd, 0, rfl, hwd, Nat.zero_le _, fun j => by simp, HJK.out, HKP.out⟩
      case round =>
        obtain ⟨x, t, rfl, hx64, ht, hbits, hJt, hkt⟩ := hrel
        have HBITS := Lib.hid hbits
        have HJT := Lib.hid hJt
        have HKT := Lib.hid hkt
        clear hbits hJt hkt
        by_cases hx0 : x = 0
        · subst hx0
          gi_wp2
          go_roundw
          case rel =>
            refine ⟨k + 1, by omega, by simp, ?_, HKT.out⟩
            have hg := upToL_gap ws (64 * k + t) (64 - t) fun m h1 h2 => by
              rw [show m = 64 * k + (m - 64 * k) from by omega, memW_word ws k _ (by omega), ← HWD.out]
              have := HBITS.out (m - 64 * k)
              simp only [Nat.zero_testBit] at this
              have ht2 : t ≤ m - 64 * k := by omega
              simpa [ht2] using this.symm
            rw [show 64 * (k + 1) = 64 * k + t + (64 - t) from by omega, hg]
            exact HJT.out
          case measure => simp [intOf]; omega
        · obtain ⟨hc64, hcb, hclow, hand, hax⟩ := low_bit x hx0 hx64
          have HTZ := fun w hT => tz_any x hx64 hx0 w hT
          obtain ⟨cz, hcz⟩ : ∃ cz, cz = Lib.ctz 64 x := ⟨_, rfl⟩
          rw [← hcz] at hc64 hcb hclow hax HTZ
          have HTAB : Hid (TabAt wr) := Lib.hid (HKT.out.tab (by rw [HROW.out]; exact hr0) HTC.out)
          have hb1 := HBITS.out cz
          rw [hcb] at hb1
          have htc : t ≤ cz := by
            rcases Nat.lt_or_ge cz t with h | h
            · have : ¬ t ≤ cz := by omega
              simp [this] at hb1
            · exact h
          have hwc : wd.testBit cz = true := by simpa [htc] using hb1.symm
          have hg := upToL_gap ws (64 * k + t) (cz - t) fun m h1 h2 => by
            rw [show m = 64 * k + (m - 64 * k) from by omega, memW_word ws k _ (by omega), ← HWD.out]
            have h3 := HBITS.out (m - 64 * k)
            rw [hclow _ (by omega)] at h3
            have ht2 : t ≤ m - 64 * k := by omega
            simpa [ht2] using h3.symm
          rw [show 64 * k + t + (cz - t) = 64 * k + cz from by omega] at hg
          have hmem : memW ws (64 * k + cz) = true := by rw [memW_word ws k _ hc64, ← HWD.out]; exact hwc
          have hhit := upToL_hit ws (64 * k + cz) hmem
          have hJc2 : J (upToL ws (64 * k + cz)) wr := by rw [hg]; exact HJT.out
          have hcast : ((64 * k + cz : Nat) : Int) = 64 * (k : Int) + (cz : Int) := by simp
          rw [hcast] at hhit
          have hpx := upToL_prefix ws (show 64 * k + cz + 1 ≤ 64 * ws.length by omega)
          rw [hhit] at hpx
          obtain ⟨fn, tmps, assign, body, hy, hR⟩ := hY _ (64 * (k : Int) + (cz : Int)) wr hJc2 hpx
          have HHIT := Lib.hid hhit
          have HAX := Lib.hid hax
          have HAND := Lib.hid hand
          have HCZ := Lib.hid hcz
          have HR := Lib.hid hR
          have HTZH := Lib.hid HTZ
          clear hcb hclow hax hb1 hwc hg hmem hpx hhit hJc2 hcast hand hcz hR HTZ
          gi_wp2_with (refine ⟨trivial, ?_⟩; gi_at_call 60; refine (callsIn_wide.2 (HTZH.out _ HTAB.out)).mono ?_; rintro e w' ⟨rfl, rfl⟩)
          refine HR.out.mono ?_
          rintro e W3 (⟨rfl, hJ3, hk3⟩ | ⟨rfl, hJx3⟩)
          · have HJ3 := Lib.hid hJ3
            have HK3 := Lib.hid hk3
            clear hJ3 hk3 hy
            gi_wp2
            go_roundw
            case rel => exact ⟨x &&& (x - 1), cz + 1, by rw [word_less x hx64 hx0], by have := HAND.out; omega, by omega, fun j => by
              rw [HAX.out j, HBITS.out j]
              by_cases h : cz + 1 ≤ j
              · have : t ≤ j := by omega
                simp [h, this]
              · simp [h], by rw [← Nat.add_assoc, HHIT.out]; exact HJ3.out, HKT.out.trans HK3.out⟩
            case measure => rw [word_less x hx64 hx0]; simp only [intOf]; have := HAND.out; omega
          · have HJX := Lib.hid hJx3
            clear hJx3 hy
            gi_wp2
            refine bodyPost_ret (results_none rfl _ _ _) rfl ?_
            have hp := upToL_prefix ws (show 64 * k + cz + 1 ≤ 64 * ws.length by omega)
            rw [HHIT.out] at hp
            exact ⟨⟨_, rfl⟩, .inr ⟨_, hp, HJX.out⟩⟩
    · obtain rfl : k = ws.length := by omega
      gi_wp2
      go_end0
      exact ⟨⟨_, rfl⟩, .inl ⟨_, rfl, HJK.out⟩⟩
end Go.Proofs.YtlniohgnkihefaaDoor
namespace Go.Proofs.YtlniohgnkihefaaDoor
open Go.RowKit Go.Shelf
attribute [local go_sem] Oper.semAt_some

theorem each_any (p : Option Addr) (w : World) :
    Calls Tryd.prog 38 #[.pointer p] w fun e w' => e = .returned (.func (.func 58) #[] #[.pointer (some ⟨w.heap.size, 0, none⟩)]) ∧ w' = w.alloc (.cells #[.pointer p] 58) := by
  go_enter Tryd.func38, Tryd.ntmps38
  go_wp2
  go_ret
  exact ⟨rfl, rfl⟩
theorem TabAt.below {w w' : World} (hT : TabAt w) (hB : Below w.heap.size w w') : TabAt w' := fun j hj => (hB.cell (p := ⟨0, j, none⟩) (World.block_lt_of_cell? w ⟨0, j, none⟩ (hT j hj))).trans (hT j hj)
theorem BitsAt.below {w w' : World} {b : Nat} {r : Option Nat} {ws : List Nat} (h : BitsAt w b r ws) (hB : Below w.heap.size w w') : BitsAt w' b r ws := h.kept (Chg.of_below hB (fun _ => False)) (fun h => h) (fun _ _ h => h)
theorem each_stops (n : Nat) (hn : 1 ≤ n) (Bn b : Nat) (r : Option Nat) (ws : List Nat) (w : World) (hBn : w.cell? ⟨Bn, 0, none⟩ = some (.pointer (some ⟨b, 0, none⟩))) (hb : BitsAt w b r ws) (hr0 : r ≠ some 0) (hT : TabAt w) :
    SeqStopsK Fence.wide n Tryd.prog 58 #[.pointer (some ⟨Bn, 0, none⟩)] (fun x : Int => #[Value.int .i64 x]) (KpB b) (fun ys => ys = listW ws) (fun pre => pre <+: listW ws) (listW ws).length w := fun l J Jx W hW hJ _ hY h0 =>
  each1_in n hn l Bn b r ws J Jx (fun pre x W h hp => hY pre x W h (by have := hp.length_le; simp at this; omega)) W hJ ((hW.cell (p := ⟨Bn, 0, none⟩) (World.block_lt_of_cell? w ⟨Bn, 0, none⟩ hBn)).trans hBn) (hb.below hW) hr0 (hT.below hW) h0
/-- A body that turns blocks of other kinds alone keeps the words. -/
theorem KpB.chg {b n₀ : Nat} {S : Nat → Prop} {W W' : World} (h : Chg S W W') (hb : b < n₀) (h0 : 0 < n₀) (hn : n₀ ≤ W.heap.size) (hS : ∀ i, S i → n₀ ≤ i ∧ ¬ U64At W i) : KpB b W W' := by
  intro k hk hr
  have hns : ¬ S k := fun hs => by
    rcases hk with hk | rfl
    · exact (hS k hs).2 hk
    · have := (hS 0 hs).1; omega
  have hlt : k < W.heap.size := by
    rcases hk with ⟨c, hc⟩ | rfl
    · exact lt_of_heap hc
    · omega
  refine ⟨h.block k hlt hns, ?_⟩
  unfold rowOf at hr ⊢
  rw [h.block b (by omega) fun hs => by have := (hS b hs).1; omega]
  exact hr
theorem info_int' : (Tryd.prog.info? 3).map (fun i => (i.zero, i.size, i.bytes)) = some (some (.int .i64 0), 1, 8) := by kernel_rfl
theorem owns_reads {w : World} {n₀ n : Nat} {v : Value} {xs : List Value} (h : w.ownsRow n₀ 3 1 v n xs) : ∃ A c, v = .slice A n c ∧ ReadsAt w A xs := by
  rcases h.2 with ⟨rfl, rfl⟩ | ⟨g, cap, cur, rfl, _, hg, _, _, _, ht⟩
  · have hx : xs = [] := List.eq_nil_of_length_eq_zero (by simpa using h.1)
    exact ⟨none, 0, rfl, fun hp => by rw [hx] at hp; cases hp⟩
  · refine ⟨_, cap, rfl, fun _ => ⟨g, 0, rfl, lt_of_heap hg, fun j u hu => ?_⟩⟩
    rw [Nat.zero_add, cell_of_row _ _ _ _ _ _ hg, ← Array.getElem?_toList]
    rw [← ht, List.getElem?_take] at hu
    split at hu
    · exact hu
    · cases hu

theorem kp_append {W w1 : World} {b n₀ B k : Nat} {v : Value} {xs : List Value} {tmp : Obj} (hv : Boxed W B 35 v) (hrow : W.ownsRow n₀ 3 1 v k xs) (hgrow : (W.alloc tmp).grownBy w1 v.ownBlock)
    (hb : b < n₀) (h0 : 0 < n₀) (hn : n₀ ≤ W.heap.size) (hB : n₀ ≤ B) (u : Value) : KpB b W (w1.setCell ⟨B, 0, none⟩ u) := by
  have hc : Chg (fun i => i = B ∨ some i = v.ownBlock) W (w1.setCell ⟨B, 0, none⟩ u) :=
    (((Chg.refl (fun i => i = B ∨ some i = v.ownBlock) W).alloc tmp).trans (Chg.of_grownBy hgrow) fun i _ e => .inr e).trans (Chg.store w1 B 0 u) fun i _ e => .inl e
  refine KpB.chg hc hb h0 hn fun i hi => ?_
  rcases hi with rfl | hi
  · refine ⟨hB, fun ⟨c, hc⟩ => ?_⟩
    rw [show W.heap[i]? = _ from hv] at hc
    injection hc with hc
    injection hc with _ ht _
    exact absurd ht (by decide)
  · rcases hrow.2 with ⟨rfl, _⟩ | ⟨g, cap, cur, rfl, hg, hgb, _⟩
    · cases hi
    · have : i = g := by simpa [Value.ownBlock] using hi
      subst this
      refine ⟨hg, fun ⟨c, hc⟩ => ?_⟩
      rw [hgb] at hc
      injection hc with hc
      injection hc with _ ht _
      exact absurd ht (by decide)
theorem owns_intsIn {w : World} {n₀ n : Nat} {v : Value} {zs : List Int} (h : w.ownsRow n₀ 3 1 v n (zs.map (Value.int .i64))) : ∃ A c, v = .slice A n c ∧ IntsIn w A zs := by
  rcases h.2 with ⟨rfl, rfl⟩ | ⟨g, cap, cur, rfl, _, hg, _, _, _, ht⟩
  · have hx : zs = [] := List.eq_nil_of_length_eq_zero (by simpa using h.1)
    exact ⟨none, 0, rfl, fun hp => by rw [hx] at hp; simp at hp⟩
  · refine ⟨_, cap, rfl, fun _ => ⟨g, 0, cur, (0, 0), rfl, hg, fun j u hu => ?_⟩⟩
    rw [Nat.zero_add, ← Array.getElem?_toList]
    have hu : (zs.map (Value.int .i64))[j]? = some u := hu
    rw [← ht, List.getElem?_take] at hu
    split at hu
    · exact hu
    · cases hu
set_option maxRecDepth 100000 in
set_option maxHeartbeats 2000000 in
theorem dlist_any (b : Nat) (r : Option Nat) (ws : List Nat) (w : World) (hb : BitsAt w b r ws) (hr0 : r ≠ some 0) (hT : TabAt w) :
    Calls Tryd.prog 21 #[.pointer (some ⟨b, 0, none⟩)] w fun e w' => ∃ A c, e = .returned (.slice A (listW ws).length c) ∧ IntsIn w' A (listW ws) ∧ Below w.heap.size w w' := by
  have hlen : (listW ws).length ≤ 65536 := by
    unfold listW upToL
    have h1 := List.length_filter_le (memW ws) (List.range (64 * ws.length))
    rw [List.length_range] at h1
    rw [List.length_map]
    have := hb.len
    omega
  obtain ⟨i0, hi, hz0, hz1, hz2⟩ := info_parts info_int'
  have hbl := hb.blt
  have h0l : 0 < w.heap.size := by omega
  have HB := Lib.hid hb
  have HT := Lib.hid hT
  clear hb hT
  refine (callsIn_wide (n := 5)).1 ?_
  refine callsIn_of_wp_marks Tryd.func21 rfl trivial ?_ rfl
  simp only [Tryd.ntmps21, List.size_toArray, List.length_cons, List.length_nil, Nat.reduceAdd, Nat.reduceSub, Array.replicate_succ, Array.replicate_zero, List.push_toArray, List.append_toArray, List.nil_append, List.cons_append]
  have hn1 : 1 ≤ 5 - 1 := by omega
  have hnil : ∀ (w : World) (p : Value), (binOp .eql 89 (.func (.func 58) #[] #[p]) .nilFunc).run Tryd.prog w = .ok (.bool false) w := fun w p => by rfl
  gi_wp2_with (refine ⟨trivial, ?_⟩; gi_at_call 38; refine (callsIn_wide.2 (each_any _ _)).mono ?_; rintro e w' ⟨rfl, rfl⟩)
  have bO := Boxed.new w 35 (.slice none 0 0)
  have bN := Boxed.new (w.alloc (.cells #[.slice none 0 0] 35)) 58 (.pointer (some ⟨b, 0, none⟩))
  rw [World.size_alloc] at bN
  have hB0 : Below w.heap.size w ((w.alloc (.cells #[.slice none 0 0] 35)).alloc (.cells #[.pointer (some ⟨b, 0, none⟩)] 58)) := ((Below.refl _ w).alloc (Nat.le_refl _) _).alloc (by simp) _
  refine wpIn_rangeFunc_ownG rfl (by omega) (gf := 58) (lb := #[.pointer (some ⟨w.heap.size + 1, 0, none⟩)]) rfl trivial (enters_of Tryd.func58 (by kernel_rfl) rfl)
    (each_stops (5 - 1) hn1 (w.heap.size + 1) b r ws _ bN.cell (HB.out.below hB0) hr0 (HT.out.below hB0)) KpB.trans (fun W l o o' hl hh hc _ => KpB.put (n := w.heap.size) hbl (Nat.le_trans hB0.size hl) hh hc) (Below.refl _ _) (fun _ => rfl)
    (fun (pre : List Int) W => (∃ v, Boxed W w.heap.size 35 v ∧ W.ownsRow w.heap.size 3 1 v pre.length (pre.map (Value.int .i64)) ∧ True) ∧ Below w.heap.size w W)
    (fun _ _ _ => False)
    (OwnFrom.and (Own.from (holdsRow_own w.heap.size w.heap.size 35 3 1 (fun pre : List Int => pre.length) (fun pre : List Int => pre.map (Value.int .i64)) (fun _ _ => True)) _) (ownFrom_below (Nat.le_refl _) (by simp; omega)))
    (fun _ _ _ _ _ hs _ _ => hs)
    ⟨⟨_, bO.alloc _, World.ownsRow_nil _ _ _ _, trivial⟩, hB0⟩
    (fun x => { tmps := #[.pointer (some ⟨b, 0, none⟩), undef, .pointer (some ⟨w.heap.size, 0, none⟩), .int .i64 x, .pointer (some ⟨b, 0, none⟩), .func (.func 58) #[] #[.pointer (some ⟨w.heap.size + 1, 0, none⟩)], .int .i64 x, undef, undef, undef, undef, undef], defers := [] }) ?assign ?body ?done ?stop
  case assign =>
    intro l x W K hK
    gi_wp2
    exact hK
  case body =>
    rintro l pre x W ⟨⟨v, hv, hrow, _⟩, hB⟩ hlt
    have hc := hv.cell
    gi_wp2_with (gi_at_builtin; refine wpListIn_append_own _ rfl _ _ 35 rfl w.heap.size 3 i0 (.int .i64 0) 1 8 Tryd.underlying35 hi hz0 hz1 hz2 rfl (by decide) _ _ _ rfl (hrow.alloc _) ⟨W.heap.size, 0, none⟩ 1 1 [.int .i64 x] rfl rfl (cell_one_new _ _ _) (by simp [Value.oneCell']) (by unfold maxLen; omega) (by omega) (by have := hB.size; simp; omega) ?_; intro v' w1 hown' hgrow _; obtain ⟨g', cap', rfl⟩ := ownsRow_succ hown'; obtain ⟨hv1, hv2, hr2, hk2, hb2⟩ := hv.appended (by decide) hrow hB.size (Nat.le_refl _) hown' hgrow; have hc1 := hv1.cell; have hf1 := hv1.frozen)
    exact ⟨hk2.from _, kp_append hv hrow hgrow hbl h0l hB.size (Nat.le_refl _) _, ⟨⟨_, hv2, by simpa using hr2, trivial⟩, hB.trans hb2⟩⟩
  case done =>
    rintro D ys W hD rfl ⟨⟨v, hv, hrow, _⟩, hB⟩ hK
    obtain ⟨A, c, rfl, _⟩ := owns_reads hrow
    have hc := hv.cell
    have hf : W.frozen? ⟨w.heap.size, 0, none⟩ = false := by unfold World.frozen?; rw [show W.heap[w.heap.size]? = _ from hv]; rfl
    have hne : (Value.slice A (listW ws).length c).ownBlock ≠ some w.heap.size := by
      rcases hrow.2 with ⟨e, _⟩ | ⟨g, cap, cur, e, hg, hgb, _⟩
      · rw [e]; exact fun h => by cases h
      · rw [e]
        intro h
        have h2 : g = w.heap.size := by simpa [Value.ownBlock] using h
        rw [h2, show W.heap[w.heap.size]? = _ from hv] at hgb
        injection hgb with hgb
        injection hgb with _ ht _
        exact absurd ht (by decide)
    have hDq : D ≠ w.heap.size := fun e => by rw [e, show W.heap[w.heap.size]? = _ from hv] at hK; cases hK
    obtain ⟨W', hW'⟩ : ∃ W', W' = W.setCell ⟨w.heap.size, 0, none⟩ (.slice A (listW ws).length c) := ⟨_, rfl⟩
    have hrow' := ownsRow_setCell_other hrow (a := ⟨w.heap.size, 0, none⟩) hne (.slice A (listW ws).length c)
    have hv' : W'.heap[w.heap.size]? = some (.cells #[.slice A (listW ws).length c] 35 (0, 0)) := by rw [hW']; exact one_setCell hv
    have hK' : W'.heap[D]? = some (.deferred (some [])) := by rw [hW', Below.heap_setCell _ _ _ _ hDq]; exact hK
    have hB' : Below w.heap.size w W' := by rw [hW']; exact hB.setCell (Nat.le_refl _) _
    rw [← hW'] at hrow'
    gi_wp2
    rw [← hW']
    refine ⟨by simp, .inl ⟨_, _, rfl, run_takeDeferred hK', ?_⟩⟩
    obtain ⟨A2, c2, e2, hrd⟩ := owns_intsIn (ownsRow_putObj hrow' (.deferred none) hK' rfl)
    injection e2 with e3 _ e4
    subst e3
    subst e4
    have hv2 : (W'.putObj D (.deferred none)).cell? ⟨w.heap.size, 0, none⟩ = some (.slice A (listW ws).length c) := cell_of_row _ _ _ _ _ _ (show (W'.putObj D (.deferred none)).heap[w.heap.size]? = _ from by unfold World.putObj; simp only [Array.getElem?_setIfInBounds]; rw [if_neg hDq]; exact hv')
    refine ⟨_, by simp [results, Tryd.results21, go_sem, hv2], A, c, rfl, hrd, hB'.trans (belowK_b (w := w) (Nat.le_refl _) W' D _ _ (by simp at hD; omega) hK' rfl rfl)⟩
  case stop =>
    rintro D c pre W _ _ h _
    exact h.elim
end Go.Proofs.YtlniohgnkihefaaDoor
