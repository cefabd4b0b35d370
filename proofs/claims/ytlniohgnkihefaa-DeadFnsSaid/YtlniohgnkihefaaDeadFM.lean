/- Blocks by the kind of their memory; what dead.Fn and the reference have between their rounds. -/
import Derived.Test.YtlniohgnkihefaaSweepW
import Derived.Test.YtlniohgnkihefaaLiveS
namespace Go.Proofs.Ytlniohgnkihefaa
open Go.RowKit
def blkQ (x : BlkQ) : List Value := blkCells x.k (.slice x.A x.k.ins.length x.c)
def blkRowC (xs : List BlkQ) : List Value := (xs.map blkQ).flatten
theorem blkRow_all (xs : List BlkQ) : ∀ c ∈ xs.map blkQ, c.length = 5 := fun c hc => by obtain ⟨x, _, rfl⟩ := List.mem_map.1 hc; rfl
theorem blkRowC_len (xs : List BlkQ) : (blkRowC xs).length = xs.length * 5 := by unfold blkRowC; rw [flat_len (blkRow_all xs), List.length_map]
theorem blkRowC_at (xs : List BlkQ) (i : Nat) (h : i < xs.length) (j : Nat) (u : Value) (hu : (blkQ xs[i])[j]? = some u) : (blkRowC xs)[i * 5 + j]? = some u := by
  have hj : j < 5 := (List.getElem?_eq_some_iff.1 hu).1
  unfold blkRowC
  rw [flat_at (blkRow_all xs) i j hj, List.getElem?_map, List.getElem?_eq_getElem h]
  exact hu
theorem blkRowC_snoc (xs : List BlkQ) (x : BlkQ) : blkRowC (xs ++ [x]) = blkRowC xs ++ blkQ x := by simp [blkRowC]
theorem blkQ_plain (x : BlkQ) : ∀ u ∈ blkQ x, u.oneCell' = true := by
  intro u hu
  simp [blkQ, blkCells] at hu
  rcases hu with rfl | rfl | rfl | rfl | rfl <;> rfl
theorem info_blk : (Try.prog.info? 45).map (fun i => (i.zero, i.size, i.bytes)) = some (some (.agg #[.slice none 0 0, .int .i64 0, .int .i64 0, .int .i64 0, .int .i64 0]), 5, 56) := by kernel_rfl
def BlkIn (W : World) (B : Nat) (A : Option Addr) (l : List Blk) : Prop := ∃ xs : List BlkQ, xs.map BlkQ.k = l ∧
  (0 < xs.length → ∃ g off c f, A = some ⟨g, off, none⟩ ∧ W.heap[g]? = some (.cells c 45 f) ∧ ∀ i (h : i < xs.length) j u, (blkQ xs[i])[j]? = some u → c[off + i * 5 + j]? = some u) ∧ ∀ y ∈ xs, InsIn W B y.A y.k.ins
theorem BlkIn.mem {W : World} {B : Nat} {A : Option Addr} {l : List Blk} (h : BlkIn W B A l) : BlkMem W A l := by
  obtain ⟨xs, h1, h2, h3⟩ := h
  refine ⟨xs, h1, fun hp => ?_, fun y hy => (h3 y hy).mem⟩
  obtain ⟨g, off, c, f, hA, hg, hc⟩ := h2 hp
  exact ⟨g, off, hA, lt_of_heap hg, fun i hi j v hv => by rw [cell_of_row _ _ _ _ _ _ hg]; exact hc i hi j v hv⟩
theorem BlkIn.ko {B : Nat} {W W' : World} {A : Option Addr} {l : List Blk} (h : BlkIn W B A l) (k : KO B true W W') : BlkIn W' B A l := by
  obtain ⟨xs, h1, h2, h3⟩ := h
  refine ⟨xs, h1, fun hp => ?_, fun y hy => (h3 y hy).ko k⟩
  obtain ⟨g, off, c, f, hA, hg, hc⟩ := h2 hp
  exact ⟨g, off, c, f, hA, k.typ g c _ f hg (.inr (.inr ⟨rfl, rfl⟩)), hc⟩
theorem blkIn_of_row {W : World} {B : Nat} {A : Option Addr} {c n : Nat} {r : Option Nat} {xs : List BlkQ} (h : RowAt W 45 5 (.slice A n c) r n (blkRowC xs)) (ha : ∀ y ∈ xs, InsIn W B y.A y.k.ins) : BlkIn W B A (xs.map BlkQ.k) := by
  refine ⟨xs, rfl, fun hp => ?_, ha⟩
  have hn : xs.length = n := by have := h.1; rw [blkRowC_len] at this; omega
  rcases h.2 with ⟨_, _, h0⟩ | ⟨g, off, cap, cur, hv, _, hg, h1, h2, h3, h4⟩
  · omega
  · injection hv with hA _ _
    refine ⟨g, off, cur, (0, 0), hA, hg, fun i hi j u hu => ?_⟩
    have := blkRowC_at xs i hi j u hu
    rw [← h4, List.getElem?_take] at this
    split at this
    · rw [List.getElem?_drop] at this; rw [← Array.getElem?_toList, Nat.add_assoc]; exact this
    · cases this
theorem ArgM.up {W : World} {B B' : Nat} {A : Option Addr} {zs : List Int} (h : ArgM W B A zs) (hB : B ≤ B') : ArgM W B' A zs := by
  rcases h with h | ⟨h1, h2⟩
  · exact .inl h
  · exact .inr ⟨h1, fun hp g off e => Nat.lt_of_lt_of_le (h2 hp g off e) hB⟩
theorem InsIn.up {W : World} {B B' : Nat} {A : Option Addr} {l : List Ins} (h : InsIn W B A l) (hB : B ≤ B') : InsIn W B' A l := by
  obtain ⟨xs, h1, h2, h3⟩ := h
  exact ⟨xs, h1, h2, fun y hy => (h3 y hy).up hB⟩
theorem blkMem_at {W : World} {A : Option Addr} {ks : List Blk} (h : BlkMem W A ks) (k : Nat) (hk : k < ks.length) : ∃ (g off : Nat) (x : BlkQ), A = some ⟨g, off, none⟩ ∧ x.k = ks[k] ∧ InsMem W x.A x.k.ins ∧ g < W.heap.size ∧
    W.cell? ⟨g, off + k * 5, none⟩ = some (.slice x.A x.k.ins.length x.c) ∧ W.cell? ⟨g, off + k * 5 + 1, none⟩ = some (.int .i64 x.k.kind) ∧ W.cell? ⟨g, off + k * 5 + 2, none⟩ = some (.int .i64 x.k.a) ∧ W.cell? ⟨g, off + k * 5 + 3, none⟩ = some (.int .i64 x.k.to) ∧ W.cell? ⟨g, off + k * 5 + 4, none⟩ = some (.int .i64 x.k.els) := by
  obtain ⟨bs, h1, h2, h3⟩ := h
  have hkb : k < bs.length := by rw [← h1, List.length_map] at hk; exact hk
  obtain ⟨g, off, hA, hg, hc⟩ := h2 (by omega)
  refine ⟨g, off, bs[k], hA, by simp only [← h1, List.getElem_map], h3 _ (List.getElem_mem _), hg, hc k hkb 0 _ rfl, hc k hkb 1 _ rfl, hc k hkb 2 _ rfl, hc k hkb 3 _ rfl, hc k hkb 4 _ rfl⟩
/-- The blocks that are there so far. -/
structure BlkI2 (W1 : World) (B : Nat) (ks : List Blk) (O : St) (k : Nat) (v : Value) (rr : Option Nat) (W : World) : Prop where
  below : Below W1.heap.size W1 W
  row : ∃ xs : List BlkQ, xs.map BlkQ.k = (nxtO O ks).take k ∧ RowAt W 45 5 v rr k (blkRowC xs) ∧ ∀ y ∈ xs, InsIn W B y.A y.k.ins
  low : ∀ q, rr = some q → W1.heap.size ≤ q
section
variable {W1 W W' : World} {B : Nat} {ks : List Blk} {O : St} {k : Nat} {v : Value} {rr : Option Nat}
theorem BlkI2.start (W : World) (B : Nat) (ks : List Blk) (O : St) : BlkI2 W B ks O 0 (.slice none 0 0) none W := ⟨Below.refl _ _, ⟨[], by simp, RowAt.nil _ _ _, fun _ h => by cases h⟩, fun _ h => by cases h⟩
theorem BlkI2.below_ (h : BlkI2 W1 B ks O k v rr W) (hB : B ≤ W1.heap.size) (hb : Below W.heap.size W W') : BlkI2 W1 B ks O k v rr W' := by
  obtain ⟨xs, h1, h2, h3⟩ := h.row
  exact ⟨h.below.trans (hb.mono h.below.size), ⟨xs, h1, h2.kept (Chg.of_below hb (fun _ => False)) (fun _ _ h => h), fun y hy => (h3 y hy).ko (KO.of_below (b := false) hb (Nat.le_trans hB h.below.size))⟩, h.low⟩
/-- One more. -/
theorem BlkI2.push (h : BlkI2 W1 B ks O k v rr W) (hB : B ≤ W1.heap.size) {xs : List BlkQ} (he : xs.map BlkQ.k = (nxtO O ks).take k) (ha : ∀ y ∈ xs, InsIn W B y.A y.k.ins) (hk : k < ks.length) {A : Option Addr} {c : Nat} (hy : InsIn W B A (swBlk ks[k] (O k)).ins) {v' : Value} {rr' : Option Nat}
    (hR : RowAt W' 45 5 v' rr' (k + 1) (blkRowC xs ++ blkQ ⟨swBlk ks[k] (O k), A, c⟩)) (hC : Chg (fun k => some k = rr) W W') (hN : NewOr W rr rr') : BlkI2 W1 B ks O (k + 1) v' rr' W' := by
  have hko : KO B false W W' := by
    refine KO.of_chg hC (Nat.le_trans hB h.below.size) fun q hq => ⟨Nat.le_trans hB (h.low q hq.symm), fun c t f hc => ?_⟩
    obtain ⟨ys, _, hr, _⟩ := h.row
    rcases hr.2 with ⟨_, e2, _⟩ | ⟨g', off, cap, cur, _, e2, hg', _⟩
    · rw [e2] at hq; cases hq
    · rw [e2] at hq; cases hq; rw [hg'] at hc; cases hc
      exact ⟨by decide, by decide, fun e => by cases e⟩
  refine ⟨h.below.trans (hC.below h.below.size fun q hq => h.low q hq.symm), ⟨xs ++ [⟨swBlk ks[k] (O k), A, c⟩], ?_, by rw [blkRowC_snoc]; exact hR, fun y hy' => ?_⟩, fun q hq => hN.ge h.below.size h.low q hq⟩
  · rw [List.map_append, he, List.take_succ_eq_append_getElem (by rw [nxtO_len]; exact hk), nxtO_at O ks k hk]; rfl
  · rcases List.mem_append.1 hy' with hy' | hy'
    · exact (ha y hy').ko hko
    · rw [List.mem_singleton.1 hy']; exact hy.ko hko
end
/-- A function's box. -/
def FnBox (W : World) (q : Nat) (nm : ByteArray) (pa re : Int) (v : Value) : Prop := W.heap[q]? = some (.cells #[.string nm, .int .i64 pa, .int .i64 re, v] 31 (0, 0))
theorem FnBox.cells {W : World} {q : Nat} {nm : ByteArray} {pa re : Int} {v : Value} (h : FnBox W q nm pa re v) : W.cell? ⟨q, 0, none⟩ = some (.string nm) ∧ W.cell? ⟨q, 1, none⟩ = some (.int .i64 pa) ∧ W.cell? ⟨q, 2, none⟩ = some (.int .i64 re) ∧ W.cell? ⟨q, 3, none⟩ = some v := by
  refine ⟨?_, ?_, ?_, ?_⟩ <;> (rw [cell_of_row _ _ _ _ _ _ h]; rfl)
theorem FnBox.below {W W' : World} {q : Nat} {nm : ByteArray} {pa re : Int} {v : Value} (h : FnBox W q nm pa re v) (hb : Below W.heap.size W W') : FnBox W' q nm pa re v := (hb.block q (lt_of_heap h)).trans h
theorem flow_cellO {w W : World} {bl n : Nat} {vI : Value} {g off c : Nat} {ps ex : List BM} (h : FlowM w bl n vI (.slice (some ⟨g, off, none⟩) n c) ps ex W) (i : Nat) (hi : i < n) (hip : n + i < ps.length) : W.cell? ⟨g, off + i, none⟩ = some (.pointer (some ⟨ps[n + i].b, 0, none⟩)) := by
  obtain ⟨r, hr⟩ := h.rO
  refine row_cell hr (by omega) i _ ?_
  rw [List.getElem?_map, List.getElem?_drop, List.getElem?_eq_getElem hip]; rfl
theorem flow_shapes {w W : World} {bl n : Nat} {vI vO : Value} {ps ex : List BM} (h : FlowM w bl n vI vO ps ex W) : (∃ A c, vI = .slice A n c) ∧ ∃ A c, vO = .slice A n c := by
  obtain ⟨r, h1⟩ := h.rI
  obtain ⟨r2, h2⟩ := h.rO
  obtain ⟨A, c, e, _⟩ := h1.shape
  obtain ⟨A2, c2, e2, _⟩ := h2.shape
  exact ⟨⟨A, c, e⟩, A2, c2, e2⟩
theorem flow_shapeO {w W : World} {bl n : Nat} {vI vO : Value} {ps ex : List BM} (h : FlowM w bl n vI vO ps ex W) (hn : 0 < n) : ∃ g off c, vO = .slice (some ⟨g, off, none⟩) n c := by
  obtain ⟨r2, h2⟩ := h.rO
  obtain ⟨g2, off2, c2, e2, _⟩ := h2.form hn
  exact ⟨g2, off2, c2, e2⟩
/-- Between two rounds of the outer loop. -/
structure FnI (w : World) (B bx : Nat) (f : Fn) (b : Bool) (ks : List Blk) (A : Option Addr) (c : Nat) (W : World) : Prop where
  below : Below w.heap.size w W
  box : FnBox W bx f.name f.params f.regs (.slice A ks.length c)
  res : FnBox W (bx + 1) ⟨#[]⟩ 0 0 (.slice none 0 0)
  mem : BlkMem W A ks
  flow : FlowF ks
  data : DataF ks
  fin : finK ks = finK f.blocks
  len : ks.length = f.blocks.length
  own : b = false → nxt ks = ks ∧ BlkIn W B A ks
open Classical in
theorem outS_outOf {ks : List Blk} {ps : List BM} (h : ∀ i, i < ks.length → (∀ x, inS ks.length ps i x = true ↔ LiveIn ks i x) ∧ ∀ x, outS ks.length ps i x = true ↔ LiveOut ks i x) : nxtO (outS ks.length ps) ks = nxt ks ∧ ∀ m, m ≤ ks.length → trnO (outS ks.length ps) ks m = trnO (outOf ks) ks m := by
  have key : ∀ i, i < ks.length → outS ks.length ps i = outOf ks i := fun i hi => by
    funext x
    have := (h i hi).2 x
    unfold outOf
    cases e : outS ks.length ps i x with
    | true => rw [decide_eq_true (this.1 e)]
    | false => rw [decide_eq_false fun hl => by rw [this.2 hl] at e; cases e]
  constructor
  · unfold nxt
    apply List.ext_getElem (by simp [nxtO])
    intro i h1 h2
    rw [nxtO_len] at h1
    rw [nxtO_at _ ks i h1, nxtO_at _ ks i h1, key i h1]
  · intro m
    induction m with
    | zero => intro _; rw [trnO_zero, trnO_zero]
    | succ m ih => intro hm; rw [trnO_succ _ _ _ (by omega), trnO_succ _ _ _ (by omega), ih (by omega), key m (by omega)]
/-- A round is done: the blocks stored. -/
theorem FnI.next {w W V : World} {B bx : Nat} {f : Fn} {b : Bool} {ks : List Blk} {A : Option Addr} {c : Nat} (h : FnI w B bx f b ks A c W) (hwb : w.heap.size ≤ bx) (hBw : B ≤ w.heap.size) (hb : Below W.heap.size W V) {A' : Option Addr} {c' : Nat} (hn : BlkIn V B A' (nxt ks)) :
    FnI w B bx f (trn ks) (nxt ks) A' c' (V.setCell ⟨bx, 3, none⟩ (.slice A' ks.length c')) := by
  have hbox := h.box.below hb
  have hres := h.res.below hb
  have hS := Chg.store V bx 3 (.slice A' ks.length c')
  have hVB := h.below.trans (hb.mono h.below.size)
  have hlen : (nxt ks).length = ks.length := nxtO_len _ _
  have hko : KO B true V (V.setCell ⟨bx, 3, none⟩ (.slice A' ks.length c')) := KO.of_chg hS (Nat.le_trans hBw hVB.size) fun k hk => by
    rw [hk]
    refine ⟨by omega, fun c t f e => ?_⟩
    rw [show V.heap[bx]? = _ from hbox] at e; cases e
    exact ⟨by decide, by decide, fun _ => by decide⟩
  have hin := hn.ko hko
  refine ⟨hVB.trans (hS.below hVB.size fun k hk => by rw [hk]; exact hwb), ?_, hS.heap hres fun e => by omega, hin.mem, nxtO_flow h.flow, nxtO_data h.data h.flow, by rw [finK_nxt, h.fin], by rw [hlen, h.len], fun e => ⟨?_, hin⟩⟩
  · rw [hlen]
    exact heap_setCell_same V bx 3 _ 31 (.slice A' ks.length c') hbox
  · have := nxtO_same e
    show nxt (nxt ks) = nxt ks
    rw [show nxt ks = ks from this]; exact this
theorem FnI.cost {ks : List Blk} : 2 * costK (nxt ks) + boolN (.bool (trn ks)) < 2 * costK ks + 1 := by
  have h := nxtO_cost (outOf ks) ks
  cases e : trn ks with
  | true => have := h.2 e; show 2 * costK (nxtO (outOf ks) ks) + 1 < _; omega
  | false => have := h.1; show 2 * costK (nxtO (outOf ks) ks) + 0 < _; omega
theorem chg4 {W : World} {q : Nat} {b0 b1 b2 b3 : Value} : Chg (fun k => k = q) W ((((W.setCell ⟨q, 0, none⟩ b0).setCell ⟨q, 1, none⟩ b1).setCell ⟨q, 2, none⟩ b2).setCell ⟨q, 3, none⟩ b3) := by
  have h := Chg.refl (fun k => k = q) W
  replace h := h.setCell ⟨q, 0, none⟩ (fun _ => rfl) b0
  replace h := h.setCell ⟨q, 1, none⟩ (fun _ => rfl) b1
  replace h := h.setCell ⟨q, 2, none⟩ (fun _ => rfl) b2
  replace h := h.setCell ⟨q, 3, none⟩ (fun _ => rfl) b3
  exact h
theorem box4 {W : World} {q t : Nat} {a0 a1 a2 a3 b0 b1 b2 b3 : Value} (h : W.heap[q]? = some (.cells #[a0, a1, a2, a3] t (0, 0))) :
    ((((W.setCell ⟨q, 0, none⟩ b0).setCell ⟨q, 1, none⟩ b1).setCell ⟨q, 2, none⟩ b2).setCell ⟨q, 3, none⟩ b3).heap[q]? = some (.cells #[b0, b1, b2, b3] t (0, 0)) := by
  have h0 := heap_setCell_same W q 0 _ t b0 h
  have h1 := heap_setCell_same _ q 1 _ t b1 h0
  have h2 := heap_setCell_same _ q 2 _ t b2 h1
  have h3 := heap_setCell_same _ q 3 _ t b3 h2
  exact h3
def FnD (w : World) (f : Fn) (e : Ending) (w' : World) : Prop := ∃ A c, e = .returned (fnAgg { f with blocks := finK f.blocks } A c) ∧ Below w.heap.size w w' ∧ BlkIn w' w.heap.size A (finK f.blocks)
theorem FnI.out_ {w W W' : World} {bx : Nat} {f : Fn} {ks : List Blk} {A : Option Addr} {c : Nat} (h : FnI w w.heap.size bx f false ks A c W) (hbx : bx = w.heap.size) (hc : Chg (fun k => k = bx + 1) W W') :
    ks = finK f.blocks ∧ Below w.heap.size w W' ∧ BlkIn W' w.heap.size A (finK f.blocks) := by
  obtain ⟨h1, h2⟩ := h.own rfl
  have he : ks = finK f.blocks := by rw [← h.fin, finK_same h1]
  refine ⟨he, h.below.trans (hc.below h.below.size fun k e => by omega), ?_⟩
  rw [← he]
  refine h2.ko (KO.of_chg hc h.below.size fun k e => ⟨by omega, fun c t f e2 => ?_⟩)
  rw [e, show W.heap[bx + 1]? = _ from h.res] at e2
  cases e2
  exact ⟨by decide, by decide, fun _ => by decide⟩
end Go.Proofs.Ytlniohgnkihefaa
