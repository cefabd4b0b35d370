/- Blocks by the kind of their memory; what dead.Fn and the reference have between their rounds. -/
import Derived.Test.YtlniohgnkihefaaLk11
import Derived.Test.YtlniohgnkihefaaLk7
import Derived.Test.YtlniohgnkihefaaLk3
import Derived.Test.YtlniohgnkihefaaLk4
namespace Go.Proofs.Ytlniohgnkihefaa
open Go.RowKit
def blkQ (x : BlkQ) : List Value := blkCells x.k (.slice x.A x.k.ins.length x.c)
def blkRowC (xs : List BlkQ) : List Value := (xs.map blkQ).flatten
theorem blkRow_all (xs : List BlkQ) : ∀ c ∈ xs.map blkQ, c.length = 5 := fun c hc => by obtain ⟨x, _, rfl⟩ := List.mem_map.1 hc; rfl
theorem blkRowC_len (xs : List BlkQ) : (blkRowC xs).length = xs.length * 5 := by unfold blkRowC; rw [flat_len (blkRow_all xs), List.length_map]
theorem blkRowC_at (xs : List BlkQ) (i : Nat) (h : i < xs.length) (j : Nat) (u : Value) (hu : (blkQ xs[i])[j]? = some u) : (blkRowC xs)[i * 5 + j]? = some u := by
  have hj : j < 5 := (List.getElem?_eq_some_iff.1 hu).1
  unfold blkRowC
  rw [flat_at (blkRow_all xs) i j hj, List.getElem?_map, List.getElem?_eq_getElem h]
  exact hu
theorem blkRowC_snoc (xs : List BlkQ) (x : BlkQ) : blkRowC (xs ++ [x]) = blkRowC xs ++ blkQ x := by simp [blkRowC]
theorem blkQ_plain (x : BlkQ) : ∀ u ∈ blkQ x, u.oneCell' = true := by
  intro u hu
  simp [blkQ, blkCells] at hu
  rcases hu with rfl | rfl | rfl | rfl | rfl <;> rfl
theorem info_blk : (Try.prog.info? 45).map (fun i => (i.zero, i.size, i.bytes)) = some (some (.agg #[.slice none 0 0, .int .i64 0, .int .i64 0, .int .i64 0, .int .i64 0]), 5, 56) := by kernel_rfl
def BlkIn (W : World) (B : Nat) (A : Option Addr) (l : List Blk) : Prop := ∃ xs : List BlkQ, xs.map BlkQ.k = l ∧
  (0 < xs.length → ∃ g off c f, A = some ⟨g, off, none⟩ ∧ W.heap[g]? = some (.cells c 45 f) ∧ ∀ i (h : i < xs.length) j u, (blkQ xs[i])[j]? = some u → c[off + i * 5 + j]? = some u) ∧ ∀ y ∈ xs, InsIn W B y.A y.k.ins
theorem BlkIn.mem {W : World} {B : Nat} {A : Option Addr} {l : List Blk} (h : BlkIn W B A l) : BlkMem W A l := by
  obtain ⟨xs, h1, h2, h3⟩ := h
  refine ⟨xs, h1, fun hp => ?_, fun y hy => (h3 y hy).mem⟩
  obtain ⟨g, off, c, f, hA, hg, hc⟩ := h2 hp
  exact ⟨g, off, hA, lt_of_heap hg, fun i hi j v hv => by rw [cell_of_row _ _ _ _ _ _ hg]; exact hc i hi j v hv⟩
theorem BlkIn.ko {B : Nat} {W W' : World} {A : Option Addr} {l : List Blk} (h : BlkIn W B A l) (k : KO B true W W') : BlkIn W' B A l := by
  obtain ⟨xs, h1, h2, h3⟩ := h
  refine ⟨xs, h1, fun hp => ?_, fun y hy => (h3 y hy).ko k⟩
  obtain ⟨g, off, c, f, hA, hg, hc⟩ := h2 hp
  exact ⟨g, off, c, f, hA, k.typ g c _ f hg (.inr (.inr ⟨rfl, rfl⟩)), hc⟩
theorem blkIn_of_row {W : World} {B : Nat} {A : Option Addr} {c n : Nat} {r : Option Nat} {xs : List BlkQ} (h : RowAt W 45 5 (.slice A n c) r n (blkRowC xs)) (ha : ∀ y ∈ xs, InsIn W B y.A y.k.ins) : BlkIn W B A (xs.map BlkQ.k) := by
  refine ⟨xs, rfl, fun hp => ?_, ha⟩
  have hn : xs.length = n := by have := h.1; rw [blkRowC_len] at this; omega
  rcases h.2 with ⟨_, _, h0⟩ | ⟨g, off, cap, cur, hv, _, hg, h1, h2, h3, h4⟩
  · omega
  · injection hv with hA _ _
    refine ⟨g, off, cur, (0, 0), hA, hg, fun i hi j u hu => ?_⟩
    have := blkRowC_at xs i hi j u hu
    rw [← h4, List.getElem?_take] at this
    split at this
    · rw [List.getElem?_drop] at this; rw [← Array.getElem?_toList, Nat.add_assoc]; exact this
    · cases this
theorem ArgM.up {W : World} {B B' : Nat} {A : Option Addr} {zs : List Int} (h : ArgM W B A zs) (hB : B ≤ B') : ArgM W B' A zs := by
  rcases h with h | ⟨h1, h2⟩
  · exact .inl h
  · exact .inr ⟨h1, fun hp g off e => Nat.lt_of_lt_of_le (h2 hp g off e) hB⟩
theorem InsIn.up {W : World} {B B' : Nat} {A : Option Addr} {l : List Ins} (h : InsIn W B A l) (hB : B ≤ B') : InsIn W B' A l := by
  obtain ⟨xs, h1, h2, h3⟩ := h
  exact ⟨xs, h1, h2, fun y hy => (h3 y hy).up hB⟩
theorem blkMem_at {W : World} {A : Option Addr} {ks : List Blk} (h : BlkMem W A ks) (k : Nat) (hk : k < ks.length) : ∃ (g off : Nat) (x : BlkQ), A = some ⟨g, off, none⟩ ∧ x.k = ks[k] ∧ InsMem W x.A x.k.ins ∧ g < W.heap.size ∧
    W.cell? ⟨g, off + k * 5, none⟩ = some (.slice x.A x.k.ins.length x.c) ∧ W.cell? ⟨g, off + k * 5 + 1, none⟩ = some (.int .i64 x.k.kind) ∧ W.cell? ⟨g, off + k * 5 + 2, none⟩ = some (.int .i64 x.k.a) ∧ W.cell? ⟨g, off + k * 5 + 3, none⟩ = some (.int .i64 x.k.to) ∧ W.cell? ⟨g, off + k * 5 + 4, none⟩ = some (.int .i64 x.k.els) := by
  obtain ⟨bs, h1, h2, h3⟩ := h
  have hkb : k < bs.length := by rw [← h1, List.length_map] at hk; exact hk
  obtain ⟨g, off, hA, hg, hc⟩ := h2 (by omega)
  refine ⟨g, off, bs[k], hA, by simp only [← h1, List.getElem_map], h3 _ (List.getElem_mem _), hg, hc k hkb 0 _ rfl, hc k hkb 1 _ rfl, hc k hkb 2 _ rfl, hc k hkb 3 _ rfl, hc k hkb 4 _ rfl⟩
/-- The blocks that are there so far. -/
structure BlkI2 (W1 : World) (B : Nat) (ks : List Blk) (O : St) (k : Nat) (v : Value) (rr : Option Nat) (W : World) : Prop where
  below : Below W1.heap.size W1 W
  row : ∃ xs : List BlkQ, xs.map BlkQ.k = (nxtO O ks).take k ∧ RowAt W 45 5 v rr k (blkRowC xs) ∧ ∀ y ∈ xs, InsIn W B y.A y.k.ins
  low : ∀ q, rr = some q → W1.heap.size ≤ q
section
variable {W1 W W' : World} {B : Nat} {ks : List Blk} {O : St} {k : Nat} {v : Value} {rr : Option Nat}
theorem BlkI2.start (W : World) (B : Nat) (ks : List Blk) (O : St) : BlkI2 W B ks O 0 (.slice none 0 0) none W := ⟨Below.refl _ _, ⟨[], by simp, RowAt.nil _ _ _, fun _ h => by cases h⟩, fun _ h => by cases h⟩
theorem BlkI2.below_ (h : BlkI2 W1 B ks O k v rr W) (hB : B ≤ W1.heap.size) (hb : Below W.heap.size W W') : BlkI2 W1 B ks O k v rr W' := by
  obtain ⟨xs, h1, h2, h3⟩ := h.row
  exact ⟨h.below.trans (hb.mono h.below.size), ⟨xs, h1, h2.kept (Chg.of_below hb (fun _ => False)) (fun _ _ h => h), fun y hy => (h3 y hy).ko (KO.of_below (b := false) hb (Nat.le_trans hB h.below.size))⟩, h.low⟩
/-- One more. -/
theorem BlkI2.push (h : BlkI2 W1 B ks O k v rr W) (hB : B ≤ W1.heap.size) {xs : List BlkQ} (he : xs.map BlkQ.k = (nxtO O ks).take k) (ha : ∀ y ∈ xs, InsIn W B y.A y.k.ins) (hk : k < ks.length) {A : Option Addr} {c : Nat} (hy : InsIn W B A (swBlk ks[k] (O k)).ins) {v' : Value} {rr' : Option Nat}
    (hR : RowAt W' 45 5 v' rr' (k + 1) (blkRowC xs ++ blkQ ⟨swBlk ks[k] (O k), A, c⟩)) (hC : Chg (fun k => some k = rr) W W') (hN : NewOr W rr rr') : BlkI2 W1 B ks O (k + 1) v' rr' W' := by
  have hko : KO B false W W' := by
    refine KO.of_chg hC (Nat.le_trans hB h.below.size) fun q hq => ⟨Nat.le_trans hB (h.low q hq.symm), fun c t f hc => ?_⟩
    obtain ⟨ys, _, hr, _⟩ := h.row
    rcases hr.2 with ⟨_, e2, _⟩ | ⟨g', off, cap, cur, _, e2, hg', _⟩
    · rw [e2] at hq; cases hq
    · rw [e2] at hq; cases hq; rw [hg'] at hc; cases hc
      exact ⟨by decide, by decide, fun e => by cases e⟩
  refine ⟨h.below.trans (hC.below h.below.size fun q hq => h.low q hq.symm), ⟨xs ++ [⟨swBlk ks[k] (O k), A, c⟩], ?_, by rw [blkRowC_snoc]; exact hR, fun y hy' => ?_⟩, fun q hq => hN.ge h.below.size h.low q hq⟩
  · rw [List.map_append, he, List.take_succ_eq_append_getElem (by rw [nxtO_len]; exact hk), nxtO_at O ks k hk]; rfl
  · rcases List.mem_append.1 hy' with hy' | hy'
    · exact (ha y hy').ko hko
    · rw [List.mem_singleton.1 hy']; exact hy.ko hko
end
/-- A function's box. -/
def FnBox (W : World) (q : Nat) (nm : ByteArray) (pa re : Int) (v : Value) : Prop := W.heap[q]? = some (.cells #[.string nm, .int .i64 pa, .int .i64 re, v] 31 (0, 0))
theorem FnBox.cells {W : World} {q : Nat} {nm : ByteArray} {pa re : Int} {v : Value} (h : FnBox W q nm pa re v) : W.cell? ⟨q, 0, none⟩ = some (.string nm) ∧ W.cell? ⟨q, 1, none⟩ = some (.int .i64 pa) ∧ W.cell? ⟨q, 2, none⟩ = some (.int .i64 re) ∧ W.cell? ⟨q, 3, none⟩ = some v := by
  refine ⟨?_, ?_, ?_, ?_⟩ <;> (rw [cell_of_row _ _ _ _ _ _ h]; rfl)
theorem FnBox.below {W W' : World} {q : Nat} {nm : ByteArray} {pa re : Int} {v : Value} (h : FnBox W q nm pa re v) (hb : Below W.heap.size W W') : FnBox W' q nm pa re v := (hb.block q (lt_of_heap h)).trans h
theorem flow_cellO {w W : World} {bl n : Nat} {vI : Value} {g off c : Nat} {ps ex : List BM} (h : FlowM w bl n vI (.slice (some ⟨g, off, none⟩) n c) ps ex W) (i : Nat) (hi : i < n) (hip : n + i < ps.length) : W.cell? ⟨g, off + i, none⟩ = some (.pointer (some ⟨ps[n + i].b, 0, none⟩)) := by
  obtain ⟨r, hr⟩ := h.rO
  refine row_cell hr (by omega) i _ ?_
  rw [List.getElem?_map, List.getElem?_drop, List.getElem?_eq_getElem hip]; rfl
theorem flow_shapes {w W : World} {bl n : Nat} {vI vO : Value} {ps ex : List BM} (h : FlowM w bl n vI vO ps ex W) : (∃ A c, vI = .slice A n c) ∧ ∃ A c, vO = .slice A n c := by
  obtain ⟨r, h1⟩ := h.rI
  obtain ⟨r2, h2⟩ := h.rO
  obtain ⟨A, c, e, _⟩ := h1.shape
  obtain ⟨A2, c2, e2, _⟩ := h2.shape
  exact ⟨⟨A, c, e⟩, A2, c2, e2⟩
theorem flow_shapeO {w W : World} {bl n : Nat} {vI vO : Value} {ps ex : List BM} (h : FlowM w bl n vI vO ps ex W) (hn : 0 < n) : ∃ g off c, vO = .slice (some ⟨g, off, none⟩) n c := by
  obtain ⟨r2, h2⟩ := h.rO
  obtain ⟨g2, off2, c2, e2, _⟩ := h2.form hn
  exact ⟨g2, off2, c2, e2⟩
/-- Between two rounds of the outer loop. -/
structure FnI (w : World) (B bx : Nat) (f : Fn) (b : Bool) (ks : List Blk) (A : Option Addr) (c : Nat) (W : World) : Prop where
  below : Below w.heap.size w W
  box : FnBox W bx f.name f.params f.regs (.slice A ks.length c)
  res : FnBox W (bx + 1) ⟨#[]⟩ 0 0 (.slice none 0 0)
  mem : BlkMem W A ks
  flow : FlowF ks
  data : DataF ks
  fin : finK ks = finK f.blocks
  len : ks.length = f.blocks.length
  own : b = false → nxt ks = ks ∧ BlkIn W B A ks
open Classical in
theorem outS_outOf {ks : List Blk} {ps : List BM} (h : ∀ i, i < ks.length → (∀ x, inS ks.length ps i x = true ↔ LiveIn ks i x) ∧ ∀ x, outS ks.length ps i x = true ↔ LiveOut ks i x) : nxtO (outS ks.length ps) ks = nxt ks ∧ ∀ m, m ≤ ks.length → trnO (outS ks.length ps) ks m = trnO (outOf ks) ks m := by
  have key : ∀ i, i < ks.length → outS ks.length ps i = outOf ks i := fun i hi => by
    funext x
    have := (h i hi).2 x
    unfold outOf
    cases e : outS ks.length ps i x with
    | true => rw [decide_eq_true (this.1 e)]
    | false => rw [decide_eq_false fun hl => by rw [this.2 hl] at e; cases e]
  constructor
  · unfold nxt
    apply List.ext_getElem (by simp [nxtO])
    intro i h1 h2
    rw [nxtO_len] at h1
    rw [nxtO_at _ ks i h1, nxtO_at _ ks i h1, key i h1]
  · intro m
    induction m with
    | zero => intro _; rw [trnO_zero, trnO_zero]
    | succ m ih => intro hm; rw [trnO_succ _ _ _ (by omega), trnO_succ _ _ _ (by omega), ih (by omega), key m (by omega)]
/-- A round is done: the blocks stored. -/
theorem FnI.next {w W V : World} {B bx : Nat} {f : Fn} {b : Bool} {ks : List Blk} {A : Option Addr} {c : Nat} (h : FnI w B bx f b ks A c W) (hwb : w.heap.size ≤ bx) (hBw : B ≤ w.heap.size) (hb : Below W.heap.size W V) {A' : Option Addr} {c' : Nat} (hn : BlkIn V B A' (nxt ks)) :
    FnI w B bx f (trn ks) (nxt ks) A' c' (V.setCell ⟨bx, 3, none⟩ (.slice A' ks.length c')) := by
  have hbox := h.box.below hb
  have hres := h.res.below hb
  have hS := Chg.store V bx 3 (.slice A' ks.length c')
  have hVB := h.below.trans (hb.mono h.below.size)
  have hlen : (nxt ks).length = ks.length := nxtO_len _ _
  have hko : KO B true V (V.setCell ⟨bx, 3, none⟩ (.slice A' ks.length c')) := KO.of_chg hS (Nat.le_trans hBw hVB.size) fun k hk => by
    rw [hk]
    refine ⟨by omega, fun c t f e => ?_⟩
    rw [show V.heap[bx]? = _ from hbox] at e; cases e
    exact ⟨by decide, by decide, fun _ => by decide⟩
  have hin := hn.ko hko
  refine ⟨hVB.trans (hS.below hVB.size fun k hk => by rw [hk]; exact hwb), ?_, hS.heap hres fun e => by omega, hin.mem, nxtO_flow h.flow, nxtO_data h.data h.flow, by rw [finK_nxt, h.fin], by rw [hlen, h.len], fun e => ⟨?_, hin⟩⟩
  · rw [hlen]
    exact heap_setCell_same V bx 3 _ 31 (.slice A' ks.length c') hbox
  · have := nxtO_same e
    show nxt (nxt ks) = nxt ks
    rw [show nxt ks = ks from this]; exact this
theorem FnI.cost {ks : List Blk} : 2 * costK (nxt ks) + boolN (.bool (trn ks)) < 2 * costK ks + 1 := by
  have h := nxtO_cost (outOf ks) ks
  cases e : trn ks with
  | true => have := h.2 e; show 2 * costK (nxtO (outOf ks) ks) + 1 < _; omega
  | false => have := h.1; show 2 * costK (nxtO (outOf ks) ks) + 0 < _; omega
theorem chg4 {W : World} {q : Nat} {b0 b1 b2 b3 : Value} : Chg (fun k => k = q) W ((((W.setCell ⟨q, 0, none⟩ b0).setCell ⟨q, 1, none⟩ b1).setCell ⟨q, 2, none⟩ b2).setCell ⟨q, 3, none⟩ b3) := by
  have h := Chg.refl (fun k => k = q) W
  replace h := h.setCell ⟨q, 0, none⟩ (fun _ => rfl) b0
  replace h := h.setCell ⟨q, 1, none⟩ (fun _ => rfl) b1
  replace h := h.setCell ⟨q, 2, none⟩ (fun _ => rfl) b2
  replace h := h.setCell ⟨q, 3, none⟩ (fun _ => rfl) b3
  exact h
theorem box4 {W : World} {q t : Nat} {a0 a1 a2 a3 b0 b1 b2 b3 : Value} (h : W.heap[q]? = some (.cells #[a0, a1, a2, a3] t (0, 0))) :
    ((((W.setCell ⟨q, 0, none⟩ b0).setCell ⟨q, 1, none⟩ b1).setCell ⟨q, 2, none⟩ b2).setCell ⟨q, 3, none⟩ b3).heap[q]? = some (.cells #[b0, b1, b2, b3] t (0, 0)) := by
  have h0 := heap_setCell_same W q 0 _ t b0 h
  have h1 := heap_setCell_same _ q 1 _ t b1 h0
  have h2 := heap_setCell_same _ q 2 _ t b2 h1
  have h3 := heap_setCell_same _ q 3 _ t b3 h2
  exact h3
def FnD (w : World) (f : Fn) (e : Ending) (w' : World) : Prop := ∃ A c, e = .returned (fnAgg { f with blocks := finK f.blocks } A c) ∧ Below w.heap.size w w' ∧ BlkIn w' w.heap.size A (finK f.blocks)
theorem FnI.out_ {w W W' : World} {bx : Nat} {f : Fn} {ks : List Blk} {A : Option Addr} {c : Nat} (h : FnI w w.heap.size bx f false ks A c W) (hbx : bx = w.heap.size) (hc : Chg (fun k => k = bx + 1) W W') :
    ks = finK f.blocks ∧ Below w.heap.size w W' ∧ BlkIn W' w.heap.size A (finK f.blocks) := by
  obtain ⟨h1, h2⟩ := h.own rfl
  have he : ks = finK f.blocks := by rw [← h.fin, finK_same h1]
  refine ⟨he, h.below.trans (hc.below h.below.size fun k e => by omega), ?_⟩
  rw [← he]
  refine h2.ko (KO.of_chg hc h.below.size fun k e => ⟨by omega, fun c t f e2 => ?_⟩)
  rw [e, show W.heap[bx + 1]? = _ from h.res] at e2
  cases e2
  exact ⟨by decide, by decide, fun _ => by decide⟩
end Go.Proofs.Ytlniohgnkihefaa
namespace Go.Proofs.Ytlniohgnkihefaa
open Go.RowKit
variable {w : World}
theorem insM_at {A : Option Addr} {l : List Ins} (h : InsMem w A l) (k : Nat) (hk : k < l.length) (x : Ins) (hx : x = l[k]) : ∃ (g off : Nat) (Ax : Option Addr) (c : Nat), A = some ⟨g, off, none⟩ ∧ g < w.heap.size ∧ ReadsAt w Ax (ints x.args) ∧
    w.cell? ⟨g, off + k * 8, none⟩ = some (.int .i64 x.kind) ∧ w.cell? ⟨g, off + k * 8 + 1, none⟩ = some (.int .i64 x.op) ∧ w.cell? ⟨g, off + k * 8 + 2, none⟩ = some (.int .i64 x.d) ∧ w.cell? ⟨g, off + k * 8 + 3, none⟩ = some (.int .i64 x.a) ∧ w.cell? ⟨g, off + k * 8 + 4, none⟩ = some (.int .i64 x.b) ∧
    w.cell? ⟨g, off + k * 8 + 5, none⟩ = some (.int .i32 x.num) ∧ w.cell? ⟨g, off + k * 8 + 6, none⟩ = some (.string x.name) ∧ w.cell? ⟨g, off + k * 8 + 7, none⟩ = some (.slice Ax x.args.length c) := by
  obtain ⟨xs, h1, h2, h3⟩ := h
  have hkb : k < xs.length := by rw [← h1, List.length_map] at hk; exact hk
  have hx2 : x = xs[k].k := by rw [hx]; simp only [← h1, List.getElem_map]
  obtain ⟨g, off, hA, hg, hc⟩ := h2 (by omega)
  have hr := h3 _ (List.getElem_mem hkb)
  rw [← hx2] at hr
  have hc' := hc k hkb
  rw [← hx2] at hc'
  exact ⟨g, off, xs[k].A, xs[k].c, hA, hg, hr, hc' 0 _ rfl, hc' 1 _ rfl, hc' 2 _ rfl, hc' 3 _ rfl, hc' 4 _ rfl, hc' 5 _ rfl, hc' 6 _ rfl, hc' 7 _ rfl⟩
theorem readsAt {A : Option Addr} {l : List Int} (h : ReadsAt w A (ints l)) (q : Nat) (hq : q < l.length) : ∃ (g off : Nat), A = some ⟨g, off, none⟩ ∧ g < w.heap.size ∧ w.cell? ⟨g, off + q, none⟩ = some (.int .i64 (l.getD q 0)) := by
  obtain ⟨g, off, hA, hg, hc⟩ := h (by rw [ints_length]; omega)
  exact ⟨g, off, hA, hg, hc q _ (ints_at l q hq)⟩
theorem blkM_at {A : Option Addr} {l : List Blk} (h : BlkMem w A l) (k : Nat) (hk : k < l.length) (x : Blk) (hx : x = l[k]) : ∃ (g off : Nat) (Ax : Option Addr) (c : Nat), A = some ⟨g, off, none⟩ ∧ g < w.heap.size ∧ InsMem w Ax x.ins ∧
    w.cell? ⟨g, off + k * 5, none⟩ = some (.slice Ax x.ins.length c) ∧ w.cell? ⟨g, off + k * 5 + 1, none⟩ = some (.int .i64 x.kind) ∧ w.cell? ⟨g, off + k * 5 + 2, none⟩ = some (.int .i64 x.a) ∧ w.cell? ⟨g, off + k * 5 + 3, none⟩ = some (.int .i64 x.to) ∧ w.cell? ⟨g, off + k * 5 + 4, none⟩ = some (.int .i64 x.els) := by
  obtain ⟨xs, h1, h2, h3⟩ := h
  have hkb : k < xs.length := by rw [← h1, List.length_map] at hk; exact hk
  have hx2 : x = xs[k].k := by rw [hx]; simp only [← h1, List.getElem_map]
  obtain ⟨g, off, hA, hg, hc⟩ := h2 (by omega)
  have hr := h3 _ (List.getElem_mem hkb)
  rw [← hx2] at hr
  have hc' := hc k hkb
  rw [← hx2] at hc'
  exact ⟨g, off, xs[k].A, xs[k].c, hA, hg, hr, hc' 0 _ rfl, hc' 1 _ rfl, hc' 2 _ rfl, hc' 3 _ rfl, hc' 4 _ rfl⟩
end Go.Proofs.Ytlniohgnkihefaa
namespace Go.Proofs.Ytlniohgnkihefaa
open Go.RowKit
open Classical in
theorem out_leave {k : Blk} (hk : k.kind = 3) : outOf [k] 0 = fun _ => false := by
  funext n
  unfold outOf
  refine decide_eq_false fun h => ?_
  have h0 : Sol [k] (fun _ => blkP k fun _ => false) (fun _ _ => false) := by
    intro i hi
    obtain rfl : i = 0 := by simp at hi; omega
    refine ⟨?_, rfl⟩
    funext m
    show false = succP k _ m
    unfold succP nextP
    rw [if_neg (by omega), if_neg (by omega)]
    rfl
  have := h _ _ h0
  cases this
theorem nxt_leave {k : Blk} (hk : k.kind = 3) : nxt [k] = [swBlk k fun _ => false] := by
  unfold nxt nxtO
  rw [List.mapIdx_cons, out_leave hk]
  rfl
def insD (d z : Int) : Ins := ⟨1, 0, d, -1, -1, z, ⟨#[]⟩, []⟩
def insO (op : Int) : Ins := ⟨4, op, 2, 1, 0, 0, ⟨#[]⟩, []⟩
def exB (l : List Ins) : Blk := ⟨l, 3, 1, 0, 0⟩
def exF (op : Int) : Fn := ⟨⟨#[109, 97, 105, 110]⟩, 0, 3, [exB [insD 0 1, insD 1 2, insO op]]⟩
theorem fin_div : finK (exF 4).blocks = (exF 4).blocks := finK_same (nxt_leave rfl)
theorem fin_add : finK (exF 1).blocks = [exB [insD 1 2]] := by
  have h : nxt (exF 1).blocks = [exB [insD 1 2]] := nxt_leave rfl
  rw [← finK_nxt, h]
  exact finK_same (nxt_leave rfl)
theorem ex_flow (op : Int) : FlowF (exF op).blocks := by
  refine ⟨by show 1 ≤ 1000; omega, fun k hk => ?_⟩
  obtain rfl : k = exB [insD 0 1, insD 1 2, insO op] := by simpa [exF] using hk
  refine ⟨by show 3 ≤ 1000; omega, .inr (.inr rfl), by show (1 : Int) < 65536; omega, fun e => absurd rfl e, fun e => (by simp [exB] at e), fun x hx => ?_⟩
  simp only [exB, List.mem_cons, List.not_mem_nil, or_false] at hx
  rcases hx with rfl | rfl | rfl
  · exact ⟨⟨by show (-1 : Int) < 65536; omega, by show (-1 : Int) < 65536; omega, fun r hr => by cases hr⟩, Nat.zero_le _⟩
  · exact ⟨⟨by show (-1 : Int) < 65536; omega, by show (-1 : Int) < 65536; omega, fun r hr => by cases hr⟩, Nat.zero_le _⟩
  · exact ⟨⟨by show (1 : Int) < 65536; omega, by show (0 : Int) < 65536; omega, fun r hr => by cases hr⟩, Nat.zero_le _⟩
theorem ex_data (op : Int) (h : 1 ≤ op ∧ op ≤ 16) : DataF (exF op).blocks := by
  intro k hk
  obtain rfl : k = exB [insD 0 1, insD 1 2, insO op] := by simpa [exF] using hk
  refine ⟨⟨by show I64 3; unfold I64; omega, by show I64 1; unfold I64; omega, by show I64 0; unfold I64; omega, by show I64 0; unfold I64; omega, by show 3 ≤ maxLen; unfold maxLen; omega⟩, fun x hx => ?_⟩
  simp only [exB, List.mem_cons, List.not_mem_nil, or_false] at hx
  rcases hx with rfl | rfl | rfl
  · exact ⟨by show I64 1; unfold I64; omega, by show I64 0; unfold I64; omega, by show I64 0; unfold I64; omega, by show I64 (-1); unfold I64; omega, by show I64 (-1); unfold I64; omega, by show I32 1; unfold I32; omega, Nat.zero_le _, Nat.zero_le _, fun z hz => by cases hz⟩
  · exact ⟨by show I64 1; unfold I64; omega, by show I64 0; unfold I64; omega, by show I64 1; unfold I64; omega, by show I64 (-1); unfold I64; omega, by show I64 (-1); unfold I64; omega, by show I32 2; unfold I32; omega, Nat.zero_le _, Nat.zero_le _, fun z hz => by cases hz⟩
  · exact ⟨by show I64 4; unfold I64; omega, by show I64 op; unfold I64; omega, by show I64 2; unfold I64; omega, by show I64 1; unfold I64; omega, by show I64 0; unfold I64; omega, by show I32 0; unfold I32; omega, Nat.zero_le _, Nat.zero_le _, fun z hz => by cases hz⟩
theorem readsNil {w : World} {xs : List Value} (h : xs = []) (A : Option Addr) : ReadsAt w A xs := fun hp => by rw [h] at hp; cases hp
/-- The example in memory. -/
theorem ex_mem {W : World} {p q e e' : Nat} {fr fr' : Nat × Nat} (op : Int) (hp : W.heap[p]? = some (.cells #[.int .i64 1, .int .i64 0, .int .i64 0, .int .i64 (-1), .int .i64 (-1), .int .i32 1, .string ⟨#[]⟩, .slice none 0 0, .int .i64 1, .int .i64 0, .int .i64 1, .int .i64 (-1), .int .i64 (-1), .int .i32 2, .string ⟨#[]⟩, .slice none 0 0, .int .i64 4, .int .i64 op, .int .i64 2, .int .i64 1, .int .i64 0, .int .i32 0, .string ⟨#[]⟩, .slice none 0 0] e fr))
    (hq : W.heap[q]? = some (.cells #[.slice (some ⟨p, 0, none⟩) 3 3, .int .i64 3, .int .i64 1, .int .i64 0, .int .i64 0] e' fr')) : BlkMem W (some ⟨q, 0, none⟩) (exF op).blocks := by
  refine ⟨[⟨exB [insD 0 1, insD 1 2, insO op], some ⟨p, 0, none⟩, 3⟩], rfl, fun _ => ⟨q, 0, rfl, lt_of_heap hq, fun i hi j v hv => ?_⟩, fun b hb => ?_⟩
  · obtain rfl : i = 0 := by simp at hi; omega
    rw [show 0 + 0 * 5 + j = j from by omega, cell_of_row _ _ _ _ _ _ hq, ← Array.getElem?_toList]
    exact hv
  · rw [List.mem_singleton.1 hb]
    refine ⟨[⟨insD 0 1, none, 0⟩, ⟨insD 1 2, none, 0⟩, ⟨insO op, none, 0⟩], rfl, fun _ => ⟨p, 0, rfl, lt_of_heap hp, fun i hi j v hv => ?_⟩, fun x hx => ?_⟩
    · have hj : j < 8 := by
        have := (List.getElem?_eq_some_iff.1 hv).1
        simpa [insCells] using this
      rw [cell_of_row _ _ _ _ _ _ hp, ← Array.getElem?_toList, Nat.zero_add]
      match i, hi with
      | 0, _ => rw [← hv]; match j, hj with
        | 0, _ | 1, _ | 2, _ | 3, _ | 4, _ | 5, _ | 6, _ | 7, _ => rfl
      | 1, _ => rw [← hv]; match j, hj with
        | 0, _ | 1, _ | 2, _ | 3, _ | 4, _ | 5, _ | 6, _ | 7, _ => rfl
      | 2, _ => rw [← hv]; match j, hj with
        | 0, _ | 1, _ | 2, _ | 3, _ | 4, _ | 5, _ | 6, _ | 7, _ => rfl
    · simp only [List.mem_cons, List.not_mem_nil, or_false] at hx
      rcases hx with rfl | rfl | rfl <;> exact readsNil rfl _
end Go.Proofs.Ytlniohgnkihefaa
namespace Go.Proofs.Ytlniohgnkihefaa

def rnd (n : Int) : Int := if 2147483648 ≤ n % 4294967296 then n % 4294967296 - 4294967296 else n % 4294967296
def bitsZ (n : Int) : Int := if n < 0 then n + 4294967296 else n
def truth (b : Bool) : Int := if b then 1 else 0
def pw : Nat → Int
  | 0 => 1
  | n + 1 => pw n * 2
def andS (x y : Int) : Nat → Int
  | 0 => 0
  | n + 1 => andS x y n + bitsZ x / pw n % 2 * (bitsZ y / pw n % 2) * pw n
def orS (x y : Int) : Nat → Int
  | 0 => 0
  | n + 1 => orS x y n + (bitsZ x / pw n % 2 + bitsZ y / pw n % 2 - bitsZ x / pw n % 2 * (bitsZ y / pw n % 2)) * pw n
def shN (y : Int) : Nat := (bitsZ y % 32).toNat
/-- An operator of two: its value; 'none': it has none. -/
def binO (op x y : Int) : Option Int :=
  if op = 1 then some (rnd (x + y)) else if op = 2 then some (rnd (x - y)) else if op = 3 then some (rnd (x * y))
  else if op = 4 then (if y = 0 then none else some (rnd (x.tdiv y))) else if op = 5 then (if y = 0 then none else some (rnd (x - x.tdiv y * y)))
  else if op = 6 then some (rnd (x * pw (shN y))) else if op = 7 then some (rnd (x / pw (shN y)))
  else if op = 8 then some (rnd (andS x y 32)) else if op = 9 then some (rnd (orS x y 32)) else if op = 10 then some (rnd (orS x y 32 - andS x y 32))
  else if op = 11 then some (truth (decide (x < y))) else if op = 12 then some (truth (decide (x ≤ y))) else if op = 13 then some (truth (decide (y < x))) else if op = 14 then some (truth (decide (y ≤ x)))
  else if op = 15 then some (truth (decide (x = y))) else if op = 16 then some (truth (decide (x ≠ y)))
  else if op = 17 then some (truth (decide (x * y ≠ 0))) else if op = 18 then some (truth (decide (x ≠ 0) || decide (y ≠ 0))) else none
def unO (op a : Int) : Option Int := if op = 19 then some (rnd (-a)) else if op = 20 then some (truth (decide (a = 0))) else if op = 21 then some (rnd (-1 - a)) else none
theorem rnd_bd (n : Int) : I32 (rnd n) := by unfold rnd I32; split <;> omega
theorem truth_bd (b : Bool) : I32 (truth b) := by unfold truth I32; split <;> omega
theorem bitsZ_bd {n : Int} (h : I32 n) : 0 ≤ bitsZ n ∧ bitsZ n ≤ 4294967295 := by unfold bitsZ; unfold I32 at h; split <;> omega
theorem ite_bd {c : Prop} [Decidable c] {a b : Option Int} (ha : ∀ v, a = some v → I32 v) (hb : ∀ v, b = some v → I32 v) : ∀ v, (if c then a else b) = some v → I32 v := by
  split
  · exact ha
  · exact hb
theorem some_rnd (n : Int) : ∀ v, some (rnd n) = some v → I32 v := fun v h => by injection h with h; subst h; exact rnd_bd _
theorem some_truth (b : Bool) : ∀ v, some (truth b) = some v → I32 v := fun v h => by injection h with h; subst h; exact truth_bd _
theorem no_bd : ∀ v, (none : Option Int) = some v → I32 v := fun v h => by cases h
theorem binO_bd {op x y v : Int} (h : binO op x y = some v) : I32 v := by
  revert v
  unfold binO
  repeat' first | exact some_rnd _ | exact some_truth _ | exact no_bd | apply ite_bd
theorem unO_bd {op x v : Int} (h : unO op x = some v) : I32 v := by
  revert v
  unfold unO
  repeat' first | exact some_rnd _ | exact some_truth _ | exact no_bd | apply ite_bd
theorem pw_pos : ∀ n, 1 ≤ pw n
  | 0 => by decide
  | n + 1 => by have := pw_pos n; simp only [pw]; omega
theorem pw_mono : ∀ {n m : Nat}, n ≤ m → pw n ≤ pw m
  | n, 0, h => by
    obtain rfl : n = 0 := by omega
    exact Int.le_refl _
  | n, m + 1, h => by
    rcases Nat.lt_succ_iff_lt_or_eq.1 (Nat.lt_succ_of_le h) with h' | rfl
    · have := pw_mono (Nat.le_of_lt_succ h'); have := pw_pos m; simp only [pw]; omega
    · exact Int.le_refl _
theorem pw_le31 {n : Nat} (h : n ≤ 31) : pw n ≤ 2147483648 := Int.le_trans (pw_mono h) (by decide)
theorem pw_le32 {n : Nat} (h : n ≤ 32) : pw n ≤ 4294967296 := Int.le_trans (pw_mono h) (by decide)
theorem mod2 (z : Int) : z % 2 = 0 ∨ z % 2 = 1 := by omega
theorem sums_bd (x y : Int) : ∀ n, 0 ≤ andS x y n ∧ andS x y n < pw n ∧ 0 ≤ orS x y n ∧ orS x y n < pw n
  | 0 => by simp [andS, orS, pw]
  | n + 1 => by
    obtain ⟨h1, h2, h3, h4⟩ := sums_bd x y n
    have hp := pw_pos n
    simp only [andS, orS, pw]
    rcases mod2 (bitsZ x / pw n) with e1 | e1 <;> rcases mod2 (bitsZ y / pw n) with e2 | e2 <;> rw [e1, e2] <;> omega
theorem shN_lt (y : Int) : shN y < 32 := by unfold shN; omega
end Go.Proofs.Ytlniohgnkihefaa
namespace Go.Proofs.Ytlniohgnkihefaa

structure MS where
  data : List (List Int)
  fin : Int
  value : Int
  trace : List Int
  steps : Nat
  reads : Nat
/-- A call that goes on: the block, the instruction, the registers; dst: where the caller wants the value. -/
structure Fr where
  fn : Fn
  at_ : Nat
  i : Nat
  regs : List Int
  dst : Int
abbrev Cfg := MS × List Fr
def noFn : Fn := ⟨⟨#[]⟩, 0, 0, []⟩
def noBlk : Blk := ⟨[], 0, 0, 0, 0⟩
def getR (l : List Int) (r : Int) : Int := l.getD r.toNat 0
def setR (l : List Int) (r v : Int) : List Int := l.set r.toNat v
def MS.ended (s : MS) (k : Int) : MS := { s with fin := k }
def Fr.put (fr : Fr) (d v : Int) : Fr := { fr with regs := setR fr.regs d v }
def Fr.putIf (fr : Fr) (d v : Int) : Fr := if 0 ≤ d then fr.put d v else fr
def newRegs (f : Fn) (args : List Int) : List Int := args ++ List.replicate (f.regs.toNat - args.length) 0
def fnNamed (m : Mid) (name : ByteArray) : Fn := m.fns.getD (fnAt m.fns name).toNat noFn
def entry (f : Fn) (args : List Int) (dst : Int) : Fr := ⟨f, 0, 0, newRegs f args, dst⟩
/-- Which word of which global an instruction means. -/
def idxG (m : Mid) (x : Ins) : Nat := (globAt m.globals x.name).toNat
def idxI (x : Ins) (regs : List Int) : Int := if 0 ≤ x.a then getR regs x.a else 0
def dataRow (s : MS) (g : Nat) : List Int := s.data.getD g []
def idxOk (m : Mid) (x : Ins) (regs : List Int) (s : MS) : Bool := decide (0 ≤ idxI x regs) && decide (idxI x regs < ((dataRow s (idxG m x)).length : Int))
def exS (m : Mid) (inp : List Int) (x : Ins) (s : MS) (fr : Fr) (K : List Fr) : Cfg :=
  if x.kind = 1 then (s, fr.put x.d x.num :: K)
  else if x.kind = 2 then (s, fr.put x.d (getR fr.regs x.a) :: K)
  else if x.kind = 3 then (s, fr.put x.d ((unO x.op (getR fr.regs x.a)).getD 0) :: K)
  else if x.kind = 4 then (match binO x.op (getR fr.regs x.a) (getR fr.regs x.b) with
    | some v => (s, fr.put x.d v :: K)
    | none => (s.ended 2, fr :: K))
  else if x.kind = 5 then (if idxOk m x fr.regs s = true then (s, fr.put x.d (getR (dataRow s (idxG m x)) (idxI x fr.regs)) :: K) else (s.ended 3, fr :: K))
  else if x.kind = 6 then (if idxOk m x fr.regs s = true then ({ s with data := s.data.set (idxG m x) (setR (dataRow s (idxG m x)) (idxI x fr.regs) (getR fr.regs x.b)) }, fr :: K) else (s.ended 3, fr :: K))
  else if x.kind = 7 then (if K.length + 1 = 32 then (s.ended 4, fr :: K) else (s, entry (fnNamed m x.name) (x.args.map (getR fr.regs)) x.d :: fr :: K))
  else if x.kind = 8 then (if s.reads < inp.length then ({ s with reads := s.reads + 1 }, fr.put x.d (inp.getD s.reads 0) :: K) else (s, fr.put x.d 0 :: K))
  else if x.kind = 9 then ({ s with trace := s.trace ++ [getR fr.regs x.a] }, fr :: K)
  else (s, fr :: K)
/-- The call is done: its value goes to the caller; the first call's is the run's. -/
def retC (dst v : Int) (s : MS) : List Fr → Cfg
  | [] => ({ s with fin := 1, value := v }, [])
  | fr :: K => (s, fr.putIf dst v :: K)
def exE (b : Blk) (s : MS) (fr : Fr) (K : List Fr) : Cfg :=
  if b.kind = 1 then (s, { fr with at_ := b.to.toNat, i := 0 } :: K)
  else if b.kind = 2 then (s, { fr with at_ := (if getR fr.regs b.a ≠ 0 then b.to else b.els).toNat, i := 0 } :: K)
  else retC fr.dst (getR fr.regs b.a) s K
def Fr.blk (fr : Fr) : Blk := fr.fn.blocks.getD fr.at_ noBlk
def MS.step (s : MS) : MS := { s with steps := s.steps + 1 }
def stepF (m : Mid) (inp : List Int) (s : MS) (fr : Fr) (K : List Fr) : Cfg :=
  match fr.blk.ins[fr.i]? with
  | some x => exS m inp x s { fr with i := fr.i + 1 } K
  | none => exE fr.blk s fr K
def stepC (m : Mid) (inp : List Int) (fuel : Int) : Cfg → Cfg
  | (s, []) => (s, [])
  | (s, fr :: K) => if s.fin ≠ 0 then (s, fr :: K) else if fuel ≤ (s.steps : Int) then (s.ended 5, fr :: K) else stepF m inp s.step fr K
def iterC (m : Mid) (inp : List Int) (fuel : Int) : Nat → Cfg → Cfg
  | 0, c => c
  | n + 1, c => iterC m inp fuel n (stepC m inp fuel c)
def Reach (m : Mid) (inp : List Int) (fuel : Int) (a b : Cfg) : Prop := ∃ n, iterC m inp fuel n a = b
def data0 (m : Mid) : List (List Int) := m.globals.map fun g => List.replicate (max 1 g.size).toNat 0
def mainN : ByteArray := ⟨#[109, 97, 105, 110]⟩
def start (m : Mid) : Cfg := (⟨data0 m, 0, 0, [], 0, 0⟩, [entry (fnNamed m mainN) [] (-1)])
/-- The run's result. -/
def RunsTo (m : Mid) (inp : List Int) (fuel : Int) (r : MS) : Prop := r.fin ≠ 0 ∧ ∃ K, Reach m inp fuel (start m) (r, K)
section
variable {m : Mid} {inp : List Int} {fuel : Int} {a b c : Cfg}
theorem iterC_add : ∀ (n k : Nat) (a : Cfg), iterC m inp fuel (n + k) a = iterC m inp fuel k (iterC m inp fuel n a)
  | 0, k, a => by rw [Nat.zero_add]; rfl
  | n + 1, k, a => by rw [Nat.add_right_comm]; exact iterC_add n k _
theorem Reach.refl (a : Cfg) : Reach m inp fuel a a := ⟨0, rfl⟩
theorem Reach.trans (h : Reach m inp fuel a b) (k : Reach m inp fuel b c) : Reach m inp fuel a c := by
  obtain ⟨n, rfl⟩ := h
  obtain ⟨p, rfl⟩ := k
  exact ⟨n + p, iterC_add n p a⟩
theorem Reach.one (a : Cfg) : Reach m inp fuel a (stepC m inp fuel a) := ⟨1, rfl⟩
theorem Reach.tail (h : Reach m inp fuel a b) (e : stepC m inp fuel b = c) : Reach m inp fuel a c := h.trans (e ▸ Reach.one b)
theorem stepC_end {a : Cfg} (h : a.1.fin ≠ 0) : stepC m inp fuel a = a := by
  obtain ⟨s, K⟩ := a
  cases K with
  | nil => rfl
  | cons fr K => show (if s.fin ≠ 0 then _ else _) = _; rw [if_pos h]
theorem iterC_end {a : Cfg} (h : a.1.fin ≠ 0) : ∀ n, iterC m inp fuel n a = a
  | 0 => rfl
  | n + 1 => by
    show iterC m inp fuel n (stepC m inp fuel a) = a
    rw [stepC_end h]; exact iterC_end h n
theorem Reach.end_unique (h : Reach m inp fuel a b) (k : Reach m inp fuel a c) (hb : b.1.fin ≠ 0) (hc : c.1.fin ≠ 0) : b = c := by
  obtain ⟨n, rfl⟩ := h
  obtain ⟨p, rfl⟩ := k
  rcases Nat.le_total n p with hl | hl
  · obtain ⟨q, rfl⟩ : ∃ q, p = n + q := ⟨p - n, by omega⟩
    rw [iterC_add, iterC_end hb]
  · obtain ⟨q, rfl⟩ : ∃ q, n = p + q := ⟨n - p, by omega⟩
    rw [iterC_add, iterC_end hc]
theorem RunsTo.unique {r r' : MS} (h : RunsTo m inp fuel r) (k : RunsTo m inp fuel r') : r = r' := by
  obtain ⟨h1, K, h2⟩ := h
  obtain ⟨k1, K', k2⟩ := k
  exact congrArg Prod.fst (h2.end_unique k2 h1 k1)
theorem stepC_open {s : MS} {fr : Fr} {K : List Fr} (h : s.fin = 0) (hf : fuel ≤ (s.steps : Int)) : stepC m inp fuel (s, fr :: K) = (s.ended 5, fr :: K) := by
  show (if s.fin ≠ 0 then _ else if _ then _ else _) = _
  rw [if_neg (by simp [h]), if_pos hf]
theorem stepC_go {s : MS} {fr : Fr} {K : List Fr} (h : s.fin = 0) (hf : ¬ fuel ≤ (s.steps : Int)) : stepC m inp fuel (s, fr :: K) = stepF m inp s.step fr K := by
  show (if s.fin ≠ 0 then _ else if _ then _ else _) = _
  rw [if_neg (by simp [h]), if_neg hf]
end
end Go.Proofs.Ytlniohgnkihefaa
