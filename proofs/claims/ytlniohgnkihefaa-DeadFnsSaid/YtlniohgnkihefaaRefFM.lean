/- brazierref14.Fn: what lies in memory between its rounds. -/
import Derived.Test.YtlniohgnkihefaaDeadFM
import Derived.Test.YtlniohgnkihefaaRefLive
namespace Go.Proofs.Ytlniohgnkihefaa
open Go.RowKit
theorem run_firstCells_zero14 {P : Program} (w : World) (size : Nat) (A : Option Addr) (c : Nat) : (Builtin.firstCells size 0 (.slice A 0 c)).run P w = .ok #[] w := by
  cases A with
  | none => simp [Builtin.firstCells]
  | some a => exact run_firstCells_some (P := P) w size 0 a 0 c [] (by simp) (fun j u h => by simp at h)
theorem run_append_none14 {P : Program} (w : World) (t ty e : Nat) (i : TypeInfo) (ht : P.underlying t = some (.slice e)) (hi : P.info? e = some i)
    {v : Value} {r : Option Nat} {n : Nat} {xs : List Value} {size : Nat} (hown : RowAt w e size v r n xs) (A : Option Addr) (c : Nat) :
    (Builtin.append_ #[t, t] ty #[v, .slice A 0 c]).run P w = .ok v w := by
  rcases hown.2 with ⟨rfl, rfl, rfl⟩ | ⟨g, off, cap, cur, rfl, rfl, hg, hnc, hcm, hcs, htake⟩
  · cases A <;> simp [Builtin.append_, run_underlying ht, sizeOf, typeInfo, hi, Builtin.lenOf, run_firstCells_zero14]
  · cases A <;> simp [Builtin.append_, run_underlying ht, sizeOf, typeInfo, hi, Builtin.lenOf, hnc, run_firstCells_zero14, storeCells]
/-- append of a whole row, empty or not. -/
theorem wpList_append_any {P : Program} (w : World) {ops : Array Oper} {rest : List Oper} {o : Oper} {a : Act} {Q : Exit → Act → World → Prop} (hgd : o.guard = none) (s x : Operand) (t e : Nat) (z : Value) (size bytes : Nat)
    (ho : o.op = .call { callee := .builtin .append, args := #[s, x], argTypes := #[t, t] })
    (ht : P.underlying t = some (.slice e)) (hinfo : (P.info? e).map (fun i => (i.zero, i.size, i.bytes)) = some (some z, size, bytes)) (hz : z.cells.size = size)
    {v : Value} {r : Option Nat} {n : Nat} {xs : List Value} (HO : RowAt w e size v r n xs) (A : Option Addr) (m c : Nat) (news : List Value) (hln : news.length = m * size) (hr : 0 < m → ∃ g off, A = some ⟨g, off, none⟩ ∧ ∀ j u, news[j]? = some u → w.cell? ⟨g, off + j, none⟩ = some u)
    (h1 : ∀ u ∈ news, u.oneCell' = true) (hs : a.eval s = v) (hx : a.eval x = .slice A m c) (hl : (n + m) * bytes ≤ 140737488355328) (hn : n + m ≤ maxLen)
    (h : ∀ v' r' w', RowAt w' e size v' r' (n + m) (xs ++ news) → Chg (fun k => some k = r) w w' → NewOr w r r' → wpList P ops Q rest (a.put o.dst v') w') :
    wpList P ops Q (o :: rest) a w := by
  rcases Nat.eq_zero_or_pos m with h0 | h0
  · subst h0
    have hl0 : news = [] := List.eq_nil_of_length_eq_zero (by rw [hln, Nat.zero_mul])
    subst hl0
    obtain ⟨i0, hi, hz0, hz1, hz2⟩ := info_parts hinfo
    have hrun := run_append_none14 (P := P) w t o.type e i0 ht hi HO A c
    refine wpList_plain hgd fun K hK' => ?_
    unfold Oper.wp execOp
    simp only [ho, resolve, invoke, builtin, Sem.run_bind, Sem.run_pure, Result.andThen_ok, List.map_toArray, List.map_cons, List.map_nil, hs, hx, hrun]
    exact hK' _ _ (h v r w (by simpa using HO) (Chg.refl _ _) (NewOr.refl _ _))
  · obtain ⟨g, off, rfl, hc⟩ := hr h0
    exact wpList_append_row14 w hgd s x t e z size bytes ho ht hinfo hz HO ⟨g, off, none⟩ m c news hln (fun j u hu => by rw [Addr.add_lit]; exact hc j u hu) h1 hs hx hl hn h0 h
/-- Blocks that are there, their numbers in blocks of numbers or in memory below B. -/
def BlkMA (W : World) (B : Nat) (A : Option Addr) (l : List Blk) : Prop := ∃ bs : List BlkQ, bs.map BlkQ.k = l ∧ BlkRow W A bs ∧ ∀ b ∈ bs, ∃ xs : List InsQ, xs.map InsQ.k = b.k.ins ∧ InsRow W b.A xs ∧ ∀ x ∈ xs, ArgM W B x.A x.k.args
theorem BlkMA.mem {W : World} {B : Nat} {A : Option Addr} {l : List Blk} (h : BlkMA W B A l) : BlkMem W A l := by
  obtain ⟨bs, h1, h2, h3⟩ := h
  refine ⟨bs, h1, h2, fun b hb => ?_⟩
  obtain ⟨xs, k1, k2, k3⟩ := h3 b hb
  exact ⟨xs, k1, k2, fun x hx => (k3 x hx).reads⟩
theorem blkMA_of_mem {w : World} {A : Option Addr} {l : List Blk} (h : BlkMem w A l) : BlkMA w w.heap.size A l := by
  obtain ⟨bs, h1, h2, h3⟩ := h
  refine ⟨bs, h1, h2, fun b hb => ?_⟩
  obtain ⟨xs, k1, k2, k3⟩ := h3 b hb
  exact ⟨xs, k1, k2, fun x hx => .inr ⟨k3 x hx, fun hp g off e => (k3 x hx).lt (by simpa [ints] using hp) e⟩⟩
theorem BlkMA.below {W W' : World} {B : Nat} {A : Option Addr} {l : List Blk} (h : BlkMA W B A l) (hB : B ≤ W.heap.size) (hb : Below W.heap.size W W') : BlkMA W' B A l := by
  obtain ⟨bs, h1, h2, h3⟩ := h
  refine ⟨bs, h1, h2.below hb, fun b hb' => ?_⟩
  obtain ⟨xs, k1, k2, k3⟩ := h3 b hb'
  exact ⟨xs, k1, k2.below hb, fun x hx => (k3 x hx).ko (KO.of_below (b := true) hb hB)⟩
theorem BlkIn.ma {W : World} {B : Nat} {A : Option Addr} {l : List Blk} (h : BlkIn W B A l) : BlkMA W B A l := by
  obtain ⟨bs, h1, h2, h3⟩ := h
  refine ⟨bs, h1, fun hp => ?_, fun b hb => ?_⟩
  · obtain ⟨g, off, c, f, hA, hg, hc⟩ := h2 hp
    exact ⟨g, off, hA, lt_of_heap hg, fun i hi j v hv => by rw [cell_of_row _ _ _ _ _ _ hg]; exact hc i hi j v hv⟩
  · obtain ⟨xs, k1, k2, k3⟩ := h3 b hb
    refine ⟨xs, k1, fun hp => ?_, k3⟩
    obtain ⟨g, off, c, f, hA, hg, hc⟩ := k2 hp
    exact ⟨g, off, hA, lt_of_heap hg, fun i hi j v hv => by rw [cell_of_row _ _ _ _ _ _ hg]; exact hc i hi j v hv⟩
theorem blkMA_at {W : World} {B : Nat} {A : Option Addr} {ks : List Blk} (h : BlkMA W B A ks) (k : Nat) (hk : k < ks.length) : ∃ (g off : Nat) (x : BlkQ) (xs : List InsQ), A = some ⟨g, off, none⟩ ∧ x.k = ks[k] ∧ xs.map InsQ.k = x.k.ins ∧ InsRow W x.A xs ∧ (∀ y ∈ xs, ArgM W B y.A y.k.args) ∧ g < W.heap.size ∧
    W.cell? ⟨g, off + k * 5, none⟩ = some (.slice x.A x.k.ins.length x.c) ∧ W.cell? ⟨g, off + k * 5 + 1, none⟩ = some (.int .i64 x.k.kind) ∧ W.cell? ⟨g, off + k * 5 + 2, none⟩ = some (.int .i64 x.k.a) ∧ W.cell? ⟨g, off + k * 5 + 3, none⟩ = some (.int .i64 x.k.to) ∧ W.cell? ⟨g, off + k * 5 + 4, none⟩ = some (.int .i64 x.k.els) := by
  obtain ⟨bs, h1, h2, h3⟩ := h
  have hkb : k < bs.length := by rw [← h1, List.length_map] at hk; exact hk
  obtain ⟨g, off, hA, hg, hc⟩ := h2 (by omega)
  obtain ⟨xs, k1, k2, k3⟩ := h3 _ (List.getElem_mem hkb)
  exact ⟨g, off, bs[k], xs, hA, by simp only [← h1, List.getElem_map], k1, k2, k3, hg, hc k hkb 0 _ rfl, hc k hkb 1 _ rfl, hc k hkb 2 _ rfl, hc k hkb 3 _ rfl, hc k hkb 4 _ rfl⟩
/-- Between two rounds of the outer loop. -/
structure FnR (w : World) (bx : Nat) (f : Fn) (ks : List Blk) (A : Option Addr) (c : Nat) (W : World) : Prop where
  below : Below w.heap.size w W
  box : FnBox W bx f.name f.params f.regs (.slice A ks.length c)
  res : FnBox W (bx + 1) ⟨#[]⟩ 0 0 (.slice none 0 0)
  mem : BlkMA W w.heap.size A ks
  flow : FlowF ks
  data : DataF ks
  fin : finK ks = finK f.blocks
  len : ks.length = f.blocks.length
/-- A round is done. -/
theorem FnR.next {w W V : World} {bx : Nat} {f : Fn} {ks : List Blk} {A : Option Addr} {c : Nat} (h : FnR w bx f ks A c W) (hbx : bx = w.heap.size) (hb : Below W.heap.size W V) {A' : Option Addr} {c' : Nat} (hn : BlkIn V w.heap.size A' (nxt ks)) {V' : World}
    (hV : V' = (((V.setCell ⟨bx, 0, none⟩ (.string f.name)).setCell ⟨bx, 1, none⟩ (.int .i64 f.params)).setCell ⟨bx, 2, none⟩ (.int .i64 f.regs)).setCell ⟨bx, 3, none⟩ (.slice A' ks.length c')) :
    FnR w bx f (nxt ks) A' c' V' ∧ BlkIn V' w.heap.size A' (nxt ks) := by
  have hbox := h.box.below hb
  have hres := h.res.below hb
  have hS : Chg (fun k => k = bx) V V' := by rw [hV]; exact chg4
  have hVB := h.below.trans (hb.mono h.below.size)
  have hlen : (nxt ks).length = ks.length := nxtO_len _ _
  have hko : KO w.heap.size true V V' := KO.of_chg hS hVB.size fun k hk => by
    rw [hk]
    refine ⟨by omega, fun c t f e => ?_⟩
    rw [show V.heap[bx]? = _ from hbox] at e; cases e
    exact ⟨by decide, by decide, fun _ => by decide⟩
  have hin := hn.ko hko
  refine ⟨⟨hVB.trans (hS.below hVB.size fun k hk => by omega), ?_, hS.heap hres fun e => by omega, hin.ma, nxtO_flow h.flow, nxtO_data h.data h.flow, by rw [finK_nxt, h.fin], by rw [hlen, h.len]⟩, hin⟩
  rw [hlen, hV]
  exact box4 hbox
theorem FnR.out_ {w W W' : World} {bx : Nat} {f : Fn} {ks : List Blk} {A : Option Addr} {c : Nat} (h : FnR w bx f ks A c W) (hin : BlkIn W w.heap.size A ks) (hs : nxt ks = ks) (hbx : bx = w.heap.size) (hc : Chg (fun k => k = bx + 1) W W') :
    ks = finK f.blocks ∧ Below w.heap.size w W' ∧ BlkIn W' w.heap.size A (finK f.blocks) := by
  have he : ks = finK f.blocks := by rw [← h.fin, finK_same hs]
  refine ⟨he, h.below.trans (hc.below h.below.size fun k e => by omega), ?_⟩
  rw [← he]
  refine hin.ko (KO.of_chg hc h.below.size fun k e => ⟨by omega, fun c t f e2 => ?_⟩)
  rw [e, show W.heap[bx + 1]? = _ from h.res] at e2
  cases e2
  exact ⟨by decide, by decide, fun _ => by decide⟩
open Classical in
theorem stOf_outOf {ks : List Blk} {is os : List LM} (h : ∀ i, i < ks.length → (∀ n, stOf is i n = true ↔ LiveIn ks i n) ∧ ∀ n, stOf os i n = true ↔ LiveOut ks i n) : nxtO (stOf os) ks = nxt ks ∧ ∀ m, m ≤ ks.length → trnO (stOf os) ks m = trnO (outOf ks) ks m := by
  have key : ∀ i, i < ks.length → stOf os i = outOf ks i := fun i hi => by
    funext x
    have := (h i hi).2 x
    unfold outOf
    cases e : stOf os i x with
    | true => rw [decide_eq_true (this.1 e)]
    | false => rw [decide_eq_false fun hl => by rw [this.2 hl] at e; cases e]
  constructor
  · unfold nxt
    apply List.ext_getElem (by simp [nxtO])
    intro i h1 h2
    rw [nxtO_len] at h1
    rw [nxtO_at _ ks i h1, nxtO_at _ ks i h1, key i h1]
  · intro m
    induction m with
    | zero => intro _; rw [trnO_zero, trnO_zero]
    | succ m ih => intro hm; rw [trnO_succ _ _ _ (by omega), trnO_succ _ _ _ (by omega), ih (by omega), key m (by omega)]
theorem hasL_hasP {l : List Int} (h : Bnd l) (d : Int) : hasL l d = hasP (listP l) d := by
  unfold hasP listP
  by_cases hd : 0 ≤ d
  · rw [decide_eq_true hd, Bool.true_and, show ((d.toNat : Nat) : Int) = d from by omega]
  · rw [decide_eq_false hd, Bool.false_and]
    unfold hasL
    rw [List.any_eq_false]
    intro x hx
    have := h.1.2 x hx
    simp; omega
/-- A store of a slice into a cell that held one keeps what shows numbers. -/
theorem reads_store {W : World} {A : Option Addr} {l : List Int} {q : Nat} {A1 : Option Addr} {n1 c1 : Nat} (h : ReadsAt W A (ints l)) (hq : W.cell? ⟨q, 0, none⟩ = some (.slice A1 n1 c1)) (u : Value) : ReadsAt (W.setCell ⟨q, 0, none⟩ u) A (ints l) := by
  intro hp
  obtain ⟨g, off, hA, hg, hc⟩ := h hp
  refine ⟨g, off, hA, by simpa using hg, fun j v hv => ?_⟩
  have h1 := hc j v hv
  rw [World.cell?_setCell_other]
  · exact h1
  · intro e
    rw [← e, hq] at h1
    obtain ⟨z, _, hz⟩ := List.mem_map.1 (List.mem_of_getElem? hv)
    rw [← hz] at h1; cases h1
/-- Between two instructions. -/
structure RefI (Wc : World) (B q : Nat) (k : Blk) (S : Nat → Bool) (left : List Ins) (vc : Value) (rr : Option Nat) (A9 : Option Addr) (l : List Int) (W : World) : Prop where
  below : Below Wc.heap.size Wc W
  cbox : W.heap[q]? = some (.cells #[vc, .int .i64 k.kind, .int .i64 k.a, .int .i64 k.to, .int .i64 k.els] 45 (0, 0))
  row : ∃ xs : List InsQ, xs.map InsQ.k = left.reverse ∧ RowAt W 48 8 vc rr xs.length (insRowC xs) ∧ ∀ y ∈ xs, ArgM W B y.A y.k.args
  low : Wc.heap.size ≤ q ∧ ∀ j, rr = some j → Wc.heap.size ≤ j
  reads : ReadsAt W A9 (ints l)
  bnd : Bnd l
  set : listP l = S
section
variable {Wc W W' : World} {B q : Nat} {k : Blk} {S : Nat → Bool} {left : List Ins} {vc : Value} {rr : Option Nat} {A9 : Option Addr} {l : List Int}
theorem RefI.below_ (h : RefI Wc B q k S left vc rr A9 l W) (hB : B ≤ Wc.heap.size) (hb : Below W.heap.size W W') : RefI Wc B q k S left vc rr A9 l W' := by
  obtain ⟨xs, h1, h2, h3⟩ := h.row
  exact ⟨h.below.trans (hb.mono h.below.size), (hb.block q (lt_of_heap h.cbox)).trans h.cbox, ⟨xs, h1, h2.kept (Chg.of_below hb (fun _ => False)) (fun _ _ h => h), fun y hy => (h3 y hy).ko (KO.of_below (b := false) hb (Nat.le_trans hB h.below.size))⟩, h.low, readsBelow h.reads hb, h.bnd, h.set⟩
theorem RefI.list (h : RefI Wc B q k S left vc rr A9 l W) {A1 : Option Addr} {l1 : List Int} {S1 : Nat → Bool} (hr : ReadsAt W A1 (ints l1)) (hb : Bnd l1) (hs : listP l1 = S1) : RefI Wc B q k S1 left vc rr A1 l1 W := ⟨h.below, h.cbox, h.row, h.low, hr, hb, hs⟩
/-- The round's own box turns; it lies behind. -/
theorem RefI.mine (h : RefI Wc B q k S left vc rr A9 l W) (o : Obj) (j : Nat) (u : Value) (hB : B ≤ Wc.heap.size) : RefI Wc B q k S left vc rr A9 l ((W.alloc o).setCell ⟨W.heap.size, j, none⟩ u) := by
  refine h.below_ hB (((Below.refl _ W).alloc (Nat.le_refl _) o).trans ((Chg.store (W.alloc o) W.heap.size j u).below (by simp) fun i e => by rw [e]; exact Nat.le_refl _))
/-- One more instruction in front. -/
theorem RefI.push (h : RefI Wc B q k S left vc rr A9 l W) (hB : B ≤ Wc.heap.size) {xs : List InsQ} (he : xs.map InsQ.k = left.reverse) (ha : ∀ y ∈ xs, ArgM W B y.A y.k.args) {y : InsQ} (hy : ArgM W B y.A y.k.args) {nb : Nat} (hnb : W.heap.size ≤ nb) {v' : Value} {rr' : Option Nat} {n' : Nat}
    (hn' : n' = (y :: xs).length) (hR : RowAt W' 48 8 v' rr' n' (insRowC (y :: xs))) (hC : Chg (fun k => k = nb) W W') (hN : ∀ j, rr' = some j → W.heap.size ≤ j) {Av : Option Addr} {nv cv : Nat} (hvc : vc = .slice Av nv cv) :
    RefI Wc B q k S (left ++ [y.k]) v' rr' A9 l (W'.setCell ⟨q, 0, none⟩ v') := by
  have hb : Below W.heap.size W W' := hC.below (Nat.le_refl _) fun i e => by rw [e]; exact hnb
  have hq : W'.heap[q]? = some (.cells #[vc, .int .i64 k.kind, .int .i64 k.a, .int .i64 k.to, .int .i64 k.els] 45 (0, 0)) := (hb.block q (lt_of_heap h.cbox)).trans h.cbox
  have hS := Chg.store W' q 0 v'
  have hko : KO B false W (W'.setCell ⟨q, 0, none⟩ v') := by
    have hBW := Nat.le_trans hB h.below.size
    refine KO.of_chg (S := fun k => k = nb ∨ k = q) ((hC.mono fun _ _ e => .inl e).trans hS fun _ _ e => .inr e) hBW fun j hj => ?_
    rcases hj with rfl | rfl
    · exact ⟨Nat.le_trans hBW hnb, fun c t f e => by have := lt_of_heap e; omega⟩
    · refine ⟨Nat.le_trans hB h.low.1, fun c t f e => ?_⟩
      rw [h.cbox] at e; cases e
      exact ⟨by decide, by decide, fun e => by cases e⟩
  have hbt : Below Wc.heap.size Wc (W'.setCell ⟨q, 0, none⟩ v') := (h.below.trans (hb.mono h.below.size)).trans (hS.below (Nat.le_trans h.below.size hb.size) fun i e => by rw [e]; exact h.low.1)
  refine ⟨hbt, heap_setCell_same W' q 0 _ 45 v' hq, ⟨y :: xs, by simp [he], ?_, fun z hz => ?_⟩, ⟨h.low.1, fun j hj => Nat.le_trans h.below.size (hN j hj)⟩, ?_, h.bnd, h.set⟩
  · rw [← hn']
    exact hR.kept hS fun j hj e => row_ne_of_type hR hq (by decide) (by rw [hj, e])
  · rcases List.mem_cons.1 hz with rfl | hz
    · exact hy.ko hko
    · exact (ha z hz).ko hko
  · refine reads_store (readsBelow h.reads hb) (A1 := Av) (n1 := nv) (c1 := cv) ?_ v'
    rw [cell_of_row _ _ _ _ _ _ hq, hvc]; rfl
end
theorem ref_cases (x : Ins) (S : Nat → Bool) : (pureP x = true ∧ x.kind = 2 ∧ x.a = x.d) ∨ (pureP x = true ∧ x.kind = 2 ∧ x.a ≠ x.d ∧ hasP S x.d = false) ∨ (pureP x = true ∧ x.kind ≠ 2 ∧ hasP S x.d = false) ∨ (pureP x = true ∧ x.kind = 2 ∧ x.a ≠ x.d ∧ hasP S x.d = true) ∨ (pureP x = true ∧ x.kind ≠ 2 ∧ x.kind ≠ 7 ∧ hasP S x.d = true) ∨
    (pureP x = false ∧ x.kind = 7 ∧ 0 ≤ x.d ∧ hasP S x.d = false) ∨ (pureP x = false ∧ x.kind = 7 ∧ 0 ≤ x.d ∧ hasP S x.d = true) ∨ (pureP x = false ∧ x.kind = 7 ∧ x.d < 0 ∧ hasP S x.d = false) ∨ (pureP x = false ∧ x.kind ≠ 7 ∧ x.kind ≠ 2) := by
  have h2 : x.kind = 2 → pureP x = true := fun e => by unfold pureP; simp [e]
  rcases sw_cases x S with ⟨hp, hh⟩ | ⟨hp, hh, k2, ha⟩ | ⟨hp, hh, k2, ha⟩ | ⟨hp, hh, k2, k7⟩ | ⟨hp, k7, hd, hh⟩ | ⟨hp, k7, hd, hh⟩ | ⟨hp, k7, hd, hh⟩ | ⟨hp, k7⟩
  · by_cases k2 : x.kind = 2
    · by_cases ha : x.a = x.d
      · exact .inl ⟨hp, k2, ha⟩
      · exact .inr (.inl ⟨hp, k2, ha, hh⟩)
    · exact .inr (.inr (.inl ⟨hp, k2, hh⟩))
  · exact .inl ⟨hp, k2, ha⟩
  · exact .inr (.inr (.inr (.inl ⟨hp, k2, ha, hh⟩)))
  · exact .inr (.inr (.inr (.inr (.inl ⟨hp, k2, k7, hh⟩))))
  · exact .inr (.inr (.inr (.inr (.inr (.inl ⟨hp, k7, hd, hh⟩)))))
  · exact .inr (.inr (.inr (.inr (.inr (.inr (.inl ⟨hp, k7, hd, hh⟩))))))
  · exact .inr (.inr (.inr (.inr (.inr (.inr (.inr (.inl ⟨hp, k7, hd, hh⟩)))))))
  · refine .inr (.inr (.inr (.inr (.inr (.inr (.inr (.inr ⟨hp, k7, fun e => ?_⟩)))))))
    rw [h2 e] at hp; cases hp
theorem rowAt_new (W : World) (y : InsQ) : RowAt (W.alloc (.cells #[.int .i64 y.k.kind, .int .i64 y.k.op, .int .i64 y.k.d, .int .i64 y.k.a, .int .i64 y.k.b, .int .i32 y.k.num, .string y.k.name, .slice y.A y.k.args.length y.c] 48)) 48 8 (.slice (some ⟨W.heap.size, 0, none⟩) 1 1) (some W.heap.size) 1 (insQ y) :=
  ⟨rfl, .inr ⟨W.heap.size, 0, 1, _, rfl, rfl, heap_alloc_new W _, Nat.le_refl _, by unfold maxLen; omega, by simp, by simp [insQ, insCells]⟩⟩
theorem row_reads {W : World} {A : Option Addr} {c n : Nat} {r : Option Nat} {xs : List InsQ} (h : RowAt W 48 8 (.slice A n c) r n (insRowC xs)) : 0 < n → ∃ g off, A = some ⟨g, off, none⟩ ∧ ∀ j u, (insRowC xs)[j]? = some u → W.cell? ⟨g, off + j, none⟩ = some u := fun hp => by
  obtain ⟨g, off, cap, hv, _, _, _, _, hc, _⟩ := h.form hp
  injection hv with hA _ _
  exact ⟨g, off, hA, hc⟩
theorem insRowC_plain (xs : List InsQ) : ∀ u ∈ insRowC xs, u.oneCell' = true := by
  intro u hu
  unfold insRowC at hu
  obtain ⟨c, hc, hu⟩ := List.mem_flatten.1 hu
  obtain ⟨x, _, rfl⟩ := List.mem_map.1 hc
  exact insQ_plain x u hu
theorem insRow_at {W : World} {A : Option Addr} {xs : List InsQ} (h : InsRow W A xs) (p : Nat) (hp : p < xs.length) : ∃ (g off : Nat), A = some ⟨g, off, none⟩ ∧ g < W.heap.size ∧ Elt W g (off + p * 8) xs[p] := by
  obtain ⟨g, off, hA, hg, hc⟩ := h (by omega)
  exact ⟨g, off, hA, hg, hc p hp 0 _ rfl, hc p hp 1 _ rfl, hc p hp 2 _ rfl, hc p hp 3 _ rfl, hc p hp 4 _ rfl, hc p hp 5 _ rfl, hc p hp 6 _ rfl, hc p hp 7 _ rfl⟩
theorem Elt.below {W W' : World} {g o : Nat} {x : InsQ} (h : Elt W g o x) (hb : Below W.heap.size W W') : Elt W' g o x := by
  have k : ∀ {a : Addr} {v : Value}, W.cell? a = some v → W'.cell? a = some v := fun {a v} h => (hb.cell (p := a) (World.block_lt_of_cell? W a h)).trans h
  exact ⟨k h.1, k h.2.1, k h.2.2.1, k h.2.2.2.1, k h.2.2.2.2.1, k h.2.2.2.2.2.1, k h.2.2.2.2.2.2.1, k h.2.2.2.2.2.2.2⟩
theorem sw_len (k : Blk) (O : Nat → Bool) (xs : List Ins) : (swRun k O xs).left.length ≤ xs.length := (sw_cost k O xs).2.2.2.1
/-- The inner loop: m' instructions from the end are done. -/
def RefL (Wc : World) (B q : Nat) (x : BlkQ) (O : Nat → Bool) (tk : Bool) (a s9 v : Value) (W : World) : Prop := ∃ (m' : Nat) (A9 : Option Addr) (c9 : Nat) (l : List Int) (vc : Value) (rr : Option Nat), ((∃ p : Nat, v = .int .i64 (p : Nat) ∧ p + 1 + m' = x.k.ins.length) ∨ (v = .int .i64 (-1) ∧ m' = x.k.ins.length)) ∧
  a = .bool (tk || (swRun x.k O (x.k.ins.reverse.take m')).t) ∧ s9 = .slice A9 l.length c9 ∧ RefI Wc B q x.k (swRun x.k O (x.k.ins.reverse.take m')).S (swRun x.k O (x.k.ins.reverse.take m')).left vc rr A9 l W
theorem RefL.start {Wc : World} {B : Nat} {x : BlkQ} {m : List Int} {tk : Bool} {A9 : Option Addr} {c9 : Nat} (hr : ReadsAt Wc A9 (ints (beforeL x.k m))) (hb : Bnd m) (ha : x.k.a < 65536) :
    RefL Wc B Wc.heap.size x (listP m) tk (.bool tk) (.slice A9 (beforeL x.k m).length c9) (.int .i64 ((x.k.ins.length : Int) - 1)) (Wc.alloc (.cells #[.slice none 0 0, .int .i64 x.k.kind, .int .i64 x.k.a, .int .i64 x.k.to, .int .i64 x.k.els] 45)) := by
  have hal : Below Wc.heap.size Wc (Wc.alloc (.cells #[.slice none 0 0, .int .i64 x.k.kind, .int .i64 x.k.a, .int .i64 x.k.to, .int .i64 x.k.els] 45)) := (Below.refl _ _).alloc (Nat.le_refl _) _
  refine ⟨0, A9, c9, beforeL x.k m, .slice none 0 0, none, ?_, by simp [swRun], rfl, ⟨hal, heap_alloc_new Wc _, ⟨[], by simp [swRun], RowAt.nil _ _ _, fun _ h => by cases h⟩, ⟨Nat.le_refl _, fun _ h => by cases h⟩, readsBelow hr hal, hb.before ha, ?_⟩⟩
  · rcases Nat.eq_zero_or_pos x.k.ins.length with h | h
    · exact .inr ⟨by rw [h]; rfl, h.symm⟩
    · exact .inl ⟨x.k.ins.length - 1, by congr 1; omega, by omega⟩
  · simp only [List.take_zero, swRun, List.foldl_nil]
    exact funext fun n => listP_before x.k ha m n
theorem rev_take (l : List Ins) (m p : Nat) (h : p + 1 + m = l.length) (hp : p < l.length) : l.reverse.take (m + 1) = l.reverse.take m ++ [l[p]] := by
  have hm : m < l.reverse.length := by rw [List.length_reverse]; omega
  rw [List.take_succ_eq_append_getElem hm]
  congr 2
  rw [List.getElem_reverse]
  congr 1; omega
theorem idx_next {p m n : Nat} (h : p + 1 + m = n) : ((∃ p' : Nat, Value.int .i64 ((p : Int) - 1) = .int .i64 (p' : Nat) ∧ p' + 1 + (m + 1) = n) ∨ (Value.int .i64 ((p : Int) - 1) = .int .i64 (-1) ∧ m + 1 = n)) := by
  rcases Nat.eq_zero_or_pos p with h0 | h0
  · exact .inr ⟨by rw [h0]; rfl, by omega⟩
  · exact .inl ⟨p - 1, by congr 1; omega, by omega⟩
theorem RefL.next {Wc W : World} {B q : Nat} {x : BlkQ} {O : Nat → Bool} {tk t : Bool} {m p : Nat} {A9 : Option Addr} {c9 : Nat} {l : List Int} {vc : Value} {rr : Option Nat} (hp : p + 1 + m = x.k.ins.length) {st : Sw} (hs : swRun x.k O (x.k.ins.reverse.take (m + 1)) = st) (ht : t = (tk || st.t))
    (h : RefI Wc B q x.k st.S st.left vc rr A9 l W) : RefL Wc B q x O tk (.bool t) (.slice A9 l.length c9) (.int .i64 ((p : Int) - 1)) W :=
  ⟨m + 1, A9, c9, l, vc, rr, idx_next hp, by rw [ht, hs], rfl, by rw [hs]; exact h⟩
theorem nor_of {W : World} {rr' : Option Nat} {o : Obj} (hN : NewOr (W.alloc o) (some W.heap.size) rr') : ∀ j, rr' = some j → W.heap.size ≤ j := fun j hj => by
  rcases hN with e | ⟨k, e, hk⟩
  · rw [e] at hj; cases hj; exact Nat.le_refl _
  · rw [e] at hj; cases hj; simp at hk; omega
theorem BlkI2.store {W1 W : World} {B : Nat} {ks : List Blk} {O : St} {k : Nat} {v : Value} {rr : Option Nat} (h : BlkI2 W1 B ks O k v rr W) (hB : B ≤ W1.heap.size) {q : Nat} {c : Array Value} {f : Nat × Nat} (hq : W.heap[q]? = some (.cells c 31 f)) (hN : W1.heap.size ≤ q) (j : Nat) (u : Value) : BlkI2 W1 B ks O k v rr (W.setCell ⟨q, j, none⟩ u) := by
  have hS := Chg.store W q j u
  obtain ⟨xs, h1, h2, h3⟩ := h.row
  have hko : KO B false W (W.setCell ⟨q, j, none⟩ u) := KO.of_chg hS (Nat.le_trans hB h.below.size) fun i e => by
    rw [e]
    refine ⟨Nat.le_trans hB hN, fun c t f e2 => ?_⟩
    rw [hq] at e2; cases e2
    exact ⟨by decide, by decide, fun e => by cases e⟩
  exact ⟨h.below.trans (hS.below h.below.size fun i e => by rw [e]; exact hN), ⟨xs, h1, h2.kept hS fun i hi e => row_ne_of_type h2 hq (by decide) (by rw [hi, e]), fun y hy => (h3 y hy).ko hko⟩, h.low⟩
theorem swBlk_left {k : Blk} {O : Nat → Bool} {st : Sw} (h : st = swRun k O k.ins.reverse) : (swBlk k O).ins = st.left.reverse ∧ swT k O = st.t := by rw [h]; exact ⟨rfl, rfl⟩
end Go.Proofs.Ytlniohgnkihefaa
