/- dead.live: what stands between two blocks of a pass, and between two instructions. -/
import Derived.Test.YtlniohgnkihefaaLiveI
import Derived.Test.YtlniohgnkihefaaBackS
namespace Go.Proofs.Ytlniohgnkihefaa
open Go.RowKit

theorem KpW.put {Bn B : Nat} {A : Option Addr} (hB : Bn < B) (hA : ∀ g off, A = some ⟨g, off, none⟩ → g < B) (W : World) (l : Nat) (o' : Obj) (hl : B ≤ l) : KpW Bn A W (W.putObj l o') :=
  ⟨World.putObj_heap_other (by omega), fun g off e => World.putObj_heap_other (by have := hA g off e; omega)⟩
/-- Only where there is a round. -/
def KpG (N Bn : Nat) (A : Option Addr) (W W' : World) : Prop := 0 < N → KpW Bn A W W'
theorem KpG.trans {N Bn : Nat} {A : Option Addr} {X Y Z : World} (h : KpG N Bn A X Y) (k : KpG N Bn A Y Z) : KpG N Bn A X Z := fun hp => (h hp).trans (k hp)
theorem stops_guard {α : Type} {F : Fence} {n : Nat} {P : Program} {g : Nat} {lb : Array Value} {encs : α → Array Value} {S Sp : List α → Prop} {N Bn : Nat} {A : Option Addr} {w : World} (h : SeqStopsK F n P g lb encs (KpW Bn A) S Sp N w) :
    SeqStopsK F n P g lb encs (KpG N Bn A) S Sp N w := fun l J Jx W hW hJ hJx hY h0 =>
  h l J Jx W hW hJ hJx (fun pre x W1 hj hlt => (hY pre x W1 hj hlt).mono (by
    rintro e W' (⟨he, h1, h2⟩ | h1)
    · exact .inl ⟨he, h1, h2 (by omega)⟩
    · exact .inr h1)) h0
theorem blkRow_lt {w : World} {A : Option Addr} {bs : List BlkQ} (h : BlkRow w A bs) (hp : 0 < bs.length) : ∀ g off, A = some ⟨g, off, none⟩ → g < w.heap.size := fun g off e => by
  obtain ⟨g', off', e', h', _⟩ := h hp
  rw [e] at e'; cases e'; exact h'
theorem insRow_lt {w : World} {A : Option Addr} {bs : List InsQ} (h : InsRow w A bs) (hp : 0 < bs.length) : ∀ g off, A = some ⟨g, off, none⟩ → g < w.heap.size := fun g off e => by
  obtain ⟨g', off', e', h', _⟩ := h hp
  rw [e] at e'; cases e'; exact h'
def metR {β : Type} {bs : List β} (l : List (ElR bs)) : List Nat := (valsR l).map Prod.fst
/-- Between two blocks. -/
structure BlkI (w : World) (ks : List Blk) (bx bl bb n : Nat) (cF : Array Value) (vI vO : Value) (ds : List Deferred) (T0 Bn : Nat) (vB : Value) (b b2 : Bool) (ps : List BM) (met : List Nat) (W : World) : Prop where
  s : LvS w bx bl bb n cF vI vO b ps [] W
  pass : PassB 65536 ks n ps T0 b2 (fun j => j ∈ met)
  marks : Marks W ds
  bn : Boxed W Bn 29 vB
section
variable {w : World} {ks : List Blk} {bx bl bb n : Nat} {cF : Array Value} {vI vO : Value} {ds : List Deferred} {T0 Bn : Nat} {vB : Value} {b b2 : Bool} {ps : List BM} {met : List Nat}
theorem Boxed.own1 {X Y : World} {Bn t : Nat} {v : Value} {row : Option Nat} (h : Boxed X Bn t v) (hg : X.grownBy Y row) (hr : ∀ r, row = some r → ∃ o : Obj, X.heap[r]? = some o ∧ o.isCells = false) : Boxed Y Bn t v :=
  ((own_chg hg).block Bn (lt_of_heap h) (own_ne hr h)).trans h
theorem BlkI.own {X Y : World} {row : Option Nat} (h : BlkI w ks bx bl bb n cF vI vO ds T0 Bn vB b b2 ps met X) (hg : X.grownBy Y row) {B : Nat} (hr : ∀ r, row = some r → B ≤ r ∧ ∃ o : Obj, X.heap[r]? = some o ∧ o.isCells = false)
    (hB : w.heap.size ≤ B) (hds : ∀ d ∈ ds, ∀ E, d.target = .collected E → E < B) : BlkI w ks bx bl bb n cF vI vO ds T0 Bn vB b b2 ps met Y :=
  ⟨h.s.own hg fun r e => ⟨Nat.le_trans hB (hr r e).1, (hr r e).2⟩, h.pass, h.marks.grown hg fun r e d hd E hE => by have := (hr r e).1; have := hds d hd E hE; omega, Boxed.own1 h.bn hg fun r e => (hr r e).2⟩
theorem BlkI.below {W W' : World} (h : BlkI w ks bx bl bb n cF vI vO ds T0 Bn vB b b2 ps met W) (hb : Below W.heap.size W W') : BlkI w ks bx bl bb n cF vI vO ds T0 Bn vB b b2 ps met W' :=
  ⟨h.s.below hb, h.pass, h.marks.kt (KT.of_below hb), Boxed.kt h.bn (KT.of_below hb) (by decide)⟩
end
theorem BlkI.done {w Z : World} {ks : List Blk} {bx bl bb n : Nat} {cF : Array Value} {vI vO : Value} {ds : List Deferred} {Bn : Nat} {vB : Value} {b : Bool} {ps0 ps : List BM} {bs : List BlkQ} {xs : List (ElR bs)} {B D gk : Nat}
    (h : BlkI w ks bx bl bb n cF vI vO ds (totB 65536 ps0) Bn vB b b ps (metR xs) Z) (hS : valsR xs = revI bs) (hD : Z.heap[D]? = some (.deferred (some []))) (hBD : B ≤ D) (hB : w.heap.size ≤ B) (hds : ∀ d ∈ ds, ∀ E, d.target = .collected E → E < B) (hlow : ∀ d ∈ ds, ∀ E, d.target = .collected E → w.heap.size ≤ E)
    (hbs : bs.length = ks.length) (hgk : gk = 2 * (2 * n * 65536 - totB 65536 ps0) + 1) :
    2 * (2 * n * 65536 - totB 65536 ps) + (if b = true then 1 else 0) < gk ∧
      LvO w ks bx bl Z.heap.size n cF vI vO b ps ({ target := .collected D, args := #[] } :: ds) (2 * (2 * n * 65536 - totB 65536 ps) + (if b = true then 1 else 0)) (Z.alloc (.cells #[.bool b] 4)) := by
  have hal : Below Z.heap.size Z (Z.alloc (.cells #[.bool b] 4)) := (Below.refl _ _).alloc (Nat.le_refl _) _
  have hle := totB_le 65536 ps
  rw [h.s.flow.len] at hle
  have hge := h.pass.ge
  refine ⟨?_, h.s.turn b, .cons D ds ((hal.block D (lt_of_heap hD)).trans hD) (fun d hd E hE => by have := hds d hd E hE; omega) (h.marks.kt (KT.of_below hal)), fun d hd E hE => ?_, h.pass.way, fun e j => ?_, rfl⟩
  · cases b with
    | true => have := h.pass.gt rfl; rw [if_pos rfl]; omega
    | false => rw [if_neg (by simp)]; omega
  · rcases List.mem_cons.1 hd with rfl | hd
    · cases hE; omega
    · exact hlow d hd E hE
  · intro hj
    refine h.pass.cl e j ?_ hj
    unfold metR
    rw [hS]
    exact List.mem_map.2 ⟨_, revI_has bs j (by rw [hbs]; exact hj), rfl⟩
theorem next_lt {m : Nat} {k : Blk} (h : BlkF m k) : ∀ t ∈ nextP k, 0 ≤ t ∧ t.toNat < m := by
  intro t ht
  have h1 := h.to
  have h2 := h.els
  unfold nextP at ht
  rcases h.kind with e | e | e <;> rw [e] at ht h1 h2 <;> simp at ht h1 h2
  · omega
  · rcases ht with rfl | rfl <;> omega
theorem map_b_set (ps : List BM) (i : Nat) {q : Nat} {r0 : Option Nat} {w0 : List Nat} (h : ps[i]? = some ⟨q, r0, w0⟩) (r : Option Nat) (ws : List Nat) : (ps.set i ⟨q, r, ws⟩).map BM.b = ps.map BM.b := by
  rw [List.map_set]
  apply List.ext_getElem (by simp)
  intro j h1 h2
  by_cases e : i = j
  · subst e
    obtain ⟨hi, he⟩ := List.getElem?_eq_some_iff.1 h
    rw [List.getElem_set_self, List.getElem_map, he]
  · rw [List.getElem_set_ne e]
def Sel (bl bb gI oI gO oO cI cO n xO xI bO bI : Nat) (b : Bool) (Y : World) : Prop :=
  Y.cell? ⟨bl, 0, none⟩ = some (.slice (some ⟨gI, oI, none⟩) n cI) ∧ Y.cell? ⟨bl, 1, none⟩ = some (.slice (some ⟨gO, oO, none⟩) n cO) ∧ Y.cell? ⟨gO, xO, none⟩ = some (.pointer (some ⟨bO, 0, none⟩)) ∧ Y.cell? ⟨gI, xI, none⟩ = some (.pointer (some ⟨bI, 0, none⟩)) ∧ Y.cell? ⟨bb, 0, none⟩ = some (.bool b)
theorem LvS.sel {w W : World} {bx bl bb n : Nat} {cF : Array Value} {gI oI cI gO oO cO : Nat} {b : Bool} {ps ex : List BM} (h : LvS w bx bl bb n cF (.slice (some ⟨gI, oI, none⟩) n cI) (.slice (some ⟨gO, oO, none⟩) n cO) b ps ex W) {i t bO bI : Nat} (hi : i < n) (ht : t < n)
    (hO : (ps.map BM.b)[n + i]? = some bO) (hI : (ps.map BM.b)[t]? = some bI) : Sel bl bb gI oI gO oO cI cO n (oO + i) (oI + t) bO bI b W := by
  have hl := h.flow.len
  have h1 := h.cellO i hi (by omega)
  have h2 := h.cellI t ht (by omega)
  rw [List.getElem?_map, List.getElem?_eq_getElem (by omega)] at hO hI
  injection hO with hO
  injection hI with hI
  rw [hO] at h1; rw [hI] at h2
  exact ⟨h.cells.1, h.cells.2.1, h1, h2, h.cells.2.2⟩
section
variable {w W W' : World} {ks : List Blk} {bx bl bb n : Nat} {cF : Array Value} {vI vO : Value} {ds : List Deferred} {T0 Bn : Nat} {vB : Value} {b b2 : Bool} {ps : List BM} {met : List Nat}
theorem BlkI.join (h : BlkI w ks bx bl bb n cF vI vO ds T0 Bn vB b b2 ps met W) (hn : n = ks.length) {i : Nat} (hi : i < ks.length) {t : Int} {tn : Nat} (ht : t ∈ nextP ks[i]) (et : t = (tn : Int)) (htn : tn < n) {bO bI : Nat} {rO rI rJ : Option Nat} {wsO wsI wsJ : List Nat}
    (hO : ps[n + i]? = some ⟨bO, rO, wsO⟩) (hI : ps[tn]? = some ⟨bI, rI, wsI⟩) (g : GrowAt W bO rO wsO W' rJ wsJ) (hm : ∀ x, memW wsJ x = (memW wsO x || memW wsI x)) :
    BlkI w ks bx bl bb n cF vI vO ds T0 Bn vB b (newTo wsO wsI wsI.length || b2) (ps.set (n + i) ⟨bO, rJ, wsJ⟩) met W' ∧ KT W W' ∧
      Sub (inS n (ps.set (n + i) ⟨bO, rJ, wsJ⟩) tn) (outS n (ps.set (n + i) ⟨bO, rJ, wsJ⟩) i) ∧ Sub (outS n ps i) (outS n (ps.set (n + i) ⟨bO, rJ, wsJ⟩) i) ∧ inS n (ps.set (n + i) ⟨bO, rJ, wsJ⟩) = inS n ps := by
  obtain ⟨h1, e1⟩ := List.getElem?_eq_some_iff.1 hO
  obtain ⟨h2, e2⟩ := List.getElem?_eq_some_iff.1 hI
  have et2 : t.toNat = tn := by omega
  have hb2 := (h.s.flow.at_ tn h2).len
  rw [e2] at hb2
  obtain ⟨s1, k1⟩ := h.s.grow (n + i) h1 (r' := rJ) (ws' := wsJ) (by rw [e1]; exact g)
  have hp := h.pass.joinO hn h.s.flow.len hi (t := t) ht (by omega) (r := rJ) (ws' := wsJ) h1 (by omega) (by simp only [et2, e2]; dsimp only at hb2; omega) (by simp only [et2, e1, e2]; exact hm)
  simp only [et2, e1, e2] at hp s1
  exact ⟨⟨s1, hp.1, h.marks.kt k1, Boxed.kt h.bn k1 (by decide)⟩, k1, hp.2⟩
theorem BlkI.store (h : BlkI w ks bx bl bb n cF vI vO ds T0 Bn vB b b2 ps met W) : BlkI w ks bx bl bb n cF vI vO ds T0 Bn vB b2 b2 ps met (W.setCell ⟨bb, 0, none⟩ (.bool b2)) ∧ KT W (W.setCell ⟨bb, 0, none⟩ (.bool b2)) := by
  obtain ⟨s1, k1⟩ := h.s.store b2
  exact ⟨⟨s1, h.pass, h.marks.kt k1, Boxed.kt h.bn k1 (by decide)⟩, k1⟩
end
/-- A block's box, as a round has it. -/
def BlkBox (W : World) (q : Nat) (x : BlkQ) : Prop := W.heap[q]? = some (.cells #[.slice x.A x.k.ins.length x.c, .int .i64 x.k.kind, .int .i64 x.k.a, .int .i64 x.k.to, .int .i64 x.k.els] 45 (0, 0))
theorem BlkBox.kt {W W' : World} {q : Nat} {x : BlkQ} (h : BlkBox W q x) (k : KT W W') : BlkBox W' q x := k.blk q _ h (by rintro ⟨c, f, h | h | h⟩ <;> cases h)
theorem BlkBox.own {X Y : World} {q : Nat} {x : BlkQ} {row : Option Nat} (h : BlkBox X q x) (hg : X.grownBy Y row) (hr : ∀ r, row = some r → ∃ o : Obj, X.heap[r]? = some o ∧ o.isCells = false) : BlkBox Y q x :=
  ((own_chg hg).block q (lt_of_heap h) (own_ne hr h)).trans h
def InsBox (W : World) (q : Nat) (x : InsQ) : Prop := W.heap[q]? = some (.cells #[.int .i64 x.k.kind, .int .i64 x.k.op, .int .i64 x.k.d, .int .i64 x.k.a, .int .i64 x.k.b, .int .i32 x.k.num, .string x.k.name, .slice x.A x.k.args.length x.c] 48 (0, 0))
theorem InsBox.own {X Y : World} {q : Nat} {x : InsQ} {row : Option Nat} (h : InsBox X q x) (hg : X.grownBy Y row) (hr : ∀ r, row = some r → ∃ o : Obj, X.heap[r]? = some o ∧ o.isCells = false) : InsBox Y q x :=
  ((own_chg hg).block q (lt_of_heap h) (own_ne hr h)).trans h
def SelE (bl gO oO cO n xO bO q : Nat) (x : BlkQ) (Y : World) : Prop :=
  (Y.cell? ⟨q, 0, none⟩ = some (.slice x.A x.k.ins.length x.c) ∧ Y.cell? ⟨q, 1, none⟩ = some (.int .i64 x.k.kind) ∧ Y.cell? ⟨q, 2, none⟩ = some (.int .i64 x.k.a) ∧ Y.cell? ⟨q, 3, none⟩ = some (.int .i64 x.k.to) ∧ Y.cell? ⟨q, 4, none⟩ = some (.int .i64 x.k.els)) ∧
  Y.cell? ⟨bl, 1, none⟩ = some (.slice (some ⟨gO, oO, none⟩) n cO) ∧ Y.cell? ⟨gO, xO, none⟩ = some (.pointer (some ⟨bO, 0, none⟩))
theorem BlkBox.cells {W : World} {q : Nat} {x : BlkQ} (h : BlkBox W q x) : W.cell? ⟨q, 0, none⟩ = some (.slice x.A x.k.ins.length x.c) ∧ W.cell? ⟨q, 1, none⟩ = some (.int .i64 x.k.kind) ∧ W.cell? ⟨q, 2, none⟩ = some (.int .i64 x.k.a) ∧ W.cell? ⟨q, 3, none⟩ = some (.int .i64 x.k.to) ∧ W.cell? ⟨q, 4, none⟩ = some (.int .i64 x.k.els) := by
  refine ⟨?_, ?_, ?_, ?_, ?_⟩ <;> (rw [cell_of_row _ _ _ _ _ _ h]; rfl)
theorem LvS.selE {w W : World} {bx bl bb n : Nat} {cF : Array Value} {vI : Value} {gO oO cO : Nat} {b : Bool} {ps ex : List BM} (h : LvS w bx bl bb n cF vI (.slice (some ⟨gO, oO, none⟩) n cO) b ps ex W) {i bO q : Nat} {x : BlkQ} (hi : i < n)
    (hO : (ps.map BM.b)[n + i]? = some bO) (hq : BlkBox W q x) : SelE bl gO oO cO n (oO + i) bO q x W := by
  have hl := h.flow.len
  have h1 := h.cellO i hi (by omega)
  rw [List.getElem?_map, List.getElem?_eq_getElem (by omega)] at hO
  injection hO with hO
  rw [hO] at h1
  exact ⟨hq.cells, h.cells.2.1, h1⟩
theorem selE_below {bl gO oO cO n xO bO q : Nat} {x : BlkQ} {Y Y' : World} (h : SelE bl gO oO cO n xO bO q x Y) (hb : Below Y.heap.size Y Y') : SelE bl gO oO cO n xO bO q x Y' := by
  have k : ∀ {a : Addr} {v : Value}, Y.cell? a = some v → Y'.cell? a = some v := fun {a v} h => (hb.cell (p := a) (World.block_lt_of_cell? Y a h)).trans h
  exact ⟨⟨k h.1.1, k h.1.2.1, k h.1.2.2.1, k h.1.2.2.2.1, k h.1.2.2.2.2⟩, k h.2.1, k h.2.2⟩
theorem bits_below {W W' : World} {q : Nat} {r : Option Nat} {ws : List Nat} (h : BitsAt W q r ws) (hb : Below W.heap.size W W') : BitsAt W' q r ws := h.kept (Chg.of_below hb (fun _ => False)) (fun h => h) (fun _ _ h => h)
/-- The data's own bounds. -/
def DataF (ks : List Blk) : Prop := ∀ k ∈ ks, BlkOk k ∧ ∀ x ∈ k.ins, InsOk x
/-- Within a block: the set that is turned beside. -/
structure BlkE (w : World) (ks : List Blk) (bx bl bb n : Nat) (cF : Array Value) (vI vO : Value) (ds : List Deferred) (T0 Bn : Nat) (vB : Value) (b : Bool) (ps : List BM) (se : BM) (B9 : Nat) (met : List Nat) (W : World) : Prop where
  s : LvS w bx bl bb n cF vI vO b ps [se] W
  pass : PassB 65536 ks n ps T0 b (fun j => j ∈ met)
  marks : Marks W ds
  bn : Boxed W Bn 29 vB
  b9 : Boxed W B9 65 (.pointer (some ⟨se.b, 0, none⟩))
theorem NewBits.alloc {w w' : World} {q : Nat} {r : Option Nat} {ws : List Nat} (h : NewBits w w' q r ws) (o : Obj) : NewBits w (w'.alloc o) q r ws :=
  ⟨h.at_.kept ((Chg.refl (fun _ => False) w').alloc o) (fun h => h) (fun _ _ h => h), h.below.alloc h.below.size o, h.nb, h.nr⟩
theorem NewBits.before {w w' : World} {q : Nat} {r : Option Nat} {ws : List Nat} {o : Obj} (h : NewBits (w.alloc o) w' q r ws) (u : Value) : NewBits w (w'.setCell ⟨w.heap.size, 0, none⟩ u) q r ws := by
  have hs : (w.alloc o).heap.size = w.heap.size + 1 := by simp
  have h1 := h.nb
  have h2 := h.nr
  rw [hs] at h1 h2
  have hb : Below w.heap.size w w' := ((Below.refl _ w).alloc (Nat.le_refl _) o).trans (h.below.mono (by simp))
  exact ⟨h.at_.kept (Chg.store w' w.heap.size 0 u) (fun e => by omega) (fun k hk e => by have := h2 k hk; omega), hb.trans ((Chg.store w' w.heap.size 0 u).below hb.size fun i e => by rw [e]; exact Nat.le_refl _), by omega, fun k hk => by have := h2 k hk; omega⟩
section
variable {w W W' : World} {ks : List Blk} {bx bl bb n : Nat} {cF : Array Value} {vI vO : Value} {ds : List Deferred} {T0 Bn : Nat} {vB : Value} {b : Bool} {ps : List BM} {met : List Nat}
theorem BlkI.push (h : BlkI w ks bx bl bb n cF vI vO ds T0 Bn vB b b ps met W) {s B9 : Nat} {r : Option Nat} {ws : List Nat} (g : NewBits W W' s r ws) (h9 : Boxed W' B9 65 (.pointer (some ⟨s, 0, none⟩))) :
    BlkE w ks bx bl bb n cF vI vO ds T0 Bn vB b ps ⟨s, r, ws⟩ B9 met W' ∧ KT W W' :=
  ⟨⟨h.s.push g, h.pass, h.marks.kt (KT.of_below g.below), Boxed.kt h.bn (KT.of_below g.below) (by decide), h9⟩, KT.of_below g.below⟩
theorem BlkE.below {s : BM} {B9 : Nat} (h : BlkE w ks bx bl bb n cF vI vO ds T0 Bn vB b ps s B9 met W) (hb : Below W.heap.size W W') : BlkE w ks bx bl bb n cF vI vO ds T0 Bn vB b ps s B9 met W' :=
  ⟨h.s.below hb, h.pass, h.marks.kt (KT.of_below hb), Boxed.kt h.bn (KT.of_below hb) (by decide), Boxed.kt h.b9 (KT.of_below hb) (by decide)⟩
theorem BlkE.grow {s : BM} {B9 : Nat} (h : BlkE w ks bx bl bb n cF vI vO ds T0 Bn vB b ps s B9 met W) {r' : Option Nat} {ws' : List Nat} (g : GrowAt W s.b s.r s.ws W' r' ws') : BlkE w ks bx bl bb n cF vI vO ds T0 Bn vB b ps ⟨s.b, r', ws'⟩ B9 met W' ∧ KT W W' := by
  obtain ⟨s1, k1⟩ := h.s.growX g
  exact ⟨⟨s1, h.pass, h.marks.kt k1, Boxed.kt h.bn k1 (by decide), Boxed.kt h.b9 k1 (by decide)⟩, k1⟩
theorem BlkE.own {s : BM} {B9 : Nat} {row : Option Nat} (h : BlkE w ks bx bl bb n cF vI vO ds T0 Bn vB b ps s B9 met W) (hg : W.grownBy W' row) {B : Nat} (hr : ∀ r, row = some r → B ≤ r ∧ ∃ o : Obj, W.heap[r]? = some o ∧ o.isCells = false)
    (hB : w.heap.size ≤ B) (hds : ∀ d ∈ ds, ∀ E, d.target = .collected E → E < B) : BlkE w ks bx bl bb n cF vI vO ds T0 Bn vB b ps s B9 met W' :=
  ⟨h.s.own hg fun r e => ⟨Nat.le_trans hB (hr r e).1, (hr r e).2⟩, h.pass, h.marks.grown hg fun r e d hd E hE => by have := (hr r e).1; have := hds d hd E hE; omega, Boxed.own1 h.bn hg fun r e => (hr r e).2, Boxed.own1 h.b9 hg fun r e => (hr r e).2⟩
end
theorem InsBox.cells {W : World} {q : Nat} {x : InsQ} (h : InsBox W q x) : W.cell? ⟨q, 0, none⟩ = some (.int .i64 x.k.kind) ∧ W.cell? ⟨q, 1, none⟩ = some (.int .i64 x.k.op) ∧ W.cell? ⟨q, 2, none⟩ = some (.int .i64 x.k.d) ∧ W.cell? ⟨q, 3, none⟩ = some (.int .i64 x.k.a) ∧ W.cell? ⟨q, 4, none⟩ = some (.int .i64 x.k.b) ∧
    W.cell? ⟨q, 5, none⟩ = some (.int .i32 x.k.num) ∧ W.cell? ⟨q, 6, none⟩ = some (.string x.k.name) ∧ W.cell? ⟨q, 7, none⟩ = some (.slice x.A x.k.args.length x.c) := by
  refine ⟨?_, ?_, ?_, ?_, ?_, ?_, ?_, ?_⟩ <;> (rw [cell_of_row _ _ _ _ _ _ h]; rfl)
def foldA (l : List (Nat × InsQ)) (S : Nat → Bool) : Nat → Bool := l.foldl (fun S q => aheadP q.2.k S) S
theorem foldA_snoc (l : List (Nat × InsQ)) (q : Nat × InsQ) (S : Nat → Bool) : foldA (l ++ [q]) S = aheadP q.2.k (foldA l S) := by simp [foldA]
theorem foldA_all (xs : List InsQ) (k : Blk) (h : xs.map InsQ.k = k.ins) (S : Nat → Bool) : foldA (revI xs) (endP k S) = blkP k S := by
  unfold foldA blkP tailP
  rw [rev_fold InsQ.k, h]
/-- Between two instructions of a block. -/
structure InsI (w : World) (ks : List Blk) (bx bl bb n : Nat) (cF : Array Value) (vI vO : Value) (ds : List Deferred) (T0 Bn : Nat) (vB : Value) (b : Bool) (ps : List BM) (s B9 : Nat) (met : List Nat) (V2 : World) (Bn2 : Nat) (v2 : Value) (S : Nat → Bool) (W : World) : Prop where
  ex : ∃ (r : Option Nat) (ws : List Nat), BlkE w ks bx bl bb n cF vI vO ds T0 Bn vB b ps ⟨s, r, ws⟩ B9 met W ∧ memW ws = S
  kt : KT V2 W
  bn : Boxed W Bn2 43 v2
section
variable {w W W' V2 : World} {ks : List Blk} {bx bl bb n : Nat} {cF : Array Value} {vI vO : Value} {ds : List Deferred} {T0 Bn : Nat} {vB : Value} {b : Bool} {ps : List BM} {s B9 Bn2 : Nat} {v2 : Value} {met : List Nat} {S : Nat → Bool}
theorem InsI.below (h : InsI w ks bx bl bb n cF vI vO ds T0 Bn vB b ps s B9 met V2 Bn2 v2 S W) (hb : Below W.heap.size W W') : InsI w ks bx bl bb n cF vI vO ds T0 Bn vB b ps s B9 met V2 Bn2 v2 S W' := by
  obtain ⟨⟨r, ws, h1, h2⟩, h3, h4⟩ := h
  exact ⟨⟨r, ws, h1.below hb, h2⟩, h3.trans (KT.of_below hb), Boxed.kt h4 (KT.of_below hb) (by decide)⟩
theorem InsI.own {row : Option Nat} (h : InsI w ks bx bl bb n cF vI vO ds T0 Bn vB b ps s B9 met V2 Bn2 v2 S W) (hg : W.grownBy W' row) (hr : ∀ r, row = some r → V2.heap.size ≤ r ∧ ∃ o : Obj, W.heap[r]? = some o ∧ o.isCells = false)
    (hB : w.heap.size ≤ V2.heap.size) (hds : ∀ d ∈ ds, ∀ E, d.target = .collected E → E < V2.heap.size) : InsI w ks bx bl bb n cF vI vO ds T0 Bn vB b ps s B9 met V2 Bn2 v2 S W' := by
  obtain ⟨⟨r, ws, h1, h2⟩, h3, h4⟩ := h
  exact ⟨⟨r, ws, h1.own hg hr hB hds, h2⟩, h3.own hg fun r e => (hr r e).1, Boxed.own1 h4 hg fun r e => (hr r e).2⟩
/-- One instruction. -/
theorem InsI.step {r r' : Option Nat} {ws ws' : List Nat} {x : Ins} (h : BlkE w ks bx bl bb n cF vI vO ds T0 Bn vB b ps ⟨s, r, ws⟩ B9 met W) (hk : KT V2 W) (hb : Boxed W Bn2 43 v2) (hm : memW ws = S)
    (g : GrowAt W s r ws W' r' ws') (hm' : ∀ n, memW ws' n = aheadP x (memW ws) n) : InsI w ks bx bl bb n cF vI vO ds T0 Bn vB b ps s B9 met V2 Bn2 v2 (aheadP x S) W' ∧ KT W W' := by
  obtain ⟨h1, k1⟩ := h.grow g
  exact ⟨⟨⟨r', ws', h1, by rw [← hm]; exact funext hm'⟩, hk.trans k1, Boxed.kt hb k1 (by decide)⟩, k1⟩
def SelD (bl bb gI oI cI n xI bI B9 s : Nat) (b : Bool) (Y : World) : Prop :=
  Y.cell? ⟨bl, 0, none⟩ = some (.slice (some ⟨gI, oI, none⟩) n cI) ∧ Y.cell? ⟨gI, xI, none⟩ = some (.pointer (some ⟨bI, 0, none⟩)) ∧ Y.cell? ⟨B9, 0, none⟩ = some (.pointer (some ⟨s, 0, none⟩)) ∧ Y.cell? ⟨bb, 0, none⟩ = some (.bool b)
theorem LvS.selD {gI oI cI : Nat} {ex : List BM} (h : LvS w bx bl bb n cF (.slice (some ⟨gI, oI, none⟩) n cI) vO b ps ex W) {i bI : Nat} (hi : i < n) (hI : (ps.map BM.b)[i]? = some bI) (h9 : Boxed W B9 65 (.pointer (some ⟨s, 0, none⟩))) : SelD bl bb gI oI cI n (oI + i) bI B9 s b W := by
  have hl := h.flow.len
  have h2 := h.cellI i hi (by omega)
  rw [List.getElem?_map, List.getElem?_eq_getElem (by omega)] at hI
  injection hI with hI
  rw [hI] at h2
  exact ⟨h.cells.1, h2, Boxed.cell h9, h.cells.2.2⟩
/-- The set at the block's beginning takes in what was gathered; the result is stored. -/
theorem BlkE.joinI {r : Option Nat} {ws : List Nat} (h : BlkE w ks bx bl bb n cF vI vO ds T0 Bn vB b ps ⟨s, r, ws⟩ B9 met W) (hn : n = ks.length) {i : Nat} (hi : i < ks.length) {bI : Nat} {rI rJ : Option Nat} {wsI wsJ : List Nat}
    (hI : ps[i]? = some ⟨bI, rI, wsI⟩) (hc : memW ws = blkP ks[i] (outS n ps i)) (hs : ∀ t ∈ nextP ks[i], Sub (inS n ps t.toNat) (outS n ps i)) (g : GrowAt W bI rI wsI W' rJ wsJ) (hm : ∀ x, memW wsJ x = (memW wsI x || memW ws x)) :
    BlkI w ks bx bl bb n cF vI vO ds T0 Bn vB b (newTo wsI ws ws.length || b) (ps.set i ⟨bI, rJ, wsJ⟩) (met ++ [i]) W' ∧ KT W W' ∧ Boxed W' B9 65 (.pointer (some ⟨s, 0, none⟩)) := by
  obtain ⟨h1, e1⟩ := List.getElem?_eq_some_iff.1 hI
  have hb2 := (h.s.flow.sets.at_ ⟨s, r, ws⟩ (by simp)).len
  obtain ⟨s1, k1⟩ := h.s.grow i h1 (r' := rJ) (ws' := wsJ) (by rw [e1]; exact g)
  have hp := h.pass.joinI hn h.s.flow.len hi (r := rJ) (ws' := wsJ) (wc := ws) h1 (by dsimp only at hb2; omega) hc (by rw [e1]; exact hm) hs
  simp only [e1] at hp s1
  refine ⟨⟨s1.pop, ⟨hp.way, hp.ge, hp.gt, fun e j hj => hp.cl e j ?_⟩, h.marks.kt k1, Boxed.kt h.bn k1 (by decide)⟩, k1, Boxed.kt h.b9 k1 (by decide)⟩
  rcases List.mem_append.1 hj with hj | hj
  · exact .inl hj
  · exact .inr (List.mem_singleton.1 hj)
end
theorem metR_snoc {β : Type} {bs : List β} (l : List (ElR bs)) (x : ElR bs) : metR (l ++ [x]) = metR l ++ [x.1.1] := by unfold metR; rw [valsR_snoc]; simp
end Go.Proofs.Ytlniohgnkihefaa
