/- The data of the middle layers (instructions, blocks, functions, programs of blocks) as plain structures, and how memory shows them. -/
import Derived.Deep.Slices
import Derived.Deep.Fields
import Derived.Test.YtnfneinonkpmeaaProg
import Derived.Test.YtnfneinonkpmeaaLv1
import Derived.Maps.OwnSet
import Derived.Maps.OwnOps
import Derived.RegionTactic
import Derived.ChangeAlike
import Derived.BigRegion
import Derived.BigQuiet
import Derived.Lib.Hide
import Derived.WalkSpells
namespace Go.Proofs.Ytnfneinonkpmeaa
open Go.ChangeShapes Go.WideShapes Go.ChangeAt Go.RowKit

def I32 (z : Int) : Prop := -2147483648 ≤ z ∧ z ≤ 2147483647

structure Ins where
  kind : Int
  op : Int
  d : Int
  a : Int
  b : Int
  num : Int
  name : ByteArray
  args : List Int
structure Blk where
  ins : List Ins
  kind : Int
  a : Int
  to : Int
  els : Int
structure Fn where
  name : ByteArray
  params : Int
  regs : Int
  blocks : List Blk
structure Glob where
  name : ByteArray
  size : Int
structure Mid where
  globals : List Glob
  fns : List Fn

/-- What a slice at A shows: these cells, in a block that T allows. -/
def RdT (w : World) (T : Nat → Prop) (A : Option Addr) (xs : List Value) : Prop :=
  0 < xs.length → ∃ g off, A = some ⟨g, off, none⟩ ∧ T g ∧ g < w.heap.size ∧ ∀ j u, xs[j]? = some u → w.cell? ⟨g, off + j, none⟩ = some u
/-- .. elements of size cells each, each of which R tells. -/
def RdSl {α : Type} (size : Nat) (R : α → List Value → Prop) (w : World) (T : Nat → Prop) (A : Option Addr) (xs : List α) : Prop :=
  0 < xs.length → ∃ g off, A = some ⟨g, off, none⟩ ∧ T g ∧ g < w.heap.size ∧ ∀ i x, xs[i]? = some x → ∃ cs, cs.length = size ∧ R x cs ∧ ∀ j u, cs[j]? = some u → w.cell? ⟨g, off + i * size + j, none⟩ = some u

structure InsOk (x : Ins) : Prop where
  kind : I64 x.kind
  op : I64 x.op
  d : I64 x.d
  a : I64 x.a
  b : I64 x.b
  num : I32 x.num
  name : x.name.size ≤ maxLen
  nargs : x.args.length ≤ maxLen
  args : ∀ z ∈ x.args, I64 z
def insCells (x : Ins) (v : Value) : List Value := [.int .i64 x.kind, .int .i64 x.op, .int .i64 x.d, .int .i64 x.a, .int .i64 x.b, .int .i32 x.num, .string x.name, v]
def RdIns (w : World) (T : Nat → Prop) (x : Ins) (cs : List Value) : Prop := InsOk x ∧ ∃ A c, cs = insCells x (.slice A x.args.length c) ∧ RdT w T A (ints x.args)

structure BlkOk (b : Blk) : Prop where
  kind : I64 b.kind
  a : I64 b.a
  to : I64 b.to
  els : I64 b.els
  nins : b.ins.length ≤ maxLen
def blkCells (b : Blk) (v : Value) : List Value := [v, .int .i64 b.kind, .int .i64 b.a, .int .i64 b.to, .int .i64 b.els]
def RdBlk (w : World) (T : Nat → Prop) (b : Blk) (cs : List Value) : Prop := BlkOk b ∧ ∃ A c, cs = blkCells b (.slice A b.ins.length c) ∧ RdSl 8 (RdIns w T) w T A b.ins

structure FnOk (f : Fn) : Prop where
  name : f.name.size ≤ maxLen
  params : I64 f.params
  regs : I64 f.regs
  nblocks : f.blocks.length ≤ maxLen
def fnCells (f : Fn) (v : Value) : List Value := [.string f.name, .int .i64 f.params, .int .i64 f.regs, v]
def RdFn (w : World) (T : Nat → Prop) (f : Fn) (cs : List Value) : Prop := FnOk f ∧ ∃ A c, cs = fnCells f (.slice A f.blocks.length c) ∧ RdSl 5 (RdBlk w T) w T A f.blocks

def RdGlob (g : Glob) (cs : List Value) : Prop := (g.name.size ≤ maxLen ∧ I64 g.size) ∧ cs = [.string g.name, .int .i64 g.size]

/-- A program of blocks, as the two slices that it is. -/
structure RdMid (w : World) (T : Nat → Prop) (m : Mid) (A : Option Addr) (c : Nat) (B : Option Addr) (d : Nat) : Prop where
  globals : RdSl 2 RdGlob w T A m.globals
  fns : RdSl 4 (RdFn w T) w T B m.fns
  nglobals : m.globals.length ≤ maxLen
  nfns : m.fns.length ≤ maxLen

/-! ### carried on -/
section
variable {w w' : World} {S T T' : Nat → Prop}
theorem RdT.kept {A : Option Addr} {xs : List Value} (h : RdT w T A xs) (hc : Chg S w w') (hT : ∀ k, T k → k < w.heap.size → ¬ S k) : RdT w' T A xs := by
  intro hp
  obtain ⟨g, off, hA, ht, hg, hx⟩ := h hp
  exact ⟨g, off, hA, ht, Nat.lt_of_lt_of_le hg hc.size, fun j u hu => hc.cell (p := ⟨g, off + j, none⟩) (hx j u hu) (hT g ht hg)⟩
theorem RdT.mono {A : Option Addr} {xs : List Value} (h : RdT w T A xs) (hT : ∀ k, T k → T' k) : RdT w T' A xs := by
  intro hp
  obtain ⟨g, off, hA, ht, hg, hx⟩ := h hp
  exact ⟨g, off, hA, hT g ht, hg, hx⟩
theorem RdSl.kept {α : Type} {size : Nat} {R R' : α → List Value → Prop} {A : Option Addr} {xs : List α} (h : RdSl size R w T A xs) (hc : Chg S w w') (hT : ∀ k, T k → k < w.heap.size → ¬ S k) (hR : ∀ x cs, R x cs → R' x cs) : RdSl size R' w' T A xs := by
  intro hp
  obtain ⟨g, off, hA, ht, hg, hx⟩ := h hp
  refine ⟨g, off, hA, ht, Nat.lt_of_lt_of_le hg hc.size, fun i x hi => ?_⟩
  obtain ⟨cs, h1, h2, h3⟩ := hx i x hi
  exact ⟨cs, h1, hR x cs h2, fun j u hu => hc.cell (p := ⟨g, off + i * size + j, none⟩) (h3 j u hu) (hT g ht hg)⟩
theorem RdSl.mono {α : Type} {size : Nat} {R R' : α → List Value → Prop} {A : Option Addr} {xs : List α} (h : RdSl size R w T A xs) (hT : ∀ k, T k → T' k) (hR : ∀ x cs, R x cs → R' x cs) : RdSl size R' w T' A xs := by
  intro hp
  obtain ⟨g, off, hA, ht, hg, hx⟩ := h hp
  refine ⟨g, off, hA, hT g ht, hg, fun i x hi => ?_⟩
  obtain ⟨cs, h1, h2, h3⟩ := hx i x hi
  exact ⟨cs, h1, hR x cs h2, h3⟩
theorem RdIns.kept {x : Ins} {cs : List Value} (h : RdIns w T x cs) (hc : Chg S w w') (hT : ∀ k, T k → k < w.heap.size → ¬ S k) : RdIns w' T x cs := by
  obtain ⟨h1, A, c, h2, h3⟩ := h; exact ⟨h1, A, c, h2, h3.kept hc hT⟩
theorem RdIns.mono {x : Ins} {cs : List Value} (h : RdIns w T x cs) (hT : ∀ k, T k → T' k) : RdIns w T' x cs := by
  obtain ⟨h1, A, c, h2, h3⟩ := h; exact ⟨h1, A, c, h2, h3.mono hT⟩
theorem RdBlk.kept {x : Blk} {cs : List Value} (h : RdBlk w T x cs) (hc : Chg S w w') (hT : ∀ k, T k → k < w.heap.size → ¬ S k) : RdBlk w' T x cs := by
  obtain ⟨h1, A, c, h2, h3⟩ := h; exact ⟨h1, A, c, h2, h3.kept hc hT fun _ _ h => h.kept hc hT⟩
theorem RdBlk.mono {x : Blk} {cs : List Value} (h : RdBlk w T x cs) (hT : ∀ k, T k → T' k) : RdBlk w T' x cs := by
  obtain ⟨h1, A, c, h2, h3⟩ := h; exact ⟨h1, A, c, h2, h3.mono hT fun _ _ h => h.mono hT⟩
theorem RdFn.kept {x : Fn} {cs : List Value} (h : RdFn w T x cs) (hc : Chg S w w') (hT : ∀ k, T k → k < w.heap.size → ¬ S k) : RdFn w' T x cs := by
  obtain ⟨h1, A, c, h2, h3⟩ := h; exact ⟨h1, A, c, h2, h3.kept hc hT fun _ _ h => h.kept hc hT⟩
theorem RdFn.mono {x : Fn} {cs : List Value} (h : RdFn w T x cs) (hT : ∀ k, T k → T' k) : RdFn w T' x cs := by
  obtain ⟨h1, A, c, h2, h3⟩ := h; exact ⟨h1, A, c, h2, h3.mono hT fun _ _ h => h.mono hT⟩
theorem RdMid.kept {m : Mid} {A B : Option Addr} {c d : Nat} (h : RdMid w T m A c B d) (hc : Chg S w w') (hT : ∀ k, T k → k < w.heap.size → ¬ S k) : RdMid w' T m A c B d :=
  ⟨h.globals.kept hc hT fun _ _ h => h, h.fns.kept hc hT fun _ _ h => h.kept hc hT, h.nglobals, h.nfns⟩
theorem RdMid.mono {m : Mid} {A B : Option Addr} {c d : Nat} (h : RdMid w T m A c B d) (hT : ∀ k, T k → T' k) : RdMid w T' m A c B d :=
  ⟨h.globals.mono hT fun _ _ h => h, h.fns.mono hT fun _ _ h => h.mono hT, h.nglobals, h.nfns⟩
/-- Below N nothing turns: what lies below N reads as before. -/
theorem chg_of_below {B : Nat} (h : Below B w w') : Chg (fun k => B ≤ k) w w' := ⟨h.os, h.tape, h.output, h.size, fun k _ hk => h.block k (by omega)⟩
end

/-! ### out of an argument -/
section
variable {H : Type} {enc : TypeId × Value → H} {P : Program} {w : World} {base : Nat} {spare : Nat → Bool} {held : Bool}
def Old (w : World) : Nat → Prop := fun k => k < w.heap.size

theorem fields_of {e : Nat} {fs : Array Field} {fuel : Nat} {cs : List Value} {x : DataW H × List MemPlace} (he : P.underlying e = some (.struct fs)) (hone : Go.Deep.oneCellFields P fs = true) (hC : P.cellsOf e = fs.size)
    (h : DataW.trod enc P w base spare held fuel e cs = some x) : cs.length = fs.size ∧ ∃ n, ∀ (j : Nat) (f : Field), fs[j]? = some f → ∃ v y, cs[j]? = some v ∧ DataW.trod enc P w base spare held n f.type [v] = some y := by
  obtain ⟨ys, n, _, _, hlen, hyl, hf⟩ := DataW.trod_struct he h
  have hcl : cs.length = fs.size := by rw [hlen, hC]
  refine ⟨hcl, n, fun j f hj => ?_⟩
  obtain ⟨ho, hk⟩ := Go.Deep.hone_of hone j f hj
  have hjl : j < fs.size := (Array.getElem?_eq_some_iff.1 hj).1
  have h1 := hf j f hj
  rw [ho, hk] at h1
  have hone' : (cs.drop j).take 1 = [cs[j]'(by omega)] := by
    rw [List.drop_eq_getElem_cons (by omega)]; rfl
  rw [hone'] at h1
  have hys : ys[j]? = some (ys[j]'(by omega)) := List.getElem?_eq_getElem (by omega)
  exact ⟨_, _, List.getElem?_eq_getElem (by omega), h1.trans hys⟩

theorem arg_row {α : Type} {t e size : Nat} {R : α → List Value → Prop} {fuel : Nat} {a : Option Addr} {n c : Nat} {x : DataW H × List MemPlace} (ht : P.underlying t = some (.slice e)) (hs : P.cellsOf e = size) (hs0 : 0 < size)
    (hR : ∀ m cs y, DataW.trod enc P w base spare held m e cs = some y → ∃ x, R x cs ∧ cs.length = size)
    (h : DataW.trod enc P w base spare held fuel t [.slice a n c] = some x) : ∃ xs : List α, xs.length = n ∧ n ≤ maxLen ∧ RdSl size R w (Old w) a xs := by
  rcases Go.Deep.open_slice ht h with ⟨hcs, _⟩ | ⟨a', len, cap, m, n', D, Pl, hcs, _, hl, hm, hmm, _, hi⟩
  · simp at hcs
    obtain ⟨rfl, rfl, rfl⟩ := hcs
    exact ⟨[], rfl, Nat.zero_le _, fun h => by simp at h⟩
  · simp at hcs
    obtain ⟨rfl, rfl, rfl⟩ := hcs
    have hle : n ≤ m := by rw [hmm]; split <;> omega
    have hex : ∀ i, i < n → ∃ x : α, ∃ cs : List Value, cs.length = size ∧ R x cs ∧ ∀ (j : Nat) u, cs[j]? = some u → w.cell? (a'.add (i * size + j)) = some u := by
      intro i hin
      obtain ⟨cs, hc, htr⟩ := hi i (by omega)
      obtain ⟨x, hx, hcl⟩ := hR _ _ _ htr
      rw [hs] at hc
      obtain ⟨_, _, hat⟩ := World.cells?_some hc
      refine ⟨x, cs, hcl, hx, fun j u hu => ?_⟩
      have hj : j < size := by rw [← hcl]; exact (List.getElem?_eq_some_iff.1 hu).1
      rw [← Go.Deep.add_add, hat j hj, hu]
    rcases Nat.eq_zero_or_pos n with h0 | h0
    · exact ⟨[], h0.symm, by omega, fun h => by simp at h⟩
    obtain ⟨x0, _⟩ := hex 0 h0
    obtain ⟨f, hf⟩ : ∃ f : Nat → α, ∀ i, i < n → ∃ cs : List Value, cs.length = size ∧ R (f i) cs ∧ ∀ (j : Nat) u, cs[j]? = some u → w.cell? (a'.add (i * size + j)) = some u :=
      ⟨fun i => if h : i < n then Classical.choose (hex i h) else x0, fun i hin => by dsimp only; rw [dif_pos hin]; exact Classical.choose_spec (hex i hin)⟩
    refine ⟨(List.range n).map f, by simp, Nat.le_trans hl hm, fun _ => ?_⟩
    obtain ⟨cs0, hcl0, _, hat0⟩ := hf 0 h0
    have h00 := hat0 0 (cs0[0]'(by omega)) (List.getElem?_eq_getElem (by omega))
    rw [Nat.zero_mul, Nat.zero_add] at h00
    obtain ⟨g, off, rfl⟩ := plain_of_cell h00
    have hg : g < w.heap.size := World.block_lt_of_cell? w ⟨g, off, none⟩ (by rw [Addr.add_lit] at h00; simpa using h00)
    refine ⟨g, off, rfl, hg, hg, fun i x hx => ?_⟩
    have hin : i < n := by have := (List.getElem?_eq_some_iff.1 hx).1; simpa using this
    have hxe : x = f i := by simp [hin] at hx; exact hx.symm
    subst hxe
    obtain ⟨cs, h1, h2, h3⟩ := hf i hin
    refine ⟨cs, h1, h2, fun j u hu => ?_⟩
    have := h3 j u hu
    rw [Addr.add_lit, ← Nat.add_assoc] at this
    exact this

theorem len8 {α : Type} {cs : List α} (h : cs.length = 8) : ∃ a b c d e f g i, cs = [a, b, c, d, e, f, g, i] := by
  match cs, h with
  | [a, b, c, d, e, f, g, i], _ => exact ⟨a, b, c, d, e, f, g, i, rfl⟩
theorem len5 {α : Type} {cs : List α} (h : cs.length = 5) : ∃ a b c d e, cs = [a, b, c, d, e] := by
  match cs, h with
  | [a, b, c, d, e], _ => exact ⟨a, b, c, d, e, rfl⟩
theorem len4 {α : Type} {cs : List α} (h : cs.length = 4) : ∃ a b c d, cs = [a, b, c, d] := by
  match cs, h with
  | [a, b, c, d], _ => exact ⟨a, b, c, d, rfl⟩
theorem len2 {α : Type} {cs : List α} (h : cs.length = 2) : ∃ a b, cs = [a, b] := by
  match cs, h with
  | [a, b], _ => exact ⟨a, b, rfl⟩
theorem field_at {P : Program} {cs : List Value} {fs : Array Field} {n : Nat} (hf : ∀ (j : Nat) (f : Field), fs[j]? = some f → ∃ v y, cs[j]? = some v ∧ DataW.trod enc P w base spare held n f.type [v] = some y)
    (j : Nat) (f : Field) (hj : fs[j]? = some f) {v : Value} (hv : cs[j]? = some v) : ∃ y, DataW.trod enc P w base spare held n f.type [v] = some y := by
  obtain ⟨v', y, h1, h2⟩ := hf j f hj
  rw [hv] at h1; cases h1; exact ⟨y, h2⟩
theorem cell_int {t n : Nat} {k : IntKind} {v : Value} (ht : P.underlying t = some (.int k)) (h : ∃ y, DataW.trod enc P w base spare held n t [v] = some y) : ∃ z, v = .int k z ∧ (Lit.int k z).wf = true := by
  obtain ⟨y, h⟩ := h
  obtain ⟨z, h1, _, h2⟩ := DataW.trod_int ht h
  simp at h1
  exact ⟨z, h1, h2⟩
theorem cell_str {t n : Nat} {v : Value} (ht : P.underlying t = some .string) (h : ∃ y, DataW.trod enc P w base spare held n t [v] = some y) : ∃ s : ByteArray, v = .string s ∧ s.size ≤ maxLen := by
  obtain ⟨y, h⟩ := h
  obtain ⟨z, h1, _, h2⟩ := DataW.trod_string ht h
  simp at h1
  exact ⟨z, h1, h2⟩
theorem cell_slice {t e n : Nat} {v : Value} (ht : P.underlying t = some (.slice e)) (h : ∃ y, DataW.trod enc P w base spare held n t [v] = some y) : ∃ a k c, v = .slice a k c := by
  obtain ⟨y, h⟩ := h
  rcases DataW.trod_slice ht h with ⟨h0, _⟩ | ⟨a, len, cap, _, _, _, _, h0, _⟩
  · simp at h0; exact ⟨_, _, _, h0⟩
  · simp at h0; exact ⟨_, _, _, h0⟩
theorem i32_of_wf {z : Int} (h : (Lit.int .i32 z).wf = true) : I32 z := by
  simp [Lit.wf, IntKind.min, IntKind.max, IntKind.signed, IntKind.bits] at h
  unfold I32; omega
theorem rdT_of_reads {A : Option Addr} {xs : List Value} (h : ReadsAt w A xs) : RdT w (Old w) A xs := by
  intro hp
  obtain ⟨g, off, hA, hg, hx⟩ := h hp
  exact ⟨g, off, hA, hg, hg, hx⟩
end

section
variable {H : Type} {enc : TypeId × Value → H} {w : World} {base : Nat} {spare : Nat → Bool} {held : Bool}
theorem trod_ins (m : Nat) (cs : List Value) (y : DataW H × List MemPlace) (h : DataW.trod enc Try.prog w base spare held m 54 cs = some y) : ∃ x, RdIns w (Old w) x cs ∧ cs.length = 8 := by
  obtain ⟨hl, n, hf⟩ := fields_of (P := Try.prog) Try.underlying54 (by kernel_rfl) (by kernel_rfl) h
  obtain ⟨c0, c1, c2, c3, c4, c5, c6, c7, rfl⟩ := len8 hl
  obtain ⟨z0, rfl, w0⟩ := cell_int Try.underlying3 (field_at hf 0 _ rfl rfl)
  obtain ⟨z1, rfl, w1⟩ := cell_int Try.underlying3 (field_at hf 1 _ rfl rfl)
  obtain ⟨z2, rfl, w2⟩ := cell_int Try.underlying3 (field_at hf 2 _ rfl rfl)
  obtain ⟨z3, rfl, w3⟩ := cell_int Try.underlying3 (field_at hf 3 _ rfl rfl)
  obtain ⟨z4, rfl, w4⟩ := cell_int Try.underlying3 (field_at hf 4 _ rfl rfl)
  obtain ⟨z5, rfl, w5⟩ := cell_int Try.underlying21 (field_at hf 5 _ rfl rfl)
  obtain ⟨s, rfl, ws⟩ := cell_str Try.underlying9 (field_at hf 6 _ rfl rfl)
  obtain ⟨a, k, c, rfl⟩ := cell_slice Try.underlying52 (field_at hf 7 _ rfl rfl)
  obtain ⟨y7, h7⟩ := field_at hf 7 _ rfl rfl
  obtain ⟨zs, rfl, hmx, hz, hrd⟩ := arg_ints Try.underlying52 Try.underlying3 (by kernel_rfl) h7
  exact ⟨⟨z0, z1, z2, z3, z4, z5, s, zs⟩, ⟨⟨i64_of_wf w0, i64_of_wf w1, i64_of_wf w2, i64_of_wf w3, i64_of_wf w4, i32_of_wf w5, ws, hmx, fun z h => i64_of_wf (hz z h)⟩, a, c, rfl, rdT_of_reads hrd⟩, rfl⟩
theorem trod_blk (m : Nat) (cs : List Value) (y : DataW H × List MemPlace) (h : DataW.trod enc Try.prog w base spare held m 58 cs = some y) : ∃ x, RdBlk w (Old w) x cs ∧ cs.length = 5 := by
  obtain ⟨hl, n, hf⟩ := fields_of (P := Try.prog) Try.underlying58 (by kernel_rfl) (by kernel_rfl) h
  obtain ⟨c0, c1, c2, c3, c4, rfl⟩ := len5 hl
  obtain ⟨a, k, c, rfl⟩ := cell_slice Try.underlying56 (field_at hf 0 _ rfl rfl)
  obtain ⟨z1, rfl, w1⟩ := cell_int Try.underlying3 (field_at hf 1 _ rfl rfl)
  obtain ⟨z2, rfl, w2⟩ := cell_int Try.underlying3 (field_at hf 2 _ rfl rfl)
  obtain ⟨z3, rfl, w3⟩ := cell_int Try.underlying3 (field_at hf 3 _ rfl rfl)
  obtain ⟨z4, rfl, w4⟩ := cell_int Try.underlying3 (field_at hf 4 _ rfl rfl)
  obtain ⟨y7, h7⟩ := field_at hf 0 _ rfl rfl
  obtain ⟨xs, rfl, hmx, hrd⟩ := arg_row (P := Try.prog) Try.underlying56 (by kernel_rfl) (by decide) trod_ins h7
  exact ⟨⟨xs, z1, z2, z3, z4⟩, ⟨⟨i64_of_wf w1, i64_of_wf w2, i64_of_wf w3, i64_of_wf w4, hmx⟩, a, c, rfl, hrd⟩, rfl⟩
theorem trod_fn (m : Nat) (cs : List Value) (y : DataW H × List MemPlace) (h : DataW.trod enc Try.prog w base spare held m 30 cs = some y) : ∃ x, RdFn w (Old w) x cs ∧ cs.length = 4 := by
  obtain ⟨hl, n, hf⟩ := fields_of (P := Try.prog) Try.underlying30 (by kernel_rfl) (by kernel_rfl) h
  obtain ⟨c0, c1, c2, c3, rfl⟩ := len4 hl
  obtain ⟨s, rfl, ws⟩ := cell_str Try.underlying9 (field_at hf 0 _ rfl rfl)
  obtain ⟨z1, rfl, w1⟩ := cell_int Try.underlying3 (field_at hf 1 _ rfl rfl)
  obtain ⟨z2, rfl, w2⟩ := cell_int Try.underlying3 (field_at hf 2 _ rfl rfl)
  obtain ⟨a, k, c, rfl⟩ := cell_slice Try.underlying28 (field_at hf 3 _ rfl rfl)
  obtain ⟨y7, h7⟩ := field_at hf 3 _ rfl rfl
  obtain ⟨xs, rfl, hmx, hrd⟩ := arg_row (P := Try.prog) Try.underlying28 (by kernel_rfl) (by decide) trod_blk h7
  exact ⟨⟨s, z1, z2, xs⟩, ⟨⟨ws, i64_of_wf w1, i64_of_wf w2, hmx⟩, a, c, rfl, hrd⟩, rfl⟩
theorem trod_glob (m : Nat) (cs : List Value) (y : DataW H × List MemPlace) (h : DataW.trod enc Try.prog w base spare held m 83 cs = some y) : ∃ x, RdGlob x cs ∧ cs.length = 2 := by
  obtain ⟨hl, n, hf⟩ := fields_of (P := Try.prog) Try.underlying83 (by kernel_rfl) (by kernel_rfl) h
  obtain ⟨c0, c1, rfl⟩ := len2 hl
  obtain ⟨s, rfl, ws⟩ := cell_str Try.underlying9 (field_at hf 0 _ rfl rfl)
  obtain ⟨z1, rfl, w1⟩ := cell_int Try.underlying3 (field_at hf 1 _ rfl rfl)
  exact ⟨⟨s, z1⟩, ⟨⟨ws, i64_of_wf w1⟩, rfl⟩, rfl⟩
/-- A program of blocks that came in. -/
theorem arg_mid {fuel : Nat} {v : Value} {x : DataW H × List MemPlace} (hv : ∃ cs, v = .agg cs) (h : DataW.trod enc Try.prog w base spare held fuel 25 v.cells.toList = some x) :
    ∃ m A c B d, v = .agg #[.slice A m.globals.length c, .slice B m.fns.length d] ∧ RdMid w (Old w) m A c B d := by
  obtain ⟨cs, rfl⟩ := hv
  obtain ⟨hl, n, hf⟩ := fields_of (P := Try.prog) Try.underlying25 (by kernel_rfl) (by kernel_rfl) h
  simp only [Value.cells] at hl hf
  obtain ⟨c0, c1, hcs⟩ := len2 hl
  obtain ⟨l⟩ := cs
  simp only at hcs
  subst hcs
  obtain ⟨a, k, c, rfl⟩ := cell_slice Try.underlying22 (field_at hf 0 _ rfl rfl)
  obtain ⟨a', k', c', rfl⟩ := cell_slice Try.underlying23 (field_at hf 1 _ rfl rfl)
  obtain ⟨y0, h0⟩ := field_at hf 0 _ rfl rfl
  obtain ⟨y1, h1⟩ := field_at hf 1 _ rfl rfl
  obtain ⟨gs, rfl, hm0, hr0⟩ := arg_row (P := Try.prog) Try.underlying22 (by kernel_rfl) (by decide) trod_glob h0
  obtain ⟨fs, rfl, hm1, hr1⟩ := arg_row (P := Try.prog) Try.underlying23 (by kernel_rfl) (by decide) trod_fn h1
  exact ⟨⟨gs, fs⟩, a, c, a', c', rfl, ⟨hr0, hr1, hm0, hm1⟩⟩
end
end Go.Proofs.Ytnfneinonkpmeaa
namespace Go.Proofs.Ytnfneinonkpmeaa
open Go.RowKit Go.Maps

/-- The value that reads as such a datum. -/
def litV : Lit → Value
  | .bool b => .bool b
  | .int k n => .int k n
  | .string l => .string ⟨l.toArray⟩
  | _ => undef

/-- f, but v at one key. -/
noncomputable def upd (f : Lit → Option Lit) (kl : Lit) (v : Option Lit) : Lit → Option Lit := fun k => @ite _ (k = kl) (Classical.propDecidable _) v (f k)
theorem upd_same (f : Lit → Option Lit) (kl : Lit) (v : Option Lit) : upd f kl v kl = v := by unfold upd; rw [if_pos rfl]
theorem upd_other (f : Lit → Option Lit) {kl k : Lit} (v : Option Lit) (h : k ≠ kl) : upd f kl v k = f k := by unfold upd; rw [if_neg h]

section
variable {P : Program} {kt et : Nat} {w : World} {b n : Nat} {f : Lit → Option Lit}

theorem plain_lit {v : Value} {l : Lit} {ps : List MemPlace} (h : plainElem (H := Unit) P et v = some (.lit l, ps)) : v = litV l := by
  unfold plainElem at h
  split at h
  · cases h; rfl
  · split at h
    · rename_i hc; obtain ⟨rfl, _⟩ := hc; cases h; rfl
    · cases h
  · split at h
    · cases h; rfl
    · cases h
  · cases h

/-- Block b is a map of at most n entries: f. -/
def MapAt (P : Program) (kt et : Nat) (w : World) (b n : Nat) (f : Lit → Option Lit) : Prop :=
  ∃ D : DataW Unit, w.ownsMap P kt (plainElem P et) b n D ∧ (∀ k, Maps.has D k = (f k).isSome) ∧ ∀ k z, D.atKey k z = match f k with | some l => .lit l | none => z

theorem MapAt.made (w : World) (P : Program) (kt et : Nat) : MapAt P kt et (w.alloc (.map #[] 0)) w.heap.size 0 fun _ => none :=
  ⟨.map [], World.ownsMap_made _ _ _ _, fun _ => rfl, fun _ _ => rfl⟩
theorem MapAt.lt (h : MapAt P kt et w b n f) : b < w.heap.size := by obtain ⟨D, h1, _⟩ := h; exact h1.lt
theorem MapAt.kept {w' : World} {S : Nat → Prop} (h : MapAt P kt et w b n f) (hc : Chg S w w') (hn : ¬ S b) : MapAt P kt et w' b n f := by
  obtain ⟨D, ⟨es, clock, hb, h1⟩, h2⟩ := h
  exact ⟨D, ⟨es, clock, hc.heap hb hn, h1⟩, h2⟩
theorem MapAt.mono {n' : Nat} (h : MapAt P kt et w b n f) (hn : n ≤ n') : MapAt P kt et w b n' f := by
  obtain ⟨D, h1, h2⟩ := h
  exact ⟨D, h1.mono hn, h2⟩
theorem MapAt.congr {g : Lit → Option Lit} (h : MapAt P kt et w b n f) (e : ∀ k, f k = g k) : MapAt P kt et w b n g := by
  rw [← show f = g from funext e]; exact h
theorem MapAt.obj (h : MapAt P kt et w b n f) : ∃ es clock, w.heap[b]? = some (.map es clock) := by
  obtain ⟨D, ⟨es, clock, hb, _⟩, _⟩ := h
  exact ⟨es, clock, hb⟩
theorem MapAt.ne_cells {c : Array Value} {t : Nat} {fr : Nat × Nat} {k : Nat} (h : MapAt P kt et w b n f) (hk : w.heap[k]? = some (.cells c t fr)) : k ≠ b := by
  obtain ⟨es, clock, hb⟩ := h.obj
  intro e; subst e; rw [hb] at hk; cases hk

theorem MapAt.look {t : Nat} (h : MapAt P kt et w b n f) (K : Keyed P kt) (ht : P.underlying t = some (.map kt et)) {z : Value} {zl : Lit} {zp : List MemPlace} (hz : (zeroValue et).run P w = .ok z w)
    (hzl : plainElem (H := Unit) P et z = some (.lit zl, zp)) {key : Value} {kl : Lit} (hkey : keyOf P kt key = some kl) :
    (Instr.lookup t (.map (some b)) key false).run P w = .ok (litV ((f kl).getD zl)) w := by
  obtain ⟨D, h1, _, h2⟩ := h
  obtain ⟨v, ps, hrun, hv⟩ := h1.lookup K ht hz hzl hkey
  rw [hrun]
  rw [h2] at hv
  cases e : f kl with
  | none => rw [e] at hv; rw [plain_lit hv]; rfl
  | some l => rw [e] at hv; rw [plain_lit hv]; rfl
theorem MapAt.look_ok {t : Nat} (h : MapAt P kt et w b n f) (K : Keyed P kt) (ht : P.underlying t = some (.map kt et)) {z : Value} {zl : Lit} {zp : List MemPlace} (hz : (zeroValue et).run P w = .ok z w)
    (hzl : plainElem (H := Unit) P et z = some (.lit zl, zp)) {key : Value} {kl : Lit} (hkey : keyOf P kt key = some kl) :
    (Instr.lookup t (.map (some b)) key true).run P w = .ok (.tuple #[litV ((f kl).getD zl), .bool (f kl).isSome]) w := by
  obtain ⟨D, h1, h3, h2⟩ := h
  obtain ⟨v, ps, hrun, hv⟩ := h1.look_ok K ht hz hzl hkey
  rw [hrun, h3]
  rw [h2] at hv
  cases e : f kl with
  | none => rw [e] at hv; rw [plain_lit hv]; rfl
  | some l => rw [e] at hv; rw [plain_lit hv]; rfl

theorem put_fn {D : DataW Unit} {f : Lit → Option Lit} (hD : IsMap D) (h3 : ∀ k, Maps.has D k = (f k).isSome) (h2 : ∀ k z, D.atKey k z = match f k with | some l => .lit l | none => z)
    {kl vl : Lit} (hk : WideAt.IsKeyLit kl) : (∀ k, Maps.has (D.put kl (.lit vl)) k = (upd f kl (some vl) k).isSome) ∧ ∀ k z, (D.put kl (.lit vl)).atKey k z = match (upd f kl (some vl) k) with | some l => .lit l | none => z := by
  constructor
  · intro k
    by_cases e : k = kl
    · subst e; rw [Maps.has_put_same hD hk, upd_same]; rfl
    · rw [Maps.has_put_other e, upd_other _ _ e, h3]
  · intro k z
    by_cases e : k = kl
    · subst e; rw [Maps.atKey_put_same hD hk, upd_same]
    · rw [Maps.atKey_put_other e, upd_other _ _ e, h2]
theorem del_fn {D : DataW Unit} {f : Lit → Option Lit} (h3 : ∀ k, Maps.has D k = (f k).isSome) (h2 : ∀ k z, D.atKey k z = match f k with | some l => .lit l | none => z)
    (kl : Lit) : (∀ k, Maps.has (D.del kl) k = (upd f kl none k).isSome) ∧ ∀ k z, (D.del kl).atKey k z = match (upd f kl none k) with | some l => .lit l | none => z := by
  constructor
  · intro k
    by_cases e : k = kl
    · subst e; rw [Maps.has_del_same, upd_same]; rfl
    · rw [Maps.has_del_other e, upd_other _ _ e, h3]
  · intro k z
    by_cases e : k = kl
    · subst e; rw [Maps.atKey_del_same, upd_same]
    · rw [Maps.atKey_del_other e, upd_other _ _ e, h2]

/-- m[k] = v: behind 'at_mapUpdate'. -/
theorem wpList_map_put {ops : Array Oper} {rest : List Oper} {o : Oper} {a : Act} {Q : Exit → Act → World → Prop} (hg : o.guard = none) (m x v : Operand) (t : Nat) (hop : o.op = Op.mapUpdate t m x v)
    (kt et : Nat) (K : Keyed P kt) (ht : P.underlying t = some (.map kt et)) (h : MapAt P kt et w b n f) (hn : n < maxLen) (hm : a.eval m = .map (some b)) (key val : Value) (kl vl : Lit) (hx : a.eval x = key) (hv : a.eval v = val) (hkey : keyOf P kt key = some kl)
    (hk : WideAt.IsKeyLit kl) (ps : List MemPlace) (hval : plainElem (H := Unit) P et val = some (.lit vl, ps))
    (hK : ∀ w', MapAt P kt et w' b (n + 1) (upd f kl (some vl)) → Chg (fun k => k = b) w w' → wpList P ops Q rest (a.put o.dst undef) w') :
    wpList P ops Q (o :: rest) a w := by
  obtain ⟨D, h1, h3, h2⟩ := h
  have hf := put_fn (h1.isMap) h3 h2 (kl := kl) (vl := vl) hk
  refine wpList_mapUpdate_own w hg m x v t hop kt et K ht (plainElem P et) b n D hm h1 hn key val kl hx hv hkey (.lit vl) ps hval fun w' h1' hgr => ?_
  exact hK w' ⟨_, h1', hf.1, hf.2⟩ ((Chg.of_grownBy hgr).mono fun i _ e => by cases e; rfl)
/-- delete(m, k): behind 'at_delete'. -/
theorem wpList_map_del {ops : Array Oper} {rest : List Oper} {o : Oper} {a : Act} {Q : Exit → Act → World → Prop} (hg : o.guard = none) (m x : Operand) (t kt : Nat) (hop : o.op = Op.call { callee := Callee.builtin Builtin.delete, args := #[m, x], argTypes := #[t, kt] })
    (et : Nat) (K : Keyed P kt) (ht : P.underlying t = some (.map kt et)) (h : MapAt P kt et w b n f) (hm : a.eval m = .map (some b)) (key : Value) (kl : Lit) (hx : a.eval x = key) (hkey : keyOf P kt key = some kl)
    (hK : ∀ w', MapAt P kt et w' b n (upd f kl none) → Chg (fun k => k = b) w w' → wpList P ops Q rest (a.put o.dst (.tuple #[])) w') :
    wpList P ops Q (o :: rest) a w := by
  obtain ⟨D, h1, h3, h2⟩ := h
  have hf := del_fn h3 h2 kl
  refine wpList_delete_own w hg m x t kt hop et K ht (plainElem P et) b n D hm h1 key kl hx hkey fun w' h1' hgr => ?_
  exact hK w' ⟨_, h1', hf.1, hf.2⟩ ((Chg.of_grownBy hgr.grown).mono fun i _ e => by cases e; rfl)
end
end Go.Proofs.Ytnfneinonkpmeaa
namespace Go.Proofs.Ytnfneinonkpmeaa
open Go.RowKit

def isLetter (c : Int) : Bool := (decide (97 ≤ c) && decide (c ≤ 122)) || (decide (65 ≤ c) && decide (c ≤ 90)) || decide (c = 95)
def isDigit (c : Int) : Bool := decide (48 ≤ c) && decide (c ≤ 57)
theorem ret_bool {a b : Bool} (h : a = b) : Ending.returned (.bool a) = .returned (.bool b) := by rw [h]
theorem ret_int {k : IntKind} {a b : Int} (h : a = b) : Ending.returned (.int k a) = .returned (.int k b) := by rw [h]

theorem letter_any (c : Int) (w : World) :
    Calls Try.prog 57 #[.int .u8 c] w fun e w' => e = .returned (.bool (isLetter c)) ∧ w = w' := by
  unfold isLetter
  by_cases h1 : 97 ≤ c <;> by_cases h2 : c ≤ 122 <;> by_cases h3 : 65 ≤ c <;> by_cases h4 : c ≤ 90 <;> by_cases h5 : c = 95 <;> first
  | (exfalso; omega)
  | (first | subst h5 | skip
     go_enter Try.func57, Try.ntmps57
     go_wp2
     go_ret
     refine ⟨ret_bool ?_, rfl⟩
     refine Bool.eq_iff_iff.2 ?_; first | (simp; done) | (simp; omega))
theorem digit_any (c : Int) (w : World) :
    Calls Try.prog 55 #[.int .u8 c] w fun e w' => e = .returned (.bool (isDigit c)) ∧ w = w' := by
  unfold isDigit
  by_cases h1 : 48 ≤ c <;> by_cases h2 : c ≤ 57 <;> first
  | (exfalso; omega)
  | (go_enter Try.func55, Try.ntmps55
     go_wp2
     go_ret
     refine ⟨ret_bool ?_, rfl⟩
     rw [Bool.eq_iff_iff]; simp <;> omega)

theorem reads_new (W : World) (cs : Array Value) (e : Nat) (xs : List Value) (h : cs = xs.toArray) : ReadsAt (W.alloc (.cells cs e)) (some ⟨W.heap.size, 0, none⟩) xs := by
  intro _
  refine ⟨W.heap.size, 0, rfl, by simp, fun j u hu => ?_⟩
  subst h
  rw [Nat.zero_add, cell_of_row _ _ _ _ _ _ (heap_alloc_new W _)]
  simpa using hu
def wordsList : List ByteArray := [⟨#[105, 110, 116]⟩, ⟨#[105, 102]⟩, ⟨#[101, 108, 115, 101]⟩, ⟨#[119, 104, 105, 108, 101]⟩, ⟨#[98, 114, 101, 97, 107]⟩, ⟨#[99, 111, 110, 116, 105, 110, 117, 101]⟩, ⟨#[114, 101, 116, 117, 114, 110]⟩, ⟨#[112, 114, 105, 110, 116]⟩, ⟨#[114, 101, 97, 100]⟩]
def isWord (s : ByteArray) : Bool := wordsList.any fun y => y.toList == s.toList
theorem Words_any (w : World) :
    Calls Try.prog 67 #[] w fun e w' => ∃ A, e = .returned (.slice A 9 9) ∧ Below w.heap.size w w' ∧ ReadsAt w' A (wordsList.map Value.string) := by
  go_enter Try.func67, Try.ntmps67
  go_wp2
  go_ret
  exact ⟨_, rfl, (Below.refl _ _).alloc (Nat.le_refl _) _, reads_new _ _ _ _ rfl⟩

theorem any_take_succ {α : Type} (f : α → Bool) (l : List α) (k : Nat) (h : k < l.length) : (l.take (k + 1)).any f = ((l.take k).any f || f l[k]) := by
  rw [List.take_succ_eq_append_getElem h, List.any_append]; simp
theorem all_take_succ {α : Type} (f : α → Bool) (l : List α) (k : Nat) (h : k < l.length) : (l.take (k + 1)).all f = ((l.take k).all f && f l[k]) := by
  rw [List.take_succ_eq_append_getElem h, List.all_append]; simp
theorem any_of_at {α : Type} (f : α → Bool) (l : List α) (k : Nat) (h : k < l.length) (hf : f l[k] = true) : l.any f = true := List.any_eq_true.2 ⟨_, List.getElem_mem h, hf⟩
theorem not_all_of_at {α : Type} (f : α → Bool) (l : List α) (k : Nat) (h : k < l.length) (hf : f l[k] = false) : l.all f = false := by
  rw [Bool.eq_false_iff]; intro h'; rw [List.all_eq_true.1 h' _ (List.getElem_mem h)] at hf; cases hf

theorem IsWord_any (s : ByteArray) (w : World) :
    Calls Try.prog 56 #[.string s] w fun e w' => e = .returned (.bool (isWord s)) ∧ Below w.heap.size w w' := by
  go_enter Try.func56, Try.ntmps56
  go_wp2_with fail
  refine (Words_any w).mono ?_
  rintro e w1 ⟨A, rfl, hB, hR⟩
  have HB := Lib.hid hB
  have HR := Lib.hid hR
  clear hB hR
  go_wp2_with fail
  go_loop [7] (fun i => ∃ k : Nat, k ≤ 9 ∧ i = .int .i64 (k : Nat) ∧ (wordsList.take k).any (fun y => y.toList == s.toList) = false) (fun i => 9 - (intOf i).toNat)
  case atStart => exact ⟨0, by omega, rfl, rfl⟩
  case round =>
    obtain ⟨k, hk, rfl, hn⟩ := hrel
    by_cases hlt : k < 9
    · obtain ⟨g, off, rfl, hg, hcl⟩ := HR.out (by decide)
      have hlw : k < wordsList.length := hlt
      have hx := hcl k (.string wordsList[k]) (by rw [List.getElem?_map, List.getElem?_eq_getElem hlw]; rfl)
      have hst := any_take_succ (fun y => y.toList == s.toList) wordsList k hlw
      obtain ⟨y, hye⟩ : ∃ y, y = wordsList[k] := ⟨_, rfl⟩
      rw [← hye] at hx hst
      have hin := any_of_at (fun y => y.toList == s.toList) wordsList k hlw
      rw [← hye] at hin
      have HN := Lib.hid hn
      have HST := Lib.hid hst
      have HIN := Lib.hid hin
      clear hcl hn hst hin hlw hye
      cases hb : (y.toList == s.toList) with
      | true =>
        go_wp2_with fail
        go_ret
        exact ⟨ret_bool (HIN.out hb).symm, HB.out⟩
      | false =>
        go_wp2_with fail
        go_round
        case rel => exact ⟨k + 1, by omega, by go_num, by rw [HST.out, HN.out]; exact hb⟩
        case measure => simp [intOf]; omega
    · obtain rfl : k = 9 := by omega
      have HN := Lib.hid hn
      clear hn
      go_wp2_with fail
      go_ret
      exact ⟨ret_bool HN.out.symm, HB.out⟩

def okByte (c : Int) : Bool := isLetter c || isDigit c
def byteAt (s : ByteArray) (i : Nat) : Int := (((s[i]?).getD 0).toNat : Nat)
def isName (s : ByteArray) : Bool := !(decide (s.size = 0) || decide (64 < s.size) || isDigit (byteAt s 0) || isWord s) && (List.range s.size).all fun i => okByte (byteAt s i)

theorem byteAt_eq (s : ByteArray) (i : Nat) (h : i < s.size) : byteAt s i = ((s[i].toNat : Nat) : Int) := by unfold byteAt; simp [h]

theorem IsName_any (s : ByteArray) (w : World) (hs : s.size ≤ maxLen) :
    Calls Try.prog 41 #[.string s] w fun e w' => e = .returned (.bool (isName s)) ∧ Below w.heap.size w w' := by
  have hs' : s.size ≤ 9223372036854775807 := by unfold maxLen at hs; omega
  clear hs
  by_cases h0 : s.size = 0
  · go_enter Try.func41, Try.ntmps41
    go_wp2_with fail
    go_ret
    exact ⟨ret_bool (by unfold isName; simp [h0]), Below.refl _ _⟩
  by_cases h64 : 64 < s.size
  · go_enter Try.func41, Try.ntmps41
    go_wp2_with fail
    go_ret
    exact ⟨ret_bool (by unfold isName; simp [h64]), Below.refl _ _⟩
  have hz : ((s.size : Int) == 0) = false := beq_eq_false_iff_ne.2 (by omega)
  have hb0 := byteAt_eq s 0 (by omega)
  have hd := digit_any (byteAt s 0) w
  rw [hb0] at hd
  cases hdc : isDigit (byteAt s 0) with
  | true =>
    rw [← hb0, hdc, hb0] at hd
    clear hb0
    have HDC := Lib.hid hdc
    clear hdc
    go_enter Try.func41, Try.ntmps41
    go_wp2_with fail
    refine hd.mono ?_
    rintro e w1 ⟨rfl, rfl⟩
    clear hd
    go_wp2_with fail
    go_ret
    exact ⟨ret_bool (by unfold isName; simp [HDC.out]), Below.refl _ _⟩
  | false =>
  rw [← hb0, hdc, hb0] at hd
  clear hb0
  have HDC := Lib.hid hdc
  clear hdc
  have hw := IsWord_any s w
  cases hwc : isWord s with
  | true =>
    rw [hwc] at hw
    have HWC := Lib.hid hwc
    clear hwc
    go_enter Try.func41, Try.ntmps41
    go_wp2_with fail
    refine hd.mono ?_
    rintro e w1 ⟨rfl, rfl⟩
    clear hd
    go_wp2_with fail
    refine hw.mono ?_
    rintro e w1 ⟨rfl, hB⟩
    clear hw
    have HB := Lib.hid hB
    clear hB
    go_wp2_with fail
    go_ret
    exact ⟨ret_bool (by unfold isName; simp [HWC.out]), HB.out⟩
  | false =>
    rw [hwc] at hw
    have HWC := Lib.hid hwc
    clear hwc
    go_enter Try.func41, Try.ntmps41
    go_wp2_with fail
    refine hd.mono ?_
    rintro e w1 ⟨rfl, rfl⟩
    clear hd
    go_wp2_with fail
    refine hw.mono ?_
    rintro e w1 ⟨rfl, hB⟩
    clear hw
    have HB := Lib.hid hB
    clear hB
    go_wp2_with fail
    go_loop [3] (fun i => ∃ k : Nat, k ≤ s.size ∧ i = .int .i64 (k : Nat) ∧ (∀ j, j < k → okByte (byteAt s j) = true)) (fun i => s.size - (intOf i).toNat)
    case atStart => exact ⟨0, by omega, rfl, fun j hj => by omega⟩
    case round =>
      obtain ⟨k, hk, rfl, hn⟩ := hrel
      have HN := Lib.hid hn
      clear hn
      by_cases hlt : k < s.size
      · have hbk := byteAt_eq s k hlt
        have hl := letter_any (byteAt s k) w1
        have hd := digit_any (byteAt s k) w1
        rw [hbk] at hl hd
        cases hlc : isLetter (byteAt s k) with
        | true =>
          rw [← hbk, hlc, hbk] at hl
          have HLC := Lib.hid hlc
          clear hbk hlc hd
          go_wp2_with fail
          refine hl.mono ?_
          rintro e w2 ⟨rfl, rfl⟩
          clear hl
          go_wp2_with fail
          go_round
          case rel => exact ⟨k + 1, by omega, by go_num, fun j hj => by
            rcases Nat.lt_succ_iff_lt_or_eq.1 hj with h | rfl
            · exact HN.out j h
            · unfold okByte; rw [HLC.out]; rfl⟩
          case measure => simp [intOf]; omega
        | false =>
          rw [← hbk, hlc, hbk] at hl
          have HLC := Lib.hid hlc
          clear hlc
          cases hdc : isDigit (byteAt s k) with
          | true =>
            rw [← hbk, hdc, hbk] at hd
            have HDC := Lib.hid hdc
            clear hbk hdc
            go_wp2_with fail
            refine hl.mono ?_
            rintro e w2 ⟨rfl, rfl⟩
            clear hl
            go_wp2_with fail
            refine hd.mono ?_
            rintro e w2 ⟨rfl, rfl⟩
            clear hd
            go_wp2_with fail
            go_round
            case rel => exact ⟨k + 1, by omega, by go_num, fun j hj => by
              rcases Nat.lt_succ_iff_lt_or_eq.1 hj with h | rfl
              · exact HN.out j h
              · unfold okByte; rw [HDC.out]; simp⟩
            case measure => simp [intOf]; omega
          | false =>
            rw [← hbk, hdc, hbk] at hd
            have HDC := Lib.hid hdc
            clear hbk hdc
            go_wp2_with fail
            refine hl.mono ?_
            rintro e w2 ⟨rfl, rfl⟩
            clear hl
            go_wp2_with fail
            refine hd.mono ?_
            rintro e w2 ⟨rfl, rfl⟩
            clear hd
            go_wp2_with fail
            go_ret
            refine ⟨ret_bool ?_, HB.out⟩
            have : (List.range s.size).all (fun i => okByte (byteAt s i)) = false := by
              rw [Bool.eq_false_iff]
              intro h
              have := List.all_eq_true.1 h k (List.mem_range.2 hlt)
              unfold okByte at this
              rw [HLC.out, HDC.out] at this
              cases this
            unfold isName
            rw [this]; simp
      · obtain rfl : k = s.size := by omega
        go_wp2_with fail
        go_ret
        refine ⟨ret_bool ?_, HB.out⟩
        have : (List.range s.size).all (fun i => okByte (byteAt s i)) = true := List.all_eq_true.2 fun i hi => HN.out i (List.mem_range.1 hi)
        unfold isName
        rw [this, HDC.out, HWC.out, decide_eq_false h0, decide_eq_false h64]; rfl

/-- May a register be so? -/
def regB (r n : Int) (none : Bool) : Bool := (decide (0 ≤ r) && decide (r < n)) || (none && decide (r = -1))
theorem reg12_any (r n : Int) (none : Bool) (w : World) :
    Calls Try.prog 65 #[.int .i64 r, .int .i64 n, .bool none] w fun e w' => e = .returned (.bool (regB r n none)) ∧ w = w' := by
  unfold regB
  cases none <;> by_cases h1 : 0 ≤ r <;> by_cases h2 : r < n <;> by_cases h3 : r = -1 <;> first
  | (exfalso; omega)
  | (first | subst h3 | skip
     go_enter Try.func65, Try.ntmps65
     go_wp2
     go_ret
     refine ⟨ret_bool ?_, rfl⟩
     refine Bool.eq_iff_iff.2 ?_; first | (simp; done) | (simp; omega))
/-- An instruction that may be, among n registers. -/
inductive InsV (n : Int) : Ins → Prop
  | num (d z : Int) (hd : regB d n false = true) : InsV n ⟨1, 0, d, -1, -1, z, ⟨#[]⟩, []⟩
  | copy (d a : Int) (hd : regB d n false = true) (ha : regB a n false = true) : InsV n ⟨2, 0, d, a, -1, 0, ⟨#[]⟩, []⟩
  | un (op d a : Int) (ho : 19 ≤ op ∧ op ≤ 21) (hd : regB d n false = true) (ha : regB a n false = true) : InsV n ⟨3, op, d, a, -1, 0, ⟨#[]⟩, []⟩
  | bin (op d a b : Int) (ho : 1 ≤ op ∧ op ≤ 16) (hd : regB d n false = true) (ha : regB a n false = true) (hb : regB b n false = true) : InsV n ⟨4, op, d, a, b, 0, ⟨#[]⟩, []⟩
  | load (d a : Int) (name : ByteArray) (hd : regB d n false = true) (ha : regB a n true = true) (hn : isName name = true) : InsV n ⟨5, 0, d, a, -1, 0, name, []⟩
  | store (a b : Int) (name : ByteArray) (ha : regB a n true = true) (hb : regB b n false = true) (hn : isName name = true) : InsV n ⟨6, 0, -1, a, b, 0, name, []⟩
  | call (d : Int) (name : ByteArray) (args : List Int) (hd : regB d n true = true) (hn : isName name = true) (hl : args.length ≤ 8) (ha : ∀ r ∈ args, regB r n false = true) : InsV n ⟨7, 0, d, -1, -1, 0, name, args⟩
  | read (d : Int) (hd : regB d n false = true) : InsV n ⟨8, 0, d, -1, -1, 0, ⟨#[]⟩, []⟩
  | print (a : Int) (ha : regB a n false = true) : InsV n ⟨9, 0, -1, a, -1, 0, ⟨#[]⟩, []⟩
end Go.Proofs.Ytnfneinonkpmeaa
namespace Go.Proofs.Ytnfneinonkpmeaa
open Go.RowKit
theorem box_cell {w w2 : World} {cs : Array Value} {e : Nat} (hB : Below (w.alloc (.cells cs e)).heap.size (w.alloc (.cells cs e)) w2) (j : Nat) : w2.cell? ⟨w.heap.size, j, none⟩ = cs[j]? := by
  rw [hB.cell (p := ⟨w.heap.size, j, none⟩) (by simp), cell_of_row _ _ _ _ _ _ (heap_alloc_new w _)]
/-- It returns a Bool; where it is true, V. -/
def Told (w : World) (V : Prop) (e : Ending) (w' : World) : Prop := ∃ t, e = .returned (.bool t) ∧ Below w.heap.size w w' ∧ (t = true → V)
theorem empty_of {s : ByteArray} (h : s.toList.isEmpty = true) : s = ⟨#[]⟩ := by
  rw [List.isEmpty_iff, ByteArray.toList_eq, Array.toList_eq_nil_iff] at h
  exact ByteArray.ext h
end Go.Proofs.Ytnfneinonkpmeaa
namespace Go.Proofs.Ytnfneinonkpmeaa
open Go.RowKit
variable {T : Nat → Prop}

def fnAt (fs : List Fn) (name : ByteArray) : Int := match fs.findIdx? (fun f => f.name.toList == name.toList) with | some i => (i : Int) | none => -1
def globAt (gs : List Glob) (name : ByteArray) : Int := match gs.findIdx? (fun g => g.name.toList == name.toList) with | some i => (i : Int) | none => -1
theorem find_at {α : Type} (p : α → Bool) (l : List α) (k : Nat) (h : k < l.length) (hp : p l[k] = true) (hn : ∀ j (hj : j < k), p (l[j]'(by omega)) = false) : l.findIdx? p = some k := by
  rw [List.findIdx?_eq_some_iff_getElem]
  exact ⟨h, hp, fun j hj => by rw [hn j hj]; exact Bool.false_ne_true⟩
theorem find_none {α : Type} (p : α → Bool) (l : List α) (hn : ∀ j (hj : j < l.length), p l[j] = false) : l.findIdx? p = none := by
  rw [List.findIdx?_eq_none_iff]
  intro x hx
  obtain ⟨j, hj, rfl⟩ := List.getElem_of_mem hx
  exact hn j hj
theorem add00 (g off : Nat) : (⟨g, off + 0, none⟩ : Addr) = ⟨g, off, none⟩ := rfl

theorem FnAt_any (m : Mid) (A B : Option Addr) (c d : Nat) (name : ByteArray) (w : World) (h : RdMid w T m A c B d) :
    Calls Try.prog 44 #[.agg #[.slice A m.globals.length c, .slice B m.fns.length d], .string name] w fun e w' => e = .returned (.int .i64 (fnAt m.fns name)) ∧ Below w.heap.size w w' := by
  have hl : m.fns.length ≤ 9223372036854775807 := by have := h.nfns; unfold maxLen at this; omega
  have HF := Lib.hid h.fns
  clear h
  go_enter Try.func44, Try.ntmps44
  go_wp2_with fail
  go_loopw [10] (fun i wr => ∃ k : Nat, k ≤ m.fns.length ∧ i = .int .i64 (k : Nat) ∧ Below w.heap.size w wr ∧ ∀ j (hj : j < k) (hl : j < m.fns.length), (m.fns[j].name.toList == name.toList) = false) (fun i _ => m.fns.length - (intOf i).toNat)
  case atStart => exact ⟨0, by omega, rfl, (Below.refl _ _).alloc (Nat.le_refl _) _, fun j hj => by omega⟩
  case round =>
    obtain ⟨k, hk, rfl, hB, hn⟩ := hrel
    have HB := Lib.hid hB
    have HK := Lib.hid hn
    clear hB hn
    by_cases hlt : k < m.fns.length
    · obtain ⟨g, off, rfl, ht, hg, hcl⟩ := HF.out (by omega)
      obtain ⟨cs, hcs, hrd, hat⟩ := hcl k _ (List.getElem?_eq_getElem hlt)
      obtain ⟨hok, A1, c1, rfl, hsub⟩ := hrd
      have h0 := (HB.out.cell (p := ⟨g, off + k * 4 + 0, none⟩) hg).trans (hat 0 _ rfl)
      have h1 := (HB.out.cell (p := ⟨g, off + k * 4 + 1, none⟩) hg).trans (hat 1 _ rfl)
      have h2 := (HB.out.cell (p := ⟨g, off + k * 4 + 2, none⟩) hg).trans (hat 2 _ rfl)
      have h3 := (HB.out.cell (p := ⟨g, off + k * 4 + 3, none⟩) hg).trans (hat 3 _ rfl)
      rw [add00] at h0
      obtain ⟨f, hf⟩ : ∃ f, f = m.fns[k] := ⟨_, rfl⟩
      rw [← hf] at h0 h1 h2 h3
      clear hcl hat hok hsub ht hcs
      cases hb : (f.name.toList == name.toList) with
      | true =>
        have HFE := Lib.hid hf
        clear hf
        go_wp2_with fail
        go_ret
        refine ⟨ret_int ?_, ?_⟩
        · unfold fnAt
          rw [find_at _ _ k hlt (by rw [← HFE.out]; exact hb) (fun j hj => HK.out j hj (by omega))]
        · exact HB.out.alloc HB.out.size _
      | false =>
        have HFE := Lib.hid hf
        clear hf
        go_wp2_with fail
        go_roundw
        case rel =>
          refine ⟨k + 1, by omega, by go_num, HB.out.alloc HB.out.size _, fun j hj hl => ?_⟩
          rcases Nat.lt_succ_iff_lt_or_eq.1 hj with h | rfl
          · exact HK.out j h hl
          · rw [← HFE.out]; exact hb
        case measure => simp [intOf]; omega
    · obtain rfl : k = m.fns.length := by omega
      go_wp2_with fail
      go_ret
      refine ⟨ret_int ?_, HB.out⟩
      unfold fnAt
      rw [find_none _ _ (fun j hj => HK.out j hj hj)]
theorem GlobalAt_any (m : Mid) (A B : Option Addr) (c d : Nat) (name : ByteArray) (w : World) (h : RdMid w T m A c B d) :
    Calls Try.prog 28 #[.agg #[.slice A m.globals.length c, .slice B m.fns.length d], .string name] w fun e w' => e = .returned (.int .i64 (globAt m.globals name)) ∧ Below w.heap.size w w' := by
  have hl : m.globals.length ≤ 9223372036854775807 := by have := h.nglobals; unfold maxLen at this; omega
  have HF := Lib.hid h.globals
  clear h
  go_enter Try.func28, Try.ntmps28
  go_wp2_with fail
  go_loopw [10] (fun i wr => ∃ k : Nat, k ≤ m.globals.length ∧ i = .int .i64 (k : Nat) ∧ Below w.heap.size w wr ∧ ∀ j (hj : j < k) (hl : j < m.globals.length), (m.globals[j].name.toList == name.toList) = false) (fun i _ => m.globals.length - (intOf i).toNat)
  case atStart => exact ⟨0, by omega, rfl, (Below.refl _ _).alloc (Nat.le_refl _) _, fun j hj => by omega⟩
  case round =>
    obtain ⟨k, hk, rfl, hB, hn⟩ := hrel
    have HB := Lib.hid hB
    have HK := Lib.hid hn
    clear hB hn
    by_cases hlt : k < m.globals.length
    · obtain ⟨g, off, rfl, ht, hg, hcl⟩ := HF.out (by omega)
      obtain ⟨cs, hcs, hrd, hat⟩ := hcl k _ (List.getElem?_eq_getElem hlt)
      obtain ⟨hok, rfl⟩ := hrd
      have h0 := (HB.out.cell (p := ⟨g, off + k * 2 + 0, none⟩) hg).trans (hat 0 _ rfl)
      have h1 := (HB.out.cell (p := ⟨g, off + k * 2 + 1, none⟩) hg).trans (hat 1 _ rfl)
      rw [add00] at h0
      obtain ⟨f, hf⟩ : ∃ f, f = m.globals[k] := ⟨_, rfl⟩
      rw [← hf] at h0 h1
      clear hcl hat hok ht hcs
      cases hb : (f.name.toList == name.toList) with
      | true =>
        have HFE := Lib.hid hf
        clear hf
        go_wp2_with fail
        go_ret
        refine ⟨ret_int ?_, ?_⟩
        · unfold globAt
          rw [find_at _ _ k hlt (by rw [← HFE.out]; exact hb) (fun j hj => HK.out j hj (by omega))]
        · exact HB.out.alloc HB.out.size _
      | false =>
        have HFE := Lib.hid hf
        clear hf
        go_wp2_with fail
        go_roundw
        case rel =>
          refine ⟨k + 1, by omega, by go_num, HB.out.alloc HB.out.size _, fun j hj hl => ?_⟩
          rcases Nat.lt_succ_iff_lt_or_eq.1 hj with h | rfl
          · exact HK.out j h hl
          · rw [← HFE.out]; exact hb
        case measure => simp [intOf]; omega
    · obtain rfl : k = m.globals.length := by omega
      go_wp2_with fail
      go_ret
      refine ⟨ret_int ?_, HB.out⟩
      unfold globAt
      rw [find_none _ _ (fun j hj => HK.out j hj hj)]

end Go.Proofs.Ytnfneinonkpmeaa
