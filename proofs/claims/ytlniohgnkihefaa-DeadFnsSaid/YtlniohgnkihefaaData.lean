/- The data of the middle layers (instructions, blocks, functions, programs of blocks) as plain structures, and how memory shows them. -/
import Derived.Test.YtlniohgnkihefaaArgs
import Derived.Test.YtlniohgnkihefaaInts
import Derived.Deep.Slices
import Derived.Deep.Fields
import Derived.Test.YtlniohgnkihefaaProg
namespace Go.Proofs.Ytlniohgnkihefaa
open Go.ChangeShapes Go.WideShapes Go.ChangeAt Go.RowKit

def I32 (z : Int) : Prop := -2147483648 ≤ z ∧ z ≤ 2147483647

structure Ins where
  kind : Int
  op : Int
  d : Int
  a : Int
  b : Int
  num : Int
  name : ByteArray
  args : List Int
structure Blk where
  ins : List Ins
  kind : Int
  a : Int
  to : Int
  els : Int
structure Fn where
  name : ByteArray
  params : Int
  regs : Int
  blocks : List Blk
structure Glob where
  name : ByteArray
  size : Int
structure Mid where
  globals : List Glob
  fns : List Fn

/-- What a slice at A shows: these cells, in a block that T allows. -/
def RdT (w : World) (T : Nat → Prop) (A : Option Addr) (xs : List Value) : Prop :=
  0 < xs.length → ∃ g off, A = some ⟨g, off, none⟩ ∧ T g ∧ g < w.heap.size ∧ ∀ j u, xs[j]? = some u → w.cell? ⟨g, off + j, none⟩ = some u
/-- .. elements of size cells each, each of which R tells. -/
def RdSl {α : Type} (size : Nat) (R : α → List Value → Prop) (w : World) (T : Nat → Prop) (A : Option Addr) (xs : List α) : Prop :=
  0 < xs.length → ∃ g off, A = some ⟨g, off, none⟩ ∧ T g ∧ g < w.heap.size ∧ ∀ i x, xs[i]? = some x → ∃ cs, cs.length = size ∧ R x cs ∧ ∀ j u, cs[j]? = some u → w.cell? ⟨g, off + i * size + j, none⟩ = some u

structure InsOk (x : Ins) : Prop where
  kind : I64 x.kind
  op : I64 x.op
  d : I64 x.d
  a : I64 x.a
  b : I64 x.b
  num : I32 x.num
  name : x.name.size ≤ maxLen
  nargs : x.args.length ≤ maxLen
  args : ∀ z ∈ x.args, I64 z
def insCells (x : Ins) (v : Value) : List Value := [.int .i64 x.kind, .int .i64 x.op, .int .i64 x.d, .int .i64 x.a, .int .i64 x.b, .int .i32 x.num, .string x.name, v]
def RdIns (w : World) (T : Nat → Prop) (x : Ins) (cs : List Value) : Prop := InsOk x ∧ ∃ A c, cs = insCells x (.slice A x.args.length c) ∧ RdT w T A (ints x.args)

structure BlkOk (b : Blk) : Prop where
  kind : I64 b.kind
  a : I64 b.a
  to : I64 b.to
  els : I64 b.els
  nins : b.ins.length ≤ maxLen
def blkCells (b : Blk) (v : Value) : List Value := [v, .int .i64 b.kind, .int .i64 b.a, .int .i64 b.to, .int .i64 b.els]
def RdBlk (w : World) (T : Nat → Prop) (b : Blk) (cs : List Value) : Prop := BlkOk b ∧ ∃ A c, cs = blkCells b (.slice A b.ins.length c) ∧ RdSl 8 (RdIns w T) w T A b.ins

structure FnOk (f : Fn) : Prop where
  name : f.name.size ≤ maxLen
  params : I64 f.params
  regs : I64 f.regs
  nblocks : f.blocks.length ≤ maxLen
def fnCells (f : Fn) (v : Value) : List Value := [.string f.name, .int .i64 f.params, .int .i64 f.regs, v]
def RdFn (w : World) (T : Nat → Prop) (f : Fn) (cs : List Value) : Prop := FnOk f ∧ ∃ A c, cs = fnCells f (.slice A f.blocks.length c) ∧ RdSl 5 (RdBlk w T) w T A f.blocks

def RdGlob (g : Glob) (cs : List Value) : Prop := (g.name.size ≤ maxLen ∧ I64 g.size) ∧ cs = [.string g.name, .int .i64 g.size]

/-- A program of blocks, as the two slices that it is. -/
structure RdMid (w : World) (T : Nat → Prop) (m : Mid) (A : Option Addr) (c : Nat) (B : Option Addr) (d : Nat) : Prop where
  globals : RdSl 2 RdGlob w T A m.globals
  fns : RdSl 4 (RdFn w T) w T B m.fns
  nglobals : m.globals.length ≤ maxLen
  nfns : m.fns.length ≤ maxLen

/-! ### carried on -/
section
variable {w w' : World} {S T T' : Nat → Prop}
theorem RdT.kept {A : Option Addr} {xs : List Value} (h : RdT w T A xs) (hc : Chg S w w') (hT : ∀ k, T k → k < w.heap.size → ¬ S k) : RdT w' T A xs := by
  intro hp
  obtain ⟨g, off, hA, ht, hg, hx⟩ := h hp
  exact ⟨g, off, hA, ht, Nat.lt_of_lt_of_le hg hc.size, fun j u hu => hc.cell (p := ⟨g, off + j, none⟩) (hx j u hu) (hT g ht hg)⟩
theorem RdT.mono {A : Option Addr} {xs : List Value} (h : RdT w T A xs) (hT : ∀ k, T k → T' k) : RdT w T' A xs := by
  intro hp
  obtain ⟨g, off, hA, ht, hg, hx⟩ := h hp
  exact ⟨g, off, hA, hT g ht, hg, hx⟩
theorem RdSl.kept {α : Type} {size : Nat} {R R' : α → List Value → Prop} {A : Option Addr} {xs : List α} (h : RdSl size R w T A xs) (hc : Chg S w w') (hT : ∀ k, T k → k < w.heap.size → ¬ S k) (hR : ∀ x cs, R x cs → R' x cs) : RdSl size R' w' T A xs := by
  intro hp
  obtain ⟨g, off, hA, ht, hg, hx⟩ := h hp
  refine ⟨g, off, hA, ht, Nat.lt_of_lt_of_le hg hc.size, fun i x hi => ?_⟩
  obtain ⟨cs, h1, h2, h3⟩ := hx i x hi
  exact ⟨cs, h1, hR x cs h2, fun j u hu => hc.cell (p := ⟨g, off + i * size + j, none⟩) (h3 j u hu) (hT g ht hg)⟩
theorem RdSl.mono {α : Type} {size : Nat} {R R' : α → List Value → Prop} {A : Option Addr} {xs : List α} (h : RdSl size R w T A xs) (hT : ∀ k, T k → T' k) (hR : ∀ x cs, R x cs → R' x cs) : RdSl size R' w T' A xs := by
  intro hp
  obtain ⟨g, off, hA, ht, hg, hx⟩ := h hp
  refine ⟨g, off, hA, hT g ht, hg, fun i x hi => ?_⟩
  obtain ⟨cs, h1, h2, h3⟩ := hx i x hi
  exact ⟨cs, h1, hR x cs h2, h3⟩
theorem RdIns.kept {x : Ins} {cs : List Value} (h : RdIns w T x cs) (hc : Chg S w w') (hT : ∀ k, T k → k < w.heap.size → ¬ S k) : RdIns w' T x cs := by
  obtain ⟨h1, A, c, h2, h3⟩ := h; exact ⟨h1, A, c, h2, h3.kept hc hT⟩
theorem RdIns.mono {x : Ins} {cs : List Value} (h : RdIns w T x cs) (hT : ∀ k, T k → T' k) : RdIns w T' x cs := by
  obtain ⟨h1, A, c, h2, h3⟩ := h; exact ⟨h1, A, c, h2, h3.mono hT⟩
theorem RdBlk.kept {x : Blk} {cs : List Value} (h : RdBlk w T x cs) (hc : Chg S w w') (hT : ∀ k, T k → k < w.heap.size → ¬ S k) : RdBlk w' T x cs := by
  obtain ⟨h1, A, c, h2, h3⟩ := h; exact ⟨h1, A, c, h2, h3.kept hc hT fun _ _ h => h.kept hc hT⟩
theorem RdBlk.mono {x : Blk} {cs : List Value} (h : RdBlk w T x cs) (hT : ∀ k, T k → T' k) : RdBlk w T' x cs := by
  obtain ⟨h1, A, c, h2, h3⟩ := h; exact ⟨h1, A, c, h2, h3.mono hT fun _ _ h => h.mono hT⟩
theorem RdFn.kept {x : Fn} {cs : List Value} (h : RdFn w T x cs) (hc : Chg S w w') (hT : ∀ k, T k → k < w.heap.size → ¬ S k) : RdFn w' T x cs := by
  obtain ⟨h1, A, c, h2, h3⟩ := h; exact ⟨h1, A, c, h2, h3.kept hc hT fun _ _ h => h.kept hc hT⟩
theorem RdFn.mono {x : Fn} {cs : List Value} (h : RdFn w T x cs) (hT : ∀ k, T k → T' k) : RdFn w T' x cs := by
  obtain ⟨h1, A, c, h2, h3⟩ := h; exact ⟨h1, A, c, h2, h3.mono hT fun _ _ h => h.mono hT⟩
theorem RdMid.kept {m : Mid} {A B : Option Addr} {c d : Nat} (h : RdMid w T m A c B d) (hc : Chg S w w') (hT : ∀ k, T k → k < w.heap.size → ¬ S k) : RdMid w' T m A c B d :=
  ⟨h.globals.kept hc hT fun _ _ h => h, h.fns.kept hc hT fun _ _ h => h.kept hc hT, h.nglobals, h.nfns⟩
theorem RdMid.mono {m : Mid} {A B : Option Addr} {c d : Nat} (h : RdMid w T m A c B d) (hT : ∀ k, T k → T' k) : RdMid w T' m A c B d :=
  ⟨h.globals.mono hT fun _ _ h => h, h.fns.mono hT fun _ _ h => h.mono hT, h.nglobals, h.nfns⟩
/-- Below N nothing turns: what lies below N reads as before. -/
theorem chg_of_below {B : Nat} (h : Below B w w') : Chg (fun k => B ≤ k) w w' := ⟨h.os, h.tape, h.output, h.size, fun k _ hk => h.block k (by omega)⟩
end

/-! ### out of an argument -/
section
variable {H : Type} {enc : TypeId × Value → H} {P : Program} {w : World} {base : Nat} {spare : Nat → Bool} {held : Bool}
def Old (w : World) : Nat → Prop := fun k => k < w.heap.size

theorem fields_of {e : Nat} {fs : Array Field} {fuel : Nat} {cs : List Value} {x : DataW H × List MemPlace} (he : P.underlying e = some (.struct fs)) (hone : Go.Deep.oneCellFields P fs = true) (hC : P.cellsOf e = fs.size)
    (h : DataW.trod enc P w base spare held fuel e cs = some x) : cs.length = fs.size ∧ ∃ n, ∀ (j : Nat) (f : Field), fs[j]? = some f → ∃ v y, cs[j]? = some v ∧ DataW.trod enc P w base spare held n f.type [v] = some y := by
  obtain ⟨ys, n, _, _, hlen, hyl, hf⟩ := DataW.trod_struct he h
  have hcl : cs.length = fs.size := by rw [hlen, hC]
  refine ⟨hcl, n, fun j f hj => ?_⟩
  obtain ⟨ho, hk⟩ := Go.Deep.hone_of hone j f hj
  have hjl : j < fs.size := (Array.getElem?_eq_some_iff.1 hj).1
  have h1 := hf j f hj
  rw [ho, hk] at h1
  have hone' : (cs.drop j).take 1 = [cs[j]'(by omega)] := by
    rw [List.drop_eq_getElem_cons (by omega)]; rfl
  rw [hone'] at h1
  have hys : ys[j]? = some (ys[j]'(by omega)) := List.getElem?_eq_getElem (by omega)
  exact ⟨_, _, List.getElem?_eq_getElem (by omega), h1.trans hys⟩

theorem arg_row {α : Type} {t e size : Nat} {R : α → List Value → Prop} {fuel : Nat} {a : Option Addr} {n c : Nat} {x : DataW H × List MemPlace} (ht : P.underlying t = some (.slice e)) (hs : P.cellsOf e = size) (hs0 : 0 < size)
    (hR : ∀ m cs y, DataW.trod enc P w base spare held m e cs = some y → ∃ x, R x cs ∧ cs.length = size)
    (h : DataW.trod enc P w base spare held fuel t [.slice a n c] = some x) : ∃ xs : List α, xs.length = n ∧ n ≤ maxLen ∧ RdSl size R w (Old w) a xs := by
  rcases Go.Deep.open_slice ht h with ⟨hcs, _⟩ | ⟨a', len, cap, m, n', D, Pl, hcs, _, hl, hm, hmm, _, hi⟩
  · simp at hcs
    obtain ⟨rfl, rfl, rfl⟩ := hcs
    exact ⟨[], rfl, Nat.zero_le _, fun h => by simp at h⟩
  · simp at hcs
    obtain ⟨rfl, rfl, rfl⟩ := hcs
    have hle : n ≤ m := by rw [hmm]; split <;> omega
    have hex : ∀ i, i < n → ∃ x : α, ∃ cs : List Value, cs.length = size ∧ R x cs ∧ ∀ (j : Nat) u, cs[j]? = some u → w.cell? (a'.add (i * size + j)) = some u := by
      intro i hin
      obtain ⟨cs, hc, htr⟩ := hi i (by omega)
      obtain ⟨x, hx, hcl⟩ := hR _ _ _ htr
      rw [hs] at hc
      obtain ⟨_, _, hat⟩ := World.cells?_some hc
      refine ⟨x, cs, hcl, hx, fun j u hu => ?_⟩
      have hj : j < size := by rw [← hcl]; exact (List.getElem?_eq_some_iff.1 hu).1
      rw [← Go.Deep.add_add, hat j hj, hu]
    rcases Nat.eq_zero_or_pos n with h0 | h0
    · exact ⟨[], h0.symm, by omega, fun h => by simp at h⟩
    obtain ⟨x0, _⟩ := hex 0 h0
    obtain ⟨f, hf⟩ : ∃ f : Nat → α, ∀ i, i < n → ∃ cs : List Value, cs.length = size ∧ R (f i) cs ∧ ∀ (j : Nat) u, cs[j]? = some u → w.cell? (a'.add (i * size + j)) = some u :=
      ⟨fun i => if h : i < n then Classical.choose (hex i h) else x0, fun i hin => by dsimp only; rw [dif_pos hin]; exact Classical.choose_spec (hex i hin)⟩
    refine ⟨(List.range n).map f, by simp, Nat.le_trans hl hm, fun _ => ?_⟩
    obtain ⟨cs0, hcl0, _, hat0⟩ := hf 0 h0
    have h00 := hat0 0 (cs0[0]'(by omega)) (List.getElem?_eq_getElem (by omega))
    rw [Nat.zero_mul, Nat.zero_add] at h00
    obtain ⟨g, off, rfl⟩ := plain_of_cell h00
    have hg : g < w.heap.size := World.block_lt_of_cell? w ⟨g, off, none⟩ (by rw [Addr.add_lit] at h00; simpa using h00)
    refine ⟨g, off, rfl, hg, hg, fun i x hx => ?_⟩
    have hin : i < n := by have := (List.getElem?_eq_some_iff.1 hx).1; simpa using this
    have hxe : x = f i := by simp [hin] at hx; exact hx.symm
    subst hxe
    obtain ⟨cs, h1, h2, h3⟩ := hf i hin
    refine ⟨cs, h1, h2, fun j u hu => ?_⟩
    have := h3 j u hu
    rw [Addr.add_lit, ← Nat.add_assoc] at this
    exact this

theorem len8 {α : Type} {cs : List α} (h : cs.length = 8) : ∃ a b c d e f g i, cs = [a, b, c, d, e, f, g, i] := by
  match cs, h with
  | [a, b, c, d, e, f, g, i], _ => exact ⟨a, b, c, d, e, f, g, i, rfl⟩
theorem len5 {α : Type} {cs : List α} (h : cs.length = 5) : ∃ a b c d e, cs = [a, b, c, d, e] := by
  match cs, h with
  | [a, b, c, d, e], _ => exact ⟨a, b, c, d, e, rfl⟩
theorem len4 {α : Type} {cs : List α} (h : cs.length = 4) : ∃ a b c d, cs = [a, b, c, d] := by
  match cs, h with
  | [a, b, c, d], _ => exact ⟨a, b, c, d, rfl⟩
theorem len2 {α : Type} {cs : List α} (h : cs.length = 2) : ∃ a b, cs = [a, b] := by
  match cs, h with
  | [a, b], _ => exact ⟨a, b, rfl⟩
theorem field_at {P : Program} {cs : List Value} {fs : Array Field} {n : Nat} (hf : ∀ (j : Nat) (f : Field), fs[j]? = some f → ∃ v y, cs[j]? = some v ∧ DataW.trod enc P w base spare held n f.type [v] = some y)
    (j : Nat) (f : Field) (hj : fs[j]? = some f) {v : Value} (hv : cs[j]? = some v) : ∃ y, DataW.trod enc P w base spare held n f.type [v] = some y := by
  obtain ⟨v', y, h1, h2⟩ := hf j f hj
  rw [hv] at h1; cases h1; exact ⟨y, h2⟩
theorem cell_int {t n : Nat} {k : IntKind} {v : Value} (ht : P.underlying t = some (.int k)) (h : ∃ y, DataW.trod enc P w base spare held n t [v] = some y) : ∃ z, v = .int k z ∧ (Lit.int k z).wf = true := by
  obtain ⟨y, h⟩ := h
  obtain ⟨z, h1, _, h2⟩ := DataW.trod_int ht h
  simp at h1
  exact ⟨z, h1, h2⟩
theorem cell_str {t n : Nat} {v : Value} (ht : P.underlying t = some .string) (h : ∃ y, DataW.trod enc P w base spare held n t [v] = some y) : ∃ s : ByteArray, v = .string s ∧ s.size ≤ maxLen := by
  obtain ⟨y, h⟩ := h
  obtain ⟨z, h1, _, h2⟩ := DataW.trod_string ht h
  simp at h1
  exact ⟨z, h1, h2⟩
theorem cell_slice {t e n : Nat} {v : Value} (ht : P.underlying t = some (.slice e)) (h : ∃ y, DataW.trod enc P w base spare held n t [v] = some y) : ∃ a k c, v = .slice a k c := by
  obtain ⟨y, h⟩ := h
  rcases DataW.trod_slice ht h with ⟨h0, _⟩ | ⟨a, len, cap, _, _, _, _, h0, _⟩
  · simp at h0; exact ⟨_, _, _, h0⟩
  · simp at h0; exact ⟨_, _, _, h0⟩
theorem i32_of_wf {z : Int} (h : (Lit.int .i32 z).wf = true) : I32 z := by
  simp [Lit.wf, IntKind.min, IntKind.max, IntKind.signed, IntKind.bits] at h
  unfold I32; omega
theorem rdT_of_reads {A : Option Addr} {xs : List Value} (h : ReadsAt w A xs) : RdT w (Old w) A xs := by
  intro hp
  obtain ⟨g, off, hA, hg, hx⟩ := h hp
  exact ⟨g, off, hA, hg, hg, hx⟩
end

section
variable {H : Type} {enc : TypeId × Value → H} {w : World} {base : Nat} {spare : Nat → Bool} {held : Bool}
theorem trod_ins (m : Nat) (cs : List Value) (y : DataW H × List MemPlace) (h : DataW.trod enc Try.prog w base spare held m 48 cs = some y) : ∃ x, RdIns w (Old w) x cs ∧ cs.length = 8 := by
  obtain ⟨hl, n, hf⟩ := fields_of (P := Try.prog) Try.underlying48 (by kernel_rfl) (by kernel_rfl) h
  obtain ⟨c0, c1, c2, c3, c4, c5, c6, c7, rfl⟩ := len8 hl
  obtain ⟨z0, rfl, w0⟩ := cell_int Try.underlying3 (field_at hf 0 _ rfl rfl)
  obtain ⟨z1, rfl, w1⟩ := cell_int Try.underlying3 (field_at hf 1 _ rfl rfl)
  obtain ⟨z2, rfl, w2⟩ := cell_int Try.underlying3 (field_at hf 2 _ rfl rfl)
  obtain ⟨z3, rfl, w3⟩ := cell_int Try.underlying3 (field_at hf 3 _ rfl rfl)
  obtain ⟨z4, rfl, w4⟩ := cell_int Try.underlying3 (field_at hf 4 _ rfl rfl)
  obtain ⟨z5, rfl, w5⟩ := cell_int Try.underlying21 (field_at hf 5 _ rfl rfl)
  obtain ⟨s, rfl, ws⟩ := cell_str Try.underlying9 (field_at hf 6 _ rfl rfl)
  obtain ⟨a, k, c, rfl⟩ := cell_slice Try.underlying46 (field_at hf 7 _ rfl rfl)
  obtain ⟨y7, h7⟩ := field_at hf 7 _ rfl rfl
  obtain ⟨zs, rfl, hmx, hz, hrd⟩ := arg_ints Try.underlying46 Try.underlying3 (by kernel_rfl) h7
  exact ⟨⟨z0, z1, z2, z3, z4, z5, s, zs⟩, ⟨⟨i64_of_wf w0, i64_of_wf w1, i64_of_wf w2, i64_of_wf w3, i64_of_wf w4, i32_of_wf w5, ws, hmx, fun z h => i64_of_wf (hz z h)⟩, a, c, rfl, rdT_of_reads hrd⟩, rfl⟩
theorem trod_blk (m : Nat) (cs : List Value) (y : DataW H × List MemPlace) (h : DataW.trod enc Try.prog w base spare held m 45 cs = some y) : ∃ x, RdBlk w (Old w) x cs ∧ cs.length = 5 := by
  obtain ⟨hl, n, hf⟩ := fields_of (P := Try.prog) Try.underlying45 (by kernel_rfl) (by kernel_rfl) h
  obtain ⟨c0, c1, c2, c3, c4, rfl⟩ := len5 hl
  obtain ⟨a, k, c, rfl⟩ := cell_slice Try.underlying43 (field_at hf 0 _ rfl rfl)
  obtain ⟨z1, rfl, w1⟩ := cell_int Try.underlying3 (field_at hf 1 _ rfl rfl)
  obtain ⟨z2, rfl, w2⟩ := cell_int Try.underlying3 (field_at hf 2 _ rfl rfl)
  obtain ⟨z3, rfl, w3⟩ := cell_int Try.underlying3 (field_at hf 3 _ rfl rfl)
  obtain ⟨z4, rfl, w4⟩ := cell_int Try.underlying3 (field_at hf 4 _ rfl rfl)
  obtain ⟨y7, h7⟩ := field_at hf 0 _ rfl rfl
  obtain ⟨xs, rfl, hmx, hrd⟩ := arg_row (P := Try.prog) Try.underlying43 (by kernel_rfl) (by decide) trod_ins h7
  exact ⟨⟨xs, z1, z2, z3, z4⟩, ⟨⟨i64_of_wf w1, i64_of_wf w2, i64_of_wf w3, i64_of_wf w4, hmx⟩, a, c, rfl, hrd⟩, rfl⟩
theorem trod_fn (m : Nat) (cs : List Value) (y : DataW H × List MemPlace) (h : DataW.trod enc Try.prog w base spare held m 31 cs = some y) : ∃ x, RdFn w (Old w) x cs ∧ cs.length = 4 := by
  obtain ⟨hl, n, hf⟩ := fields_of (P := Try.prog) Try.underlying31 (by kernel_rfl) (by kernel_rfl) h
  obtain ⟨c0, c1, c2, c3, rfl⟩ := len4 hl
  obtain ⟨s, rfl, ws⟩ := cell_str Try.underlying9 (field_at hf 0 _ rfl rfl)
  obtain ⟨z1, rfl, w1⟩ := cell_int Try.underlying3 (field_at hf 1 _ rfl rfl)
  obtain ⟨z2, rfl, w2⟩ := cell_int Try.underlying3 (field_at hf 2 _ rfl rfl)
  obtain ⟨a, k, c, rfl⟩ := cell_slice Try.underlying29 (field_at hf 3 _ rfl rfl)
  obtain ⟨y7, h7⟩ := field_at hf 3 _ rfl rfl
  obtain ⟨xs, rfl, hmx, hrd⟩ := arg_row (P := Try.prog) Try.underlying29 (by kernel_rfl) (by decide) trod_blk h7
  exact ⟨⟨s, z1, z2, xs⟩, ⟨⟨ws, i64_of_wf w1, i64_of_wf w2, hmx⟩, a, c, rfl, hrd⟩, rfl⟩
theorem trod_glob (m : Nat) (cs : List Value) (y : DataW H × List MemPlace) (h : DataW.trod enc Try.prog w base spare held m 51 cs = some y) : ∃ x, RdGlob x cs ∧ cs.length = 2 := by
  obtain ⟨hl, n, hf⟩ := fields_of (P := Try.prog) Try.underlying51 (by kernel_rfl) (by kernel_rfl) h
  obtain ⟨c0, c1, rfl⟩ := len2 hl
  obtain ⟨s, rfl, ws⟩ := cell_str Try.underlying9 (field_at hf 0 _ rfl rfl)
  obtain ⟨z1, rfl, w1⟩ := cell_int Try.underlying3 (field_at hf 1 _ rfl rfl)
  exact ⟨⟨s, z1⟩, ⟨⟨ws, i64_of_wf w1⟩, rfl⟩, rfl⟩
/-- A program of blocks that came in. -/
theorem arg_mid {fuel : Nat} {v : Value} {x : DataW H × List MemPlace} (hv : ∃ cs, v = .agg cs) (h : DataW.trod enc Try.prog w base spare held fuel 25 v.cells.toList = some x) :
    ∃ m A c B d, v = .agg #[.slice A m.globals.length c, .slice B m.fns.length d] ∧ RdMid w (Old w) m A c B d := by
  obtain ⟨cs, rfl⟩ := hv
  obtain ⟨hl, n, hf⟩ := fields_of (P := Try.prog) Try.underlying25 (by kernel_rfl) (by kernel_rfl) h
  simp only [Value.cells] at hl hf
  obtain ⟨c0, c1, hcs⟩ := len2 hl
  obtain ⟨l⟩ := cs
  simp only at hcs
  subst hcs
  obtain ⟨a, k, c, rfl⟩ := cell_slice Try.underlying22 (field_at hf 0 _ rfl rfl)
  obtain ⟨a', k', c', rfl⟩ := cell_slice Try.underlying23 (field_at hf 1 _ rfl rfl)
  obtain ⟨y0, h0⟩ := field_at hf 0 _ rfl rfl
  obtain ⟨y1, h1⟩ := field_at hf 1 _ rfl rfl
  obtain ⟨gs, rfl, hm0, hr0⟩ := arg_row (P := Try.prog) Try.underlying22 (by kernel_rfl) (by decide) trod_glob h0
  obtain ⟨fs, rfl, hm1, hr1⟩ := arg_row (P := Try.prog) Try.underlying23 (by kernel_rfl) (by decide) trod_fn h1
  exact ⟨⟨gs, fs⟩, a, c, a', c', rfl, ⟨hr0, hr1, hm0, hm1⟩⟩
end
end Go.Proofs.Ytlniohgnkihefaa
