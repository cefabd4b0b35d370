/- A slice of Op as an argument. -/
import Derived.Test.YtdnlgcomhgnegaaRows0
import Derived.Test.YtdnlgcomhgnegaaArgs
import Derived.Deep.Slices
import Derived.Deep.Fields
namespace Go.Proofs.Ytdnlgcomhgnegaa
open Go.ChangeShapes Go.WideShapes Go.ChangeAt Go.RowKit

def RdSl {α : Type} (size : Nat) (R : α → List Value → Prop) (w : World) (T : Nat → Prop) (A : Option Addr) (xs : List α) : Prop :=
  0 < xs.length → ∃ g off, A = some ⟨g, off, none⟩ ∧ T g ∧ g < w.heap.size ∧ ∀ i x, xs[i]? = some x → ∃ cs, cs.length = size ∧ R x cs ∧ ∀ j u, cs[j]? = some u → w.cell? ⟨g, off + i * size + j, none⟩ = some u
/-! ### out of an argument -/
section
variable {H : Type} {enc : TypeId × Value → H} {P : Program} {w : World} {base : Nat} {spare : Nat → Bool} {held : Bool}
def Old (w : World) : Nat → Prop := fun k => k < w.heap.size

theorem fields_of {e : Nat} {fs : Array Field} {fuel : Nat} {cs : List Value} {x : DataW H × List MemPlace} (he : P.underlying e = some (.struct fs)) (hone : Go.Deep.oneCellFields P fs = true) (hC : P.cellsOf e = fs.size)
    (h : DataW.trod enc P w base spare held fuel e cs = some x) : cs.length = fs.size ∧ ∃ n, ∀ (j : Nat) (f : Field), fs[j]? = some f → ∃ v y, cs[j]? = some v ∧ DataW.trod enc P w base spare held n f.type [v] = some y := by
  obtain ⟨ys, n, _, _, hlen, hyl, hf⟩ := DataW.trod_struct he h
  have hcl : cs.length = fs.size := by rw [hlen, hC]
  refine ⟨hcl, n, fun j f hj => ?_⟩
  obtain ⟨ho, hk⟩ := Go.Deep.hone_of hone j f hj
  have hjl : j < fs.size := (Array.getElem?_eq_some_iff.1 hj).1
  have h1 := hf j f hj
  rw [ho, hk] at h1
  have hone' : (cs.drop j).take 1 = [cs[j]'(by omega)] := by
    rw [List.drop_eq_getElem_cons (by omega)]; rfl
  rw [hone'] at h1
  have hys : ys[j]? = some (ys[j]'(by omega)) := List.getElem?_eq_getElem (by omega)
  exact ⟨_, _, List.getElem?_eq_getElem (by omega), h1.trans hys⟩

theorem arg_row {α : Type} {t e size : Nat} {R : α → List Value → Prop} {fuel : Nat} {a : Option Addr} {n c : Nat} {x : DataW H × List MemPlace} (ht : P.underlying t = some (.slice e)) (hs : P.cellsOf e = size) (hs0 : 0 < size)
    (hR : ∀ m cs y, DataW.trod enc P w base spare held m e cs = some y → ∃ x, R x cs ∧ cs.length = size)
    (h : DataW.trod enc P w base spare held fuel t [.slice a n c] = some x) : ∃ xs : List α, xs.length = n ∧ n ≤ maxLen ∧ RdSl size R w (Old w) a xs := by
  rcases Go.Deep.open_slice ht h with ⟨hcs, _⟩ | ⟨a', len, cap, m, n', D, Pl, hcs, _, hl, hm, hmm, _, hi⟩
  · simp at hcs
    obtain ⟨rfl, rfl, rfl⟩ := hcs
    exact ⟨[], rfl, Nat.zero_le _, fun h => by simp at h⟩
  · simp at hcs
    obtain ⟨rfl, rfl, rfl⟩ := hcs
    have hle : n ≤ m := by rw [hmm]; split <;> omega
    have hex : ∀ i, i < n → ∃ x : α, ∃ cs : List Value, cs.length = size ∧ R x cs ∧ ∀ (j : Nat) u, cs[j]? = some u → w.cell? (a'.add (i * size + j)) = some u := by
      intro i hin
      obtain ⟨cs, hc, htr⟩ := hi i (by omega)
      obtain ⟨x, hx, hcl⟩ := hR _ _ _ htr
      rw [hs] at hc
      obtain ⟨_, _, hat⟩ := World.cells?_some hc
      refine ⟨x, cs, hcl, hx, fun j u hu => ?_⟩
      have hj : j < size := by rw [← hcl]; exact (List.getElem?_eq_some_iff.1 hu).1
      rw [← Go.Deep.add_add, hat j hj, hu]
    rcases Nat.eq_zero_or_pos n with h0 | h0
    · exact ⟨[], h0.symm, by omega, fun h => by simp at h⟩
    obtain ⟨x0, _⟩ := hex 0 h0
    obtain ⟨f, hf⟩ : ∃ f : Nat → α, ∀ i, i < n → ∃ cs : List Value, cs.length = size ∧ R (f i) cs ∧ ∀ (j : Nat) u, cs[j]? = some u → w.cell? (a'.add (i * size + j)) = some u :=
      ⟨fun i => if h : i < n then Classical.choose (hex i h) else x0, fun i hin => by dsimp only; rw [dif_pos hin]; exact Classical.choose_spec (hex i hin)⟩
    refine ⟨(List.range n).map f, by simp, Nat.le_trans hl hm, fun _ => ?_⟩
    obtain ⟨cs0, hcl0, _, hat0⟩ := hf 0 h0
    have h00 := hat0 0 (cs0[0]'(by omega)) (List.getElem?_eq_getElem (by omega))
    rw [Nat.zero_mul, Nat.zero_add] at h00
    obtain ⟨g, off, rfl⟩ := plain_of_cell h00
    have hg : g < w.heap.size := World.block_lt_of_cell? w ⟨g, off, none⟩ (by rw [Addr.add_lit] at h00; simpa using h00)
    refine ⟨g, off, rfl, hg, hg, fun i x hx => ?_⟩
    have hin : i < n := by have := (List.getElem?_eq_some_iff.1 hx).1; simpa using this
    have hxe : x = f i := by simp [hin] at hx; exact hx.symm
    subst hxe
    obtain ⟨cs, h1, h2, h3⟩ := hf i hin
    refine ⟨cs, h1, h2, fun j u hu => ?_⟩
    have := h3 j u hu
    rw [Addr.add_lit, ← Nat.add_assoc] at this
    exact this

theorem len3 {α : Type} {cs : List α} (h : cs.length = 3) : ∃ a b c, cs = [a, b, c] := by
  match cs, h with
  | [a, b, c], _ => exact ⟨a, b, c, rfl⟩
theorem field_at {P : Program} {cs : List Value} {fs : Array Field} {n : Nat} (hf : ∀ (j : Nat) (f : Field), fs[j]? = some f → ∃ v y, cs[j]? = some v ∧ DataW.trod enc P w base spare held n f.type [v] = some y)
    (j : Nat) (f : Field) (hj : fs[j]? = some f) {v : Value} (hv : cs[j]? = some v) : ∃ y, DataW.trod enc P w base spare held n f.type [v] = some y := by
  obtain ⟨v', y, h1, h2⟩ := hf j f hj
  rw [hv] at h1; cases h1; exact ⟨y, h2⟩
theorem cell_int {t n : Nat} {k : IntKind} {v : Value} (ht : P.underlying t = some (.int k)) (h : ∃ y, DataW.trod enc P w base spare held n t [v] = some y) : ∃ z, v = .int k z ∧ (Lit.int k z).wf = true := by
  obtain ⟨y, h⟩ := h
  obtain ⟨z, h1, _, h2⟩ := DataW.trod_int ht h
  simp at h1
  exact ⟨z, h1, h2⟩
theorem cell_str {t n : Nat} {v : Value} (ht : P.underlying t = some .string) (h : ∃ y, DataW.trod enc P w base spare held n t [v] = some y) : ∃ s : ByteArray, v = .string s ∧ s.size ≤ maxLen := by
  obtain ⟨y, h⟩ := h
  obtain ⟨z, h1, _, h2⟩ := DataW.trod_string ht h
  simp at h1
  exact ⟨z, h1, h2⟩
end

def OpOk (o : OpR) : Prop := (0 ≤ o.1 ∧ o.1 < 18446744073709551616) ∧ (-9223372036854775808 ≤ o.2.1 ∧ o.2.1 ≤ 9223372036854775807) ∧ o.2.2.size ≤ maxLen
def RdOp (o : OpR) (cs : List Value) : Prop := OpOk o ∧ cs = [.int .u64 o.1, .int .i64 o.2.1, .string o.2.2]
theorem u64_of_wf {z : Int} (h : (Lit.int .u64 z).wf = true) : 0 ≤ z ∧ z < 18446744073709551616 := by
  simp [Lit.wf, IntKind.min, IntKind.max, IntKind.signed, IntKind.bits] at h
  omega
section
variable {H : Type} {enc : TypeId × Value → H} {w : World} {base : Nat} {spare : Nat → Bool} {held : Bool}
theorem trod_op (m : Nat) (cs : List Value) (y : DataW H × List MemPlace) (h : DataW.trod enc Try.prog w base spare held m 39 cs = some y) : ∃ x, RdOp x cs ∧ cs.length = 3 := by
  obtain ⟨hl, n, hf⟩ := fields_of (P := Try.prog) Try.underlying39 (by kernel_rfl) (by kernel_rfl) h
  obtain ⟨c0, c1, c2, rfl⟩ := len3 hl
  obtain ⟨z0, rfl, w0⟩ := cell_int Try.underlying37 (field_at hf 0 _ rfl rfl)
  obtain ⟨z1, rfl, w1⟩ := cell_int Try.underlying3 (field_at hf 1 _ rfl rfl)
  obtain ⟨s, rfl, ws⟩ := cell_str Try.underlying9 (field_at hf 2 _ rfl rfl)
  exact ⟨(z0, z1, s), ⟨⟨u64_of_wf w0, i64_of_wf w1, ws⟩, rfl⟩, rfl⟩
end
theorem opsV_len (l : List OpR) : (opsV l).length = l.length * 3 := by
  induction l with
  | nil => rfl
  | cons o l ih => unfold opsV at ih ⊢; rw [List.flatMap_cons, List.length_append, ih]; simp; omega
theorem opsV_at {l : List OpR} {k : Nat} (hk : k < l.length) (j : Nat) (hj : j < 3) : (opsV l)[k * 3 + j]? = ([Value.int .u64 l[k].1, .int .i64 l[k].2.1, .string l[k].2.2])[j]? := by
  have hl : l = l.take k ++ l[k] :: l.drop (k + 1) := by rw [List.getElem_cons_drop, List.take_append_drop]
  have h2 : opsV l = opsV (l.take k) ++ ([Value.int .u64 l[k].1, .int .i64 l[k].2.1, .string l[k].2.2] ++ opsV (l.drop (k + 1))) := by
    conv => lhs; rw [hl]
    unfold opsV
    rw [List.flatMap_append, List.flatMap_cons]
  have h3 : (opsV (l.take k)).length = k * 3 := by rw [opsV_len, List.length_take, Nat.min_eq_left (by omega)]
  rw [h2, List.getElem?_append_right (by omega), h3, Nat.add_sub_cancel_left, List.getElem?_append_left (by simpa using hj)]
/-- What the walk asks of the argument. -/
theorem ops_reads {w : World} {A : Option Addr} {l : List OpR} (h : RdSl 3 RdOp w (Old w) A l) : ReadsAt w A (opsV l) ∧ ∀ o ∈ l, OpOk o := by
  constructor
  · intro hp
    rw [opsV_len] at hp
    obtain ⟨g, off, rfl, _, hg, hx⟩ := h (by omega)
    refine ⟨g, off, rfl, hg, fun q u hu => ?_⟩
    have hq : q < l.length * 3 := by rw [← opsV_len]; exact (List.getElem?_eq_some_iff.1 hu).1
    have hk : q / 3 < l.length := by omega
    obtain ⟨cs, _, ⟨_, rfl⟩, h3⟩ := hx (q / 3) l[q / 3] (List.getElem?_eq_getElem hk)
    have hat := opsV_at hk (q % 3) (by omega)
    rw [show q / 3 * 3 + q % 3 = q from by omega] at hat
    rw [hat] at hu
    have := h3 (q % 3) u hu
    rwa [show off + q / 3 * 3 + q % 3 = off + q from by omega] at this
  · intro o ho
    obtain ⟨k, hk, rfl⟩ := List.getElem_of_mem ho
    obtain ⟨g, off, _, _, _, hx⟩ := h (by omega)
    obtain ⟨cs, _, ⟨h1, _⟩, _⟩ := hx k l[k] (List.getElem?_eq_getElem hk)
    exact h1
end Go.Proofs.Ytdnlgcomhgnegaa
