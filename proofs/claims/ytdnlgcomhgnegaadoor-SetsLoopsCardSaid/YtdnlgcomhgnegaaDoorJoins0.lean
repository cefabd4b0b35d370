/- SetsJoins: plain laws on two sets' numbers; what stays when one thing is turned. -/
import Derived.Test.YtdnlgcomhgnegaaDoorOf03
import Derived.Test.YtdnlgcomhgnegaaDoorMinus
import Derived.Test.YtdnlgcomhgnegaaDoorRowAll
import Derived.Test.YtdnlgcomhgnegaaDoorAll
namespace Go.Proofs.YtdnlgcomhgnegaaDoor
open Go Go.RowKit

theorem listW_ext (a b : List Nat) : listW a = listW b ↔ ∀ n, memW a n = memW b n := by
  constructor
  · intro h n
    have h1 := mem_listW a (n : Int)
    rw [h, mem_listW] at h1
    rw [Bool.eq_iff_iff]
    constructor
    · intro h2
      obtain ⟨k, hk, h3⟩ := h1.2 ⟨n, rfl, h2⟩
      obtain rfl : n = k := by omega
      exact h3
    · intro h2
      obtain ⟨k, hk, h3⟩ := h1.1 ⟨n, rfl, h2⟩
      obtain rfl : n = k := by omega
      exact h3
  · intro h
    refine rising_eq (listW_rising a) (listW_rising b) fun z => ?_
    rw [mem_listW, mem_listW]
    simp only [h]
/-- A set within another: fewer numbers, or the same. -/
theorem sub_len (a b : List Nat) (h : ∀ n, memW a n = true → memW b n = true) : (listW a).length < (listW b).length ↔ ∃ n, memW b n = true ∧ memW a n = false := by
  have he : listW a = (listW b).filter fun z => hasW a z := by
    refine rising_eq (listW_rising a) ((listW_rising b).filter _) fun z => ?_
    rw [List.mem_filter, mem_listW', mem_listW']
    unfold hasW
    simp only [Bool.and_eq_true, decide_eq_true_eq]
    exact ⟨fun h1 => ⟨⟨h1.1, h _ h1.2⟩, h1⟩, fun h1 => h1.2⟩
  constructor
  · intro hlt
    refine Classical.byContradiction fun hn => ?_
    have : listW a = listW b := (listW_ext a b).2 fun n => by
      cases h1 : memW a n with
      | true => exact (h n h1).symm
      | false =>
        cases h2 : memW b n with
        | false => rfl
        | true => exact absurd ⟨n, h2, h1⟩ hn
    rw [this] at hlt
    omega
  · rintro ⟨n, h1, h2⟩
    rw [he]
    refine filter_lt _ (listW b) (n : Int) ((mem_listW b n).2 ⟨n, rfl, h1⟩) ?_
    unfold hasW
    simpa using h2
theorem newTo_iff (wa wb : List Nat) : newTo wa wb wb.length = true ↔ ∃ n, memW wb n = true ∧ memW wa n = false := by
  unfold newTo
  rw [List.any_eq_true]
  constructor
  · rintro ⟨n, _, h⟩
    simp only [Bool.and_eq_true, Bool.not_eq_true'] at h
    exact ⟨n, h⟩
  · rintro ⟨n, h1, h2⟩
    refine ⟨n, List.mem_range.2 ?_, by simp [h1, h2]⟩
    refine Decidable.byContradiction fun h => ?_
    rw [memW_none wb n (by omega)] at h1; cases h1
theorem join_gain (wa wb w1 : List Nat) (h : ∀ n, memW w1 n = (memW wa n || memW wb n)) : newTo wa wb wb.length = decide ((listW wa).length < (listW w1).length) := by
  rw [Bool.eq_iff_iff, newTo_iff, decide_eq_true_eq, sub_len wa w1 (fun n h1 => by rw [h, h1]; rfl)]
  constructor
  · rintro ⟨n, h1, h2⟩; exact ⟨n, by rw [h, h1, Bool.or_true], h2⟩
  · rintro ⟨n, h1, h2⟩
    rw [h, h2, Bool.false_or] at h1
    exact ⟨n, h1, h2⟩
theorem join_again (wa wb w1 : List Nat) (h : ∀ n, memW w1 n = (memW wa n || memW wb n)) : newTo w1 wb wb.length = false := by
  rw [Bool.eq_false_iff]
  intro h1
  obtain ⟨n, h2, h3⟩ := (newTo_iff w1 wb).1 h1
  rw [h, h2, Bool.or_true] at h3
  cases h3
theorem hitW_iff (ws wc : List Nat) (hl : ws.length ≤ 1024) : hitW ws wc = true ↔ ∃ n, memW wc n = true ∧ memW ws n = true := by
  unfold hitW
  rw [List.any_eq_true]
  constructor
  · rintro ⟨n, _, h⟩
    simp only [Bool.and_eq_true] at h
    exact ⟨n, h⟩
  · rintro ⟨n, h1, h2⟩
    refine ⟨n, List.mem_range.2 ?_, by simp [h1, h2]⟩
    refine Decidable.byContradiction fun h => ?_
    rw [memW_none ws n (by omega)] at h2; cases h2
theorem minus_loss (wa wb w1 : List Nat) (hl : wa.length ≤ 1024) (h : ∀ n, memW w1 n = (memW wa n && !memW wb n)) : hitW wa wb = decide ((listW w1).length < (listW wa).length) := by
  rw [Bool.eq_iff_iff, hitW_iff wa wb hl, decide_eq_true_eq, sub_len w1 wa (fun n h1 => by rw [h] at h1; simp only [Bool.and_eq_true] at h1; exact h1.1)]
  constructor
  · rintro ⟨n, h1, h2⟩; exact ⟨n, h2, by rw [h, h1]; simp⟩
  · rintro ⟨n, h1, h2⟩
    rw [h, h1] at h2
    exact ⟨n, by simpa using h2, h1⟩
theorem minus_again (wa wb w1 : List Nat) (hl : w1.length ≤ 1024) (h : ∀ n, memW w1 n = (memW wa n && !memW wb n)) : hitW w1 wb = false := by
  rw [Bool.eq_false_iff]
  intro h1
  obtain ⟨n, h2, h3⟩ := (hitW_iff w1 wb hl).1 h1
  rw [h, h2] at h3
  simp at h3
theorem hit_self (ws : List Nat) (hl : ws.length ≤ 1024) : hitW ws ws = decide (0 < (listW ws).length) := by
  rw [Bool.eq_iff_iff, hitW_iff ws ws hl, decide_eq_true_eq]
  constructor
  · rintro ⟨n, h1, _⟩
    exact List.length_pos_of_mem ((mem_listW ws n).2 ⟨n, rfl, h1⟩)
  · intro h
    obtain ⟨z, hz⟩ := List.exists_mem_of_length_pos h
    obtain ⟨k, _, hk⟩ := (mem_listW ws z).1 hz
    exact ⟨k, hk, hk⟩
theorem list_none (ws : List Nat) (h : ∀ n, memW ws n = false) : listW ws = [] := by
  rw [List.eq_nil_iff_forall_not_mem]
  intro z hz
  obtain ⟨k, _, hk⟩ := (mem_listW ws z).1 hz
  rw [h] at hk; cases hk
theorem memW_lt {ws : List Nat} (hl : ws.length ≤ 1024) {n : Nat} (h : memW ws n = true) : n < 65536 := by
  refine Decidable.byContradiction fun hn => ?_
  rw [memW_none ws n (by omega)] at h; cases h
/-- A set made of a set's numbers. -/
theorem ofSet_listW (ws : List Nat) (hl : ws.length ≤ 1024) (m : Nat) : ofSet (listW ws) m = memW ws m := by
  unfold ofSet
  rw [Bool.eq_iff_iff, List.any_eq_true]
  constructor
  · rintro ⟨z, hz, h⟩
    obtain ⟨k, rfl, hk⟩ := (mem_listW ws z).1 hz
    simp only [Bool.and_eq_true, beq_iff_eq] at h
    obtain rfl : m = k := by omega
    exact hk
  · intro h
    have := memW_lt hl h
    exact ⟨(m : Int), (mem_listW ws m).2 ⟨m, rfl, h⟩, by unfold inR; simp; omega⟩
theorem both_listW (wa wb w1 : List Nat) (ha : wa.length ≤ 1024) (hb : wb.length ≤ 1024) (h : ∀ n, memW w1 n = (memW wa n || memW wb n)) : ofL (listW wa ++ listW wb) = listW w1 := by
  refine ofL_listW _ w1 fun m => ?_
  have e : ofSet (listW wa ++ listW wb) m = (ofSet (listW wa) m || ofSet (listW wb) m) := by unfold ofSet; rw [List.any_append]
  rw [e, ofSet_listW wa ha, ofSet_listW wb hb, h]
theorem less_listW (wa wb w1 : List Nat) (h : ∀ n, memW w1 n = (memW wa n && !memW wb n)) : (listW wa).filter (fun z => !hasL (listW wb) z) = listW w1 := by
  refine rising_eq ((listW_rising wa).filter _) (listW_rising w1) fun z => ?_
  rw [List.mem_filter, hasL_listW, mem_listW', mem_listW']
  unfold hasW
  rw [h]
  cases decide (0 ≤ z) <;> simp
theorem sameTo_listW (wa wb : List Nat) (h1 : ∀ x ∈ wa, x < big64) (h2 : ∀ x ∈ wb, x < big64) : sameTo wa wb (max wa.length wb.length) = sameL (listW wa) (listW wb) := by
  unfold sameL
  rw [Bool.eq_iff_iff, decide_eq_true_eq, sameTo_iff wa wb h1 h2, listW_ext]

/-- What stays: 'I' stands, and rests on the blocks 'N' alone. -/
structure Fz (W : World) (N : Nat → Prop) (I : World → Prop) : Prop where
  holds : I W
  lt : ∀ k, N k → k < W.heap.size
  keep : ∀ (W' W'' : World) (S : Nat → Prop), Chg S W' W'' → (∀ k, N k → ¬ S k) → I W' → I W''
def Blk (A : Option Addr) (k : Nat) : Prop := ∃ off, A = some ⟨k, off, none⟩
theorem Fz.bits {W : World} {b : Nat} {r : Option Nat} {ws : List Nat} (h : BitsAt W b r ws) : Fz W (FootB b r) (fun W => BitsAt W b r ws) := by
  refine ⟨h, ?_, fun _ _ _ hc hN hI => hI.kept hc (hN b (.inl rfl)) fun k hk => hN k (.inr hk.symm)⟩
  rintro k (rfl | e)
  · exact h.blt
  · exact h.rlt k e.symm
theorem Fz.row {W : World} {A : Option Addr} {xs : List Value} (h : ReadsAt W A xs) (hA : ∀ g off, A = some ⟨g, off, none⟩ → g < W.heap.size) : Fz W (Blk A) (fun W => ReadsAt W A xs) :=
  ⟨h, fun k ⟨off, e⟩ => hA k off e, fun _ _ _ hc hN hI => hI.kept hc fun g off e _ => hN g ⟨off, e⟩⟩
theorem Fz.and {W : World} {N M : Nat → Prop} {I J : World → Prop} (h : Fz W N I) (k : Fz W M J) : Fz W (fun i => N i ∨ M i) (fun W => I W ∧ J W) :=
  ⟨⟨h.holds, k.holds⟩, fun i hi => hi.elim (h.lt i) (k.lt i), fun W' W'' S hc hN hI => ⟨h.keep W' W'' S hc (fun i hi => hN i (.inl hi)) hI.1, k.keep W' W'' S hc (fun i hi => hN i (.inr hi)) hI.2⟩⟩
theorem Fz.chg {W W' : World} {N : Nat → Prop} {I : World → Prop} {S : Nat → Prop} (h : Fz W N I) (hc : Chg S W W') (hN : ∀ k, N k → ¬ S k) : Fz W' N I :=
  ⟨h.keep W W' S hc hN h.holds, fun k hk => Nat.lt_of_lt_of_le (h.lt k hk) hc.size, h.keep⟩
theorem Fz.below {W W' : World} {N : Nat → Prop} {I : World → Prop} (h : Fz W N I) (hb : Below W.heap.size W W') : Fz W' N I := h.chg (Chg.of_below hb fun _ => False) fun _ _ h => h
/-- A thing that the call makes, beside what stays. -/
def Off (N : Nat → Prop) (b : Nat) (r : Option Nat) : Prop := ∀ k, N k → ¬ FootB b r k
theorem Fz.off {W W' : World} {N : Nat → Prop} {I : World → Prop} {b : Nat} {r : Option Nat} {ws : List Nat} (h : Fz W N I) (n : NewBits W W' b r ws) : Off N b r := by
  rintro k hk (rfl | e)
  · have := h.lt k hk; have := n.nb; omega
  · have := h.lt k hk; have := n.nr k e.symm; omega
theorem Fz.grow {W W' : World} {N : Nat → Prop} {I : World → Prop} {b : Nat} {r r' : Option Nat} {ws ws' : List Nat} (h : Fz W N I) (g : GrowAt W b r ws W' r' ws') (ho : Off N b r) : Fz W' N I ∧ Off N b r' := by
  refine ⟨h.chg g.chg ho, ?_⟩
  rintro k hk (e | e)
  · exact ho k hk (.inl e)
  · rcases g.new with h1 | ⟨j, h1, h2⟩
    · exact ho k hk (.inr (by rw [← h1]; exact e))
    · rw [h1] at e; cases e
      have := h.lt k hk; omega
theorem reads_below {w w' : World} {A : Option Addr} {xs : List Value} (h : ReadsAt w A xs) (hb : Below w.heap.size w w') : ReadsAt w' A xs := h.kept (S := fun _ => False) (Chg.of_below hb _) fun _ _ _ _ h => h
theorem Fz.give {w w' : World} {A : Option Addr} {l : List Int} (hR : ReadsAt w' A (ints l)) (hA : ∀ g off, A = some ⟨g, off, none⟩ → (w.heap.size ≤ g ∧ g < w'.heap.size) ∨ none = some (⟨g, off, none⟩ : Addr)) :
    Fz w' (Blk A) (fun W => ReadsAt W A (ints l)) ∧ ∀ k, Blk A k → w.heap.size ≤ k := by
  refine ⟨Fz.row hR fun g off e => ?_, ?_⟩
  · rcases hA g off e with h | h
    · exact h.2
    · cases h
  · rintro k ⟨off, e⟩
    rcases hA k off e with h | h
    · exact h.1
    · cases h
/-- Off the blocks that are made later. -/
theorem off_new {W : World} {N : Nat → Prop} {b : Nat} {r : Option Nat} {ws : List Nat} (h : BitsAt W b r ws) (hN : ∀ k, N k → W.heap.size ≤ k) : Off N b r := by
  rintro k hk (e | e)
  · have := h.blt; have := hN k hk; omega
  · have := h.rlt k e.symm; have := hN k hk; omega
theorem Off.or {N M : Nat → Prop} {b : Nat} {r : Option Nat} (h : Off N b r) (k : Off M b r) : Off (fun i => N i ∨ M i) b r := fun i hi => hi.elim (h i) (k i)

theorem i64_listW (ws : List Nat) (hl : ws.length ≤ 1024) : ∀ z ∈ listW ws, I64 z := fun z hz => by
  obtain ⟨k, rfl, hk⟩ := (mem_listW ws z).1 hz
  have := memW_lt hl hk
  unfold I64
  omega
theorem sameL_refl (l : List Int) : sameL l l = true := decide_eq_true rfl
/-- The one set that is turned, beside what stays. -/
structure StA (w W : World) (N : Nat → Prop) (I : World → Prop) (b : Nat) (r : Option Nat) (ws : List Nat) : Prop where
  fz : Fz W N I
  off : Off N b r
  bits : BitsAt W b r ws
  bel : Below w.heap.size w W
  ge : ∀ k, FootB b r k → w.heap.size ≤ k
theorem StA.grow {w W W' : World} {N : Nat → Prop} {I : World → Prop} {b : Nat} {r r' : Option Nat} {ws ws' : List Nat} (h : StA w W N I b r ws) (g : GrowAt W b r ws W' r' ws') : StA w W' N I b r' ws' := by
  obtain ⟨h1, h2⟩ := h.fz.grow g h.off
  refine ⟨h1, h2, g.at_, h.bel.trans (g.chg.below h.bel.size h.ge), ?_⟩
  rintro k (e | e)
  · exact h.ge k (.inl e)
  · rcases g.new with h3 | ⟨j, h3, h4⟩
    · exact h.ge k (.inr (by rw [← h3]; exact e))
    · rw [h3] at e; cases e
      have := h.bel.size; omega
theorem StA.below {w W W' : World} {N : Nat → Prop} {I : World → Prop} {b : Nat} {r : Option Nat} {ws : List Nat} (h : StA w W N I b r ws) (g : Below W.heap.size W W') : StA w W' N I b r ws :=
  ⟨h.fz.below g, h.off, h.bits.below g, h.bel.trans (g.mono h.bel.size), h.ge⟩
theorem StA.next {w W W' : World} {N : Nat → Prop} {I : World → Prop} {b c : Nat} {r rc : Option Nat} {ws wc : List Nat} (h : StA w W N I b r ws) (n : NewBits W W' c rc wc) : StA w W' (fun i => N i ∨ FootB b r i) (fun W => I W ∧ BitsAt W b r ws) c rc wc := by
  have hf := h.fz.and (Fz.bits h.bits)
  refine ⟨hf.below n.below, hf.off n, n.at_, h.bel.trans (n.below.mono h.bel.size), ?_⟩
  have := h.bel.size
  rintro k (rfl | e)
  · have := n.nb; omega
  · have := n.nr k e.symm; omega
theorem StA.apart {w W : World} {N : Nat → Prop} {I : World → Prop} {b c : Nat} {r rc : Option Nat} {ws : List Nat} (h : StA w W N I b r ws) (hN : ∀ k, FootB c rc k → N k) : ∀ k, rc = some k → r ≠ some k := fun k e e' => h.off k (hN k (.inr e.symm)) (.inr e'.symm)

end Go.Proofs.YtdnlgcomhgnegaaDoor
