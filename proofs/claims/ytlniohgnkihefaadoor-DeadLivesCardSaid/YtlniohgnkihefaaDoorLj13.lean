/- brazierlaw14.same: are two rows the same? -/
import Derived.Test.YtlniohgnkihefaaDoorLj12
import Derived.Test.YtlniohgnkihefaaDoorLj6
import Derived.Test.YtlniohgnkihefaaDoorRows
import Derived.ProofKit
import Derived.LaidMore
import Derived.Lay
import Derived.OpenShut
import Derived.SevenTiedAt
import Derived.Stop.Joined
import Derived.Test.YtlniohgnkihefaaDoorLj1
namespace Go.Proofs.YtlniohgnkihefaaDoor
open Go.RowKit
def sameL (a b : List Int) : Bool := decide (a = b)
theorem same14_any (a b : List Int) (A B : Option Addr) (c d : Nat) (w : World) (hla : a.length ≤ 100000) (hlb : b.length ≤ 100000) (ha : ReadsAt w A (ints a)) (hb : ReadsAt w B (ints b)) :
    Calls Tryd.prog 9 #[.slice A a.length c, .slice B b.length d] w fun e w' => e = .returned (.bool (sameL a b)) ∧ Below w.heap.size w w' := by
  have HA := Lib.hid ha
  have HB := Lib.hid hb
  clear ha hb
  by_cases hl : a.length = b.length
  · have hf : decide (a.length = b.length) = true := by simpa using hl
    have hbq : ((a.length : Int) != (b.length : Int)) = false := by rw [hl]; simp
    have HL := Lib.hid hl
    have hla' : (a.length : Int) ≤ (b.length : Int) := by omega
    clear hl hf
    go_enter Tryd.func9, Tryd.ntmps9
    go_wp2_with fail
    go_loopw [13] (fun i wr => ∃ k : Nat, k ≤ a.length ∧ i = .int .i64 (k : Nat) ∧ Below w.heap.size w wr ∧ a.take k = b.take k) (fun i _ => a.length - (intOf i).toNat)
    case atStart => exact ⟨0, by omega, rfl, Below.refl _ _, rfl⟩
    case round =>
      obtain ⟨k, hk, rfl, hB, hn⟩ := hrel
      have HBB := Lib.hid hB
      have HN := Lib.hid hn
      clear hB hn
      by_cases hlt : k < a.length
      · have hltb : k < b.length := by have := HL.out; omega
        obtain ⟨x, hxe⟩ : ∃ x, x = a[k] := ⟨_, rfl⟩
        obtain ⟨y, hye⟩ : ∃ y, y = b[k] := ⟨_, rfl⟩
        obtain ⟨g, off, rfl, hg, hx⟩ := reads_len0 HA.out k hlt x hxe
        obtain ⟨g', off', rfl, hg', hy⟩ := reads_len0 HB.out k hltb y hye
        have hx2 := (HBB.out.cell (p := ⟨g, off + k, none⟩) hg).trans hx
        have hy2 := (HBB.out.cell (p := ⟨g', off' + k, none⟩) hg').trans hy
        have hq1 : (0 : Int) ≤ (k : Int) := by omega
        have hq2 : (k : Int) < (a.length : Int) := by omega
        have hq3 : (k : Int) < (b.length : Int) := by omega
        have HX := Lib.hid hxe
        have HY := Lib.hid hye
        clear hxe hye hx hy
        by_cases q : x = y
        · have qf : (x != y) = false := by rw [q]; simp
          have HQ := Lib.hid q
          clear q
          go_wp2_with fail
          go_quiet (fail)
          go_wp2_with fail
          go_roundw
          case rel => exact ⟨k + 1, by omega, by go_num, HBB.out.trans ⟨rfl, rfl, rfl, Nat.le_refl _, fun _ _ => rfl⟩, by rw [List.take_succ_eq_append_getElem hlt, List.take_succ_eq_append_getElem hltb, HN.out, ← HX.out, ← HY.out, HQ.out]⟩
          case measure => simp [intOf]; omega
        · have qf : (x != y) = true := bne_iff_ne.2 q
          have HQ := Lib.hid q
          clear q
          go_wp2_with fail
          go_quiet (fail)
          go_wp2_with fail
          go_ret
          refine ⟨ret_bool ?_, HBB.out.trans ⟨rfl, rfl, rfl, Nat.le_refl _, fun _ _ => rfl⟩⟩
          unfold sameL
          refine (decide_eq_false fun e => HQ.out ?_).symm
          rw [HX.out, HY.out]
          simp only [e]
      · obtain rfl : k = a.length := by omega
        go_wp2_with fail
        go_ret
        refine ⟨ret_bool ?_, HBB.out⟩
        unfold sameL
        have h1 := HN.out
        rw [List.take_length, HL.out, List.take_length] at h1
        exact (decide_eq_true h1).symm
  · have hbq : ((a.length : Int) != (b.length : Int)) = true := bne_iff_ne.2 (by omega)
    have HL := Lib.hid hl
    clear hl
    go_enter Tryd.func9, Tryd.ntmps9
    go_wp2_with fail
    go_ret
    refine ⟨ret_bool ?_, Below.refl _ _⟩
    unfold sameL
    exact (decide_eq_false fun e => HL.out (by rw [e])).symm
end Go.Proofs.YtlniohgnkihefaaDoor
namespace Go.Proofs.YtlniohgnkihefaaDoor
open Go.RowKit
theorem info_ints : (Tryd.prog.info? 35).map (fun i => (i.zero, i.size, i.bytes)) = some (some (.slice none 0 0), 1, 24) := by kernel_rfl
/-- A row of rows of numbers so far: the first k of F. -/
structure RowsI (B : Nat) (F : Nat → List Int) (k : Nat) (v : Value) (rr : Option Nat) (W : World) : Prop where
  row : ∃ ms : List LM, ms.map LM.l = (List.range k).map F ∧ RowAt W 35 1 v rr k (ms.map LM.enc) ∧ ∀ m ∈ ms, IntsIn W m.A m.l
  low : ∀ q, rr = some q → B ≤ q
section
variable {B : Nat} {F : Nat → List Int} {k : Nat} {v : Value} {rr : Option Nat} {W W' : World}
theorem RowsI.start (B : Nat) (F : Nat → List Int) (W : World) : RowsI B F 0 (.slice none 0 0) none W := ⟨⟨[], rfl, RowAt.nil _ _ _, fun _ h => by cases h⟩, fun _ h => by cases h⟩
theorem RowsI.typ (h : RowsI B F k v rr W) : ∀ q, rr = some q → ∃ c, W.heap[q]? = some (.cells c 35 (0, 0)) := fun q hq => by
  obtain ⟨ms, _, hr, _⟩ := h.row
  rcases hr.2 with ⟨_, e2, _⟩ | ⟨g', off, cap, cur, _, e2, hg', _⟩
  · rw [e2] at hq; cases hq
  · rw [e2] at hq; cases hq; exact ⟨_, hg'⟩
theorem RowsI.chg (h : RowsI B F k v rr W) {S : Nat → Prop} (hc : Chg S W W') (h1 : ∀ q, rr = some q → ¬ S q) (h2 : ∀ q, S q → ∃ c, W.heap[q]? = some (.cells c 35 (0, 0))) : RowsI B F k v rr W' := by
  obtain ⟨ms, e, hr, hm⟩ := h.row
  have hki : KI W W' := KI.of_chg hc fun q hq c f e => by
    obtain ⟨c', hc'⟩ := h2 q hq
    rw [hc'] at e; cases e
  exact ⟨⟨ms, e, hr.kept hc h1, fun m hm' => (hm m hm').ki hki⟩, h.low⟩
theorem RowsI.below_ (h : RowsI B F k v rr W) (hb : Below W.heap.size W W') : RowsI B F k v rr W' := h.chg (Chg.of_below hb (fun _ => False)) (fun _ _ h => h) fun _ h => h.elim
theorem RowsI.push (h : RowsI B F k v rr W) (hB : B ≤ W.heap.size) {ms : List LM} (he : ms.map LM.l = (List.range k).map F) (hm : ∀ m ∈ ms, IntsIn W m.A m.l) {A : Option Addr} {c : Nat} (hy : IntsIn W A (F k)) {v' : Value} {rr' : Option Nat}
    (hR : RowAt W' 35 1 v' rr' (k + 1) (ms.map LM.enc ++ [.slice A (F k).length c])) (hC : Chg (fun q => some q = rr) W W') (hN : NewOr W rr rr') : RowsI B F (k + 1) v' rr' W' := by
  have hki : KI W W' := KI.of_chg hC fun q hq c f e => by
    obtain ⟨c', hc'⟩ := h.typ q hq.symm
    rw [hc'] at e; cases e
  refine ⟨⟨ms ++ [⟨F k, A, c⟩], ?_, by rw [List.map_append]; exact hR, fun m hm' => ?_⟩, fun q hq => hN.ge hB h.low q hq⟩
  · rw [List.map_append, he, List.range_succ, List.map_append]; rfl
  · rcases List.mem_append.1 hm' with hm' | hm'
    · exact (hm m hm').ki hki
    · rw [List.mem_singleton.1 hm']; exact hy.ki hki
/-- Whose blocks are apart stay apart. -/
theorem apart_new {r r2 r' : Option Nat} {F2 : Nat → List Int} {k2 : Nat} {v2 : Value} (h2 : RowsI B F2 k2 v2 r2 W) (ha : ∀ q, r = some q → r2 ≠ some q) (hN : NewOr W r r') : ∀ q, r' = some q → r2 ≠ some q := by
  intro q hq e
  rcases hN with rfl | ⟨j, rfl, hj⟩
  · exact ha q hq e
  · cases hq
    obtain ⟨c, hc⟩ := h2.typ q e
    have := lt_of_heap hc
    omega
end
/-- Two rising lists with the same numbers are the same. -/
theorem rise_eq : ∀ {a b : List Int}, a.Pairwise (· < ·) → b.Pairwise (· < ·) → (∀ z, z ∈ a ↔ z ∈ b) → a = b
  | [], [], _, _, _ => rfl
  | [], y :: _, _, _, h => by have := (h y).2 (by simp); cases this
  | x :: _, [], _, _, h => by have := (h x).1 (by simp); cases this
  | x :: a, y :: b, ha, hb, h => by
    obtain ⟨ha1, ha2⟩ := List.pairwise_cons.1 ha
    obtain ⟨hb1, hb2⟩ := List.pairwise_cons.1 hb
    have hxy : x = y := by
      have h1 := (h x).1 (by simp)
      have h2 := (h y).2 (by simp)
      rcases List.mem_cons.1 h1 with h1 | h1
      · exact h1
      rcases List.mem_cons.1 h2 with h2 | h2
      · exact h2.symm
      have := hb1 x h1
      have := ha1 y h2
      omega
    subst hxy
    congr 1
    refine rise_eq ha2 hb2 fun z => ⟨fun hz => ?_, fun hz => ?_⟩
    · rcases List.mem_cons.1 ((h z).1 (by simp [hz])) with e | e
      · have := ha1 z hz; omega
      · exact e
    · rcases List.mem_cons.1 ((h z).2 (by simp [hz])) with e | e
      · have := hb1 z hz; omega
      · exact e
end Go.Proofs.YtlniohgnkihefaaDoor
namespace Go.Proofs.YtlniohgnkihefaaDoor
open Go.ChangeShapes Go.WideShapes Go.ChangeAt Go.RowKit

def laidTab : List (String × DataW Unit) := [("math/bits.deBruijn64tab", Rows.laid_math_bits_deBruijn64tab)]
theorem tab_of_laid {W : World} (h : laidMetH Tryd.prog laidTab W) : TabAt W := by
  intro r hr
  unfold laidTab at h
  rw [MakeChecks.laidMetH_plain _ _ _ (by kernel_rfl)] at h
  obtain ⟨ps, ⟨g, t, cs, fuel, p, q, hg, ht, hv, hd, _, _⟩, _, _⟩ := h
  obtain rfl := Option.some.inj ((show Tryd.prog.globalNamed "math/bits.deBruijn64tab" = some 0 by kernel_rfl).symm.trans hg)
  obtain rfl := Option.some.inj ((show (Tryd.prog.globals[0]?).map (·.type) = some 116 by kernel_rfl).symm.trans ht)
  obtain ⟨xs, m, _, ex, _, hl, hel⟩ := DataW.trod_array Tryd.underlying116 hd
  have c5 : Tryd.prog.cellsOf 5 = 1 := by kernel_rfl
  have hE := hel r hr
  rw [c5, Nat.mul_one, List.getElem?_eq_getElem (by omega)] at hE
  obtain ⟨z, e1, e2, _⟩ := DataW.trod_int Tryd.underlying5 hE
  have hlen : Lib.deBruijn64tab.length = 64 := by kernel_rfl
  have e3 : (xs.map (·.1)) = Lib.deBruijn64tab.map fun (n : Nat) => .lit (.int .u8 (n : Int)) := (DataW.agg.inj (Prod.mk.inj ex).1).symm
  have e4 : (xs.map (·.1))[r]? = (Lib.deBruijn64tab.map fun (n : Nat) => (DataW.lit (.int .u8 (n : Int)) : DataW Unit))[r]? := by rw [e3]
  rw [List.getElem?_map, List.getElem?_map, List.getElem?_eq_getElem (by omega : r < xs.length), List.getElem?_eq_getElem (by omega : r < Lib.deBruijn64tab.length), e2] at e4
  have hz : z = ((Lib.deBruijn64tab.getD r 0 : Nat) : Int) := by
    simp only [Option.map_some, Option.some.injEq, DataW.lit.injEq, Lit.int.injEq, true_and] at e4
    rw [e4, List.getD, List.getElem?_eq_getElem (by omega : r < Lib.deBruijn64tab.length)]; rfl
  rw [World.var?_cell hg hv r, ← hz]
  have : cs.toList[r]? = some (.int .u8 z) := by
    have h0 : ((cs.toList.drop r).take 1)[0]? = some (.int .u8 z) := by rw [e1]; rfl
    simpa using h0
  simpa using this
theorem own : ownKnob Tryd.prog.godebug = none := by kernel_rfl
theorem laidOut : laidOutB Tryd.prog = true := by kernel_rfl
section
variable {H : Type} {enc : TypeId × Value → H} {P : Program} {w : World} {base : Nat} {spare : Nat → Bool} {held : Bool}
theorem arg_intsC {t e : TypeId} {k : IntKind} {fuel : Nat} {a : Option Addr} {n c : Nat} {x : DataW H × List MemPlace} (ht : P.underlying t = some (.slice e)) (he : P.underlying e = some (.int k)) (hc : P.cellsOf e = 1)
    (h : DataW.trod enc P w base spare held fuel t (Value.slice a n c).cells.toList = some x) :
    ∃ zs : List Int, zs.length = n ∧ n ≤ c ∧ c ≤ maxLen ∧ (∀ z ∈ zs, (Lit.int k z).wf = true) ∧ ReadsAt w a (zs.map (Value.int k)) := by
  rcases open_ints ht he hc h with ⟨hcs, _⟩ | ⟨a', len, cap, zs, hcs, _, hl, hm, hz, _, hcell, hwz⟩
  · simp [Value.cells] at hcs
    obtain ⟨rfl, rfl, rfl⟩ := hcs
    exact ⟨[], rfl, Nat.le_refl _, Nat.zero_le _, by simp, reads_none⟩
  · simp [Value.cells] at hcs
    obtain ⟨rfl, rfl, rfl⟩ := hcs
    have hle : n ≤ zs.length := by rw [hz]; split <;> omega
    refine ⟨zs.take n, by simp [hle], hl, hm, fun z h => hwz z (List.mem_of_mem_take h), reads_of fun i u hu => ?_⟩
    rw [List.getElem?_map, List.getElem?_take] at hu
    split at hu
    · rename_i hi
      rw [List.getElem?_eq_getElem (by omega)] at hu
      simp at hu
      rw [hcell i (by omega), ← hu]
      simp [show i < zs.length by omega]
    · simp at hu
end
end Go.Proofs.YtlniohgnkihefaaDoor
