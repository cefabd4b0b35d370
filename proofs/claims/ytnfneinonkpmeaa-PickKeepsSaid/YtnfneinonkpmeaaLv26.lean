/- brazierref15.binary: the walk. -/
import Derived.Deep.DeepCutAuto
import Derived.Test.YtnfneinonkpmeaaLv15
import Derived.Test.YtnfneinonkpmeaaLv25
import Derived.Test.YtnfneinonkpmeaaLv16
namespace Go.Proofs.Ytnfneinonkpmeaa
open Go.RowKit Go.Maps
variable {T T' : Nat → Prop} {w : World}

/-- Code made by a call: at the head of a block. -/
def CodeMade (w : World) (T : Nat → Prop) (l : List Vins) (e : Ending) (w' : World) : Prop :=
  ∃ g ys, e = .returned (.slice (some ⟨g, 0, none⟩) l.length l.length) ∧ Below w.heap.size w w' ∧ g < w'.heap.size ∧ (∀ j u, ys[j]? = some u → w'.cell? ⟨g, j, none⟩ = some u) ∧ CodeCells w' T l ys
theorem made_new {w W : World} (hB : Below w.heap.size w W) (cs : Array Value) (m : Nat) (l : List Vins) (hC : CodeCells (W.alloc (.cells cs 61)) T l cs.toList) (hl : l.length = m) (k : Nat) (hk : k = W.heap.size) :
    CodeMade w T l (.returned (.slice (some ⟨k, 0, none⟩) m m)) (W.alloc (.cells cs 61)) := by
  subst hl
  subst hk
  exact ⟨W.heap.size, cs.toList, rfl, hB.alloc hB.size _, by simp, fun j u hu => by rw [cell_of_row _ _ _ _ _ _ (heap_alloc_new W _), ← Array.getElem?_toList]; exact hu, hC⟩
theorem made_one {w W : World} (hB : Below w.heap.size w W) (op d a b num : Int) (name : ByteArray) {k : Nat} (hk : k = W.heap.size) :
    CodeMade w T [⟨op, d, a, b, num, name, []⟩] (.returned (.slice (some ⟨k, 0, none⟩) 1 1)) (W.alloc (.cells #[.int .i64 op, .int .i64 d, .int .i64 a, .int .i64 b, .int .i32 num, .string name, .slice none 0 0] 61)) :=
  made_new hB _ 1 _ (CodeCells.one ⟨none, 0, rfl, RdT.nil⟩) rfl k hk
theorem made_args {w W : World} (hB : Below w.heap.size w W) (op d a b num : Int) (name : ByteArray) (args : List Int) (A : Option Addr) (c : Nat) (hA : RdT w T A (ints args)) {k : Nat} (hk : k = W.heap.size) :
    CodeMade w T [⟨op, d, a, b, num, name, args⟩] (.returned (.slice (some ⟨k, 0, none⟩) 1 1)) (W.alloc (.cells #[.int .i64 op, .int .i64 d, .int .i64 a, .int .i64 b, .int .i32 num, .string name, .slice A args.length c] 61)) :=
  made_new hB _ 1 _ (CodeCells.one ⟨A, c, rfl, ints_below hA (hB.alloc hB.size _)⟩) rfl k hk
theorem made_two {w W : World} (hB : Below w.heap.size w W) (op d a b num op' d' a' b' num' : Int) (name name' : ByteArray) {k : Nat} (hk : k = W.heap.size) :
    CodeMade w T [⟨op, d, a, b, num, name, []⟩, ⟨op', d', a', b', num', name', []⟩] (.returned (.slice (some ⟨k, 0, none⟩) 2 2)) (W.alloc (.cells #[.int .i64 op, .int .i64 d, .int .i64 a, .int .i64 b, .int .i32 num, .string name, .slice none 0 0, .int .i64 op', .int .i64 d', .int .i64 a', .int .i64 b', .int .i32 num', .string name', .slice none 0 0] 61)) :=
  made_new hB _ 2 _ (CodeCells.two ⟨none, 0, rfl, RdT.nil⟩ ⟨none, 0, rfl, RdT.nil⟩) rfl k hk

/-- The state within 'binary': the instruction's box. -/
structure RSt (w : World) (op d a b : Int) (A : Option Addr) (ps : List (Int × Int)) (W : World) : Prop where
  below : Below w.heap.size w W
  c1 : W.cell? ⟨w.heap.size, 1, none⟩ = some (.int .i64 op)
  c2 : W.cell? ⟨w.heap.size, 2, none⟩ = some (.int .i64 d)
  c3 : W.cell? ⟨w.heap.size, 3, none⟩ = some (.int .i64 a)
  c4 : W.cell? ⟨w.heap.size, 4, none⟩ = some (.int .i64 b)
  lt : w.heap.size < W.heap.size
  rd : RdT W (fun k => k < w.heap.size) A (numCells ps)
theorem RSt.next {op d a b : Int} {A : Option Addr} {ps : List (Int × Int)} {W W' : World} (h : RSt w op d a b A ps W) (hB : Below W.heap.size W W') : RSt w op d a b A ps W' :=
  ⟨h.below.trans (hB.mono h.below.size), (hB.cell (p := ⟨w.heap.size, 1, none⟩) h.lt).trans h.c1, (hB.cell (p := ⟨w.heap.size, 2, none⟩) h.lt).trans h.c2, (hB.cell (p := ⟨w.heap.size, 3, none⟩) h.lt).trans h.c3,
    (hB.cell (p := ⟨w.heap.size, 4, none⟩) h.lt).trans h.c4, Nat.lt_of_lt_of_le h.lt hB.size, ints_below h.rd hB⟩
def RMid (w : World) (op d a b : Int) (A : Option Addr) (ps : List (Int × Int)) (P : Prop) (wx : World) : Prop := RSt w op d a b A ps wx ∧ P

set_option maxHeartbeats 8000000 in
set_option maxRecDepth 100000 in
theorem binary15_any (ps : List (Int × Int)) (A : Option Addr) (c : Nat) (hl : ps.length ≤ 1000000) (hK : ∀ r n, knownL ps r = some n → I32 n) (h : RdT w T A (numCells ps)) (kind op d a b num : Int) (name : ByteArray) (s : Value) (ho : 1 ≤ op ∧ op ≤ 16) :
    Calls Try.prog 40 #[.agg #[.int .i64 kind, .int .i64 op, .int .i64 d, .int .i64 a, .int .i64 b, .int .i32 num, .string name, s], .slice A ps.length c] w (CodeMade w T' (binS (knownL ps) op d a b)) := by
  obtain ⟨w0, hw0, hb0, hlt0, hc⟩ := box_new w #[.int .i64 kind, .int .i64 op, .int .i64 d, .int .i64 a, .int .i64 b, .int .i32 num, .string name, s] 54
  have S0 : Hid (RSt w op d a b A ps w0) := Lib.hid ⟨hb0, hc 1, hc 2, hc 3, hc 4, hlt0, ints_below (h.mono' fun _ _ h => h) hb0⟩
  have HK := Lib.hid hK
  have HW := Lib.hid hw0
  have HO := Lib.hid ho
  clear hw0 hb0 hc h hK ho hlt0
  obtain ⟨_, c1, c2, c3, c4, hlt, _⟩ := S0.out
  go_enter Try.func40, Try.ntmps40
  go_wp2_with fail
  rw [← HW.out]
  refine (known_any ps A c b _ hl S0.out.rd).mono ?_
  rintro e wk ⟨rfl, rfl⟩
  go_upto_if 25 with (fail)
  go_cut [5, 6] (fun _ _ wx => RMid w op d a b A ps (binS (knownL ps) op d a b = firstOf ((if turnsS op then knownL ps a else none).bind fun n => shortS op d b n) (binRest op d a b)) wx)
  case first =>
    cases hkb : knownL ps b with
    | none =>
      simp only [Option.isSome_none, Option.getD_none]
      have HKB := Lib.hid hkb
      clear hkb
      go_wp2_with fail
      go_meet
      exact ⟨S0.out, by unfold binS; rw [HKB.out]; rfl⟩
    | some nb =>
      simp only [Option.isSome_some, Option.getD_some]
      have HKB := Lib.hid hkb
      have HNB := Lib.hid (HK.out b nb hkb)
      clear hkb
      go_wp2_with fail
      refine (short15_any op d a nb HO.out HNB.out _).mono ?_
      rintro e wy ⟨y, rfl, hBy, hy⟩
      have S2 := Lib.hid (S0.out.next hBy)
      clear hBy
      cases hs : shortS op d a nb with
      | some s =>
        obtain rfl := hy s hs
        have HBIN : Hid (binS (knownL ps) op d a b = [y]) := Lib.hid (by unfold binS; rw [HKB.out]; simp only [Option.bind_some]; rw [hs]; rfl)
        have HEQ := Lib.hid (vins_eta (short_args hs))
        clear hs hy
        simp only [Option.isSome_some]
        go_wp2_with fail
        go_returns
        rw [HBIN.out, ← HEQ.out]
        exact made_one (S2.out.below.alloc S2.out.below.size _) y.op y.d y.a y.b y.num y.name (by simp)
      | none =>
        have HBIN0 : Hid (binS (knownL ps) op d a b = firstOf ((if turnsS op then knownL ps a else none).bind fun n => shortS op d b n) (binRest op d a b)) := Lib.hid (by unfold binS; rw [HKB.out]; simp only [Option.bind_some]; rw [hs]; rfl)
        clear hs hy
        simp only [Option.isSome_none]
        go_wp2_with fail
        go_meet
        exact ⟨S2.out.next ((Below.refl _ _).alloc (Nat.le_refl _) _), HBIN0.out⟩
  case rest =>
    obtain ⟨hS, hb⟩ := hcut
    have S1 := Lib.hid hS
    have HB1 := Lib.hid hb
    clear hS hb c1 c2 c3 c4 hlt
    obtain ⟨_, c1, c2, c3, c4, hlt, _⟩ := S1.out
    go_wp2_with fail
    refine (known_any ps A c a _ hl S1.out.rd).mono ?_
    rintro e wk ⟨rfl, rfl⟩
    go_upto_region 7 with (fail)
    go_cut [10, 67] (fun s10 s wx => wx = wc ∧ s10 = .bool (knownL ps a).isSome ∧ s = .bool ((knownL ps a).isSome && turnsS op))
    case first =>
      cases hka : (knownL ps a).isSome with
      | false =>
        have HKA := Lib.hid hka
        clear hka
        go_wp2_with fail
        go_meet
        exact ⟨rfl, by rw [HKA.out], by rw [HKA.out]; rfl⟩
      | true =>
        have HKA := Lib.hid hka
        clear hka
        by_cases ht : turnsS op = true
        · have ho : op = 1 ∨ op = 8 ∨ op = 9 ∨ op = 10 := by unfold turnsS at ht; simp at ht; omega
          clear ht
          rcases ho with rfl | rfl | rfl | rfl
          · go_wp2_with fail
            go_meet
            exact ⟨rfl, by rw [HKA.out], by rw [HKA.out]; rfl⟩
          · go_wp2_with fail
            go_meet
            exact ⟨rfl, by rw [HKA.out], by rw [HKA.out]; rfl⟩
          · go_wp2_with fail
            go_meet
            exact ⟨rfl, by rw [HKA.out], by rw [HKA.out]; rfl⟩
          · go_wp2_with fail
            go_meet
            exact ⟨rfl, by rw [HKA.out], by rw [HKA.out]; rfl⟩
        · have hf : turnsS op = false := by simpa using ht
          have ho : ¬ op = 1 ∧ ¬ op = 8 ∧ ¬ op = 9 ∧ ¬ op = 10 := by unfold turnsS at hf; simp at hf; omega
          obtain ⟨o1, o8, o9, o10⟩ := ho
          have f1 : (op == 1) = false := beq_eq_false_iff_ne.2 o1
          have f8 : (op == 8) = false := beq_eq_false_iff_ne.2 o8
          have f9 : (op == 9) = false := beq_eq_false_iff_ne.2 o9
          have f10 : (op == 10) = false := beq_eq_false_iff_ne.2 o10
          have HF := Lib.hid hf
          clear ht hf o1 o8 o9 o10
          go_wp2_with fail
          go_meet
          exact ⟨rfl, by rw [HKA.out], by rw [HKA.out, HF.out]; rfl⟩
    case rest =>
      obtain ⟨rfl, rfl, rfl⟩ := hcut
      go_upto_if 67 with (fail)
      go_cut [9, 10] (fun _ _ wx => RMid w op d a b A ps (binS (knownL ps) op d a b = binRest op d a b) wx)
      case first =>
        cases hka : knownL ps a with
        | none =>
          simp only [Option.isSome_none, Option.getD_none, Bool.false_and]
          have HBIN : Hid (binS (knownL ps) op d a b = binRest op d a b) := Lib.hid (by rw [HB1.out, hka]; cases turnsS op <;> rfl)
          clear hka
          go_wp2_with fail
          go_meet
          exact ⟨S1.out, HBIN.out⟩
        | some na =>
          simp only [Option.isSome_some, Option.getD_some, Bool.true_and]
          have HNA := Lib.hid (HK.out a na hka)
          cases ht : turnsS op with
          | false =>
            have HBIN : Hid (binS (knownL ps) op d a b = binRest op d a b) := Lib.hid (by rw [HB1.out, ht]; rfl)
            clear hka ht
            go_wp2_with fail
            go_meet
            exact ⟨S1.out, HBIN.out⟩
          | true =>
            have HKA := Lib.hid hka
            have HTU := Lib.hid ht
            clear hka ht
            go_wp2_with fail
            refine (short15_any op d b na HO.out HNA.out _).mono ?_
            rintro e wy ⟨y, rfl, hBy, hy⟩
            have S2 := Lib.hid (S1.out.next hBy)
            clear hBy
            cases hs : shortS op d b na with
            | some s =>
              obtain rfl := hy s hs
              have HBIN : Hid (binS (knownL ps) op d a b = [y]) := Lib.hid (by rw [HB1.out, HTU.out, HKA.out]; simp only [if_true, Option.bind_some]; rw [hs]; rfl)
              have HEQ := Lib.hid (vins_eta (short_args hs))
              clear hs hy
              simp only [Option.isSome_some]
              go_wp2_with fail
              go_returns
              rw [HBIN.out, ← HEQ.out]
              exact made_one (S2.out.below.alloc S2.out.below.size _) y.op y.d y.a y.b y.num y.name (by simp)
            | none =>
              have HBIN : Hid (binS (knownL ps) op d a b = binRest op d a b) := Lib.hid (by rw [HB1.out, HTU.out, HKA.out]; simp only [if_true, Option.bind_some]; rw [hs]; rfl)
              clear hs hy
              simp only [Option.isSome_none]
              go_wp2_with fail
              go_meet
              exact ⟨S2.out.next ((Below.refl _ _).alloc (Nat.le_refl _) _), HBIN.out⟩
      case rest =>
        obtain ⟨hS, hb⟩ := hcut
        have S2 := Lib.hid hS
        have HBR := Lib.hid hb
        clear hS hb c1 c2 c3 c4 hlt
        obtain ⟨_, c1, c2, c3, c4, hlt, _⟩ := S2.out
        go_wp2_with fail
        go_quiet (fail)
        have S3 := Lib.hid (S2.out.next (below_drewN (Below.refl _ _) nq))
        clear c1 c2 c3 c4 hlt
        generalize World.drewN _ nq = w4 at S3 ⊢
        obtain ⟨_, c1, c2, c3, c4, hlt, _⟩ := S3.out
        go_wp2_with fail
        refine (with15_any 5 d d 1 _).mono ?_
        rintro e w5 ⟨rfl, hB5⟩
        have S4 := Lib.hid (S3.out.next hB5)
        clear hB5 c1 c2 c3 c4 hlt
        obtain ⟨_, c1, c2, c3, c4, hlt, _⟩ := S4.out
        rcases op_cases HO.out with rfl | rfl | rfl | rfl | rfl | rfl | rfl | rfl | rfl | rfl | rfl | rfl | rfl | rfl | rfl | rfl
        · have hbx : Below w5.heap.size w5 (w5.alloc (.cells #[.int .i64 5, .int .i64 d, .int .i64 d, .int .i64 (-1), .int .i32 1, .string ⟨#[]⟩, .slice none 0 0] 61)) := (Below.refl _ _).alloc (Nat.le_refl _) _
          have S5 := Lib.hid (S4.out.next hbx)
          clear hbx
          go_wp2_with fail
          refine (three15_any 11 d a b _).mono ?_
          rintro e w6 ⟨rfl, hB6⟩
          have hbt := (S5.out.next ((Below.refl _ _).alloc (Nat.le_refl _) (.cells #[.int .i64 0, .int .i64 11, .int .i64 12, .int .i64 21, .int .i64 22, .int .i64 23, .int .i64 13, .int .i64 18, .int .i64 20, .int .i64 19, .int .i64 16, .int .i64 14] 3)))
          have S6 := Lib.hid (hbt.next hB6)
          clear hbt hB6
          go_wp2_with fail
          go_returns
          rw [HBR.out]
          exact made_one S6.out.below 11 d a b 0 ⟨#[]⟩ (by simp)
        · have hbx : Below w5.heap.size w5 (w5.alloc (.cells #[.int .i64 5, .int .i64 d, .int .i64 d, .int .i64 (-1), .int .i32 1, .string ⟨#[]⟩, .slice none 0 0] 61)) := (Below.refl _ _).alloc (Nat.le_refl _) _
          have S5 := Lib.hid (S4.out.next hbx)
          clear hbx
          go_wp2_with fail
          refine (three15_any 12 d a b _).mono ?_
          rintro e w6 ⟨rfl, hB6⟩
          have hbt := (S5.out.next ((Below.refl _ _).alloc (Nat.le_refl _) (.cells #[.int .i64 0, .int .i64 11, .int .i64 12, .int .i64 21, .int .i64 22, .int .i64 23, .int .i64 13, .int .i64 18, .int .i64 20, .int .i64 19, .int .i64 16, .int .i64 14] 3)))
          have S6 := Lib.hid (hbt.next hB6)
          clear hbt hB6
          go_wp2_with fail
          go_returns
          rw [HBR.out]
          exact made_one S6.out.below 12 d a b 0 ⟨#[]⟩ (by simp)
        · have hbx : Below w5.heap.size w5 (w5.alloc (.cells #[.int .i64 5, .int .i64 d, .int .i64 d, .int .i64 (-1), .int .i32 1, .string ⟨#[]⟩, .slice none 0 0] 61)) := (Below.refl _ _).alloc (Nat.le_refl _) _
          have S5 := Lib.hid (S4.out.next hbx)
          clear hbx
          go_wp2_with fail
          refine (three15_any 21 d a b _).mono ?_
          rintro e w6 ⟨rfl, hB6⟩
          have hbt := (S5.out.next ((Below.refl _ _).alloc (Nat.le_refl _) (.cells #[.int .i64 0, .int .i64 11, .int .i64 12, .int .i64 21, .int .i64 22, .int .i64 23, .int .i64 13, .int .i64 18, .int .i64 20, .int .i64 19, .int .i64 16, .int .i64 14] 3)))
          have S6 := Lib.hid (hbt.next hB6)
          clear hbt hB6
          go_wp2_with fail
          go_returns
          rw [HBR.out]
          exact made_one S6.out.below 21 d a b 0 ⟨#[]⟩ (by simp)
        · have hbx : Below w5.heap.size w5 (w5.alloc (.cells #[.int .i64 5, .int .i64 d, .int .i64 d, .int .i64 (-1), .int .i32 1, .string ⟨#[]⟩, .slice none 0 0] 61)) := (Below.refl _ _).alloc (Nat.le_refl _) _
          have S5 := Lib.hid (S4.out.next hbx)
          clear hbx
          go_wp2_with fail
          refine (three15_any 22 d a b _).mono ?_
          rintro e w6 ⟨rfl, hB6⟩
          have hbt := (S5.out.next ((Below.refl _ _).alloc (Nat.le_refl _) (.cells #[.int .i64 0, .int .i64 11, .int .i64 12, .int .i64 21, .int .i64 22, .int .i64 23, .int .i64 13, .int .i64 18, .int .i64 20, .int .i64 19, .int .i64 16, .int .i64 14] 3)))
          have S6 := Lib.hid (hbt.next hB6)
          clear hbt hB6
          go_wp2_with fail
          go_returns
          rw [HBR.out]
          exact made_one S6.out.below 22 d a b 0 ⟨#[]⟩ (by simp)
        · have hbx : Below w5.heap.size w5 (w5.alloc (.cells #[.int .i64 5, .int .i64 d, .int .i64 d, .int .i64 (-1), .int .i32 1, .string ⟨#[]⟩, .slice none 0 0] 61)) := (Below.refl _ _).alloc (Nat.le_refl _) _
          have S5 := Lib.hid (S4.out.next hbx)
          clear hbx
          go_wp2_with fail
          refine (three15_any 23 d a b _).mono ?_
          rintro e w6 ⟨rfl, hB6⟩
          have hbt := (S5.out.next ((Below.refl _ _).alloc (Nat.le_refl _) (.cells #[.int .i64 0, .int .i64 11, .int .i64 12, .int .i64 21, .int .i64 22, .int .i64 23, .int .i64 13, .int .i64 18, .int .i64 20, .int .i64 19, .int .i64 16, .int .i64 14] 3)))
          have S6 := Lib.hid (hbt.next hB6)
          clear hbt hB6
          go_wp2_with fail
          go_returns
          rw [HBR.out]
          exact made_one S6.out.below 23 d a b 0 ⟨#[]⟩ (by simp)
        · have hbx : Below w5.heap.size w5 (w5.alloc (.cells #[.int .i64 5, .int .i64 d, .int .i64 d, .int .i64 (-1), .int .i32 1, .string ⟨#[]⟩, .slice none 0 0] 61)) := (Below.refl _ _).alloc (Nat.le_refl _) _
          have S5 := Lib.hid (S4.out.next hbx)
          clear hbx
          go_wp2_with fail
          refine (three15_any 13 d a b _).mono ?_
          rintro e w6 ⟨rfl, hB6⟩
          have hbt := (S5.out.next ((Below.refl _ _).alloc (Nat.le_refl _) (.cells #[.int .i64 0, .int .i64 11, .int .i64 12, .int .i64 21, .int .i64 22, .int .i64 23, .int .i64 13, .int .i64 18, .int .i64 20, .int .i64 19, .int .i64 16, .int .i64 14] 3)))
          have S6 := Lib.hid (hbt.next hB6)
          clear hbt hB6
          go_wp2_with fail
          go_returns
          rw [HBR.out]
          exact made_one S6.out.below 13 d a b 0 ⟨#[]⟩ (by simp)
        · have hbx : Below w5.heap.size w5 (w5.alloc (.cells #[.int .i64 5, .int .i64 d, .int .i64 d, .int .i64 (-1), .int .i32 1, .string ⟨#[]⟩, .slice none 0 0] 61)) := (Below.refl _ _).alloc (Nat.le_refl _) _
          have S5 := Lib.hid (S4.out.next hbx)
          clear hbx
          go_wp2_with fail
          refine (three15_any 18 d a b _).mono ?_
          rintro e w6 ⟨rfl, hB6⟩
          have hbt := (S5.out.next ((Below.refl _ _).alloc (Nat.le_refl _) (.cells #[.int .i64 0, .int .i64 11, .int .i64 12, .int .i64 21, .int .i64 22, .int .i64 23, .int .i64 13, .int .i64 18, .int .i64 20, .int .i64 19, .int .i64 16, .int .i64 14] 3)))
          have S6 := Lib.hid (hbt.next hB6)
          clear hbt hB6
          go_wp2_with fail
          go_returns
          rw [HBR.out]
          exact made_one S6.out.below 18 d a b 0 ⟨#[]⟩ (by simp)
        · have hbx : Below w5.heap.size w5 (w5.alloc (.cells #[.int .i64 5, .int .i64 d, .int .i64 d, .int .i64 (-1), .int .i32 1, .string ⟨#[]⟩, .slice none 0 0] 61)) := (Below.refl _ _).alloc (Nat.le_refl _) _
          have S5 := Lib.hid (S4.out.next hbx)
          clear hbx
          go_wp2_with fail
          refine (three15_any 20 d a b _).mono ?_
          rintro e w6 ⟨rfl, hB6⟩
          have hbt := (S5.out.next ((Below.refl _ _).alloc (Nat.le_refl _) (.cells #[.int .i64 0, .int .i64 11, .int .i64 12, .int .i64 21, .int .i64 22, .int .i64 23, .int .i64 13, .int .i64 18, .int .i64 20, .int .i64 19, .int .i64 16, .int .i64 14] 3)))
          have S6 := Lib.hid (hbt.next hB6)
          clear hbt hB6
          go_wp2_with fail
          go_returns
          rw [HBR.out]
          exact made_one S6.out.below 20 d a b 0 ⟨#[]⟩ (by simp)
        · have hbx : Below w5.heap.size w5 (w5.alloc (.cells #[.int .i64 5, .int .i64 d, .int .i64 d, .int .i64 (-1), .int .i32 1, .string ⟨#[]⟩, .slice none 0 0] 61)) := (Below.refl _ _).alloc (Nat.le_refl _) _
          have S5 := Lib.hid (S4.out.next hbx)
          clear hbx
          go_wp2_with fail
          refine (three15_any 19 d a b _).mono ?_
          rintro e w6 ⟨rfl, hB6⟩
          have hbt := (S5.out.next ((Below.refl _ _).alloc (Nat.le_refl _) (.cells #[.int .i64 0, .int .i64 11, .int .i64 12, .int .i64 21, .int .i64 22, .int .i64 23, .int .i64 13, .int .i64 18, .int .i64 20, .int .i64 19, .int .i64 16, .int .i64 14] 3)))
          have S6 := Lib.hid (hbt.next hB6)
          clear hbt hB6
          go_wp2_with fail
          go_returns
          rw [HBR.out]
          exact made_one S6.out.below 19 d a b 0 ⟨#[]⟩ (by simp)
        · have hbx : Below w5.heap.size w5 (w5.alloc (.cells #[.int .i64 5, .int .i64 d, .int .i64 d, .int .i64 (-1), .int .i32 1, .string ⟨#[]⟩, .slice none 0 0] 61)) := (Below.refl _ _).alloc (Nat.le_refl _) _
          have S5 := Lib.hid (S4.out.next hbx)
          clear hbx
          go_wp2_with fail
          refine (three15_any 16 d a b _).mono ?_
          rintro e w6 ⟨rfl, hB6⟩
          have hbt := (S5.out.next ((Below.refl _ _).alloc (Nat.le_refl _) (.cells #[.int .i64 0, .int .i64 11, .int .i64 12, .int .i64 21, .int .i64 22, .int .i64 23, .int .i64 13, .int .i64 18, .int .i64 20, .int .i64 19, .int .i64 16, .int .i64 14] 3)))
          have S6 := Lib.hid (hbt.next hB6)
          clear hbt hB6
          go_wp2_with fail
          go_returns
          rw [HBR.out]
          exact made_one S6.out.below 16 d a b 0 ⟨#[]⟩ (by simp)
        · have hbx : Below w5.heap.size w5 (w5.alloc (.cells #[.int .i64 5, .int .i64 d, .int .i64 d, .int .i64 (-1), .int .i32 1, .string ⟨#[]⟩, .slice none 0 0] 61)) := (Below.refl _ _).alloc (Nat.le_refl _) _
          have S5 := Lib.hid (S4.out.next hbx)
          clear hbx
          go_wp2_with fail
          refine (three15_any 14 d a b _).mono ?_
          rintro e w6 ⟨rfl, hB6⟩
          have hbt := (S5.out.next ((Below.refl _ _).alloc (Nat.le_refl _) (.cells #[.int .i64 0, .int .i64 11, .int .i64 12, .int .i64 21, .int .i64 22, .int .i64 23, .int .i64 13, .int .i64 18, .int .i64 20, .int .i64 19, .int .i64 16, .int .i64 14] 3)))
          have S6 := Lib.hid (hbt.next hB6)
          clear hbt hB6
          go_wp2_with fail
          go_returns
          rw [HBR.out]
          exact made_one S6.out.below 14 d a b 0 ⟨#[]⟩ (by simp)
        · obtain ⟨wn, hwn, hbn, hln, hcn⟩ := box_new w5 #[.int .i64 5, .int .i64 d, .int .i64 d, .int .i64 (-1), .int .i32 1, .string ⟨#[]⟩, .slice none 0 0] 61
          have n0 := hcn 0
          have n1 := hcn 1
          have n2 := hcn 2
          have n3 := hcn 3
          have n4 := hcn 4
          have n5 := hcn 5
          have n6 := hcn 6
          simp only [List.getElem?_toArray, List.getElem?_cons_succ, List.getElem?_cons_zero] at n0 n1 n2 n3 n4 n5 n6
          have S5 := Lib.hid (S4.out.next hbn)
          have S6 := Lib.hid (S5.out.next (below_drew wn))
          clear hbn hcn
          have HWN := Lib.hid hwn
          clear hwn
          go_wp2_with fail
          rw [← HWN.out]
          clear c1 c2 c3 c4 hlt
          obtain ⟨_, c1, c2, c3, c4, hlt, _⟩ := S5.out
          go_region_held3 (fun W => W.cell? ⟨w5.heap.size, 0, none⟩ = some (.int .i64 5) ∧ W.cell? ⟨w5.heap.size, 1, none⟩ = some (.int .i64 d) ∧ W.cell? ⟨w5.heap.size, 2, none⟩ = some (.int .i64 d) ∧ W.cell? ⟨w5.heap.size, 3, none⟩ = some (.int .i64 (-1)) ∧ W.cell? ⟨w5.heap.size, 4, none⟩ = some (.int .i32 1) ∧ W.cell? ⟨w5.heap.size, 5, none⟩ = some (.string ⟨#[]⟩) ∧ W.cell? ⟨w5.heap.size, 6, none⟩ = some (.slice none 0 0)) (first | exact ⟨n0, n1, n2, n3, n4, n5, n6⟩ | go_keep) (first | (go_at_call 25; refine (three15_any _ _ _ _ _).mono ?_; rintro e wv ⟨rfl, hBv⟩; have n0 := (hBv.cell hln).trans n0; have n1 := (hBv.cell hln).trans n1; have n2 := (hBv.cell hln).trans n2; have n3 := (hBv.cell hln).trans n3; have n4 := (hBv.cell hln).trans n4; have n5 := (hBv.cell hln).trans n5; have n6 := (hBv.cell hln).trans n6; have hln := Nat.lt_of_lt_of_le hln hBv.size; have S7 := Lib.hid (S6.out.next hBv); clear hBv))
          all_goals (go_wp2_with fail; go_returns; rw [HBR.out]; exact made_two S7.out.below 14 d b a 0 5 d d (-1) 1 ⟨#[]⟩ ⟨#[]⟩ (by simp))
        · have hbx : Below w5.heap.size w5 (w5.alloc (.cells #[.int .i64 5, .int .i64 d, .int .i64 d, .int .i64 (-1), .int .i32 1, .string ⟨#[]⟩, .slice none 0 0] 61)) := (Below.refl _ _).alloc (Nat.le_refl _) _
          have S5 := Lib.hid (S4.out.next hbx)
          clear hbx
          go_wp2_with fail
          refine (three15_any 14 d b a _).mono ?_
          rintro e w6 ⟨rfl, hB6⟩
          have S6 := Lib.hid (S5.out.next hB6)
          clear hB6
          go_wp2_with fail
          go_returns
          rw [HBR.out]
          exact made_one S6.out.below 14 d b a 0 ⟨#[]⟩ (by simp)
        · obtain ⟨wn, hwn, hbn, hln, hcn⟩ := box_new w5 #[.int .i64 5, .int .i64 d, .int .i64 d, .int .i64 (-1), .int .i32 1, .string ⟨#[]⟩, .slice none 0 0] 61
          have n0 := hcn 0
          have n1 := hcn 1
          have n2 := hcn 2
          have n3 := hcn 3
          have n4 := hcn 4
          have n5 := hcn 5
          have n6 := hcn 6
          simp only [List.getElem?_toArray, List.getElem?_cons_succ, List.getElem?_cons_zero] at n0 n1 n2 n3 n4 n5 n6
          have S5 := Lib.hid (S4.out.next hbn)
          have S6 := Lib.hid (S5.out.next (below_drew wn))
          clear hbn hcn
          have HWN := Lib.hid hwn
          clear hwn
          go_wp2_with fail
          rw [← HWN.out]
          clear c1 c2 c3 c4 hlt
          obtain ⟨_, c1, c2, c3, c4, hlt, _⟩ := S5.out
          go_region_held3 (fun W => W.cell? ⟨w5.heap.size, 0, none⟩ = some (.int .i64 5) ∧ W.cell? ⟨w5.heap.size, 1, none⟩ = some (.int .i64 d) ∧ W.cell? ⟨w5.heap.size, 2, none⟩ = some (.int .i64 d) ∧ W.cell? ⟨w5.heap.size, 3, none⟩ = some (.int .i64 (-1)) ∧ W.cell? ⟨w5.heap.size, 4, none⟩ = some (.int .i32 1) ∧ W.cell? ⟨w5.heap.size, 5, none⟩ = some (.string ⟨#[]⟩) ∧ W.cell? ⟨w5.heap.size, 6, none⟩ = some (.slice none 0 0)) (first | exact ⟨n0, n1, n2, n3, n4, n5, n6⟩ | go_keep) (first | (go_at_call 25; refine (three15_any _ _ _ _ _).mono ?_; rintro e wv ⟨rfl, hBv⟩; have n0 := (hBv.cell hln).trans n0; have n1 := (hBv.cell hln).trans n1; have n2 := (hBv.cell hln).trans n2; have n3 := (hBv.cell hln).trans n3; have n4 := (hBv.cell hln).trans n4; have n5 := (hBv.cell hln).trans n5; have n6 := (hBv.cell hln).trans n6; have hln := Nat.lt_of_lt_of_le hln hBv.size; have S7 := Lib.hid (S6.out.next hBv); clear hBv))
          all_goals (go_wp2_with fail; go_returns; rw [HBR.out]; exact made_two S7.out.below 14 d a b 0 5 d d (-1) 1 ⟨#[]⟩ ⟨#[]⟩ (by simp))
        · have hbx : Below w5.heap.size w5 (w5.alloc (.cells #[.int .i64 5, .int .i64 d, .int .i64 d, .int .i64 (-1), .int .i32 1, .string ⟨#[]⟩, .slice none 0 0] 61)) := (Below.refl _ _).alloc (Nat.le_refl _) _
          have S5 := Lib.hid (S4.out.next hbx)
          clear hbx
          go_wp2_with fail
          refine (three15_any 12 d a b _).mono ?_
          rintro e w6 ⟨rfl, hB6⟩
          have S6 := Lib.hid (S5.out.next hB6)
          clear hB6
          go_wp2_with fail
          refine (with15_any 4 d d 1 _).mono ?_
          rintro e w7 ⟨rfl, hB7⟩
          have S7 := Lib.hid (S6.out.next hB7)
          clear hB7
          go_wp2_with fail
          go_returns
          rw [HBR.out]
          exact made_two S7.out.below 12 d a b 0 4 d d (-1) 1 ⟨#[]⟩ ⟨#[]⟩ (by simp)
        · have hbx : Below w5.heap.size w5 (w5.alloc (.cells #[.int .i64 5, .int .i64 d, .int .i64 d, .int .i64 (-1), .int .i32 1, .string ⟨#[]⟩, .slice none 0 0] 61)) := (Below.refl _ _).alloc (Nat.le_refl _) _
          have S5 := Lib.hid (S4.out.next hbx)
          clear hbx
          go_wp2_with fail
          refine (three15_any 12 d a b _).mono ?_
          rintro e w6 ⟨rfl, hB6⟩
          have S6 := Lib.hid (S5.out.next hB6)
          clear hB6
          go_wp2_with fail
          refine (three15_any 15 d (-1) d _).mono ?_
          rintro e w7 ⟨rfl, hB7⟩
          have S7 := Lib.hid (S6.out.next hB7)
          clear hB7
          go_wp2_with fail
          go_returns
          rw [HBR.out]
          exact made_two S7.out.below 12 d a b 0 15 d (-1) d 0 ⟨#[]⟩ ⟨#[]⟩ (by simp)
end Go.Proofs.Ytnfneinonkpmeaa
