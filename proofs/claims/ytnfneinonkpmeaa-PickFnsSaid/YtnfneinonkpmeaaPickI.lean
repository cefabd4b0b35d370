/- The picker: an instruction. Written by genins.py. -/
import Derived.Test.YtnfneinonkpmeaaPickB
import Derived.Test.YtnfneinonkpmeaaPickU
import Derived.Test.YtnfneinonkpmeaaPickM
import Derived.Test.YtnfneinonkpmeaaClone
import Derived.StillTailTactics
namespace Go.Proofs.Ytnfneinonkpmeaa
open Go.RowKit Go.Maps
variable {w w1 : World} {pb mb : Nat} {v : Value} {r : Option Nat} {f : Fn} {l : List Vins} {n : Nat} {K : Int → Option Int}

theorem below_drew1 (w : World) : Below w.heap.size w w.drew := ⟨rfl, rfl, rfl, Nat.le_refl _, fun _ _ => rfl⟩
theorem wf_i32 {z : Int} (h : I32 z) : (Lit.int .i32 z).wf = true := by
  unfold I32 at h
  simp [Lit.wf, IntKind.min, IntKind.max, IntKind.signed, IntKind.bits]; omega
def memV (single array d a b : Int) (name : ByteArray) : Vins := ⟨if a = -1 then single else array, d, a, b, 0, name, []⟩
/-- Behind the map's turn: the picker. -/
theorem PickAt.mapped {w w' : World} {n' : Nat} {kn kn' : Lit → Option Lit} (h : PickAt w pb mb v r f l n kn) (hM : MapAt Try.prog 3 21 w' mb n' kn') (hc : Chg (fun k => k = mb) w w') : PickAt w' pb mb v r f l n' kn' := by
  obtain ⟨xs, h1, h2⟩ := h.code
  have hpm : pb ≠ mb := MapAt.ne_cells h.map h.heap
  have hrm : r ≠ some mb := row_not_map h1 h.map
  exact ⟨hc.heap h.heap hpm, ⟨xs, h1.kept hc fun k hk e => hrm (by rw [hk, e]), h2.kept hc fun k hk _ e => hk.1 (.inr (.inl e))⟩, hM⟩

set_option maxHeartbeats 4000000 in
set_option maxRecDepth 100000 in
theorem ins_2 (h : PickAt w pb mb v r f l n (kl K)) (hb : l.length + 2 ≤ 1000000000) (d a : Int) (s : Value) (hd : 0 ≤ d) (hd64 : I64 d) :
    Calls Try.prog 22 #[.pointer (some ⟨pb, 0, none⟩), .agg #[.int .i64 2, .int .i64 0, .int .i64 d, .int .i64 a, .int .i64 (-1), .int .i32 0, .string ⟨#[]⟩, s]] w
      fun e w' => e = .returned (.tuple #[]) ∧ Picked w pb mb r f (l ++ [⟨41, d, a, -1, 0, ⟨#[]⟩, []⟩]) n (kl (updK K d none)) w' := by
  obtain ⟨w0, hw0, hb0, hlt0, hc⟩ := box_new w #[.int .i64 2, .int .i64 0, .int .i64 d, .int .i64 a, .int .i64 (-1), .int .i32 0, .string ⟨#[]⟩, s] 54
  have HW := Lib.hid hw0
  have HB := Lib.hid hb0
  have H0 := Lib.hid (h.kept hb0)
  have HNF : Hid (¬ FootP pb mb r w.heap.size) := Lib.hid fun hf => Nat.lt_irrefl _ (h.lt _ hf)
  have c0 := hc 0
  have c2 := hc 2
  simp only [List.getElem?_toArray, List.getElem?_cons_succ, List.getElem?_cons_zero] at c0 c2
  clear hw0 hb0 h hc
  go_enter Try.func22, Try.ntmps22
  go_wp2_with fail
  rw [← HW.out]
  refine (three_any 41 d a (-1) _).mono ?_
  rintro e w2 ⟨rfl, hB2⟩
  have e0 := (hB2.cell (p := ⟨w.heap.size, 0, none⟩) hlt0).trans c0
  have e2 := (hB2.cell (p := ⟨w.heap.size, 2, none⟩) hlt0).trans c2
  have H2 := Lib.hid (H0.out.kept hB2)
  have HB2 := Lib.hid (HB.out.trans (hB2.mono HB.out.size))
  have hlt2 := Nat.lt_of_lt_of_le hlt0 hB2.size
  clear hB2 c0 c2
  go_wp2_with fail
  refine (put_one H2.out (Below.refl _ _) 41 d a (-1) 0 ⟨#[]⟩ (by omega)).mono ?_
  rintro e w3 ⟨rfl, v3, r3, hp3, hs3⟩
  have g0 := hs3.chg.cell e0 HNF.out
  have g2 := hs3.chg.cell e2 HNF.out
  have hp4 : w3.cell? ⟨pb, 4, none⟩ = some (.map (some mb)) := cell_of_row _ _ _ _ _ _ hp3.heap
  have HP3 := Lib.hid hp3
  have HS3 := Lib.hid ((PStep.ofBelow HB2.out).trans hs3)
  clear hp3 hs3 e0 e2
  go_wp2_with fail
  go_still_tail 6, (by kernel_rfl)
  change wpList _ _ _ _ _ w3.drew
  have HP4 := Lib.hid (HP3.out.kept (below_drew1 w3))
  have HS4 := Lib.hid (HS3.out.trans (PStep.ofBelow (below_drew1 w3)))
  have HNF3 : Hid (w.heap.size ≠ mb) := Lib.hid fun e => HNF.out (.inr (.inl e))
  have i0 : w3.drew.cell? ⟨w.heap.size, 0, none⟩ = some (.int .i64 2) := g0
  clear g0 g2 hp4
  generalize w3.drew = w4 at HP4 HS4 i0 ⊢
  go_wp2_with (at_delete; go_must (refine wpList_map_del rfl _ _ 63 3 rfl 21 lawI Try.underlying63 HP4.out.map rfl (.int .i64 d) (.int .i64 d) rfl (keyOf_int_mk Try.underlying3 (WalkArith.wf_i64 hd64)) ?_); intro w5 hM5 hC5; have j0 := hC5.cell i0 HNF3.out; have HM5 := Lib.hid hM5; have HC5 := Lib.hid hC5; clear hM5 hC5)
  go_returns
  exact ⟨rfl, v3, r3, HP4.out.mapped (HM5.out.congr (kl_upd K d none)) HC5.out, HS4.out.trans ⟨HC5.out.mono fun i _ e => .inr (.inl e), .refl _ _⟩⟩

set_option maxHeartbeats 4000000 in
set_option maxRecDepth 100000 in
theorem ins_3 (h : PickAt w pb mb v r f l n (kl K)) (hb : l.length + 2 ≤ 1000000000) (op d a : Int) (s : Value) (hd : 0 ≤ d) (hd64 : I64 d) (ho : 19 ≤ op ∧ op ≤ 21) :
    Calls Try.prog 22 #[.pointer (some ⟨pb, 0, none⟩), .agg #[.int .i64 3, .int .i64 op, .int .i64 d, .int .i64 a, .int .i64 (-1), .int .i32 0, .string ⟨#[]⟩, s]] w
      fun e w' => e = .returned (.tuple #[]) ∧ Picked w pb mb r f (l ++ [unS op d a]) n (kl (updK K d none)) w' := by
  obtain ⟨w0, hw0, hb0, hlt0, hc⟩ := box_new w #[.int .i64 3, .int .i64 op, .int .i64 d, .int .i64 a, .int .i64 (-1), .int .i32 0, .string ⟨#[]⟩, s] 54
  have HW := Lib.hid hw0
  have HB := Lib.hid hb0
  have H0 := Lib.hid (h.kept hb0)
  have HNF : Hid (¬ FootP pb mb r w.heap.size) := Lib.hid fun hf => Nat.lt_irrefl _ (h.lt _ hf)
  have c0 := hc 0
  have c2 := hc 2
  simp only [List.getElem?_toArray, List.getElem?_cons_succ, List.getElem?_cons_zero] at c0 c2
  clear hw0 hb0 h hc
  go_enter Try.func22, Try.ntmps22
  go_wp2_with fail
  rw [← HW.out]
  refine (unary_any H0.out (by omega) 3 op d a (-1) 0 ⟨#[]⟩ s ho).mono ?_
  rintro e w3 ⟨rfl, v3, r3, hp3, hs3⟩
  have g0 := hs3.chg.cell c0 HNF.out
  have g2 := hs3.chg.cell c2 HNF.out
  have hp4 : w3.cell? ⟨pb, 4, none⟩ = some (.map (some mb)) := cell_of_row _ _ _ _ _ _ hp3.heap
  have HP3 := Lib.hid hp3
  have HS3 := Lib.hid ((PStep.ofBelow HB.out).trans hs3)
  clear hp3 hs3 c0 c2
  go_wp2_with fail
  go_still_tail 6, (by kernel_rfl)
  change wpList _ _ _ _ _ w3.drew
  have HP4 := Lib.hid (HP3.out.kept (below_drew1 w3))
  have HS4 := Lib.hid (HS3.out.trans (PStep.ofBelow (below_drew1 w3)))
  have HNF3 : Hid (w.heap.size ≠ mb) := Lib.hid fun e => HNF.out (.inr (.inl e))
  have i0 : w3.drew.cell? ⟨w.heap.size, 0, none⟩ = some (.int .i64 3) := g0
  clear g0 g2 hp4
  generalize w3.drew = w4 at HP4 HS4 i0 ⊢
  go_wp2_with (at_delete; go_must (refine wpList_map_del rfl _ _ 63 3 rfl 21 lawI Try.underlying63 HP4.out.map rfl (.int .i64 d) (.int .i64 d) rfl (keyOf_int_mk Try.underlying3 (WalkArith.wf_i64 hd64)) ?_); intro w5 hM5 hC5; have j0 := hC5.cell i0 HNF3.out; have HM5 := Lib.hid hM5; have HC5 := Lib.hid hC5; clear hM5 hC5)
  go_returns
  exact ⟨rfl, v3, r3, HP4.out.mapped (HM5.out.congr (kl_upd K d none)) HC5.out, HS4.out.trans ⟨HC5.out.mono fun i _ e => .inr (.inl e), .refl _ _⟩⟩

set_option maxHeartbeats 4000000 in
set_option maxRecDepth 100000 in
theorem ins_4 (h : PickAt w pb mb v r f l n (kl K)) (hb : l.length + 2 ≤ 1000000000) (op d a b : Int) (s : Value) (hd : 0 ≤ d) (hd64 : I64 d) (hK : KOk K) (ho : 1 ≤ op ∧ op ≤ 16) (ha64 : I64 a) (hb64 : I64 b) :
    Calls Try.prog 22 #[.pointer (some ⟨pb, 0, none⟩), .agg #[.int .i64 4, .int .i64 op, .int .i64 d, .int .i64 a, .int .i64 b, .int .i32 0, .string ⟨#[]⟩, s]] w
      fun e w' => e = .returned (.tuple #[]) ∧ Picked w pb mb r f (l ++ binS K op d a b) n (kl (updK K d none)) w' := by
  obtain ⟨w0, hw0, hb0, hlt0, hc⟩ := box_new w #[.int .i64 4, .int .i64 op, .int .i64 d, .int .i64 a, .int .i64 b, .int .i32 0, .string ⟨#[]⟩, s] 54
  have HW := Lib.hid hw0
  have HB := Lib.hid hb0
  have H0 := Lib.hid (h.kept hb0)
  have HNF : Hid (¬ FootP pb mb r w.heap.size) := Lib.hid fun hf => Nat.lt_irrefl _ (h.lt _ hf)
  have c0 := hc 0
  have c2 := hc 2
  simp only [List.getElem?_toArray, List.getElem?_cons_succ, List.getElem?_cons_zero] at c0 c2
  clear hw0 hb0 h hc
  go_enter Try.func22, Try.ntmps22
  go_wp2_with fail
  rw [← HW.out]
  refine (binary_any H0.out hK hb 4 op d a b 0 ⟨#[]⟩ s ho ha64 hb64).mono ?_
  rintro e w3 ⟨rfl, v3, r3, hp3, hs3⟩
  have g0 := hs3.chg.cell c0 HNF.out
  have g2 := hs3.chg.cell c2 HNF.out
  have hp4 : w3.cell? ⟨pb, 4, none⟩ = some (.map (some mb)) := cell_of_row _ _ _ _ _ _ hp3.heap
  have HP3 := Lib.hid hp3
  have HS3 := Lib.hid ((PStep.ofBelow HB.out).trans hs3)
  clear hp3 hs3 c0 c2
  go_wp2_with fail
  go_still_tail 6, (by kernel_rfl)
  change wpList _ _ _ _ _ w3.drew
  have HP4 := Lib.hid (HP3.out.kept (below_drew1 w3))
  have HS4 := Lib.hid (HS3.out.trans (PStep.ofBelow (below_drew1 w3)))
  have HNF3 : Hid (w.heap.size ≠ mb) := Lib.hid fun e => HNF.out (.inr (.inl e))
  have i0 : w3.drew.cell? ⟨w.heap.size, 0, none⟩ = some (.int .i64 4) := g0
  clear g0 g2 hp4
  generalize w3.drew = w4 at HP4 HS4 i0 ⊢
  go_wp2_with (at_delete; go_must (refine wpList_map_del rfl _ _ 63 3 rfl 21 lawI Try.underlying63 HP4.out.map rfl (.int .i64 d) (.int .i64 d) rfl (keyOf_int_mk Try.underlying3 (WalkArith.wf_i64 hd64)) ?_); intro w5 hM5 hC5; have j0 := hC5.cell i0 HNF3.out; have HM5 := Lib.hid hM5; have HC5 := Lib.hid hC5; clear hM5 hC5)
  go_returns
  exact ⟨rfl, v3, r3, HP4.out.mapped (HM5.out.congr (kl_upd K d none)) HC5.out, HS4.out.trans ⟨HC5.out.mono fun i _ e => .inr (.inl e), .refl _ _⟩⟩

set_option maxHeartbeats 4000000 in
set_option maxRecDepth 100000 in
theorem ins_5 (h : PickAt w pb mb v r f l n (kl K)) (hb : l.length + 2 ≤ 1000000000) (d a : Int) (name : ByteArray) (s : Value) (hd : 0 ≤ d) (hd64 : I64 d) :
    Calls Try.prog 22 #[.pointer (some ⟨pb, 0, none⟩), .agg #[.int .i64 5, .int .i64 0, .int .i64 d, .int .i64 a, .int .i64 (-1), .int .i32 0, .string name, s]] w
      fun e w' => e = .returned (.tuple #[]) ∧ Picked w pb mb r f (l ++ [memV 42 44 d a (-1) name]) n (kl (updK K d none)) w' := by
  obtain ⟨w0, hw0, hb0, hlt0, hc⟩ := box_new w #[.int .i64 5, .int .i64 0, .int .i64 d, .int .i64 a, .int .i64 (-1), .int .i32 0, .string name, s] 54
  have HW := Lib.hid hw0
  have HB := Lib.hid hb0
  have H0 := Lib.hid (h.kept hb0)
  have HNF : Hid (¬ FootP pb mb r w.heap.size) := Lib.hid fun hf => Nat.lt_irrefl _ (h.lt _ hf)
  have c0 := hc 0
  have c2 := hc 2
  simp only [List.getElem?_toArray, List.getElem?_cons_succ, List.getElem?_cons_zero] at c0 c2
  clear hw0 hb0 h hc
  go_enter Try.func22, Try.ntmps22
  go_wp2_with fail
  rw [← HW.out]
  refine (memory_any H0.out (by omega) 42 44 5 0 d a (-1) 0 name s).mono ?_
  rintro e w3 ⟨rfl, v3, r3, hp3, hs3⟩
  have g0 := hs3.chg.cell c0 HNF.out
  have g2 := hs3.chg.cell c2 HNF.out
  have hp4 : w3.cell? ⟨pb, 4, none⟩ = some (.map (some mb)) := cell_of_row _ _ _ _ _ _ hp3.heap
  have HP3 := Lib.hid hp3
  have HS3 := Lib.hid ((PStep.ofBelow HB.out).trans hs3)
  clear hp3 hs3 c0 c2
  go_wp2_with fail
  go_still_tail 6, (by kernel_rfl)
  change wpList _ _ _ _ _ w3.drew
  have HP4 := Lib.hid (HP3.out.kept (below_drew1 w3))
  have HS4 := Lib.hid (HS3.out.trans (PStep.ofBelow (below_drew1 w3)))
  have HNF3 : Hid (w.heap.size ≠ mb) := Lib.hid fun e => HNF.out (.inr (.inl e))
  have i0 : w3.drew.cell? ⟨w.heap.size, 0, none⟩ = some (.int .i64 5) := g0
  clear g0 g2 hp4
  generalize w3.drew = w4 at HP4 HS4 i0 ⊢
  go_wp2_with (at_delete; go_must (refine wpList_map_del rfl _ _ 63 3 rfl 21 lawI Try.underlying63 HP4.out.map rfl (.int .i64 d) (.int .i64 d) rfl (keyOf_int_mk Try.underlying3 (WalkArith.wf_i64 hd64)) ?_); intro w5 hM5 hC5; have j0 := hC5.cell i0 HNF3.out; have HM5 := Lib.hid hM5; have HC5 := Lib.hid hC5; clear hM5 hC5)
  go_returns
  exact ⟨rfl, v3, r3, HP4.out.mapped (HM5.out.congr (kl_upd K d none)) HC5.out, HS4.out.trans ⟨HC5.out.mono fun i _ e => .inr (.inl e), .refl _ _⟩⟩

set_option maxHeartbeats 4000000 in
set_option maxRecDepth 100000 in
theorem ins_6 (h : PickAt w pb mb v r f l n (kl K)) (hb : l.length + 2 ≤ 1000000000) (a b : Int) (name : ByteArray) (s : Value)  :
    Calls Try.prog 22 #[.pointer (some ⟨pb, 0, none⟩), .agg #[.int .i64 6, .int .i64 0, .int .i64 (-1), .int .i64 a, .int .i64 b, .int .i32 0, .string name, s]] w
      fun e w' => e = .returned (.tuple #[]) ∧ Picked w pb mb r f (l ++ [memV 43 45 (-1) a b name]) n (kl K) w' := by
  obtain ⟨w0, hw0, hb0, hlt0, hc⟩ := box_new w #[.int .i64 6, .int .i64 0, .int .i64 (-1), .int .i64 a, .int .i64 b, .int .i32 0, .string name, s] 54
  have HW := Lib.hid hw0
  have HB := Lib.hid hb0
  have H0 := Lib.hid (h.kept hb0)
  have HNF : Hid (¬ FootP pb mb r w.heap.size) := Lib.hid fun hf => Nat.lt_irrefl _ (h.lt _ hf)
  have c0 := hc 0
  have c2 := hc 2
  simp only [List.getElem?_toArray, List.getElem?_cons_succ, List.getElem?_cons_zero] at c0 c2
  clear hw0 hb0 h hc
  go_enter Try.func22, Try.ntmps22
  go_wp2_with fail
  rw [← HW.out]
  refine (memory_any H0.out (by omega) 43 45 6 0 (-1) a b 0 name s).mono ?_
  rintro e w3 ⟨rfl, v3, r3, hp3, hs3⟩
  have g0 := hs3.chg.cell c0 HNF.out
  have g2 := hs3.chg.cell c2 HNF.out
  have hp4 : w3.cell? ⟨pb, 4, none⟩ = some (.map (some mb)) := cell_of_row _ _ _ _ _ _ hp3.heap
  have HP3 := Lib.hid hp3
  have HS3 := Lib.hid ((PStep.ofBelow HB.out).trans hs3)
  clear hp3 hs3 c0 c2
  go_wp2_with fail
  go_returns
  exact ⟨rfl, v3, r3, HP3.out, HS3.out⟩

set_option maxHeartbeats 4000000 in
set_option maxRecDepth 100000 in
theorem ins_8 (h : PickAt w pb mb v r f l n (kl K)) (hb : l.length + 2 ≤ 1000000000) (d : Int) (s : Value) (hd : 0 ≤ d) (hd64 : I64 d) :
    Calls Try.prog 22 #[.pointer (some ⟨pb, 0, none⟩), .agg #[.int .i64 8, .int .i64 0, .int .i64 d, .int .i64 (-1), .int .i64 (-1), .int .i32 0, .string ⟨#[]⟩, s]] w
      fun e w' => e = .returned (.tuple #[]) ∧ Picked w pb mb r f (l ++ [⟨47, d, -1, -1, 0, ⟨#[]⟩, []⟩]) n (kl (updK K d none)) w' := by
  obtain ⟨w0, hw0, hb0, hlt0, hc⟩ := box_new w #[.int .i64 8, .int .i64 0, .int .i64 d, .int .i64 (-1), .int .i64 (-1), .int .i32 0, .string ⟨#[]⟩, s] 54
  have HW := Lib.hid hw0
  have HB := Lib.hid hb0
  have H0 := Lib.hid (h.kept hb0)
  have HNF : Hid (¬ FootP pb mb r w.heap.size) := Lib.hid fun hf => Nat.lt_irrefl _ (h.lt _ hf)
  have c0 := hc 0
  have c2 := hc 2
  simp only [List.getElem?_toArray, List.getElem?_cons_succ, List.getElem?_cons_zero] at c0 c2
  clear hw0 hb0 h hc
  go_enter Try.func22, Try.ntmps22
  go_wp2_with fail
  rw [← HW.out]
  refine (three_any 47 d (-1) (-1) _).mono ?_
  rintro e w2 ⟨rfl, hB2⟩
  have e0 := (hB2.cell (p := ⟨w.heap.size, 0, none⟩) hlt0).trans c0
  have e2 := (hB2.cell (p := ⟨w.heap.size, 2, none⟩) hlt0).trans c2
  have H2 := Lib.hid (H0.out.kept hB2)
  have HB2 := Lib.hid (HB.out.trans (hB2.mono HB.out.size))
  have hlt2 := Nat.lt_of_lt_of_le hlt0 hB2.size
  clear hB2 c0 c2
  go_wp2_with fail
  refine (put_one H2.out (Below.refl _ _) 47 d (-1) (-1) 0 ⟨#[]⟩ (by omega)).mono ?_
  rintro e w3 ⟨rfl, v3, r3, hp3, hs3⟩
  have g0 := hs3.chg.cell e0 HNF.out
  have g2 := hs3.chg.cell e2 HNF.out
  have hp4 : w3.cell? ⟨pb, 4, none⟩ = some (.map (some mb)) := cell_of_row _ _ _ _ _ _ hp3.heap
  have HP3 := Lib.hid hp3
  have HS3 := Lib.hid ((PStep.ofBelow HB2.out).trans hs3)
  clear hp3 hs3 e0 e2
  go_wp2_with fail
  go_still_tail 6, (by kernel_rfl)
  change wpList _ _ _ _ _ w3.drew
  have HP4 := Lib.hid (HP3.out.kept (below_drew1 w3))
  have HS4 := Lib.hid (HS3.out.trans (PStep.ofBelow (below_drew1 w3)))
  have HNF3 : Hid (w.heap.size ≠ mb) := Lib.hid fun e => HNF.out (.inr (.inl e))
  have i0 : w3.drew.cell? ⟨w.heap.size, 0, none⟩ = some (.int .i64 8) := g0
  clear g0 g2 hp4
  generalize w3.drew = w4 at HP4 HS4 i0 ⊢
  go_wp2_with (at_delete; go_must (refine wpList_map_del rfl _ _ 63 3 rfl 21 lawI Try.underlying63 HP4.out.map rfl (.int .i64 d) (.int .i64 d) rfl (keyOf_int_mk Try.underlying3 (WalkArith.wf_i64 hd64)) ?_); intro w5 hM5 hC5; have j0 := hC5.cell i0 HNF3.out; have HM5 := Lib.hid hM5; have HC5 := Lib.hid hC5; clear hM5 hC5)
  go_returns
  exact ⟨rfl, v3, r3, HP4.out.mapped (HM5.out.congr (kl_upd K d none)) HC5.out, HS4.out.trans ⟨HC5.out.mono fun i _ e => .inr (.inl e), .refl _ _⟩⟩

set_option maxHeartbeats 4000000 in
set_option maxRecDepth 100000 in
theorem ins_9 (h : PickAt w pb mb v r f l n (kl K)) (hb : l.length + 2 ≤ 1000000000) (a : Int) (s : Value)  :
    Calls Try.prog 22 #[.pointer (some ⟨pb, 0, none⟩), .agg #[.int .i64 9, .int .i64 0, .int .i64 (-1), .int .i64 a, .int .i64 (-1), .int .i32 0, .string ⟨#[]⟩, s]] w
      fun e w' => e = .returned (.tuple #[]) ∧ Picked w pb mb r f (l ++ [⟨48, -1, a, -1, 0, ⟨#[]⟩, []⟩]) n (kl K) w' := by
  obtain ⟨w0, hw0, hb0, hlt0, hc⟩ := box_new w #[.int .i64 9, .int .i64 0, .int .i64 (-1), .int .i64 a, .int .i64 (-1), .int .i32 0, .string ⟨#[]⟩, s] 54
  have HW := Lib.hid hw0
  have HB := Lib.hid hb0
  have H0 := Lib.hid (h.kept hb0)
  have HNF : Hid (¬ FootP pb mb r w.heap.size) := Lib.hid fun hf => Nat.lt_irrefl _ (h.lt _ hf)
  have c0 := hc 0
  have c2 := hc 2
  simp only [List.getElem?_toArray, List.getElem?_cons_succ, List.getElem?_cons_zero] at c0 c2
  clear hw0 hb0 h hc
  go_enter Try.func22, Try.ntmps22
  go_wp2_with fail
  rw [← HW.out]
  refine (three_any 48 (-1) a (-1) _).mono ?_
  rintro e w2 ⟨rfl, hB2⟩
  have e0 := (hB2.cell (p := ⟨w.heap.size, 0, none⟩) hlt0).trans c0
  have e2 := (hB2.cell (p := ⟨w.heap.size, 2, none⟩) hlt0).trans c2
  have H2 := Lib.hid (H0.out.kept hB2)
  have HB2 := Lib.hid (HB.out.trans (hB2.mono HB.out.size))
  have hlt2 := Nat.lt_of_lt_of_le hlt0 hB2.size
  clear hB2 c0 c2
  go_wp2_with fail
  refine (put_one H2.out (Below.refl _ _) 48 (-1) a (-1) 0 ⟨#[]⟩ (by omega)).mono ?_
  rintro e w3 ⟨rfl, v3, r3, hp3, hs3⟩
  have g0 := hs3.chg.cell e0 HNF.out
  have g2 := hs3.chg.cell e2 HNF.out
  have hp4 : w3.cell? ⟨pb, 4, none⟩ = some (.map (some mb)) := cell_of_row _ _ _ _ _ _ hp3.heap
  have HP3 := Lib.hid hp3
  have HS3 := Lib.hid ((PStep.ofBelow HB2.out).trans hs3)
  clear hp3 hs3 e0 e2
  go_wp2_with fail
  go_returns
  exact ⟨rfl, v3, r3, HP3.out, HS3.out⟩

set_option maxHeartbeats 4000000 in
set_option maxRecDepth 100000 in
theorem ins_1 (h : PickAt w pb mb v r f l n (kl K)) (hb : l.length + 2 ≤ 1000000000) (hn : n < 1000000000) (d num : Int) (s : Value) (hd : 0 ≤ d) (hd64 : I64 d) (h32 : I32 num) :
    Calls Try.prog 22 #[.pointer (some ⟨pb, 0, none⟩), .agg #[.int .i64 1, .int .i64 0, .int .i64 d, .int .i64 (-1), .int .i64 (-1), .int .i32 num, .string ⟨#[]⟩, s]] w
      fun e w' => e = .returned (.tuple #[]) ∧ Picked w pb mb r f (l ++ [⟨40, d, -1, -1, num, ⟨#[]⟩, []⟩]) (n + 1) (kl (updK K d (some num))) w' := by
  obtain ⟨w0, hw0, hb0, hlt0, hc⟩ := box_new w #[.int .i64 1, .int .i64 0, .int .i64 d, .int .i64 (-1), .int .i64 (-1), .int .i32 num, .string ⟨#[]⟩, s] 54
  have HSZ : Hid (w0.heap.size = w.heap.size + 1) := Lib.hid (by rw [hw0]; simp)
  have HW := Lib.hid hw0
  have HB := Lib.hid hb0
  have H0 := Lib.hid (h.kept hb0)
  have HNF : Hid (¬ FootP pb mb r w.heap.size) := Lib.hid fun hf => Nat.lt_irrefl _ (h.lt _ hf)
  have HPM : Hid (pb ≠ mb) := Lib.hid (MapAt.ne_cells h.map h.heap)
  have H32 := Lib.hid h32
  have c0 := hc 0
  have c2 := hc 2
  have c5 := hc 5
  simp only [List.getElem?_toArray, List.getElem?_cons_succ, List.getElem?_cons_zero] at c0 c2 c5
  clear hw0 hb0 h hc h32
  go_enter Try.func22, Try.ntmps22
  go_wp2_with fail
  rw [← HW.out, ← HSZ.out]
  refine (put_one H0.out (Below.refl _ _) 40 d (-1) (-1) num ⟨#[]⟩ (by omega)).mono ?_
  rintro e w3 ⟨rfl, v3, r3, hp3, hs3⟩
  have g0 := hs3.chg.cell c0 HNF.out
  have g2 := hs3.chg.cell c2 HNF.out
  have g5 := hs3.chg.cell c5 HNF.out
  have hp4 : w3.cell? ⟨pb, 4, none⟩ = some (.map (some mb)) := cell_of_row _ _ _ _ _ _ hp3.heap
  have HP3 := Lib.hid hp3
  have HS3 := Lib.hid ((PStep.ofBelow HB.out).trans hs3)
  clear hp3 hs3 c0 c2 c5
  go_wp2_with fail
  go_still_tail 6, (by kernel_rfl)
  change wpList _ _ _ _ _ w3.drew
  have HP4 := Lib.hid (HP3.out.kept (below_drew1 w3))
  have HS4 := Lib.hid (HS3.out.trans (PStep.ofBelow (below_drew1 w3)))
  have HNF3 : Hid (w.heap.size ≠ mb) := Lib.hid fun e => HNF.out (.inr (.inl e))
  have i0 : w3.drew.cell? ⟨w.heap.size, 0, none⟩ = some (.int .i64 1) := g0
  have i2 : w3.drew.cell? ⟨w.heap.size, 2, none⟩ = some (.int .i64 d) := g2
  have i5 : w3.drew.cell? ⟨w.heap.size, 5, none⟩ = some (.int .i32 num) := g5
  have i4 : w3.drew.cell? ⟨pb, 4, none⟩ = some (.map (some mb)) := hp4
  clear g0 g2 g5 hp4
  generalize w3.drew = w4 at HP4 HS4 i0 i2 i5 i4 ⊢
  go_wp2_with (at_delete; go_must (refine wpList_map_del rfl _ _ 63 3 rfl 21 lawI Try.underlying63 HP4.out.map rfl (.int .i64 d) (.int .i64 d) rfl (keyOf_int_mk Try.underlying3 (WalkArith.wf_i64 hd64)) ?_); intro w5 hM5 hC5; have j0 := hC5.cell i0 HNF3.out; have j2 := hC5.cell i2 HNF3.out; have j5 := hC5.cell i5 HNF3.out; have j4 := hC5.cell i4 HPM.out; have HM5 := Lib.hid hM5; have HC5 := Lib.hid hC5; clear hM5 hC5)
  have HP5 := Lib.hid (HP4.out.mapped (HM5.out.congr (kl_upd K d none)) HC5.out)
  have HS5 := Lib.hid (HS4.out.trans ⟨HC5.out.mono (T := FootP pb mb r3) fun i _ e => .inr (.inl e), .refl _ _⟩)
  go_still_tail 8, (by kernel_rfl)
  change wpList _ _ _ _ _ w5.drew
  have HP6 := Lib.hid (HP5.out.kept (below_drew1 w5))
  have HS6 := Lib.hid (HS5.out.trans (PStep.ofBelow (below_drew1 w5)))
  clear i0 i2 i5 i4 j0 j2 j5 j4
  generalize w5.drew = w6 at HP6 HS6 ⊢
  go_wp2_with (at_mapUpdate; go_must (refine wpList_map_put rfl _ _ _ 63 rfl 3 21 lawI Try.underlying63 HP6.out.map (by unfold maxLen; omega) rfl _ _ (.int .i64 d) (.int .i32 num) rfl rfl (keyOf_int_mk Try.underlying3 (WalkArith.wf_i64 hd64)) trivial [] (plainElem_int Try.underlying21 (wf_i32 H32.out)) ?_); intro w7 hM7 hC7; have HM7 := Lib.hid hM7; have HC7 := Lib.hid hC7; clear hM7 hC7)
  go_returns
  refine ⟨rfl, v3, r3, HP6.out.mapped ((HM7.out.congr (kl_upd (updK K d none) d (some num))).congr fun k => ?_) HC7.out, HS6.out.trans ⟨HC7.out.mono fun i _ e => .inr (.inl e), .refl _ _⟩⟩
  congr 1
  funext x
  unfold updK
  split <;> rfl
end Go.Proofs.Ytnfneinonkpmeaa
