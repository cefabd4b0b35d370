/- The picker: an instruction. Written by genins.py. -/
import Derived.StillTailTactics
import Derived.Test.YtnfneinonkpmeaaLv16
import Derived.Test.YtnfneinonkpmeaaLv14
import Derived.Deep.RegionHeld3
namespace Go.Proofs.Ytnfneinonkpmeaa
open Go.RowKit Go.Maps
variable {w w1 : World} {pb mb : Nat} {v : Value} {r : Option Nat} {f : Fn} {l : List Vins} {n : Nat} {K : Int → Option Int}

theorem below_drew1 (w : World) : Below w.heap.size w w.drew := ⟨rfl, rfl, rfl, Nat.le_refl _, fun _ _ => rfl⟩
theorem wf_i32 {z : Int} (h : I32 z) : (Lit.int .i32 z).wf = true := by
  unfold I32 at h
  simp [Lit.wf, IntKind.min, IntKind.max, IntKind.signed, IntKind.bits]; omega
def memV (single array d a b : Int) (name : ByteArray) : Vins := ⟨if a = -1 then single else array, d, a, b, 0, name, []⟩
/-- Behind the map's turn: the picker. -/
theorem PickAt.mapped {w w' : World} {n' : Nat} {kn kn' : Lit → Option Lit} (h : PickAt w pb mb v r f l n kn) (hM : MapAt Try.prog 3 21 w' mb n' kn') (hc : Chg (fun k => k = mb) w w') : PickAt w' pb mb v r f l n' kn' := by
  obtain ⟨xs, h1, h2⟩ := h.code
  have hpm : pb ≠ mb := MapAt.ne_cells h.map h.heap
  have hrm : r ≠ some mb := row_not_map h1 h.map
  exact ⟨hc.heap h.heap hpm, ⟨xs, h1.kept hc fun k hk e => hrm (by rw [hk, e]), h2.kept hc fun k hk _ e => hk.1 (.inr (.inl e))⟩, hM⟩

set_option maxHeartbeats 4000000 in
set_option maxRecDepth 100000 in
theorem ins_2 (h : PickAt w pb mb v r f l n (kl K)) (hb : l.length + 2 ≤ 1000000000) (d a : Int) (s : Value) (hd : 0 ≤ d) (hd64 : I64 d) :
    Calls Try.prog 22 #[.pointer (some ⟨pb, 0, none⟩), .agg #[.int .i64 2, .int .i64 0, .int .i64 d, .int .i64 a, .int .i64 (-1), .int .i32 0, .string ⟨#[]⟩, s]] w
      fun e w' => e = .returned (.tuple #[]) ∧ Picked w pb mb r f (l ++ [⟨41, d, a, -1, 0, ⟨#[]⟩, []⟩]) n (kl (updK K d none)) w' := by
  obtain ⟨w0, hw0, hb0, hlt0, hc⟩ := box_new w #[.int .i64 2, .int .i64 0, .int .i64 d, .int .i64 a, .int .i64 (-1), .int .i32 0, .string ⟨#[]⟩, s] 54
  have HW := Lib.hid hw0
  have HB := Lib.hid hb0
  have H0 := Lib.hid (h.kept hb0)
  have HNF : Hid (¬ FootP pb mb r w.heap.size) := Lib.hid fun hf => Nat.lt_irrefl _ (h.lt _ hf)
  have c0 := hc 0
  have c2 := hc 2
  simp only [List.getElem?_toArray, List.getElem?_cons_succ, List.getElem?_cons_zero] at c0 c2
  clear hw0 hb0 h hc
  go_enter Try.func22, Try.ntmps22
  go_wp2_with fail
  rw [← HW.out]
  refine (three_any 41 d a (-1) _).mono ?_
  rintro e w2 ⟨rfl, hB2⟩
  have e0 := (hB2.cell (p := ⟨w.heap.size, 0, none⟩) hlt0).trans c0
  have e2 := (hB2.cell (p := ⟨w.heap.size, 2, none⟩) hlt0).trans c2
  have H2 := Lib.hid (H0.out.kept hB2)
  have HB2 := Lib.hid (HB.out.trans (hB2.mono HB.out.size))
  have hlt2 := Nat.lt_of_lt_of_le hlt0 hB2.size
  clear hB2 c0 c2
  go_wp2_with fail
  refine (put_one H2.out (Below.refl _ _) 41 d a (-1) 0 ⟨#[]⟩ (by omega)).mono ?_
  rintro e w3 ⟨rfl, v3, r3, hp3, hs3⟩
  have g0 := hs3.chg.cell e0 HNF.out
  have g2 := hs3.chg.cell e2 HNF.out
  have hp4 : w3.cell? ⟨pb, 4, none⟩ = some (.map (some mb)) := cell_of_row _ _ _ _ _ _ hp3.heap
  have HP3 := Lib.hid hp3
  have HS3 := Lib.hid ((PStep.ofBelow HB2.out).trans hs3)
  clear hp3 hs3 e0 e2
  go_wp2_with fail
  go_still_tail 6, (by kernel_rfl)
  change wpList _ _ _ _ _ w3.drew
  have HP4 := Lib.hid (HP3.out.kept (below_drew1 w3))
  have HS4 := Lib.hid (HS3.out.trans (PStep.ofBelow (below_drew1 w3)))
  have HNF3 : Hid (w.heap.size ≠ mb) := Lib.hid fun e => HNF.out (.inr (.inl e))
  have i0 : w3.drew.cell? ⟨w.heap.size, 0, none⟩ = some (.int .i64 2) := g0
  clear g0 g2 hp4
  generalize w3.drew = w4 at HP4 HS4 i0 ⊢
  go_wp2_with (at_delete; go_must (refine wpList_map_del rfl _ _ 63 3 rfl 21 lawI Try.underlying63 HP4.out.map rfl (.int .i64 d) (.int .i64 d) rfl (keyOf_int_mk Try.underlying3 (WalkArith.wf_i64 hd64)) ?_); intro w5 hM5 hC5; have j0 := hC5.cell i0 HNF3.out; have HM5 := Lib.hid hM5; have HC5 := Lib.hid hC5; clear hM5 hC5)
  go_returns
  exact ⟨rfl, v3, r3, HP4.out.mapped (HM5.out.congr (kl_upd K d none)) HC5.out, HS4.out.trans ⟨HC5.out.mono fun i _ e => .inr (.inl e), .refl _ _⟩⟩

set_option maxHeartbeats 4000000 in
set_option maxRecDepth 100000 in
theorem ins_3 (h : PickAt w pb mb v r f l n (kl K)) (hb : l.length + 2 ≤ 1000000000) (op d a : Int) (s : Value) (hd : 0 ≤ d) (hd64 : I64 d) (ho : 19 ≤ op ∧ op ≤ 21) :
    Calls Try.prog 22 #[.pointer (some ⟨pb, 0, none⟩), .agg #[.int .i64 3, .int .i64 op, .int .i64 d, .int .i64 a, .int .i64 (-1), .int .i32 0, .string ⟨#[]⟩, s]] w
      fun e w' => e = .returned (.tuple #[]) ∧ Picked w pb mb r f (l ++ [unS op d a]) n (kl (updK K d none)) w' := by
  obtain ⟨w0, hw0, hb0, hlt0, hc⟩ := box_new w #[.int .i64 3, .int .i64 op, .int .i64 d, .int .i64 a, .int .i64 (-1), .int .i32 0, .string ⟨#[]⟩, s] 54
  have HW := Lib.hid hw0
  have HB := Lib.hid hb0
  have H0 := Lib.hid (h.kept hb0)
  have HNF : Hid (¬ FootP pb mb r w.heap.size) := Lib.hid fun hf => Nat.lt_irrefl _ (h.lt _ hf)
  have c0 := hc 0
  have c2 := hc 2
  simp only [List.getElem?_toArray, List.getElem?_cons_succ, List.getElem?_cons_zero] at c0 c2
  clear hw0 hb0 h hc
  go_enter Try.func22, Try.ntmps22
  go_wp2_with fail
  rw [← HW.out]
  refine (unary_any H0.out (by omega) 3 op d a (-1) 0 ⟨#[]⟩ s ho).mono ?_
  rintro e w3 ⟨rfl, v3, r3, hp3, hs3⟩
  have g0 := hs3.chg.cell c0 HNF.out
  have g2 := hs3.chg.cell c2 HNF.out
  have hp4 : w3.cell? ⟨pb, 4, none⟩ = some (.map (some mb)) := cell_of_row _ _ _ _ _ _ hp3.heap
  have HP3 := Lib.hid hp3
  have HS3 := Lib.hid ((PStep.ofBelow HB.out).trans hs3)
  clear hp3 hs3 c0 c2
  go_wp2_with fail
  go_still_tail 6, (by kernel_rfl)
  change wpList _ _ _ _ _ w3.drew
  have HP4 := Lib.hid (HP3.out.kept (below_drew1 w3))
  have HS4 := Lib.hid (HS3.out.trans (PStep.ofBelow (below_drew1 w3)))
  have HNF3 : Hid (w.heap.size ≠ mb) := Lib.hid fun e => HNF.out (.inr (.inl e))
  have i0 : w3.drew.cell? ⟨w.heap.size, 0, none⟩ = some (.int .i64 3) := g0
  clear g0 g2 hp4
  generalize w3.drew = w4 at HP4 HS4 i0 ⊢
  go_wp2_with (at_delete; go_must (refine wpList_map_del rfl _ _ 63 3 rfl 21 lawI Try.underlying63 HP4.out.map rfl (.int .i64 d) (.int .i64 d) rfl (keyOf_int_mk Try.underlying3 (WalkArith.wf_i64 hd64)) ?_); intro w5 hM5 hC5; have j0 := hC5.cell i0 HNF3.out; have HM5 := Lib.hid hM5; have HC5 := Lib.hid hC5; clear hM5 hC5)
  go_returns
  exact ⟨rfl, v3, r3, HP4.out.mapped (HM5.out.congr (kl_upd K d none)) HC5.out, HS4.out.trans ⟨HC5.out.mono fun i _ e => .inr (.inl e), .refl _ _⟩⟩

set_option maxHeartbeats 4000000 in
set_option maxRecDepth 100000 in
theorem ins_4 (h : PickAt w pb mb v r f l n (kl K)) (hb : l.length + 2 ≤ 1000000000) (op d a b : Int) (s : Value) (hd : 0 ≤ d) (hd64 : I64 d) (hK : KOk K) (ho : 1 ≤ op ∧ op ≤ 16) (ha64 : I64 a) (hb64 : I64 b) :
    Calls Try.prog 22 #[.pointer (some ⟨pb, 0, none⟩), .agg #[.int .i64 4, .int .i64 op, .int .i64 d, .int .i64 a, .int .i64 b, .int .i32 0, .string ⟨#[]⟩, s]] w
      fun e w' => e = .returned (.tuple #[]) ∧ Picked w pb mb r f (l ++ binS K op d a b) n (kl (updK K d none)) w' := by
  obtain ⟨w0, hw0, hb0, hlt0, hc⟩ := box_new w #[.int .i64 4, .int .i64 op, .int .i64 d, .int .i64 a, .int .i64 b, .int .i32 0, .string ⟨#[]⟩, s] 54
  have HW := Lib.hid hw0
  have HB := Lib.hid hb0
  have H0 := Lib.hid (h.kept hb0)
  have HNF : Hid (¬ FootP pb mb r w.heap.size) := Lib.hid fun hf => Nat.lt_irrefl _ (h.lt _ hf)
  have c0 := hc 0
  have c2 := hc 2
  simp only [List.getElem?_toArray, List.getElem?_cons_succ, List.getElem?_cons_zero] at c0 c2
  clear hw0 hb0 h hc
  go_enter Try.func22, Try.ntmps22
  go_wp2_with fail
  rw [← HW.out]
  refine (binary_any H0.out hK hb 4 op d a b 0 ⟨#[]⟩ s ho ha64 hb64).mono ?_
  rintro e w3 ⟨rfl, v3, r3, hp3, hs3⟩
  have g0 := hs3.chg.cell c0 HNF.out
  have g2 := hs3.chg.cell c2 HNF.out
  have hp4 : w3.cell? ⟨pb, 4, none⟩ = some (.map (some mb)) := cell_of_row _ _ _ _ _ _ hp3.heap
  have HP3 := Lib.hid hp3
  have HS3 := Lib.hid ((PStep.ofBelow HB.out).trans hs3)
  clear hp3 hs3 c0 c2
  go_wp2_with fail
  go_still_tail 6, (by kernel_rfl)
  change wpList _ _ _ _ _ w3.drew
  have HP4 := Lib.hid (HP3.out.kept (below_drew1 w3))
  have HS4 := Lib.hid (HS3.out.trans (PStep.ofBelow (below_drew1 w3)))
  have HNF3 : Hid (w.heap.size ≠ mb) := Lib.hid fun e => HNF.out (.inr (.inl e))
  have i0 : w3.drew.cell? ⟨w.heap.size, 0, none⟩ = some (.int .i64 4) := g0
  clear g0 g2 hp4
  generalize w3.drew = w4 at HP4 HS4 i0 ⊢
  go_wp2_with (at_delete; go_must (refine wpList_map_del rfl _ _ 63 3 rfl 21 lawI Try.underlying63 HP4.out.map rfl (.int .i64 d) (.int .i64 d) rfl (keyOf_int_mk Try.underlying3 (WalkArith.wf_i64 hd64)) ?_); intro w5 hM5 hC5; have j0 := hC5.cell i0 HNF3.out; have HM5 := Lib.hid hM5; have HC5 := Lib.hid hC5; clear hM5 hC5)
  go_returns
  exact ⟨rfl, v3, r3, HP4.out.mapped (HM5.out.congr (kl_upd K d none)) HC5.out, HS4.out.trans ⟨HC5.out.mono fun i _ e => .inr (.inl e), .refl _ _⟩⟩

set_option maxHeartbeats 4000000 in
set_option maxRecDepth 100000 in
theorem ins_5 (h : PickAt w pb mb v r f l n (kl K)) (hb : l.length + 2 ≤ 1000000000) (d a : Int) (name : ByteArray) (s : Value) (hd : 0 ≤ d) (hd64 : I64 d) :
    Calls Try.prog 22 #[.pointer (some ⟨pb, 0, none⟩), .agg #[.int .i64 5, .int .i64 0, .int .i64 d, .int .i64 a, .int .i64 (-1), .int .i32 0, .string name, s]] w
      fun e w' => e = .returned (.tuple #[]) ∧ Picked w pb mb r f (l ++ [memV 42 44 d a (-1) name]) n (kl (updK K d none)) w' := by
  obtain ⟨w0, hw0, hb0, hlt0, hc⟩ := box_new w #[.int .i64 5, .int .i64 0, .int .i64 d, .int .i64 a, .int .i64 (-1), .int .i32 0, .string name, s] 54
  have HW := Lib.hid hw0
  have HB := Lib.hid hb0
  have H0 := Lib.hid (h.kept hb0)
  have HNF : Hid (¬ FootP pb mb r w.heap.size) := Lib.hid fun hf => Nat.lt_irrefl _ (h.lt _ hf)
  have c0 := hc 0
  have c2 := hc 2
  simp only [List.getElem?_toArray, List.getElem?_cons_succ, List.getElem?_cons_zero] at c0 c2
  clear hw0 hb0 h hc
  go_enter Try.func22, Try.ntmps22
  go_wp2_with fail
  rw [← HW.out]
  refine (memory_any H0.out (by omega) 42 44 5 0 d a (-1) 0 name s).mono ?_
  rintro e w3 ⟨rfl, v3, r3, hp3, hs3⟩
  have g0 := hs3.chg.cell c0 HNF.out
  have g2 := hs3.chg.cell c2 HNF.out
  have hp4 : w3.cell? ⟨pb, 4, none⟩ = some (.map (some mb)) := cell_of_row _ _ _ _ _ _ hp3.heap
  have HP3 := Lib.hid hp3
  have HS3 := Lib.hid ((PStep.ofBelow HB.out).trans hs3)
  clear hp3 hs3 c0 c2
  go_wp2_with fail
  go_still_tail 6, (by kernel_rfl)
  change wpList _ _ _ _ _ w3.drew
  have HP4 := Lib.hid (HP3.out.kept (below_drew1 w3))
  have HS4 := Lib.hid (HS3.out.trans (PStep.ofBelow (below_drew1 w3)))
  have HNF3 : Hid (w.heap.size ≠ mb) := Lib.hid fun e => HNF.out (.inr (.inl e))
  have i0 : w3.drew.cell? ⟨w.heap.size, 0, none⟩ = some (.int .i64 5) := g0
  clear g0 g2 hp4
  generalize w3.drew = w4 at HP4 HS4 i0 ⊢
  go_wp2_with (at_delete; go_must (refine wpList_map_del rfl _ _ 63 3 rfl 21 lawI Try.underlying63 HP4.out.map rfl (.int .i64 d) (.int .i64 d) rfl (keyOf_int_mk Try.underlying3 (WalkArith.wf_i64 hd64)) ?_); intro w5 hM5 hC5; have j0 := hC5.cell i0 HNF3.out; have HM5 := Lib.hid hM5; have HC5 := Lib.hid hC5; clear hM5 hC5)
  go_returns
  exact ⟨rfl, v3, r3, HP4.out.mapped (HM5.out.congr (kl_upd K d none)) HC5.out, HS4.out.trans ⟨HC5.out.mono fun i _ e => .inr (.inl e), .refl _ _⟩⟩

set_option maxHeartbeats 4000000 in
set_option maxRecDepth 100000 in
theorem ins_6 (h : PickAt w pb mb v r f l n (kl K)) (hb : l.length + 2 ≤ 1000000000) (a b : Int) (name : ByteArray) (s : Value)  :
    Calls Try.prog 22 #[.pointer (some ⟨pb, 0, none⟩), .agg #[.int .i64 6, .int .i64 0, .int .i64 (-1), .int .i64 a, .int .i64 b, .int .i32 0, .string name, s]] w
      fun e w' => e = .returned (.tuple #[]) ∧ Picked w pb mb r f (l ++ [memV 43 45 (-1) a b name]) n (kl K) w' := by
  obtain ⟨w0, hw0, hb0, hlt0, hc⟩ := box_new w #[.int .i64 6, .int .i64 0, .int .i64 (-1), .int .i64 a, .int .i64 b, .int .i32 0, .string name, s] 54
  have HW := Lib.hid hw0
  have HB := Lib.hid hb0
  have H0 := Lib.hid (h.kept hb0)
  have HNF : Hid (¬ FootP pb mb r w.heap.size) := Lib.hid fun hf => Nat.lt_irrefl _ (h.lt _ hf)
  have c0 := hc 0
  have c2 := hc 2
  simp only [List.getElem?_toArray, List.getElem?_cons_succ, List.getElem?_cons_zero] at c0 c2
  clear hw0 hb0 h hc
  go_enter Try.func22, Try.ntmps22
  go_wp2_with fail
  rw [← HW.out]
  refine (memory_any H0.out (by omega) 43 45 6 0 (-1) a b 0 name s).mono ?_
  rintro e w3 ⟨rfl, v3, r3, hp3, hs3⟩
  have g0 := hs3.chg.cell c0 HNF.out
  have g2 := hs3.chg.cell c2 HNF.out
  have hp4 : w3.cell? ⟨pb, 4, none⟩ = some (.map (some mb)) := cell_of_row _ _ _ _ _ _ hp3.heap
  have HP3 := Lib.hid hp3
  have HS3 := Lib.hid ((PStep.ofBelow HB.out).trans hs3)
  clear hp3 hs3 c0 c2
  go_wp2_with fail
  go_returns
  exact ⟨rfl, v3, r3, HP3.out, HS3.out⟩

set_option maxHeartbeats 4000000 in
set_option maxRecDepth 100000 in
theorem ins_8 (h : PickAt w pb mb v r f l n (kl K)) (hb : l.length + 2 ≤ 1000000000) (d : Int) (s : Value) (hd : 0 ≤ d) (hd64 : I64 d) :
    Calls Try.prog 22 #[.pointer (some ⟨pb, 0, none⟩), .agg #[.int .i64 8, .int .i64 0, .int .i64 d, .int .i64 (-1), .int .i64 (-1), .int .i32 0, .string ⟨#[]⟩, s]] w
      fun e w' => e = .returned (.tuple #[]) ∧ Picked w pb mb r f (l ++ [⟨47, d, -1, -1, 0, ⟨#[]⟩, []⟩]) n (kl (updK K d none)) w' := by
  obtain ⟨w0, hw0, hb0, hlt0, hc⟩ := box_new w #[.int .i64 8, .int .i64 0, .int .i64 d, .int .i64 (-1), .int .i64 (-1), .int .i32 0, .string ⟨#[]⟩, s] 54
  have HW := Lib.hid hw0
  have HB := Lib.hid hb0
  have H0 := Lib.hid (h.kept hb0)
  have HNF : Hid (¬ FootP pb mb r w.heap.size) := Lib.hid fun hf => Nat.lt_irrefl _ (h.lt _ hf)
  have c0 := hc 0
  have c2 := hc 2
  simp only [List.getElem?_toArray, List.getElem?_cons_succ, List.getElem?_cons_zero] at c0 c2
  clear hw0 hb0 h hc
  go_enter Try.func22, Try.ntmps22
  go_wp2_with fail
  rw [← HW.out]
  refine (three_any 47 d (-1) (-1) _).mono ?_
  rintro e w2 ⟨rfl, hB2⟩
  have e0 := (hB2.cell (p := ⟨w.heap.size, 0, none⟩) hlt0).trans c0
  have e2 := (hB2.cell (p := ⟨w.heap.size, 2, none⟩) hlt0).trans c2
  have H2 := Lib.hid (H0.out.kept hB2)
  have HB2 := Lib.hid (HB.out.trans (hB2.mono HB.out.size))
  have hlt2 := Nat.lt_of_lt_of_le hlt0 hB2.size
  clear hB2 c0 c2
  go_wp2_with fail
  refine (put_one H2.out (Below.refl _ _) 47 d (-1) (-1) 0 ⟨#[]⟩ (by omega)).mono ?_
  rintro e w3 ⟨rfl, v3, r3, hp3, hs3⟩
  have g0 := hs3.chg.cell e0 HNF.out
  have g2 := hs3.chg.cell e2 HNF.out
  have hp4 : w3.cell? ⟨pb, 4, none⟩ = some (.map (some mb)) := cell_of_row _ _ _ _ _ _ hp3.heap
  have HP3 := Lib.hid hp3
  have HS3 := Lib.hid ((PStep.ofBelow HB2.out).trans hs3)
  clear hp3 hs3 e0 e2
  go_wp2_with fail
  go_still_tail 6, (by kernel_rfl)
  change wpList _ _ _ _ _ w3.drew
  have HP4 := Lib.hid (HP3.out.kept (below_drew1 w3))
  have HS4 := Lib.hid (HS3.out.trans (PStep.ofBelow (below_drew1 w3)))
  have HNF3 : Hid (w.heap.size ≠ mb) := Lib.hid fun e => HNF.out (.inr (.inl e))
  have i0 : w3.drew.cell? ⟨w.heap.size, 0, none⟩ = some (.int .i64 8) := g0
  clear g0 g2 hp4
  generalize w3.drew = w4 at HP4 HS4 i0 ⊢
  go_wp2_with (at_delete; go_must (refine wpList_map_del rfl _ _ 63 3 rfl 21 lawI Try.underlying63 HP4.out.map rfl (.int .i64 d) (.int .i64 d) rfl (keyOf_int_mk Try.underlying3 (WalkArith.wf_i64 hd64)) ?_); intro w5 hM5 hC5; have j0 := hC5.cell i0 HNF3.out; have HM5 := Lib.hid hM5; have HC5 := Lib.hid hC5; clear hM5 hC5)
  go_returns
  exact ⟨rfl, v3, r3, HP4.out.mapped (HM5.out.congr (kl_upd K d none)) HC5.out, HS4.out.trans ⟨HC5.out.mono fun i _ e => .inr (.inl e), .refl _ _⟩⟩

set_option maxHeartbeats 4000000 in
set_option maxRecDepth 100000 in
theorem ins_9 (h : PickAt w pb mb v r f l n (kl K)) (hb : l.length + 2 ≤ 1000000000) (a : Int) (s : Value)  :
    Calls Try.prog 22 #[.pointer (some ⟨pb, 0, none⟩), .agg #[.int .i64 9, .int .i64 0, .int .i64 (-1), .int .i64 a, .int .i64 (-1), .int .i32 0, .string ⟨#[]⟩, s]] w
      fun e w' => e = .returned (.tuple #[]) ∧ Picked w pb mb r f (l ++ [⟨48, -1, a, -1, 0, ⟨#[]⟩, []⟩]) n (kl K) w' := by
  obtain ⟨w0, hw0, hb0, hlt0, hc⟩ := box_new w #[.int .i64 9, .int .i64 0, .int .i64 (-1), .int .i64 a, .int .i64 (-1), .int .i32 0, .string ⟨#[]⟩, s] 54
  have HW := Lib.hid hw0
  have HB := Lib.hid hb0
  have H0 := Lib.hid (h.kept hb0)
  have HNF : Hid (¬ FootP pb mb r w.heap.size) := Lib.hid fun hf => Nat.lt_irrefl _ (h.lt _ hf)
  have c0 := hc 0
  have c2 := hc 2
  simp only [List.getElem?_toArray, List.getElem?_cons_succ, List.getElem?_cons_zero] at c0 c2
  clear hw0 hb0 h hc
  go_enter Try.func22, Try.ntmps22
  go_wp2_with fail
  rw [← HW.out]
  refine (three_any 48 (-1) a (-1) _).mono ?_
  rintro e w2 ⟨rfl, hB2⟩
  have e0 := (hB2.cell (p := ⟨w.heap.size, 0, none⟩) hlt0).trans c0
  have e2 := (hB2.cell (p := ⟨w.heap.size, 2, none⟩) hlt0).trans c2
  have H2 := Lib.hid (H0.out.kept hB2)
  have HB2 := Lib.hid (HB.out.trans (hB2.mono HB.out.size))
  have hlt2 := Nat.lt_of_lt_of_le hlt0 hB2.size
  clear hB2 c0 c2
  go_wp2_with fail
  refine (put_one H2.out (Below.refl _ _) 48 (-1) a (-1) 0 ⟨#[]⟩ (by omega)).mono ?_
  rintro e w3 ⟨rfl, v3, r3, hp3, hs3⟩
  have g0 := hs3.chg.cell e0 HNF.out
  have g2 := hs3.chg.cell e2 HNF.out
  have hp4 : w3.cell? ⟨pb, 4, none⟩ = some (.map (some mb)) := cell_of_row _ _ _ _ _ _ hp3.heap
  have HP3 := Lib.hid hp3
  have HS3 := Lib.hid ((PStep.ofBelow HB2.out).trans hs3)
  clear hp3 hs3 e0 e2
  go_wp2_with fail
  go_returns
  exact ⟨rfl, v3, r3, HP3.out, HS3.out⟩

set_option maxHeartbeats 4000000 in
set_option maxRecDepth 100000 in
theorem ins_1 (h : PickAt w pb mb v r f l n (kl K)) (hb : l.length + 2 ≤ 1000000000) (hn : n < 1000000000) (d num : Int) (s : Value) (hd : 0 ≤ d) (hd64 : I64 d) (h32 : I32 num) :
    Calls Try.prog 22 #[.pointer (some ⟨pb, 0, none⟩), .agg #[.int .i64 1, .int .i64 0, .int .i64 d, .int .i64 (-1), .int .i64 (-1), .int .i32 num, .string ⟨#[]⟩, s]] w
      fun e w' => e = .returned (.tuple #[]) ∧ Picked w pb mb r f (l ++ [⟨40, d, -1, -1, num, ⟨#[]⟩, []⟩]) (n + 1) (kl (updK K d (some num))) w' := by
  obtain ⟨w0, hw0, hb0, hlt0, hc⟩ := box_new w #[.int .i64 1, .int .i64 0, .int .i64 d, .int .i64 (-1), .int .i64 (-1), .int .i32 num, .string ⟨#[]⟩, s] 54
  have HSZ : Hid (w0.heap.size = w.heap.size + 1) := Lib.hid (by rw [hw0]; simp)
  have HW := Lib.hid hw0
  have HB := Lib.hid hb0
  have H0 := Lib.hid (h.kept hb0)
  have HNF : Hid (¬ FootP pb mb r w.heap.size) := Lib.hid fun hf => Nat.lt_irrefl _ (h.lt _ hf)
  have HPM : Hid (pb ≠ mb) := Lib.hid (MapAt.ne_cells h.map h.heap)
  have H32 := Lib.hid h32
  have c0 := hc 0
  have c2 := hc 2
  have c5 := hc 5
  simp only [List.getElem?_toArray, List.getElem?_cons_succ, List.getElem?_cons_zero] at c0 c2 c5
  clear hw0 hb0 h hc h32
  go_enter Try.func22, Try.ntmps22
  go_wp2_with fail
  rw [← HW.out, ← HSZ.out]
  refine (put_one H0.out (Below.refl _ _) 40 d (-1) (-1) num ⟨#[]⟩ (by omega)).mono ?_
  rintro e w3 ⟨rfl, v3, r3, hp3, hs3⟩
  have g0 := hs3.chg.cell c0 HNF.out
  have g2 := hs3.chg.cell c2 HNF.out
  have g5 := hs3.chg.cell c5 HNF.out
  have hp4 : w3.cell? ⟨pb, 4, none⟩ = some (.map (some mb)) := cell_of_row _ _ _ _ _ _ hp3.heap
  have HP3 := Lib.hid hp3
  have HS3 := Lib.hid ((PStep.ofBelow HB.out).trans hs3)
  clear hp3 hs3 c0 c2 c5
  go_wp2_with fail
  go_still_tail 6, (by kernel_rfl)
  change wpList _ _ _ _ _ w3.drew
  have HP4 := Lib.hid (HP3.out.kept (below_drew1 w3))
  have HS4 := Lib.hid (HS3.out.trans (PStep.ofBelow (below_drew1 w3)))
  have HNF3 : Hid (w.heap.size ≠ mb) := Lib.hid fun e => HNF.out (.inr (.inl e))
  have i0 : w3.drew.cell? ⟨w.heap.size, 0, none⟩ = some (.int .i64 1) := g0
  have i2 : w3.drew.cell? ⟨w.heap.size, 2, none⟩ = some (.int .i64 d) := g2
  have i5 : w3.drew.cell? ⟨w.heap.size, 5, none⟩ = some (.int .i32 num) := g5
  have i4 : w3.drew.cell? ⟨pb, 4, none⟩ = some (.map (some mb)) := hp4
  clear g0 g2 g5 hp4
  generalize w3.drew = w4 at HP4 HS4 i0 i2 i5 i4 ⊢
  go_wp2_with (at_delete; go_must (refine wpList_map_del rfl _ _ 63 3 rfl 21 lawI Try.underlying63 HP4.out.map rfl (.int .i64 d) (.int .i64 d) rfl (keyOf_int_mk Try.underlying3 (WalkArith.wf_i64 hd64)) ?_); intro w5 hM5 hC5; have j0 := hC5.cell i0 HNF3.out; have j2 := hC5.cell i2 HNF3.out; have j5 := hC5.cell i5 HNF3.out; have j4 := hC5.cell i4 HPM.out; have HM5 := Lib.hid hM5; have HC5 := Lib.hid hC5; clear hM5 hC5)
  have HP5 := Lib.hid (HP4.out.mapped (HM5.out.congr (kl_upd K d none)) HC5.out)
  have HS5 := Lib.hid (HS4.out.trans ⟨HC5.out.mono (T := FootP pb mb r3) fun i _ e => .inr (.inl e), .refl _ _⟩)
  go_still_tail 8, (by kernel_rfl)
  change wpList _ _ _ _ _ w5.drew
  have HP6 := Lib.hid (HP5.out.kept (below_drew1 w5))
  have HS6 := Lib.hid (HS5.out.trans (PStep.ofBelow (below_drew1 w5)))
  clear i0 i2 i5 i4 j0 j2 j5 j4
  generalize w5.drew = w6 at HP6 HS6 ⊢
  go_wp2_with (at_mapUpdate; go_must (refine wpList_map_put rfl _ _ _ 63 rfl 3 21 lawI Try.underlying63 HP6.out.map (by unfold maxLen; omega) rfl _ _ (.int .i64 d) (.int .i32 num) rfl rfl (keyOf_int_mk Try.underlying3 (WalkArith.wf_i64 hd64)) trivial [] (plainElem_int Try.underlying21 (wf_i32 H32.out)) ?_); intro w7 hM7 hC7; have HM7 := Lib.hid hM7; have HC7 := Lib.hid hC7; clear hM7 hC7)
  go_returns
  refine ⟨rfl, v3, r3, HP6.out.mapped ((HM7.out.congr (kl_upd (updK K d none) d (some num))).congr fun k => ?_) HC7.out, HS6.out.trans ⟨HC7.out.mono fun i _ e => .inr (.inl e), .refl _ _⟩⟩
  congr 1
  funext x
  unfold updK
  split <;> rfl
end Go.Proofs.Ytnfneinonkpmeaa
namespace Go.Proofs.Ytnfneinonkpmeaa
open Go.RowKit Go.Maps
variable {w w1 : World} {pb mb : Nat} {v : Value} {r : Option Nat} {f : Fn} {l : List Vins} {n : Nat} {K : Int → Option Int} {T : Nat → Prop}
set_option maxHeartbeats 4000000 in
set_option maxRecDepth 100000 in
theorem ins_7 (h : PickAt w pb mb v r f l n (kl K)) (hb : l.length + 2 ≤ 1000000000) (d : Int) (name : ByteArray) (args : List Int) (A : Option Addr) (c : Nat) (hl : args.length ≤ 8) (hrd : RdT w T A (ints args)) (hd : 0 ≤ d) (hd64 : I64 d) :
    Calls Try.prog 22 #[.pointer (some ⟨pb, 0, none⟩), .agg #[.int .i64 7, .int .i64 0, .int .i64 d, .int .i64 (-1), .int .i64 (-1), .int .i32 0, .string name, .slice A args.length c]] w
      fun e w' => e = .returned (.tuple #[]) ∧ Picked w pb mb r f (l ++ [⟨46, d, -1, -1, 0, name, args⟩]) n (kl (updK K d none)) w' := by
  obtain ⟨w0, hw0, hb0, hlt0, hc⟩ := box_new w #[.int .i64 7, .int .i64 0, .int .i64 d, .int .i64 (-1), .int .i64 (-1), .int .i32 0, .string name, .slice A args.length c] 54
  have HW := Lib.hid hw0
  have HB0 := Lib.hid hb0
  have HB := Lib.hid (hb0.trans ((below_drew1 w0).mono hb0.size))
  have H0 := Lib.hid (h.kept HB.out)
  have HRD := Lib.hid (ints_below hrd HB.out)
  have HNF : Hid (¬ FootP pb mb r w.heap.size) := Lib.hid fun hf => Nat.lt_irrefl _ (h.lt _ hf)
  have c0 := hc 0
  have c2 := hc 2
  have c6 := hc 6
  have c7 := hc 7
  simp only [List.getElem?_toArray, List.getElem?_cons_succ, List.getElem?_cons_zero] at c0 c2 c6 c7
  clear hw0 hb0 h hc hrd
  go_enter Try.func22, Try.ntmps22
  go_wp2_with fail
  rw [← HW.out]
  go_region_held3 (fun W => W.cell? ⟨w.heap.size, 0, none⟩ = some (.int .i64 7) ∧ W.cell? ⟨w.heap.size, 2, none⟩ = some (.int .i64 d) ∧ W.cell? ⟨w.heap.size, 6, none⟩ = some (.string name) ∧ W.cell? ⟨w.heap.size, 7, none⟩ = some (.slice A args.length c)) (first | exact ⟨c0, c2, c6, c7⟩ | go_keep)
    (first
    | (go_at_call 38; refine (Clone_any A c args _ (by omega) HRD.out).mono ?_; rintro e wv ⟨A', c', rfl, hBv, hRv⟩; have HRV := Lib.hid (hRv.mono' (T' := CodeT pb mb r) fun k hk _ => ⟨fun hf => Nat.lt_irrefl _ (Nat.lt_of_lt_of_le (H0.out.lt k hf) hk), Nat.lt_of_lt_of_le (H0.out.lt pb (.inl rfl)) hk⟩); have c0 := (hBv.cell hlt0).trans c0; have c2 := (hBv.cell hlt0).trans c2; have c6 := (hBv.cell hlt0).trans c6; have c7 := (hBv.cell hlt0).trans c7; have H1 := Lib.hid (H0.out.kept hBv); have HB1 := Lib.hid (HB.out.trans (hBv.mono HB.out.size)); clear hBv hRv)
    | (go_at_call 20; refine (put_args H1.out (Below.refl _ _) 46 d (-1) (-1) 0 name args A' c' HRV.out (by omega)).mono ?_; rintro e w3 ⟨rfl, v3, r3, hp3, hs3⟩; have c0 := hs3.chg.cell c0 HNF.out; have c2 := hs3.chg.cell c2 HNF.out; have c6 := hs3.chg.cell c6 HNF.out; have c7 := hs3.chg.cell c7 HNF.out; have HP3 := Lib.hid hp3; have HS3 := Lib.hid ((PStep.ofBelow HB1.out).trans hs3); clear hp3 hs3))
  have g0 := c0
  have hp4 : w3.cell? ⟨pb, 4, none⟩ = some (.map (some mb)) := cell_of_row _ _ _ _ _ _ HP3.out.heap
  go_wp2_with fail
  go_still_tail 6, (by kernel_rfl)
  change wpList _ _ _ _ _ w3.drew
  have HP4 := Lib.hid (HP3.out.kept (below_drew1 w3))
  have HS4 := Lib.hid (HS3.out.trans (PStep.ofBelow (below_drew1 w3)))
  have HNF3 : Hid (w.heap.size ≠ mb) := Lib.hid fun e => HNF.out (.inr (.inl e))
  have i0 : w3.drew.cell? ⟨w.heap.size, 0, none⟩ = some (.int .i64 7) := g0
  clear g0 c0 c2 c6 c7 hp4
  generalize w3.drew = w4 at HP4 HS4 i0 ⊢
  go_wp2_with (at_delete; go_must (refine wpList_map_del rfl _ _ 63 3 rfl 21 lawI Try.underlying63 HP4.out.map rfl (.int .i64 d) (.int .i64 d) rfl (keyOf_int_mk Try.underlying3 (WalkArith.wf_i64 hd64)) ?_); intro w5 hM5 hC5; have j0 := hC5.cell i0 HNF3.out; have HM5 := Lib.hid hM5; have HC5 := Lib.hid hC5; clear hM5 hC5)
  go_returns
  exact ⟨rfl, v3, r3, HP4.out.mapped (HM5.out.congr (kl_upd K d none)) HC5.out, HS4.out.trans ⟨HC5.out.mono fun i _ e => .inr (.inl e), .refl _ _⟩⟩
set_option maxHeartbeats 4000000 in
set_option maxRecDepth 100000 in
theorem ins_7n (h : PickAt w pb mb v r f l n (kl K)) (hb : l.length + 2 ≤ 1000000000) (name : ByteArray) (args : List Int) (A : Option Addr) (c : Nat) (hl : args.length ≤ 8) (hrd : RdT w T A (ints args)) :
    Calls Try.prog 22 #[.pointer (some ⟨pb, 0, none⟩), .agg #[.int .i64 7, .int .i64 0, .int .i64 (-1), .int .i64 (-1), .int .i64 (-1), .int .i32 0, .string name, .slice A args.length c]] w
      fun e w' => e = .returned (.tuple #[]) ∧ Picked w pb mb r f (l ++ [⟨46, -1, -1, -1, 0, name, args⟩]) n (kl K) w' := by
  obtain ⟨w0, hw0, hb0, hlt0, hc⟩ := box_new w #[.int .i64 7, .int .i64 0, .int .i64 (-1), .int .i64 (-1), .int .i64 (-1), .int .i32 0, .string name, .slice A args.length c] 54
  have HW := Lib.hid hw0
  have HB0 := Lib.hid hb0
  have HB := Lib.hid (hb0.trans ((below_drew1 w0).mono hb0.size))
  have H0 := Lib.hid (h.kept HB.out)
  have HRD := Lib.hid (ints_below hrd HB.out)
  have HNF : Hid (¬ FootP pb mb r w.heap.size) := Lib.hid fun hf => Nat.lt_irrefl _ (h.lt _ hf)
  have c0 := hc 0
  have c2 := hc 2
  have c6 := hc 6
  have c7 := hc 7
  simp only [List.getElem?_toArray, List.getElem?_cons_succ, List.getElem?_cons_zero] at c0 c2 c6 c7
  clear hw0 hb0 h hc hrd
  go_enter Try.func22, Try.ntmps22
  go_wp2_with fail
  rw [← HW.out]
  go_region_held3 (fun W => W.cell? ⟨w.heap.size, 0, none⟩ = some (.int .i64 7) ∧ W.cell? ⟨w.heap.size, 2, none⟩ = some (.int .i64 (-1)) ∧ W.cell? ⟨w.heap.size, 6, none⟩ = some (.string name) ∧ W.cell? ⟨w.heap.size, 7, none⟩ = some (.slice A args.length c)) (first | exact ⟨c0, c2, c6, c7⟩ | go_keep)
    (first
    | (go_at_call 38; refine (Clone_any A c args _ (by omega) HRD.out).mono ?_; rintro e wv ⟨A', c', rfl, hBv, hRv⟩; have HRV := Lib.hid (hRv.mono' (T' := CodeT pb mb r) fun k hk _ => ⟨fun hf => Nat.lt_irrefl _ (Nat.lt_of_lt_of_le (H0.out.lt k hf) hk), Nat.lt_of_lt_of_le (H0.out.lt pb (.inl rfl)) hk⟩); have c0 := (hBv.cell hlt0).trans c0; have c2 := (hBv.cell hlt0).trans c2; have c6 := (hBv.cell hlt0).trans c6; have c7 := (hBv.cell hlt0).trans c7; have H1 := Lib.hid (H0.out.kept hBv); have HB1 := Lib.hid (HB.out.trans (hBv.mono HB.out.size)); clear hBv hRv)
    | (go_at_call 20; refine (put_args H1.out (Below.refl _ _) 46 (-1) (-1) (-1) 0 name args A' c' HRV.out (by omega)).mono ?_; rintro e w3 ⟨rfl, v3, r3, hp3, hs3⟩; have c0 := hs3.chg.cell c0 HNF.out; have c2 := hs3.chg.cell c2 HNF.out; have c6 := hs3.chg.cell c6 HNF.out; have c7 := hs3.chg.cell c7 HNF.out; have HP3 := Lib.hid hp3; have HS3 := Lib.hid ((PStep.ofBelow HB1.out).trans hs3); clear hp3 hs3))
  clear c6 c7
  go_wp2_with fail
  go_returns
  exact ⟨rfl, v3, r3, HP3.out, HS3.out⟩
end Go.Proofs.Ytnfneinonkpmeaa
namespace Go.Proofs.Ytnfneinonkpmeaa
open Go.RowKit Go.Maps
variable {w w1 : World} {pb mb : Nat} {v : Value} {r : Option Nat} {f : Fn} {l : List Vins} {n : Nat} {K : Int → Option Int} {T : Nat → Prop}
theorem reg_nn {r n : Int} (h : regB r n false = true) : 0 ≤ r := by unfold regB at h; simp at h; exact h.1
theorem updK_neg (hK : KOk K) : updK K (-1) none = K := by
  funext x; unfold updK
  split
  · rename_i e; subst e
    cases h : K (-1) with
    | none => rfl
    | some n => have := (hK _ _ h).2; omega
  · rfl
theorem ins_any (h : PickAt w pb mb v r f l n (kl K)) (hK : KOk K) (hb : l.length + 2 ≤ 1000000000) (hn : n < 1000000000) (x : Ins) (N : Int) (hx : InsV N x) (ho : InsOk x) (A : Option Addr) (c : Nat) (hrd : RdT w T A (ints x.args)) :
    Calls Try.prog 22 #[.pointer (some ⟨pb, 0, none⟩), .agg #[.int .i64 x.kind, .int .i64 x.op, .int .i64 x.d, .int .i64 x.a, .int .i64 x.b, .int .i32 x.num, .string x.name, .slice A x.args.length c]] w
      fun e w' => e = .returned (.tuple #[]) ∧ ∃ n', n' ≤ n + 1 ∧ Picked w pb mb r f (l ++ insS K x) n' (kl (nextK K x)) w' := by
  have up : ∀ {ls : List Vins} {n' : Nat} {kn : Lit → Option Lit} {e : Ending} {w' : World}, n' ≤ n + 1 → (e = .returned (.tuple #[]) ∧ Picked w pb mb r f ls n' kn w') → e = .returned (.tuple #[]) ∧ ∃ n', n' ≤ n + 1 ∧ Picked w pb mb r f ls n' kn w' := fun hn h => ⟨h.1, _, hn, h.2⟩
  cases hx with
  | num d z hd => exact (ins_1 h hb hn d z _ (reg_nn hd) ho.d ho.num).mono fun e w' hh => up (Nat.le_refl _) hh
  | copy d a hd ha => exact (ins_2 h hb d a _ (reg_nn hd) ho.d).mono fun e w' hh => up (Nat.le_succ _) hh
  | un op d a hop hd ha => exact (ins_3 h hb op d a _ (reg_nn hd) ho.d hop).mono fun e w' hh => up (Nat.le_succ _) hh
  | bin op d a b hop hd ha hbb => exact (ins_4 h hb op d a b _ (reg_nn hd) ho.d hK hop ho.a ho.b).mono fun e w' hh => up (Nat.le_succ _) hh
  | load d a name hd ha hnm => exact (ins_5 h hb d a name _ (reg_nn hd) ho.d).mono fun e w' hh => up (Nat.le_succ _) hh
  | store a b name ha hbb hnm =>
    have e1 : nextK K ⟨6, 0, -1, a, b, 0, name, []⟩ = K := updK_neg hK
    rw [e1]
    exact (ins_6 h hb a b name _).mono fun e w' hh => up (Nat.le_succ _) hh
  | call d name args hd hnm hl ha =>
    by_cases h0 : 0 ≤ d
    · exact (ins_7 h hb d name args A c hl hrd h0 ho.d).mono fun e w' hh => up (Nat.le_succ _) hh
    · have hm : d = -1 := by unfold regB at hd; simp at hd; omega
      subst hm
      have e1 : nextK K ⟨7, 0, -1, -1, -1, 0, name, args⟩ = K := updK_neg hK
      rw [e1]
      exact (ins_7n h hb name args A c hl hrd).mono fun e w' hh => up (Nat.le_succ _) hh
  | read d hd => exact (ins_8 h hb d _ (reg_nn hd) ho.d).mono fun e w' hh => up (Nat.le_succ _) hh
  | print a ha =>
    have e1 : nextK K ⟨9, 0, -1, a, -1, 0, ⟨#[]⟩, []⟩ = K := updK_neg hK
    rw [e1]
    exact (ins_9 h hb a _).mono fun e w' hh => up (Nat.le_succ _) hh
end Go.Proofs.Ytnfneinonkpmeaa
namespace Go.Proofs.Ytnfneinonkpmeaa
open Go.RowKit Go.Maps
variable {T : Nat → Prop}

def K0 : Int → Option Int := fun _ => none
def labelS (i : Int) : Vins := ⟨50, -1, -1, -1, i, ⟨#[]⟩, []⟩
def knownAfter (K : Int → Option Int) (xs : List Ins) : Int → Option Int := xs.foldl nextK K
def insL (K : Int → Option Int) : List Ins → List Vins
  | [] => []
  | x :: xs => insS K x ++ insL (nextK K x) xs
theorem insL_snoc (K : Int → Option Int) (xs : List Ins) (x : Ins) : insL K (xs ++ [x]) = insL K xs ++ insS (knownAfter K xs) x := by
  induction xs generalizing K with
  | nil => simp [insL, knownAfter]
  | cons y ys ih => simp only [List.cons_append, insL, ih, knownAfter, List.foldl_cons, List.append_assoc]
theorem knownAfter_snoc (K : Int → Option Int) (xs : List Ins) (x : Ins) : knownAfter K (xs ++ [x]) = nextK (knownAfter K xs) x := by simp [knownAfter]
def blkS (i : Nat) (b : Blk) : List Vins := labelS i :: (insL K0 b.ins ++ endS b ((i : Int) + 1))
def codeFrom (i : Nat) : List Blk → List Vins
  | [] => []
  | b :: bs => blkS i b ++ codeFrom (i + 1) bs
theorem codeFrom_snoc (i : Nat) (bs : List Blk) (b : Blk) : codeFrom i (bs ++ [b]) = codeFrom i bs ++ blkS (i + bs.length) b := by
  induction bs generalizing i with
  | nil => simp [codeFrom]
  | cons y ys ih => simp only [List.cons_append, codeFrom, ih, List.append_assoc, List.length_cons]; rw [show i + 1 + ys.length = i + (ys.length + 1) from by omega]
/-- The code of a function's blocks. -/
def codeS (bs : List Blk) : List Vins := codeFrom 0 bs
def codeTo (bs : List Blk) (k : Nat) : List Vins := codeS (bs.take k)
theorem codeTo_succ (bs : List Blk) (k : Nat) (h : k < bs.length) (b : Blk) (hb : b = bs[k]) : codeTo bs (k + 1) = codeTo bs k ++ blkS k b := by
  subst hb
  unfold codeTo codeS
  rw [List.take_succ_eq_append_getElem h, codeFrom_snoc, Nat.zero_add, List.length_take, Nat.min_eq_left (by omega)]
theorem codeTo_all (bs : List Blk) : codeTo bs bs.length = codeS bs := by unfold codeTo; rw [List.take_length]

theorem firstOf_len (o : Option Vins) (l : List Vins) (h : l.length ≤ 2) : (firstOf o l).length ≤ 2 := by
  cases o with
  | none => exact h
  | some y => simp [firstOf]
theorem binRest_len (op d a b : Int) : (binRest op d a b).length ≤ 2 := by unfold binRest; (repeat' split) <;> simp
theorem insS_len (K : Int → Option Int) (x : Ins) : (insS K x).length ≤ 2 := by
  unfold insS
  have h : (binS K x.op x.d x.a x.b).length ≤ 2 := firstOf_len _ _ (firstOf_len _ _ (binRest_len _ _ _ _))
  split
  · simp
  split
  · simp
  split
  · simp
  split
  · exact h
  repeat' split
  all_goals simp
theorem endS_len (b : Blk) (n : Int) : (endS b n).length ≤ 2 := by unfold endS; (repeat' split) <;> simp
theorem insL_len (K : Int → Option Int) (xs : List Ins) : (insL K xs).length ≤ 2 * xs.length := by
  induction xs generalizing K with
  | nil => simp [insL]
  | cons x xs ih =>
    have h1 := insS_len K x
    have h2 := ih (nextK K x)
    simp only [insL, List.length_append, List.length_cons]; omega
theorem blkS_len (i : Nat) (b : Blk) (h : b.ins.length ≤ 100) : (blkS i b).length ≤ 203 := by
  have h1 := insL_len K0 b.ins
  have h2 := endS_len b ((i : Int) + 1)
  simp only [blkS, List.length_cons, List.length_append]; omega
theorem codeFrom_len (i : Nat) (bs : List Blk) (h : ∀ b ∈ bs, b.ins.length ≤ 100) : (codeFrom i bs).length ≤ bs.length * 203 := by
  induction bs generalizing i with
  | nil => simp [codeFrom]
  | cons b bs ih =>
    have h1 := blkS_len i b (h b (by simp))
    have h2 := ih (i + 1) fun x hx => h x (by simp [hx])
    simp only [codeFrom, List.length_append, List.length_cons]; omega
theorem codeTo_len (bs : List Blk) (k : Nat) (h : ∀ b ∈ bs, b.ins.length ≤ 100) (h80 : bs.length ≤ 80) : (codeTo bs k).length ≤ 16240 := by
  have h1 := codeFrom_len 0 (bs.take k) fun b hb => h b (List.mem_of_mem_take hb)
  have h2 : (bs.take k).length ≤ 80 := by rw [List.length_take]; omega
  have h3 : (bs.take k).length * 203 ≤ 80 * 203 := Nat.mul_le_mul_right _ h2
  unfold codeTo codeS; omega
theorem kok_next {K : Int → Option Int} (h : KOk K) (x : Ins) (N : Int) (hx : InsV N x) (ho : InsOk x) : KOk (nextK K x) := by
  have upd : ∀ d o, (∀ n, o = some n → I32 n ∧ 0 ≤ d) → KOk (updK K d o) := by
    intro d o hd r n hn
    unfold updK at hn
    split at hn
    · rename_i e; subst e; exact hd n hn
    · exact h r n hn
  unfold nextK
  split
  · refine upd _ _ fun n hn => ?_
    cases hn
    cases hx with
    | num d z hd => exact ⟨ho.num, reg_nn hd⟩
    | _ => simp_all
  · exact upd _ _ fun n hn => by cases hn
theorem kok0 : KOk K0 := fun r n h => by cases h

/-- What came of a function: its code, in memory, in a block from N on. -/
def VfnAt (w : World) (N : Nat) (v : Value) (f : Fn) (l : List Vins) : Prop :=
  ∃ A c, v = .agg #[.string f.name, .int .i64 f.params, .int .i64 f.regs, .slice A l.length c] ∧ RdSl 7 (RdVins w fun _ => True) w (fun k => N ≤ k) A l
def VfnMade (w : World) (f : Fn) (l : List Vins) (e : Ending) (w' : World) : Prop := ∃ v, e = .returned v ∧ Below w.heap.size w w' ∧ VfnAt w' w.heap.size v f l
theorem row_code {w : World} {T : Nat → Prop} {v : Value} {r : Option Nat} {l : List Vins} {xs : List Value} (h : RowAt w 61 7 v r l.length xs) (hX : CodeCells w T l xs) (N : Nat) (hN : ∀ q, r = some q → N ≤ q) :
    ∃ A c, v = .slice A l.length c ∧ RdSl 7 (RdVins w fun _ => True) w (fun k => N ≤ k) A l := by
  obtain ⟨A, c, rfl, _⟩ := h.shape
  refine ⟨A, c, rfl, fun hp => ?_⟩
  obtain ⟨g, off, cap, hv, hr, _, _, hg, hc, _⟩ := h.form hp
  injection hv with hA _ _
  refine ⟨g, off, hA, hN g hr, hg, fun i x hx => ?_⟩
  obtain ⟨A1, c1, h1, h2⟩ := hX.at_ i x hx
  refine ⟨_, rfl, ⟨A1, c1, rfl, h1.mono fun _ _ => trivial⟩, fun j u hu => ?_⟩
  rw [Nat.add_assoc]
  exact hc _ _ (h2 j u hu)

/-- The same, all of it made since. -/
def VfnAtN (w : World) (N : Nat) (v : Value) (f : Fn) (l : List Vins) : Prop :=
  ∃ A c, v = .agg #[.string f.name, .int .i64 f.params, .int .i64 f.regs, .slice A l.length c] ∧ RdSl 7 (RdVins w fun k => N ≤ k) w (fun k => N ≤ k) A l
def VfnMadeN (w : World) (f : Fn) (l : List Vins) (e : Ending) (w' : World) : Prop := ∃ v, e = .returned v ∧ Below w.heap.size w w' ∧ VfnAtN w' w.heap.size v f l
theorem VfnMadeN.weak {w : World} {f : Fn} {l : List Vins} {e : Ending} {w' : World} (h : VfnMadeN w f l e w') : VfnMade w f l e w' := by
  obtain ⟨v, h1, h2, A, c, h3, h4⟩ := h
  exact ⟨v, h1, h2, A, c, h3, h4.mono (fun _ h => h) fun _ _ h => h.mono fun _ _ _ => trivial⟩
theorem row_codeN {w : World} {T : Nat → Prop} {v : Value} {r : Option Nat} {l : List Vins} {xs : List Value} (h : RowAt w 61 7 v r l.length xs) (hX : CodeCells w T l xs) (N : Nat) (hN : ∀ q, r = some q → N ≤ q) (hT : ∀ k, T k → N ≤ k) :
    ∃ A c, v = .slice A l.length c ∧ RdSl 7 (RdVins w fun k => N ≤ k) w (fun k => N ≤ k) A l := by
  obtain ⟨A, c, rfl, _⟩ := h.shape
  refine ⟨A, c, rfl, fun hp => ?_⟩
  obtain ⟨g, off, cap, hv, hr, _, _, hg, hc, _⟩ := h.form hp
  injection hv with hA _ _
  refine ⟨g, off, hA, hN g hr, hg, fun i x hx => ?_⟩
  obtain ⟨A1, c1, h1, h2⟩ := hX.at_ i x hx
  refine ⟨_, rfl, ⟨A1, c1, rfl, h1.mono fun k hk => hT k hk⟩, fun j u hu => ?_⟩
  rw [Nat.add_assoc]
  exact hc _ _ (h2 j u hu)

/-- The picker between two blocks. -/
structure HeadP (w1 wr : World) (pb : Nat) (f : Fn) (l : List Vins) : Prop where
  row : ∃ v r mv xs, wr.heap[pb]? = some (.cells #[.string f.name, .int .i64 f.params, .int .i64 f.regs, v, mv] 65 (0, 0)) ∧ (∀ q, r = some q → w1.heap.size ≤ q) ∧ RowAt wr 61 7 v r l.length xs ∧ CodeCells wr (fun q => ¬ (q = pb ∨ some q = r) ∧ pb < q) l xs
  chg : Chg (fun q => q = pb) w1 wr
theorem head_start {wr : World} {pb : Nat} {v mv : Value} {r : Option Nat} {f : Fn} {l : List Vins} {xs : List Value}
    (hp : wr.heap[pb]? = some (.cells #[.string f.name, .int .i64 f.params, .int .i64 f.regs, v, mv] 65 (0, 0))) (hR : RowAt wr 61 7 v r l.length xs) (hX : CodeCells wr (fun q => ¬ (q = pb ∨ some q = r) ∧ pb < q) l xs) (cs : Array Value) (e : Nat) :
    ∃ W, W = ((wr.setCell ⟨pb, 4, none⟩ (.map (some (wr.heap.size + 1)))).alloc (.cells cs e)).alloc (.map #[] 0) ∧ PickAt W pb (wr.heap.size + 1) v r f l 0 (kl K0) ∧ Chg (fun q => q = pb) wr W ∧ (∀ j, W.cell? ⟨wr.heap.size, j, none⟩ = cs[j]?) ∧ wr.heap.size < W.heap.size ∧ ¬ FootP pb (wr.heap.size + 1) r wr.heap.size := by
  have hlt := lt_of_heap hp
  have hst := Chg.store wr pb 4 (.map (some (wr.heap.size + 1)))
  have hp1 := heap_setCell_same wr pb 4 _ _ (.map (some (wr.heap.size + 1))) hp
  have hne : r ≠ some pb := row_not hR hp (by decide)
  have hz : (wr.setCell ⟨pb, 4, none⟩ (.map (some (wr.heap.size + 1)))).heap.size = wr.heap.size := by simp
  generalize wr.setCell ⟨pb, 4, none⟩ (.map (some (wr.heap.size + 1))) = w0 at hst hp1 hz ⊢
  have hb1 : Below w0.heap.size w0 (w0.alloc (.cells cs e)) := (Below.refl _ _).alloc (Nat.le_refl _) _
  have hb : Below w0.heap.size w0 ((w0.alloc (.cells cs e)).alloc (.map #[] 0)) := hb1.alloc hb1.size _
  have hs : (w0.alloc (.cells cs e)).heap.size = wr.heap.size + 1 := by simp [hz]
  have hm := MapAt.made (w0.alloc (.cells cs e)) Try.prog 3 21
  rw [hs] at hm
  have hcw := chg_of_below hb
  have hno : ∀ k, k < wr.heap.size → ¬ (w0.heap.size ≤ k) := fun k h h' => by omega
  have hR1 := hR.kept hst fun k hk e => hne (by rw [hk, e])
  refine ⟨_, rfl, ⟨?_, ⟨xs, ?_, ?_⟩, hm.congr kl_none⟩, ?_, fun j => ?_, ?_, ?_⟩
  · exact hcw.heap hp1 (hno _ hlt)
  · exact hR1.kept hcw fun k hk => by have := hR1.lt k hk; omega
  · have h1 : CodeCells wr (CodeT pb (wr.heap.size + 1) r) l xs := hX.mono fun k hk hl => ⟨fun hf => by
      rcases hf with hf | hf | hf
      · exact hk.1 (.inl hf)
      · omega
      · exact hk.1 (.inr hf), hk.2⟩
    exact (h1.kept hst fun k hk _ e => hk.1 (.inl e)).kept hcw fun k _ hk => by omega
  · exact hst.trans (Chg.of_below hb (fun q => q = pb)) fun _ _ h => h
  · have h5 : ((w0.alloc (.cells cs e)).alloc (.map #[] 0)).heap[wr.heap.size]? = some (.cells cs e (0, 0)) := by
      rw [Below.heap_alloc _ _ _ (by omega), ← hz]; exact heap_alloc_new w0 _
    exact cell_of_row _ _ _ _ _ _ h5
  · simp only [World.size_alloc]; omega
  · rintro (h | h | h)
    · omega
    · omega
    · exact Nat.lt_irrefl _ (hR.lt _ h.symm)
end Go.Proofs.Ytnfneinonkpmeaa
