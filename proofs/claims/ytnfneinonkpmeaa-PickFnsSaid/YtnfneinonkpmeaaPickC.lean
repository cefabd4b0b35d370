/- The picker: a call. -/
import Derived.Test.YtnfneinonkpmeaaPickI
import Derived.Deep.RegionHeld3
namespace Go.Proofs.Ytnfneinonkpmeaa
open Go.RowKit Go.Maps
variable {w w1 : World} {pb mb : Nat} {v : Value} {r : Option Nat} {f : Fn} {l : List Vins} {n : Nat} {K : Int → Option Int} {T : Nat → Prop}
set_option maxHeartbeats 4000000 in
set_option maxRecDepth 100000 in
theorem ins_7 (h : PickAt w pb mb v r f l n (kl K)) (hb : l.length + 2 ≤ 1000000000) (d : Int) (name : ByteArray) (args : List Int) (A : Option Addr) (c : Nat) (hl : args.length ≤ 8) (hrd : RdT w T A (ints args)) (hd : 0 ≤ d) (hd64 : I64 d) :
    Calls Try.prog 22 #[.pointer (some ⟨pb, 0, none⟩), .agg #[.int .i64 7, .int .i64 0, .int .i64 d, .int .i64 (-1), .int .i64 (-1), .int .i32 0, .string name, .slice A args.length c]] w
      fun e w' => e = .returned (.tuple #[]) ∧ Picked w pb mb r f (l ++ [⟨46, d, -1, -1, 0, name, args⟩]) n (kl (updK K d none)) w' := by
  obtain ⟨w0, hw0, hb0, hlt0, hc⟩ := box_new w #[.int .i64 7, .int .i64 0, .int .i64 d, .int .i64 (-1), .int .i64 (-1), .int .i32 0, .string name, .slice A args.length c] 54
  have HW := Lib.hid hw0
  have HB0 := Lib.hid hb0
  have HB := Lib.hid (hb0.trans ((below_drew1 w0).mono hb0.size))
  have H0 := Lib.hid (h.kept HB.out)
  have HRD := Lib.hid (ints_below hrd HB.out)
  have HNF : Hid (¬ FootP pb mb r w.heap.size) := Lib.hid fun hf => Nat.lt_irrefl _ (h.lt _ hf)
  have c0 := hc 0
  have c2 := hc 2
  have c6 := hc 6
  have c7 := hc 7
  simp only [List.getElem?_toArray, List.getElem?_cons_succ, List.getElem?_cons_zero] at c0 c2 c6 c7
  clear hw0 hb0 h hc hrd
  go_enter Try.func22, Try.ntmps22
  go_wp2_with fail
  rw [← HW.out]
  go_region_held3 (fun W => W.cell? ⟨w.heap.size, 0, none⟩ = some (.int .i64 7) ∧ W.cell? ⟨w.heap.size, 2, none⟩ = some (.int .i64 d) ∧ W.cell? ⟨w.heap.size, 6, none⟩ = some (.string name) ∧ W.cell? ⟨w.heap.size, 7, none⟩ = some (.slice A args.length c)) (first | exact ⟨c0, c2, c6, c7⟩ | go_keep)
    (first
    | (go_at_call 38; refine (Clone_any A c args _ (by omega) HRD.out).mono ?_; rintro e wv ⟨A', c', rfl, hBv, hRv⟩; have HRV := Lib.hid (hRv.mono' (T' := CodeT pb mb r) fun k hk _ => ⟨fun hf => Nat.lt_irrefl _ (Nat.lt_of_lt_of_le (H0.out.lt k hf) hk), fun e => Nat.lt_asymm (Nat.lt_of_lt_of_le (H0.out.lt pb (.inl rfl)) hk) (e ▸ Nat.lt_succ_self k)⟩); have c0 := (hBv.cell hlt0).trans c0; have c2 := (hBv.cell hlt0).trans c2; have c6 := (hBv.cell hlt0).trans c6; have c7 := (hBv.cell hlt0).trans c7; have H1 := Lib.hid (H0.out.kept hBv); have HB1 := Lib.hid (HB.out.trans (hBv.mono HB.out.size)); clear hBv hRv)
    | (go_at_call 20; refine (put_args H1.out (Below.refl _ _) 46 d (-1) (-1) 0 name args A' c' HRV.out (by omega)).mono ?_; rintro e w3 ⟨rfl, v3, r3, hp3, hs3⟩; have c0 := hs3.chg.cell c0 HNF.out; have c2 := hs3.chg.cell c2 HNF.out; have c6 := hs3.chg.cell c6 HNF.out; have c7 := hs3.chg.cell c7 HNF.out; have HP3 := Lib.hid hp3; have HS3 := Lib.hid ((PStep.ofBelow HB1.out).trans hs3); clear hp3 hs3))
  have g0 := c0
  have hp4 : w3.cell? ⟨pb, 4, none⟩ = some (.map (some mb)) := cell_of_row _ _ _ _ _ _ HP3.out.heap
  go_wp2_with fail
  go_still_tail 6, (by kernel_rfl)
  change wpList _ _ _ _ _ w3.drew
  have HP4 := Lib.hid (HP3.out.kept (below_drew1 w3))
  have HS4 := Lib.hid (HS3.out.trans (PStep.ofBelow (below_drew1 w3)))
  have HNF3 : Hid (w.heap.size ≠ mb) := Lib.hid fun e => HNF.out (.inr (.inl e))
  have i0 : w3.drew.cell? ⟨w.heap.size, 0, none⟩ = some (.int .i64 7) := g0
  clear g0 c0 c2 c6 c7 hp4
  generalize w3.drew = w4 at HP4 HS4 i0 ⊢
  go_wp2_with (at_delete; go_must (refine wpList_map_del rfl _ _ 63 3 rfl 21 lawI Try.underlying63 HP4.out.map rfl (.int .i64 d) (.int .i64 d) rfl (keyOf_int_mk Try.underlying3 (WalkArith.wf_i64 hd64)) ?_); intro w5 hM5 hC5; have j0 := hC5.cell i0 HNF3.out; have HM5 := Lib.hid hM5; have HC5 := Lib.hid hC5; clear hM5 hC5)
  go_returns
  exact ⟨rfl, v3, r3, HP4.out.mapped (HM5.out.congr (kl_upd K d none)) HC5.out, HS4.out.trans ⟨HC5.out.mono fun i _ e => .inr (.inl e), .refl _ _⟩⟩
set_option maxHeartbeats 4000000 in
set_option maxRecDepth 100000 in
theorem ins_7n (h : PickAt w pb mb v r f l n (kl K)) (hb : l.length + 2 ≤ 1000000000) (name : ByteArray) (args : List Int) (A : Option Addr) (c : Nat) (hl : args.length ≤ 8) (hrd : RdT w T A (ints args)) :
    Calls Try.prog 22 #[.pointer (some ⟨pb, 0, none⟩), .agg #[.int .i64 7, .int .i64 0, .int .i64 (-1), .int .i64 (-1), .int .i64 (-1), .int .i32 0, .string name, .slice A args.length c]] w
      fun e w' => e = .returned (.tuple #[]) ∧ Picked w pb mb r f (l ++ [⟨46, -1, -1, -1, 0, name, args⟩]) n (kl K) w' := by
  obtain ⟨w0, hw0, hb0, hlt0, hc⟩ := box_new w #[.int .i64 7, .int .i64 0, .int .i64 (-1), .int .i64 (-1), .int .i64 (-1), .int .i32 0, .string name, .slice A args.length c] 54
  have HW := Lib.hid hw0
  have HB0 := Lib.hid hb0
  have HB := Lib.hid (hb0.trans ((below_drew1 w0).mono hb0.size))
  have H0 := Lib.hid (h.kept HB.out)
  have HRD := Lib.hid (ints_below hrd HB.out)
  have HNF : Hid (¬ FootP pb mb r w.heap.size) := Lib.hid fun hf => Nat.lt_irrefl _ (h.lt _ hf)
  have c0 := hc 0
  have c2 := hc 2
  have c6 := hc 6
  have c7 := hc 7
  simp only [List.getElem?_toArray, List.getElem?_cons_succ, List.getElem?_cons_zero] at c0 c2 c6 c7
  clear hw0 hb0 h hc hrd
  go_enter Try.func22, Try.ntmps22
  go_wp2_with fail
  rw [← HW.out]
  go_region_held3 (fun W => W.cell? ⟨w.heap.size, 0, none⟩ = some (.int .i64 7) ∧ W.cell? ⟨w.heap.size, 2, none⟩ = some (.int .i64 (-1)) ∧ W.cell? ⟨w.heap.size, 6, none⟩ = some (.string name) ∧ W.cell? ⟨w.heap.size, 7, none⟩ = some (.slice A args.length c)) (first | exact ⟨c0, c2, c6, c7⟩ | go_keep)
    (first
    | (go_at_call 38; refine (Clone_any A c args _ (by omega) HRD.out).mono ?_; rintro e wv ⟨A', c', rfl, hBv, hRv⟩; have HRV := Lib.hid (hRv.mono' (T' := CodeT pb mb r) fun k hk _ => ⟨fun hf => Nat.lt_irrefl _ (Nat.lt_of_lt_of_le (H0.out.lt k hf) hk), fun e => Nat.lt_asymm (Nat.lt_of_lt_of_le (H0.out.lt pb (.inl rfl)) hk) (e ▸ Nat.lt_succ_self k)⟩); have c0 := (hBv.cell hlt0).trans c0; have c2 := (hBv.cell hlt0).trans c2; have c6 := (hBv.cell hlt0).trans c6; have c7 := (hBv.cell hlt0).trans c7; have H1 := Lib.hid (H0.out.kept hBv); have HB1 := Lib.hid (HB.out.trans (hBv.mono HB.out.size)); clear hBv hRv)
    | (go_at_call 20; refine (put_args H1.out (Below.refl _ _) 46 (-1) (-1) (-1) 0 name args A' c' HRV.out (by omega)).mono ?_; rintro e w3 ⟨rfl, v3, r3, hp3, hs3⟩; have c0 := hs3.chg.cell c0 HNF.out; have c2 := hs3.chg.cell c2 HNF.out; have c6 := hs3.chg.cell c6 HNF.out; have c7 := hs3.chg.cell c7 HNF.out; have HP3 := Lib.hid hp3; have HS3 := Lib.hid ((PStep.ofBelow HB1.out).trans hs3); clear hp3 hs3))
  clear c6 c7
  go_wp2_with fail
  go_returns
  exact ⟨rfl, v3, r3, HP3.out, HS3.out⟩
end Go.Proofs.Ytnfneinonkpmeaa
