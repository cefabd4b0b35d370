/- A row in memory: Drop. (Written by wip/gendrop.py, then wip/prune.py.) -/
import Derived.Test.YtdnlgcomhgnegaaRowP
namespace Go.Proofs.Ytdnlgcomhgnegaa
open Go.RowKit
section
variable {V W : World} {b l l' : Nat} {kv vv kv' vv' : Value} {rk rv rk' rv' : Option Nat} {K' Vs : List Value}
theorem PutA.firstD {ks : List Int} (h : PutA V W b l kv vv rk rv (ks.map (Value.int .i64)) Vs) {p : Nat} (hp : p < l) (hl : l ≤ 1000) :
    Calls Try.prog 26 #[kv, .int .i64 (p : Nat), .int .i64 ((p : Nat) + 1)] W fun e W1 => ∃ kv', e = .returned kv' ∧ PutB V W1 b l (l - 1) kv vv kv' rk rv rk ((ks.eraseIdx p).map (Value.int .i64)) Vs := by
  refine (delete_int ks h.k p hp (by omega)).mono ?_
  rintro e W1 ⟨kv', rfl, hr, hc⟩
  exact ⟨kv', rfl, ⟨hc.heap h.hb fun e => row_box_ne h.k h.hb (by decide) e.symm, hr, h.v.kept hc fun k hk e => row_blk_ne h.k h.v (by decide) k e.symm hk, h.chg.trans hc fun i _ e => .inr (.inl e), h.lt, .refl _ _⟩⟩
theorem PutB.secondD {vs : List ByteArray} (h : PutB V W b l l' kv vv kv' rk rv rk' K' (vs.map Value.string)) {p : Nat} (hp : p < l) (hl : l ≤ 1000) (hl' : l' = l - 1) :
    Calls Try.prog 27 #[vv, .int .i64 (p : Nat), .int .i64 ((p : Nat) + 1)] W fun e W1 => ∃ vv', e = .returned vv' ∧ PutC V W1 b l' kv vv kv' vv' rk rv rk' rv K' ((vs.eraseIdx p).map Value.string) := by
  subst hl'
  refine (delete_string vs h.v p hp (by omega)).mono ?_
  rintro e W1 ⟨vv', rfl, hr, hc⟩
  exact ⟨vv', rfl, ⟨hc.heap h.hb fun e => row_box_ne h.v h.hb (by decide) e.symm, h.k.kept hc fun k hk e => row_blk_ne h.v h.k (by decide) k e.symm hk, hr, h.chg.trans hc fun i _ e => .inr (.inr e), h.nk, .refl _ _⟩⟩
end
theorem map_erase {α β : Type} (f : α → β) (l : List α) (i : Nat) : (l.eraseIdx i).map f = (l.map f).eraseIdx i := by
  apply List.ext_getElem?
  intro q
  rw [List.getElem?_map, List.getElem?_eraseIdx, List.getElem?_eraseIdx]
  by_cases h : q < i <;> simp [h]
theorem rdrop_out {w : World} {b : Nat} {rk rv : Option Nat} {L : List Pr} (h : RAt w b rk rv L) (x : Int) (hx : inP L x = false) :
    Calls Try.prog 10 #[.pointer (some ⟨b, 0, none⟩), .int .i64 x] w fun e w' => e = .returned (.bool false) ∧ RStep w b rk rv w' rk rv (dropP L x) := by
  have hF := find_any h x
  rw [hx] at hF
  rw [drop_out_eq hx]
  have HH := Lib.hid h
  have HF := Lib.hid hF
  obtain ⟨p, hpe⟩ : ∃ p, p = posP L x := ⟨_, rfl⟩
  rw [← hpe] at HF
  clear hF h hpe hx
  go_enter Try.func10, Try.ntmps10
  go_wp2_with fail
  refine HF.out.mono ?_
  rintro e w' ⟨rfl, hb⟩
  have HB := Lib.hid hb
  clear hb
  go_wp2_with fail
  go_ret
  exact ⟨rfl, HH.out.below HB.out, Chg.of_below HB.out _, .refl _ _, .refl _ _⟩
set_option maxHeartbeats 8000000 in
set_option maxRecDepth 100000 in
theorem rdrop_there {w : World} {b : Nat} {rk rv : Option Nat} {L : List Pr} (h : RAt w b rk rv L) (x : Int) (u : ByteArray) (hm : (x, u) ∈ L) :
    Calls Try.prog 10 #[.pointer (some ⟨b, 0, none⟩), .int .i64 x] w fun e w' => e = .returned (.bool true) ∧ RStep w b rk rv w' rk rv (dropP L x) := by
  have hF := find_any h x
  rw [inP_iff.2 ⟨u, hm⟩] at hF
  obtain ⟨hp, _⟩ := at_pos h.rise hm
  have hl9 := h.small
  have HH := Lib.hid h
  have HF := Lib.hid hF
  have HM := Lib.hid hm
  obtain ⟨p, hpe⟩ : ∃ p, p = posP L x := ⟨_, rfl⟩
  rw [← hpe] at HF hp
  obtain ⟨l, hl⟩ : ∃ l, l = L.length := ⟨_, rfl⟩
  rw [← hl] at hp hl9
  have HL := Lib.hid hl
  have HPP := Lib.hid hpe
  clear hF h hpe hl hm
  go_enter Try.func10, Try.ntmps10
  go_wp2_with fail
  refine HF.out.mono ?_
  rintro e V ⟨rfl, hb⟩
  have hR := HH.out.below hb
  obtain ⟨kv, vv, h1, h2, h3⟩ := hR.ex
  rw [← HL.out] at h2 h3
  have hA : PutA V V b l kv vv rk rv (ints (keysP L)) (strs (valsP L)) := ⟨h1, h2, h3, Chg.refl _ _, hR.lt⟩
  have hck : V.cell? ⟨b, 0, none⟩ = some kv := by simp [World.cell?, h1]
  have hcv : V.cell? ⟨b, 1, none⟩ = some vv := by simp [World.cell?, h1]
  have HB := Lib.hid hb
  have HA := Lib.hid hA
  clear hb h1 h2 h3 hR hA
  go_wp2_with fail
  have HEND : Hid (∀ W2 Ak ck Av cv, PutC V W2 b (l - 1) kv vv (.slice Ak (l - 1) ck) (.slice Av (l - 1) cv) rk rv rk rv (((keysP L).eraseIdx p).map (Value.int .i64)) (((valsP L).eraseIdx p).map Value.string) →
      RStep w b rk rv ((W2.setCell ⟨b, 0, none⟩ (.slice Ak (l - 1) ck)).setCell ⟨b, 1, none⟩ (.slice Av (l - 1) cv)) rk rv (dropP L x)) := Lib.hid (by
    intro W2 Ak ck Av cv hC
    have he := drop_there_eq HH.out.rise HM.out
    rw [← HPP.out] at he
    have hlen : (dropP L x).length = l - 1 := by rw [← he, List.length_eraseIdx, ← HL.out, if_pos hp]
    refine (hC.shut hlen.symm ?_ ?_ (rise_drop HH.out.rise x) (by omega)).from HB.out
    · rw [← he]; simp only [ints, keysP, map_erase]
    · rw [← he]; simp only [strs, valsP, map_erase])
  refine wp_region_T (fun W => W.cell? ⟨b, 0, none⟩ = some kv ∧ W.cell? ⟨b, 1, none⟩ = some vv) [20, 23] (by kernel_rfl) ⟨hck, hcv⟩ (fun _ => ?_)
  refine wpAnyT_take (i := 0) (v := ?v1) rfl (by kernel_rfl) (by kernel_rfl) (by kernel_rfl) rfl (fun _ _ _ h => h) (Or.inl ⟨by rfl, ?hy1⟩) (DL.of ⟨hck, hcv⟩) ?rest1
  case hy1 => (intro w hSw; go_simp; try rfl)
  simp only [Act.put, List.setIfInBounds_toArray, List.set_cons_zero, List.set_cons_succ, List.getElem_toArray, List.getElem_cons_zero]
  refine wpAnyT_take (i := 1) (v := ?v2) rfl (by kernel_rfl) (by kernel_rfl) (by kernel_rfl) rfl (fun _ _ _ h => h) (Or.inl ⟨by rfl, ?hy2⟩) (DL.of ⟨hck, hcv⟩) ?rest2
  case hy2 => (intro w hSw; go_simp; try rfl)
  simp only [Act.put, List.setIfInBounds_toArray, List.set_cons_zero, List.set_cons_succ, List.getElem_toArray, List.getElem_cons_zero, List.getElem_cons_succ]
  refine wpAnyT_take (i := 2) (v := ?v3) rfl (by kernel_rfl) (by kernel_rfl) (by kernel_rfl) rfl (fun _ _ _ h => h) (Or.inl ⟨by rfl, ?hy3⟩) (DL.of ⟨hck, hcv⟩) ?rest3
  case hy3 => (intro w hSw; go_simp; try rfl)
  simp only [Act.put, List.setIfInBounds_toArray, List.set_cons_zero, List.set_cons_succ, List.getElem_toArray, List.getElem_cons_zero, List.getElem_cons_succ]
  refine wpAnyT_take (i := 3) (v := ?v4) rfl (by kernel_rfl) (by kernel_rfl) (by kernel_rfl) rfl (fun _ _ _ h => h) (Or.inl ⟨by rfl, ?hy4⟩) (DL.of ⟨hck, hcv⟩) ?rest4
  case hy4 => (intro w hSw; go_simp; try rfl)
  simp only [Act.put, List.setIfInBounds_toArray, List.set_cons_zero, List.set_cons_succ, List.getElem_toArray, List.getElem_cons_zero, List.getElem_cons_succ]
  refine wpAnyT_take (i := 4) (v := ?v5) rfl (by kernel_rfl) (by kernel_rfl) (by kernel_rfl) rfl (fun _ _ _ h => h) (Or.inl ⟨by rfl, ?hy5⟩) (DL.of ⟨hck, hcv⟩) ?rest5
  case hy5 => (intro w hSw; go_simp; try rfl)
  simp only [Act.put, List.setIfInBounds_toArray, List.set_cons_zero, List.set_cons_succ, List.getElem_toArray, List.getElem_cons_zero, List.getElem_cons_succ]
  refine wpAnyT_load (i := 5) (v := ?v6) rfl (by kernel_rfl) (by kernel_rfl) (by kernel_rfl) rfl (by kernel_rfl) (by kernel_rfl) (fun _ _ _ h => h) (Or.inl ⟨by rfl, ?hy6⟩) (DL.of ⟨hck, hcv⟩) ?rest6
  case hy6 => (intro w hSw; obtain ⟨hs1, hs2⟩ := hSw rfl; go_simp; try rfl)
  simp only [Act.put, List.setIfInBounds_toArray, List.set_cons_zero, List.set_cons_succ, List.getElem_toArray, List.getElem_cons_zero, List.getElem_cons_succ]
  refine wpAnyT_take (i := 6) (v := ?v7) rfl (by kernel_rfl) (by kernel_rfl) (by kernel_rfl) rfl (fun _ _ _ h => h) (Or.inl ⟨by rfl, ?hy7⟩) (DL.of ⟨hck, hcv⟩) ?rest7
  case hy7 => (intro w hSw; go_simp; try rfl)
  simp only [Act.put, List.setIfInBounds_toArray, List.set_cons_zero, List.set_cons_succ, List.getElem_toArray, List.getElem_cons_zero, List.getElem_cons_succ]
  refine wpAnyT_take (i := 7) (v := ?v8) rfl (by kernel_rfl) (by kernel_rfl) (by kernel_rfl) rfl (fun _ _ _ h => h) (Or.inl ⟨by rfl, ?hy8⟩) (DL.of ⟨hck, hcv⟩) ?rest8
  case hy8 => (intro w hSw; go_simp; try rfl)
  simp only [Act.put, List.setIfInBounds_toArray, List.set_cons_zero, List.set_cons_succ, List.getElem_toArray, List.getElem_cons_zero, List.getElem_cons_succ]
  refine wpAnyT_take (i := 8) (v := ?v9) rfl (by kernel_rfl) (by kernel_rfl) (by kernel_rfl) rfl (fun _ _ _ h => h) (Or.inl ⟨by rfl, ?hy9⟩) (DL.of ⟨hck, hcv⟩) ?rest9
  case hy9 => (intro w hSw; go_simp; try rfl)
  simp only [Act.put, List.setIfInBounds_toArray, List.set_cons_zero, List.set_cons_succ, List.getElem_toArray, List.getElem_cons_zero, List.getElem_cons_succ]
  refine wpAnyT_take (i := 10) (v := ?v10) rfl (by kernel_rfl) (by kernel_rfl) (by kernel_rfl) rfl (fun _ _ _ h => h) (Or.inl ⟨by rfl, ?hy10⟩) (DL.of ⟨hck, hcv⟩) ?rest10
  case hy10 => (intro w hSw; go_simp; try rfl)
  simp only [Act.put, List.setIfInBounds_toArray, List.set_cons_zero, List.set_cons_succ, List.getElem_toArray, List.getElem_cons_zero, List.getElem_cons_succ]
  refine wpAnyT_take (i := 11) (v := ?v11) rfl (by kernel_rfl) (by kernel_rfl) (by kernel_rfl) rfl (fun _ _ _ h => h) (Or.inl ⟨by rfl, ?hy11⟩) (DL.of ⟨hck, hcv⟩) ?rest11
  case hy11 => (intro w hSw; go_simp; try rfl)
  simp only [Act.put, List.setIfInBounds_toArray, List.set_cons_zero, List.set_cons_succ, List.getElem_toArray, List.getElem_cons_zero, List.getElem_cons_succ]
  refine wpAnyT_take (i := 12) (v := ?v12) rfl (by kernel_rfl) (by kernel_rfl) (by kernel_rfl) rfl (fun _ _ _ h => h) (Or.inl ⟨by rfl, ?hy12⟩) (DL.of ⟨hck, hcv⟩) ?rest12
  case hy12 => (intro w hSw; go_simp; try rfl)
  simp only [Act.put, List.setIfInBounds_toArray, List.set_cons_zero, List.set_cons_succ, List.getElem_toArray, List.getElem_cons_zero, List.getElem_cons_succ]
  refine wpAnyT_load (i := 13) (v := ?v13) rfl (by kernel_rfl) (by kernel_rfl) (by kernel_rfl) rfl (by kernel_rfl) (by kernel_rfl) (fun _ _ _ h => h) (Or.inl ⟨by rfl, ?hy13⟩) (DL.of ⟨hck, hcv⟩) ?rest13
  case hy13 => (intro w hSw; obtain ⟨hs1, hs2⟩ := hSw rfl; go_simp; try rfl)
  simp only [Act.put, List.setIfInBounds_toArray, List.set_cons_zero, List.set_cons_succ, List.getElem_toArray, List.getElem_cons_zero, List.getElem_cons_succ]
  refine wpAnyT_take (i := 14) (v := ?v14) rfl (by kernel_rfl) (by kernel_rfl) (by kernel_rfl) rfl (fun _ _ _ h => h) (Or.inl ⟨by rfl, ?hy14⟩) (DL.of ⟨hck, hcv⟩) ?rest14
  case hy14 => (intro w hSw; go_simp; try rfl)
  simp only [Act.put, List.setIfInBounds_toArray, List.set_cons_zero, List.set_cons_succ, List.getElem_toArray, List.getElem_cons_zero, List.getElem_cons_succ]
  refine wpAnyT_take (i := 15) (v := ?v15) rfl (by kernel_rfl) (by kernel_rfl) (by kernel_rfl) rfl (fun _ _ _ h => h) (Or.inl ⟨by rfl, ?hy15⟩) (DL.of ⟨hck, hcv⟩) ?rest15
  case hy15 => (intro w hSw; go_simp; try rfl)
  simp only [Act.put, List.setIfInBounds_toArray, List.set_cons_zero, List.set_cons_succ, List.getElem_toArray, List.getElem_cons_zero, List.getElem_cons_succ]
  refine wpAnyT_take (i := 16) (v := ?v16) rfl (by kernel_rfl) (by kernel_rfl) (by kernel_rfl) rfl (fun _ _ _ h => h) (Or.inl ⟨by rfl, ?hy16⟩) (DL.of ⟨hck, hcv⟩) ?rest16
  case hy16 => (intro w hSw; go_simp; try rfl)
  simp only [Act.put, List.setIfInBounds_toArray, List.set_cons_zero, List.set_cons_succ, List.getElem_toArray, List.getElem_cons_zero, List.getElem_cons_succ]
  rw [IntWalk.i64_in ((p : Int) + 1) (by omega)]
  refine wpAnyT_ready (rs := [9]) (by kernel_rfl) (by simp) ?_
  refine AllReadyT.cons rfl (fun K hK => ?_) AllReadyT.nil
  simp only [Act.put, List.setIfInBounds_toArray, List.set_cons_zero, List.set_cons_succ, List.getElem_toArray, List.getElem_cons_zero, List.getElem_cons_succ]
  go_simp
  go_at_call 26
  refine (HA.out.drew.firstD hp hl9).mono ?_
  rintro e W1 ⟨kv', rfl, hP⟩
  obtain ⟨Ak, ck, rfl, _⟩ := hP.k.shape
  have HPB := Lib.hid hP
  have hck := hP.cells.1
  have hcv := hP.cells.2
  clear hP
  try go_simp
  refine hK.out _ _ (DL.of ⟨hck, hcv⟩) (fun _ => ?_)
  clear hK K
  try simp only [Act.put, List.setIfInBounds_toArray, List.set_cons_zero, List.set_cons_succ, List.getElem_toArray, List.getElem_cons_zero, List.getElem_cons_succ]
  refine wpAnyT_ready (rs := [17]) (by kernel_rfl) (by simp) ?_
  refine AllReadyT.cons rfl (fun K hK => ?_) AllReadyT.nil
  simp only [Act.put, List.setIfInBounds_toArray, List.set_cons_zero, List.set_cons_succ, List.getElem_toArray, List.getElem_cons_zero, List.getElem_cons_succ]
  go_simp
  go_at_call 27
  refine (HPB.out.secondD hp hl9 rfl).mono ?_
  rintro e W2 ⟨vv', rfl, hP⟩
  obtain ⟨Av, cv, rfl, _⟩ := hP.v.shape
  have HPC := Lib.hid hP
  obtain ⟨hck, hcv, hfk, hfv⟩ := hP.cells
  clear hP
  try go_simp
  refine hK.out _ _ (DL.of ⟨hck, hcv⟩) (fun _ => ?_)
  clear hK K
  try simp only [Act.put, List.setIfInBounds_toArray, List.set_cons_zero, List.set_cons_succ, List.getElem_toArray, List.getElem_cons_zero, List.getElem_cons_succ]
  refine wpAnyT_take (i := 18) (v := ?v17) rfl (by kernel_rfl) (by kernel_rfl) (by kernel_rfl) rfl (fun _ _ _ h => h) (Or.inl ⟨by rfl, ?hy17⟩) (DL.of ⟨hck, hcv⟩) ?rest17
  case hy17 => (intro w hSw; go_simp; try rfl)
  simp only [Act.put, List.setIfInBounds_toArray, List.set_cons_zero, List.set_cons_succ, List.getElem_toArray, List.getElem_cons_zero, List.getElem_cons_succ]
  refine wpAnyT_take (i := 19) (v := ?v18) rfl (by kernel_rfl) (by kernel_rfl) (by kernel_rfl) rfl (fun _ _ _ h => h) (Or.inl ⟨by rfl, ?hy18⟩) (DL.of ⟨hck, hcv⟩) ?rest18
  case hy18 => (intro w hSw; go_simp; try rfl)
  simp only [Act.put, List.setIfInBounds_toArray, List.set_cons_zero, List.set_cons_succ, List.getElem_toArray, List.getElem_cons_zero, List.getElem_cons_succ]
  refine wpAnyT_ready (rs := [20]) (by kernel_rfl) (by simp) ?_
  refine AllReadyT.cons rfl (fun K hK => ?_) AllReadyT.nil
  simp only [Act.put, List.getElem_toArray, List.getElem_cons_zero, List.getElem_cons_succ]
  go_simp
  refine hK.out _ _ (DL.late (by kernel_rfl)) (fun _ => ?_)
  clear hK K
  try simp only [Act.put, List.setIfInBounds_toArray, List.set_cons_zero, List.set_cons_succ, List.getElem_toArray, List.getElem_cons_zero, List.getElem_cons_succ]
  refine wpAnyT_take (i := 21) (v := ?v19) rfl (by kernel_rfl) (by kernel_rfl) (by kernel_rfl) rfl (fun _ _ _ h => h) (Or.inl ⟨by rfl, ?hy19⟩) (DL.late (by kernel_rfl)) ?rest19
  case hy19 => (intro w hSw; go_simp; try rfl)
  simp only [Act.put, List.setIfInBounds_toArray, List.set_cons_zero, List.set_cons_succ, List.getElem_toArray, List.getElem_cons_zero, List.getElem_cons_succ]
  refine wpAnyT_take (i := 22) (v := ?v20) rfl (by kernel_rfl) (by kernel_rfl) (by kernel_rfl) rfl (fun _ _ _ h => h) (Or.inl ⟨by rfl, ?hy20⟩) (DL.late (by kernel_rfl)) ?rest20
  case hy20 => (intro w hSw; go_simp; try rfl)
  simp only [Act.put, List.setIfInBounds_toArray, List.set_cons_zero, List.set_cons_succ, List.getElem_toArray, List.getElem_cons_zero, List.getElem_cons_succ]
  refine wpAnyT_ready (rs := [23]) (by kernel_rfl) (by simp) ?_
  refine AllReadyT.cons rfl (fun K hK => ?_) AllReadyT.nil
  simp only [Act.put, List.getElem_toArray, List.getElem_cons_zero, List.getElem_cons_succ]
  go_simp
  refine hK.out _ _ (DL.late (by kernel_rfl)) (fun _ => ?_)
  clear hK K
  try simp only [Act.put, List.setIfInBounds_toArray, List.set_cons_zero, List.set_cons_succ, List.getElem_toArray, List.getElem_cons_zero, List.getElem_cons_succ]
  refine wpAnyT_done (by kernel_rfl) ?_ _
  go_wp2_with fail
  go_ret
  exact ⟨rfl, HEND.out _ _ _ _ _ HPC.out⟩
end Go.Proofs.Ytdnlgcomhgnegaa
