/- A row in memory: the loop behind Each and From. (Written by wip/genrowf.py.) -/
import Derived.Test.YtdnlgcomhgnegaaRowE
namespace Go.Proofs.Ytdnlgcomhgnegaa
open Go.RowKit Go.Shelf
attribute [local go_sem] Oper.semAt_some
theorem reads_rest {W : World} {e p m c : Nat} {A : Option Addr} {r : Option Nat} {xs : List Value} (h : RowAt W e 1 (.slice A m c) r m xs) (hp : p ≤ m) : ReadsAt W (if c = p then A else Option.map (fun x => x.add p) A) (xs.drop p) := by
  obtain ⟨hl, hc⟩ := h.cells
  intro hpos
  rw [List.length_drop] at hpos
  rcases hc with ⟨h0, _, h1, _⟩ | ⟨g, off, cap, cur, hv, hr, hg, h1, h2, h3, h4⟩
  · omega
  · injection hv with hA _ hcc
    subst hA; subst hcc
    rw [if_neg (by omega)]
    refine ⟨g, off + p, by simp [Addr.add_lit], lt_of_heap hg, fun j u hu => ?_⟩
    rw [List.getElem?_drop] at hu
    have hj : p + j < m := by rw [← hl]; exact (List.getElem?_eq_some_iff.1 hu).1
    rw [cell_of_row W g (off + p + j) cur e (0, 0) hg, Nat.add_assoc, h4 _ hj, hu]

set_option maxRecDepth 100000 in
set_option maxHeartbeats 4000000 in
theorem loopE_in (n : Nat) (hn : 1 ≤ n) (l Bb B1 B2 b : Nat) (rk rv : Option Nat) (L : List Pr) (p : Nat) (J Jx : List Pr → World → Prop) (hp : p = 0) (M : List Pr) (hM : M = L.drop p)
    (hY : ∀ pre x W, J pre W → pre ++ [x] <+: M → YieldAt Fence.wide (n - 1) Try.prog l #[.int .i64 x.1, .string x.2] W fun e W' =>
      (e = .returned (.bool true) ∧ J (pre ++ [x]) W' ∧ KpC Bb W W') ∨ (e = .returned (.bool false) ∧ Jx (pre ++ [x]) W'))
    (W : World) (hJ : AbidesFrom W.heap.size J) (hBb : Bb ≤ W.heap.size) (hB1 : W.cell? ⟨B1, 0, none⟩ = some (.pointer (some ⟨b, 0, none⟩))) (hB2 : W.cell? ⟨B2, 0, none⟩ = some (.func (.func 29) #[] #[])) (hR : RAt W b rk rv L) (h0 : J [] W) :
    CallsIn Fence.wide n Try.prog 39 #[.func (.yield l) #[] #[], .pointer (some ⟨B1, 0, none⟩), .pointer (some ⟨B2, 0, none⟩)] W fun e W' => (∃ v, e = .returned v) ∧
      ((∃ ys, ys = M ∧ J ys W') ∨ (∃ pre, pre <+: M ∧ Jx pre W')) := by
  have HF : Hid (Calls Try.prog 29 #[] W fun e w' => e = .returned (.int .i64 (p : Nat)) ∧ Below W.heap.size W w') := Lib.hid (by rw [hp]; exact (each0_any W).mono fun _ w' h => (show _ ∧ Below W.heap.size W w' from ⟨h.1, h.2 ▸ Below.refl _ _⟩))
  have hpl : p ≤ L.length := by rw [hp]; exact Nat.zero_le _
  clear hp
  have hsm := hR.small
  have HR := Lib.hid hR
  have HMD := Lib.hid hM
  have HJ0 := Lib.hid h0
  obtain ⟨m, hm⟩ : ∃ m, m = L.length := ⟨_, rfl⟩
  rw [← hm] at hpl hsm
  have HM := Lib.hid hm
  clear hR h0 hm hM
  refine callsIn_of_wp Try.func39 rfl trivial ?_ rfl
  simp only [Try.ntmps39, List.size_toArray, List.length_cons, List.length_nil, Nat.reduceAdd, Nat.reduceSub, Array.replicate_succ, Array.replicate_zero, List.push_toArray, List.append_toArray, List.nil_append, List.cons_append]
  gi_wp2_with fail
  refine ⟨trivial, ?_⟩
  gi_at_call 29
  refine (callsIn_wide.2 HF.out).mono ?_
  rintro e Wf ⟨rfl, hbf⟩
  have hBf1 : Wf.cell? ⟨B1, 0, none⟩ = some (.pointer (some ⟨b, 0, none⟩)) := (hbf.cell (p := ⟨B1, 0, none⟩) (World.block_lt_of_cell? W _ hB1)).trans hB1
  have hRf := HR.out.below hbf
  obtain ⟨kv, vv, h1, h2, h3⟩ := hRf.ex
  rw [← HM.out] at h2 h3
  obtain ⟨Ak, ck, hkv, _⟩ := h2.shape
  obtain ⟨Av, cv, hvv, _⟩ := h3.shape
  have hck : Wf.cell? ⟨b, 0, none⟩ = some kv := by simp [World.cell?, h1]
  have hcv : Wf.cell? ⟨b, 1, none⟩ = some vv := by simp [World.cell?, h1]
  have HBF := Lib.hid hbf
  have H2 := Lib.hid h2
  have H3 := Lib.hid h3
  have hq1 : (0 : Int) ≤ (p : Int) := by omega
  have hq2 : (p : Int) ≤ (m : Int) := by omega
  have hsk : ∀ W, (Instr.slice 33 kv (some (.int .i64 (p : Int))) none none).run Try.prog W = .ok (.slice (if ck = p then Ak else Option.map (fun x => x.add p) Ak) (m - p) (ck - p)) W := fun W => by rw [hkv]; go_simp
  have hsv : ∀ W, (Instr.slice 22 vv (some (.int .i64 (p : Int))) none none).run Try.prog W = .ok (.slice (if cv = p then Av else Option.map (fun x => x.add p) Av) (m - p) (cv - p)) W := fun W => by rw [hvv]; go_simp
  rw [hkv] at H2
  rw [hvv] at H3
  obtain ⟨Ak1, hA1⟩ : ∃ A, A = if ck = p then Ak else Option.map (fun x => x.add p) Ak := ⟨_, rfl⟩
  obtain ⟨Av1, hA2⟩ : ∃ A, A = if cv = p then Av else Option.map (fun x => x.add p) Av := ⟨_, rfl⟩
  rw [← hA1] at hsk
  rw [← hA2] at hsv
  obtain ⟨d, hd⟩ : ∃ d, d = m - p := ⟨_, rfl⟩
  rw [← hd] at hsk hsv
  have HD := Lib.hid hd
  have HA1 := Lib.hid hA1
  have HA2 := Lib.hid hA2
  clear h1 h2 h3 hRf hbf hB2 hkv hvv hA1 hA2 hd
  gi_wp2_with fail
  refine wpIn_wide.2 ?_
  have hdl : M.length = d := by rw [HMD.out, List.length_drop, ← HM.out, HD.out]
  have hd1 : d ≤ 1000 := by have := HD.out; omega
  have hlk : (keysP M).length = d := by rw [List.length_map, hdl]
  have hlv : (valsP M).length = d := by rw [List.length_map, hdl]
  have HRK : Hid (ReadsAt Wf.drew Ak1 (ints (keysP M))) := Lib.hid (by
    rw [HMD.out]
    have h := reads_rest H2.out hpl
    rw [← HA1.out] at h
    simp only [ints, keysP, ← List.map_drop] at h
    exact h)
  have HRV : Hid (ReadsAt Wf.drew Av1 (strs (valsP M))) := Lib.hid (by
    rw [HMD.out]
    have h := reads_rest H3.out hpl
    rw [← HA2.out] at h
    simp only [strs, valsP, ← List.map_drop] at h
    exact h)
  have HCK : Hid (∀ A c W', ReadsAt W' A (ints (keysP M)) → Calls Try.prog 40 #[.slice A d c] W' fun e w' => ∃ A' c', e = .returned (.slice A' d c') ∧ ReadsAt w' A' (ints (keysP M)) ∧ Below W'.heap.size W' w' ∧ ∀ g off, A' = some ⟨g, off, none⟩ → W'.heap.size ≤ g) := Lib.hid (fun A c W' h => by
    have h1 := clone_int (keysP M) A c W' (by rw [hlk]; omega) h
    rw [hlk] at h1
    exact h1)
  have HCV : Hid (∀ A c W', ReadsAt W' A (strs (valsP M)) → Calls Try.prog 41 #[.slice A d c] W' fun e w' => ∃ A' c', e = .returned (.slice A' d c') ∧ ReadsAt w' A' (strs (valsP M)) ∧ Below W'.heap.size W' w' ∧ ∀ g off, A' = some ⟨g, off, none⟩ → W'.heap.size ≤ g) := Lib.hid (fun A c W' h => by
    have h1 := clone_string (valsP M) A c W' (by rw [hlv]; omega) h
    rw [hlv] at h1
    exact h1)
  clear hlk hlv
  go_region_held3 (fun Y => Y.cell? ⟨B1, 0, none⟩ = some (.pointer (some ⟨b, 0, none⟩)) ∧ Y.cell? ⟨b, 0, none⟩ = some kv ∧ Y.cell? ⟨b, 1, none⟩ = some vv) (first | exact ⟨hBf1, hck, hcv⟩ | go_keep) (first
    | (go_at_call 40; refine (HCK.out _ _ _ HRK.out).mono ?_; rintro e Wk ⟨Ak2, ck2, rfl, hrk, hbk, hnk⟩; have hBf1 := (hbk.cell (p := ⟨B1, 0, none⟩) (World.block_lt_of_cell? Wf _ hBf1)).trans hBf1; have hck := (hbk.cell (p := ⟨b, 0, none⟩) (World.block_lt_of_cell? Wf _ hck)).trans hck; have hcv := (hbk.cell (p := ⟨b, 1, none⟩) (World.block_lt_of_cell? Wf _ hcv)).trans hcv; have HRK2 := Lib.hid hrk; have HBK := Lib.hid hbk; have HNK := Lib.hid hnk; clear hrk hbk hnk)
    | (go_at_call 41; refine (HCV.out _ _ _ (reads_below HRV.out HBK.out)).mono ?_; rintro e Wc ⟨Av2, cv2, rfl, hrv, hbv, hnv⟩; have hBf1 := (hbv.cell (p := ⟨B1, 0, none⟩) (World.block_lt_of_cell? Wk _ hBf1)).trans hBf1; have hck := (hbv.cell (p := ⟨b, 0, none⟩) (World.block_lt_of_cell? Wk _ hck)).trans hck; have hcv := (hbv.cell (p := ⟨b, 1, none⟩) (World.block_lt_of_cell? Wk _ hcv)).trans hcv; have HRV2 := Lib.hid hrv; have HBV := Lib.hid hbv; have HNV := Lib.hid hnv; clear hrv hbv hnv))
  have hbfk : Below Wf.heap.size Wf Wk := ((Below.refl _ Wf).drew).trans HBK.out
  have HB : Hid (Below W.heap.size W Wc) := Lib.hid (HBF.out.trans ((hbfk.trans (HBV.out.mono hbfk.size)).mono HBF.out.size))
  have HRK3 : Hid (ReadsAt Wc Ak2 (ints (keysP M))) := Lib.hid (reads_below HRK2.out HBV.out)
  have HNK3 : Hid (∀ g off, Ak2 = some ⟨g, off, none⟩ → Bb ≤ g) := Lib.hid fun g off e => Nat.le_trans (Nat.le_trans hBb HBF.out.size) (HNK.out g off e)
  have HNV3 : Hid (∀ g off, Av2 = some ⟨g, off, none⟩ → Bb ≤ g) := Lib.hid fun g off e => Nat.le_trans (Nat.le_trans hBb (Nat.le_trans HBF.out.size hbfk.size)) (HNV.out g off e)
  have HJC : Hid (J [] Wc) := Lib.hid (hJ [] W Wc none HJ0.out ⟨HB.out.os, HB.out.tape, HB.out.output, HB.out.size, fun k hk _ => HB.out.block k hk⟩ (fun r e => by cases e))
  clear hBf1 hck hcv hbfk hB1 HRK HRV HCK HCV
  gi_wp2_with fail
  have HDL := Lib.hid hdl
  have HY := Lib.hid hY
  have HJA := Lib.hid hJ
  clear hdl hY hJ HRK2 HNK HBK HBV HNV HBF HR HJ0 HF H2 H3 HA1 HA2 hsk hsv hq1 hq2
  gi_loopw [28] (fun i wr => ∃ k : Nat, k ≤ d ∧ i = .int .i64 k ∧ J (M.take k) wr ∧ KpC Bb Wc wr) (fun i _ => d - (intOf i).toNat)
  case atStart => exact ⟨0, Nat.zero_le _, rfl, HJC.out, KpC.refl _ _⟩
  case round =>
    obtain ⟨k, hk, rfl, hJk, hkp⟩ := hrel
    have HJK := Lib.hid hJk
    have HKP := Lib.hid hkp
    clear hJk hkp
    by_cases hlt : k < d
    · have hkl : k < M.length := by rw [HDL.out]; exact hlt
      obtain ⟨x, hx⟩ : ∃ x, x = M[k] := ⟨_, rfl⟩
      have htk : M.take (k + 1) = M.take k ++ [x] := by rw [List.take_succ_eq_append_getElem hkl, hx]
      obtain ⟨xk, xv⟩ := x
      have hrk := reads_kpc HRK3.out HNK3.out HKP.out
      have hrv := reads_kpc HRV2.out HNV3.out HKP.out
      obtain ⟨gk, ok, rfl, _, hck⟩ := hrk (by unfold ints; rw [List.length_map, List.length_map]; omega)
      obtain ⟨gv, ov, rfl, _, hcv⟩ := hrv (by rw [List.length_map, List.length_map]; omega)
      have hcell1 := hck k (.int .i64 xk) (by unfold ints; rw [List.getElem?_map, List.getElem?_map, List.getElem?_eq_getElem hkl, ← hx]; rfl)
      have hcell2 := hcv k (.string xv) (by rw [List.getElem?_map, List.getElem?_map, List.getElem?_eq_getElem hkl, ← hx]; rfl)
      have hq1 : (0 : Int) ≤ (k : Int) := by omega
      have hq2 : (k : Int) < (d : Int) := by omega
      have hJd : J (M.take k) wr.drew := HJA.out _ wr wr.drew none HJK.out ⟨rfl, rfl, rfl, Nat.le_refl _, fun _ _ _ => rfl⟩ (fun r e => by cases e)
      obtain ⟨fn, tmps, assign, body, hy, hRd⟩ := HY.out (M.take k) (xk, xv) wr.drew hJd (by rw [← htk]; exact List.take_prefix _ _)
      have HR2 := Lib.hid (hRd.mono (R' := fun e W' => ∃ q, e = .returned (.bool q) ∧ ((q = true ∧ J (M.take k ++ [(xk, xv)]) W' ∧ KpC Bb wr.drew W') ∨ (q = false ∧ Jx (M.take k ++ [(xk, xv)]) W'))) (by
        rintro e W' (⟨rfl, h1, h2⟩ | ⟨rfl, h1⟩)
        · exact ⟨true, rfl, .inl ⟨rfl, h1, h2⟩⟩
        · exact ⟨false, rfl, .inr ⟨rfl, h1⟩⟩))
      have HTK := Lib.hid htk
      clear hx htk hrk hrv hck hcv hJd hRd hkl
      gi_wp2_with fail
      gi_region_with (refine HR2.out.mono ?_; rintro e W3 ⟨q, rfl, hq⟩; have HQ := Lib.hid hq; clear hq)
      all_goals
        have hq := HQ.out
        have hpre : M.take k ++ [(xk, xv)] <+: M := by rw [← HTK.out]; exact List.take_prefix _ _
        cases q with
        | true =>
          have hJ3 : J (M.take (k + 1)) W3 ∧ KpC Bb Wc W3 := by
            rcases hq with ⟨_, h1, h2⟩ | ⟨h, _⟩
            · rw [HTK.out]; exact ⟨h1, HKP.out.trans h2⟩
            · cases h
          have HJ3 := Lib.hid hJ3
          clear hJ3 hq hy
          gi_wp2
          go_roundw
          case rel => exact ⟨k + 1, by omega, by go_num, HJ3.out.1, HJ3.out.2⟩
          case measure => simp [intOf]; omega
        | false =>
          have hX : Jx (M.take k ++ [(xk, xv)]) W3 := by
            rcases hq with ⟨h, _⟩ | ⟨_, h1⟩
            · cases h
            · exact h1
          have HXX := Lib.hid hX
          clear hX hq hy
          gi_wp2
          refine bodyPost_ret (results_none rfl _ _ _) rfl ?_
          exact ⟨⟨_, rfl⟩, .inr ⟨_, hpre, HXX.out⟩⟩
    · obtain rfl : k = d := by omega
      have hall : J M wr := by
        have h := HJK.out
        rw [List.take_of_length_le (by have := HDL.out; omega)] at h
        exact h
      have HALL := Lib.hid hall
      clear hall
      gi_wp2
      go_end0
      exact ⟨⟨_, rfl⟩, .inl ⟨_, rfl, HALL.out⟩⟩

set_option maxRecDepth 100000 in
set_option maxHeartbeats 4000000 in
theorem loopF_in (n : Nat) (hn : 1 ≤ n) (l Bb B1 B2 b : Nat) (rk rv : Option Nat) (L : List Pr) (p : Nat) (J Jx : List Pr → World → Prop) (x0 : Int) (C1 C2 : Nat) (hp : p = (posP L x0)) (M : List Pr) (hM : M = L.drop p)
    (hY : ∀ pre x W, J pre W → pre ++ [x] <+: M → YieldAt Fence.wide (n - 1) Try.prog l #[.int .i64 x.1, .string x.2] W fun e W' =>
      (e = .returned (.bool true) ∧ J (pre ++ [x]) W' ∧ KpC Bb W W') ∨ (e = .returned (.bool false) ∧ Jx (pre ++ [x]) W'))
    (W : World) (hJ : AbidesFrom W.heap.size J) (hBb : Bb ≤ W.heap.size) (hB1 : W.cell? ⟨B1, 0, none⟩ = some (.pointer (some ⟨b, 0, none⟩))) (hB2 : W.cell? ⟨B2, 0, none⟩ = some (.func (.func 30) #[] #[.pointer (some ⟨C1, 0, none⟩), .pointer (some ⟨C2, 0, none⟩)])) (hR : RAt W b rk rv L) (hC1 : W.cell? ⟨C1, 0, none⟩ = some (.pointer (some ⟨b, 0, none⟩))) (hC2 : W.cell? ⟨C2, 0, none⟩ = some (.int .i64 x0)) (h0 : J [] W) :
    CallsIn Fence.wide n Try.prog 39 #[.func (.yield l) #[] #[], .pointer (some ⟨B1, 0, none⟩), .pointer (some ⟨B2, 0, none⟩)] W fun e W' => (∃ v, e = .returned v) ∧
      ((∃ ys, ys = M ∧ J ys W') ∨ (∃ pre, pre <+: M ∧ Jx pre W')) := by
  have HF : Hid (Calls Try.prog 30 #[.pointer (some ⟨C1, 0, none⟩), .pointer (some ⟨C2, 0, none⟩)] W fun e w' => e = .returned (.int .i64 (p : Nat)) ∧ Below W.heap.size W w') := Lib.hid (by rw [hp]; exact from1_any hR x0 C1 C2 hC1 hC2)
  have hpl : p ≤ L.length := by rw [hp]; exact posP_le _ _
  clear hp
  have hsm := hR.small
  have HR := Lib.hid hR
  have HMD := Lib.hid hM
  have HJ0 := Lib.hid h0
  obtain ⟨m, hm⟩ : ∃ m, m = L.length := ⟨_, rfl⟩
  rw [← hm] at hpl hsm
  have HM := Lib.hid hm
  clear hR h0 hm hM
  refine callsIn_of_wp Try.func39 rfl trivial ?_ rfl
  simp only [Try.ntmps39, List.size_toArray, List.length_cons, List.length_nil, Nat.reduceAdd, Nat.reduceSub, Array.replicate_succ, Array.replicate_zero, List.push_toArray, List.append_toArray, List.nil_append, List.cons_append]
  gi_wp2_with fail
  refine ⟨trivial, ?_⟩
  gi_at_call 30
  refine (callsIn_wide.2 HF.out).mono ?_
  rintro e Wf ⟨rfl, hbf⟩
  have hBf1 : Wf.cell? ⟨B1, 0, none⟩ = some (.pointer (some ⟨b, 0, none⟩)) := (hbf.cell (p := ⟨B1, 0, none⟩) (World.block_lt_of_cell? W _ hB1)).trans hB1
  have hRf := HR.out.below hbf
  obtain ⟨kv, vv, h1, h2, h3⟩ := hRf.ex
  rw [← HM.out] at h2 h3
  obtain ⟨Ak, ck, hkv, _⟩ := h2.shape
  obtain ⟨Av, cv, hvv, _⟩ := h3.shape
  have hck : Wf.cell? ⟨b, 0, none⟩ = some kv := by simp [World.cell?, h1]
  have hcv : Wf.cell? ⟨b, 1, none⟩ = some vv := by simp [World.cell?, h1]
  have HBF := Lib.hid hbf
  have H2 := Lib.hid h2
  have H3 := Lib.hid h3
  have hq1 : (0 : Int) ≤ (p : Int) := by omega
  have hq2 : (p : Int) ≤ (m : Int) := by omega
  have hsk : ∀ W, (Instr.slice 33 kv (some (.int .i64 (p : Int))) none none).run Try.prog W = .ok (.slice (if ck = p then Ak else Option.map (fun x => x.add p) Ak) (m - p) (ck - p)) W := fun W => by rw [hkv]; go_simp
  have hsv : ∀ W, (Instr.slice 22 vv (some (.int .i64 (p : Int))) none none).run Try.prog W = .ok (.slice (if cv = p then Av else Option.map (fun x => x.add p) Av) (m - p) (cv - p)) W := fun W => by rw [hvv]; go_simp
  rw [hkv] at H2
  rw [hvv] at H3
  obtain ⟨Ak1, hA1⟩ : ∃ A, A = if ck = p then Ak else Option.map (fun x => x.add p) Ak := ⟨_, rfl⟩
  obtain ⟨Av1, hA2⟩ : ∃ A, A = if cv = p then Av else Option.map (fun x => x.add p) Av := ⟨_, rfl⟩
  rw [← hA1] at hsk
  rw [← hA2] at hsv
  obtain ⟨d, hd⟩ : ∃ d, d = m - p := ⟨_, rfl⟩
  rw [← hd] at hsk hsv
  have HD := Lib.hid hd
  have HA1 := Lib.hid hA1
  have HA2 := Lib.hid hA2
  clear h1 h2 h3 hRf hbf hB2 hkv hvv hA1 hA2 hd
  gi_wp2_with fail
  refine wpIn_wide.2 ?_
  have hdl : M.length = d := by rw [HMD.out, List.length_drop, ← HM.out, HD.out]
  have hd1 : d ≤ 1000 := by have := HD.out; omega
  have hlk : (keysP M).length = d := by rw [List.length_map, hdl]
  have hlv : (valsP M).length = d := by rw [List.length_map, hdl]
  have HRK : Hid (ReadsAt Wf.drew Ak1 (ints (keysP M))) := Lib.hid (by
    rw [HMD.out]
    have h := reads_rest H2.out hpl
    rw [← HA1.out] at h
    simp only [ints, keysP, ← List.map_drop] at h
    exact h)
  have HRV : Hid (ReadsAt Wf.drew Av1 (strs (valsP M))) := Lib.hid (by
    rw [HMD.out]
    have h := reads_rest H3.out hpl
    rw [← HA2.out] at h
    simp only [strs, valsP, ← List.map_drop] at h
    exact h)
  have HCK : Hid (∀ A c W', ReadsAt W' A (ints (keysP M)) → Calls Try.prog 40 #[.slice A d c] W' fun e w' => ∃ A' c', e = .returned (.slice A' d c') ∧ ReadsAt w' A' (ints (keysP M)) ∧ Below W'.heap.size W' w' ∧ ∀ g off, A' = some ⟨g, off, none⟩ → W'.heap.size ≤ g) := Lib.hid (fun A c W' h => by
    have h1 := clone_int (keysP M) A c W' (by rw [hlk]; omega) h
    rw [hlk] at h1
    exact h1)
  have HCV : Hid (∀ A c W', ReadsAt W' A (strs (valsP M)) → Calls Try.prog 41 #[.slice A d c] W' fun e w' => ∃ A' c', e = .returned (.slice A' d c') ∧ ReadsAt w' A' (strs (valsP M)) ∧ Below W'.heap.size W' w' ∧ ∀ g off, A' = some ⟨g, off, none⟩ → W'.heap.size ≤ g) := Lib.hid (fun A c W' h => by
    have h1 := clone_string (valsP M) A c W' (by rw [hlv]; omega) h
    rw [hlv] at h1
    exact h1)
  clear hlk hlv
  go_region_held3 (fun Y => Y.cell? ⟨B1, 0, none⟩ = some (.pointer (some ⟨b, 0, none⟩)) ∧ Y.cell? ⟨b, 0, none⟩ = some kv ∧ Y.cell? ⟨b, 1, none⟩ = some vv) (first | exact ⟨hBf1, hck, hcv⟩ | go_keep) (first
    | (go_at_call 40; refine (HCK.out _ _ _ HRK.out).mono ?_; rintro e Wk ⟨Ak2, ck2, rfl, hrk, hbk, hnk⟩; have hBf1 := (hbk.cell (p := ⟨B1, 0, none⟩) (World.block_lt_of_cell? Wf _ hBf1)).trans hBf1; have hck := (hbk.cell (p := ⟨b, 0, none⟩) (World.block_lt_of_cell? Wf _ hck)).trans hck; have hcv := (hbk.cell (p := ⟨b, 1, none⟩) (World.block_lt_of_cell? Wf _ hcv)).trans hcv; have HRK2 := Lib.hid hrk; have HBK := Lib.hid hbk; have HNK := Lib.hid hnk; clear hrk hbk hnk)
    | (go_at_call 41; refine (HCV.out _ _ _ (reads_below HRV.out HBK.out)).mono ?_; rintro e Wc ⟨Av2, cv2, rfl, hrv, hbv, hnv⟩; have hBf1 := (hbv.cell (p := ⟨B1, 0, none⟩) (World.block_lt_of_cell? Wk _ hBf1)).trans hBf1; have hck := (hbv.cell (p := ⟨b, 0, none⟩) (World.block_lt_of_cell? Wk _ hck)).trans hck; have hcv := (hbv.cell (p := ⟨b, 1, none⟩) (World.block_lt_of_cell? Wk _ hcv)).trans hcv; have HRV2 := Lib.hid hrv; have HBV := Lib.hid hbv; have HNV := Lib.hid hnv; clear hrv hbv hnv))
  have hbfk : Below Wf.heap.size Wf Wk := ((Below.refl _ Wf).drew).trans HBK.out
  have HB : Hid (Below W.heap.size W Wc) := Lib.hid (HBF.out.trans ((hbfk.trans (HBV.out.mono hbfk.size)).mono HBF.out.size))
  have HRK3 : Hid (ReadsAt Wc Ak2 (ints (keysP M))) := Lib.hid (reads_below HRK2.out HBV.out)
  have HNK3 : Hid (∀ g off, Ak2 = some ⟨g, off, none⟩ → Bb ≤ g) := Lib.hid fun g off e => Nat.le_trans (Nat.le_trans hBb HBF.out.size) (HNK.out g off e)
  have HNV3 : Hid (∀ g off, Av2 = some ⟨g, off, none⟩ → Bb ≤ g) := Lib.hid fun g off e => Nat.le_trans (Nat.le_trans hBb (Nat.le_trans HBF.out.size hbfk.size)) (HNV.out g off e)
  have HJC : Hid (J [] Wc) := Lib.hid (hJ [] W Wc none HJ0.out ⟨HB.out.os, HB.out.tape, HB.out.output, HB.out.size, fun k hk _ => HB.out.block k hk⟩ (fun r e => by cases e))
  clear hBf1 hck hcv hbfk hB1 HRK HRV HCK HCV
  gi_wp2_with fail
  have HDL := Lib.hid hdl
  have HY := Lib.hid hY
  have HJA := Lib.hid hJ
  clear hdl hY hJ HRK2 HNK HBK HBV HNV HBF HR HJ0 HF H2 H3 HA1 HA2 hsk hsv hq1 hq2
  gi_loopw [28] (fun i wr => ∃ k : Nat, k ≤ d ∧ i = .int .i64 k ∧ J (M.take k) wr ∧ KpC Bb Wc wr) (fun i _ => d - (intOf i).toNat)
  case atStart => exact ⟨0, Nat.zero_le _, rfl, HJC.out, KpC.refl _ _⟩
  case round =>
    obtain ⟨k, hk, rfl, hJk, hkp⟩ := hrel
    have HJK := Lib.hid hJk
    have HKP := Lib.hid hkp
    clear hJk hkp
    by_cases hlt : k < d
    · have hkl : k < M.length := by rw [HDL.out]; exact hlt
      obtain ⟨x, hx⟩ : ∃ x, x = M[k] := ⟨_, rfl⟩
      have htk : M.take (k + 1) = M.take k ++ [x] := by rw [List.take_succ_eq_append_getElem hkl, hx]
      obtain ⟨xk, xv⟩ := x
      have hrk := reads_kpc HRK3.out HNK3.out HKP.out
      have hrv := reads_kpc HRV2.out HNV3.out HKP.out
      obtain ⟨gk, ok, rfl, _, hck⟩ := hrk (by unfold ints; rw [List.length_map, List.length_map]; omega)
      obtain ⟨gv, ov, rfl, _, hcv⟩ := hrv (by rw [List.length_map, List.length_map]; omega)
      have hcell1 := hck k (.int .i64 xk) (by unfold ints; rw [List.getElem?_map, List.getElem?_map, List.getElem?_eq_getElem hkl, ← hx]; rfl)
      have hcell2 := hcv k (.string xv) (by rw [List.getElem?_map, List.getElem?_map, List.getElem?_eq_getElem hkl, ← hx]; rfl)
      have hq1 : (0 : Int) ≤ (k : Int) := by omega
      have hq2 : (k : Int) < (d : Int) := by omega
      have hJd : J (M.take k) wr.drew := HJA.out _ wr wr.drew none HJK.out ⟨rfl, rfl, rfl, Nat.le_refl _, fun _ _ _ => rfl⟩ (fun r e => by cases e)
      obtain ⟨fn, tmps, assign, body, hy, hRd⟩ := HY.out (M.take k) (xk, xv) wr.drew hJd (by rw [← htk]; exact List.take_prefix _ _)
      have HR2 := Lib.hid (hRd.mono (R' := fun e W' => ∃ q, e = .returned (.bool q) ∧ ((q = true ∧ J (M.take k ++ [(xk, xv)]) W' ∧ KpC Bb wr.drew W') ∨ (q = false ∧ Jx (M.take k ++ [(xk, xv)]) W'))) (by
        rintro e W' (⟨rfl, h1, h2⟩ | ⟨rfl, h1⟩)
        · exact ⟨true, rfl, .inl ⟨rfl, h1, h2⟩⟩
        · exact ⟨false, rfl, .inr ⟨rfl, h1⟩⟩))
      have HTK := Lib.hid htk
      clear hx htk hrk hrv hck hcv hJd hRd hkl
      gi_wp2_with fail
      gi_region_with (refine HR2.out.mono ?_; rintro e W3 ⟨q, rfl, hq⟩; have HQ := Lib.hid hq; clear hq)
      all_goals
        have hq := HQ.out
        have hpre : M.take k ++ [(xk, xv)] <+: M := by rw [← HTK.out]; exact List.take_prefix _ _
        cases q with
        | true =>
          have hJ3 : J (M.take (k + 1)) W3 ∧ KpC Bb Wc W3 := by
            rcases hq with ⟨_, h1, h2⟩ | ⟨h, _⟩
            · rw [HTK.out]; exact ⟨h1, HKP.out.trans h2⟩
            · cases h
          have HJ3 := Lib.hid hJ3
          clear hJ3 hq hy
          gi_wp2
          go_roundw
          case rel => exact ⟨k + 1, by omega, by go_num, HJ3.out.1, HJ3.out.2⟩
          case measure => simp [intOf]; omega
        | false =>
          have hX : Jx (M.take k ++ [(xk, xv)]) W3 := by
            rcases hq with ⟨h, _⟩ | ⟨_, h1⟩
            · cases h
            · exact h1
          have HXX := Lib.hid hX
          clear hX hq hy
          gi_wp2
          refine bodyPost_ret (results_none rfl _ _ _) rfl ?_
          exact ⟨⟨_, rfl⟩, .inr ⟨_, hpre, HXX.out⟩⟩
    · obtain rfl : k = d := by omega
      have hall : J M wr := by
        have h := HJK.out
        rw [List.take_of_length_le (by have := HDL.out; omega)] at h
        exact h
      have HALL := Lib.hid hall
      clear hall
      gi_wp2
      go_end0
      exact ⟨⟨_, rfl⟩, .inl ⟨_, rfl, HALL.out⟩⟩
end Go.Proofs.Ytdnlgcomhgnegaa
