/- slices.Reverse of instructions: the walk. -/
import Derived.Test.YtlniohgnkihefaaRev14
import Derived.Test.YtlniohgnkihefaaHeldT
namespace Go.Proofs.Ytlniohgnkihefaa
open Go.RowKit
set_option maxRecDepth 100000 in
set_option maxHeartbeats 4000000 in
theorem rev14_any {w : World} {v : Value} {r : Option Nat} {xs : List InsQ} (h : RowAt w 48 8 v r xs.length (insRowC xs)) (hl : xs.length ≤ 1000) :
    Calls Try.prog 46 #[v] w fun e w' => (∃ u, e = .returned u) ∧ RowAt w' 48 8 v r xs.length (insRowC xs.reverse) ∧ Chg (fun k => some k = r) w w' := by
  by_cases hp : 0 < xs.length
  case neg =>
    have hx : xs = [] := List.eq_nil_of_length_eq_zero (by omega)
    subst hx
    obtain ⟨A, c, rfl, _⟩ := h.shape
    have H := Lib.hid h
    clear h hp
    go_enter Try.func46, Try.ntmps46
    go_wp2_with fail
    go_loopw [2, 3] (fun a b wr => a = .int .i64 0 ∧ b = .int .i64 (-1) ∧ wr = w) (fun a b _ => 0)
    case atStart => exact ⟨rfl, rfl, rfl⟩
    case round =>
      obtain ⟨rfl, rfl, rfl⟩ := hrel
      go_wp2_with fail
      go_end0
      exact ⟨⟨_, rfl⟩, H.out, Chg.refl _ _⟩
  case pos =>
  obtain ⟨g, off, c, rfl, rfl, _, hcm, _, _, hfr⟩ := h.form hp
  obtain ⟨n, hn⟩ : ∃ n, n = xs.length := ⟨_, rfl⟩
  rw [← hn] at h hp hl ⊢
  have H := Lib.hid h
  have HN := Lib.hid hn
  clear h hn hfr
  go_enter Try.func46, Try.ntmps46
  go_wp2_with fail
  go_loopw [2, 3] (fun a b wr => ∃ (k jn : Nat) (ys : List InsQ), k + jn + 1 = n ∧ a = .int .i64 (k : Nat) ∧ b = .int .i64 (jn : Nat) ∧ (∀ p, p < n → ys[p]? = if p < k ∨ n ≤ p + k then xs[n - 1 - p]? else xs[p]?) ∧ ys.length = n ∧ RowAt wr 48 8 (.slice (some ⟨g, off, none⟩) n c) (some g) n (insRowC ys) ∧ Chg (fun k => some k = some g) w wr) (fun a b _ => n - (intOf a).toNat)
  case atStart => exact ⟨0, n - 1, xs, by omega, rfl, by congr 1; omega, fun p hp => by rw [if_neg (by omega)], HN.out.symm, H.out, Chg.refl _ _⟩
  case round =>
    obtain ⟨k, jn, ys, hkj, rfl, rfl, hys, hyl, hR, hC⟩ := hrel
    have HY := Lib.hid (And.intro hys hyl)
    have HR := Lib.hid hR
    have HC := Lib.hid hC
    clear hys hyl hR hC
    by_cases hlt : k < jn
    · obtain ⟨x, hx⟩ : ∃ x, ys[k]? = some x := ⟨_, List.getElem?_eq_getElem (by rw [HY.out.2]; omega)⟩
      obtain ⟨y, hy⟩ : ∃ y, ys[jn]? = some y := ⟨_, List.getElem?_eq_getElem (by rw [HY.out.2]; omega)⟩
      obtain ⟨wd, hwd⟩ : ∃ wd, wd = wr.drew := ⟨_, rfl⟩
      have hRd : RowAt wd 48 8 (.slice (some ⟨g, off, none⟩) n c) (some g) n (insRowC ys) := by rw [hwd]; exact HR.out.drew
      have hCd : Chg (fun k => some k = some g) w wd := by rw [hwd]; exact HC.out.drew
      have hsel : Elt wd g (off + k * 8) x ∧ Elt wd g (off + jn * 8) y := ⟨elt_of_row hRd hp k x hx, elt_of_row hRd hp jn y hy⟩
      have hfr : ∀ j, wd.frozen? ⟨g, j, none⟩ = false := by obtain ⟨g', off', cap, hv, hr, _, _, _, _, hf⟩ := hRd.form hp; cases hr; exact hf
      have hkn : k < n := by omega
      have hjn : jn < n := by omega
      have hyk : k < ys.length := by rw [HY.out.2]; exact hkn
      have HST : Hid (∀ W1, W1 = ((((((((wd.setCell ⟨g, off + k * 8, none⟩ (.int .i64 y.k.kind)).setCell ⟨g, off + k * 8 + 1, none⟩ (.int .i64 y.k.op)).setCell ⟨g, off + k * 8 + 2, none⟩ (.int .i64 y.k.d)).setCell ⟨g, off + k * 8 + 3, none⟩ (.int .i64 y.k.a)).setCell ⟨g, off + k * 8 + 4, none⟩ (.int .i64 y.k.b)).setCell ⟨g, off + k * 8 + 5, none⟩ (.int .i32 y.k.num)).setCell ⟨g, off + k * 8 + 6, none⟩ (.string y.k.name)).setCell ⟨g, off + k * 8 + 7, none⟩ (.slice y.A y.k.args.length y.c)) → RowAt W1 48 8 (.slice (some ⟨g, off, none⟩) n c) (some g) n (insRowC (ys.set k y)) ∧ Chg (fun k => some k = some g) w W1 ∧ Elt W1 g (off + jn * 8) y ∧ ∀ j, W1.frozen? ⟨g, j, none⟩ = false) := Lib.hid fun W1 e => by
        have h1 := hRd.putE k hkn y
        rw [putE_row ys k hyk, ← e] at h1
        refine ⟨h1, hCd.trans (by rw [e]; exact chg_put8 _ _ _ _ _ _ _ _ _) fun _ _ h => h, elt_of_row h1 hp jn y (by rw [List.getElem?_set_ne (by omega)]; exact hy), ?_⟩
        obtain ⟨g', off', cap, hv, hr, _, _, _, _, hf⟩ := h1.form hp; cases hr; exact hf
      have HND : Hid (∀ W1 W2, RowAt W1 48 8 (.slice (some ⟨g, off, none⟩) n c) (some g) n (insRowC (ys.set k y)) → Chg (fun k => some k = some g) w W1 → W2 = ((((((((W1.setCell ⟨g, off + jn * 8, none⟩ (.int .i64 x.k.kind)).setCell ⟨g, off + jn * 8 + 1, none⟩ (.int .i64 x.k.op)).setCell ⟨g, off + jn * 8 + 2, none⟩ (.int .i64 x.k.d)).setCell ⟨g, off + jn * 8 + 3, none⟩ (.int .i64 x.k.a)).setCell ⟨g, off + jn * 8 + 4, none⟩ (.int .i64 x.k.b)).setCell ⟨g, off + jn * 8 + 5, none⟩ (.int .i32 x.k.num)).setCell ⟨g, off + jn * 8 + 6, none⟩ (.string x.k.name)).setCell ⟨g, off + jn * 8 + 7, none⟩ (.slice x.A x.k.args.length x.c)) →
          RowAt W2 48 8 (.slice (some ⟨g, off, none⟩) n c) (some g) n (insRowC ((ys.set k y).set jn x)) ∧ Chg (fun k => some k = some g) w W2) := Lib.hid fun W1 W2 h1 hc e => by
        have h2 := h1.putE jn hjn x
        rw [putE_row _ jn (by rw [List.length_set, HY.out.2]; exact hjn), ← e] at h2
        exact ⟨h2, hc.trans (by rw [e]; exact chg_put8 _ _ _ _ _ _ _ _ _) fun _ _ h => h⟩
      have HXY := Lib.hid (And.intro hx hy)
      have HWD := Lib.hid hwd
      clear hx hy hRd hCd hwd hyk
      go_wp2_with fail
      -- GENERATED: region 3
      refine wp_region_T (fun Y => Elt Y g (off + k * 8) x ∧ Elt Y g (off + jn * 8) y) [13, 15] (by kernel_rfl) (by rw [← HWD.out]; exact hsel) (fun _ => ?_)
      rw [← HWD.out]
      refine wpAnyT_take (i := 0) (v := ?va1) rfl (by kernel_rfl) (by kernel_rfl) (by kernel_rfl) rfl (fun _ _ _ h => h) (Or.inl ⟨by rfl, ?hya1⟩) (DL.of hsel) ?resta1
      case hya1 => (intro w hSw; go_simp; try rfl)
      try simp only [Act.put, List.setIfInBounds_toArray, List.set_cons_zero, List.set_cons_succ, List.getElem_toArray, List.getElem_cons_zero]
      refine wpAnyT_take (i := 1) (v := ?va2) rfl (by kernel_rfl) (by kernel_rfl) (by kernel_rfl) rfl (fun _ _ _ h => h) (Or.inl ⟨by rfl, ?hya2⟩) (DL.of hsel) ?resta2
      case hya2 => (intro w hSw; go_simp; try rfl)
      try simp only [Act.put, List.setIfInBounds_toArray, List.set_cons_zero, List.set_cons_succ, List.getElem_toArray, List.getElem_cons_zero, List.getElem_cons_succ]
      refine wpAnyT_take (i := 2) (v := ?va3) rfl (by kernel_rfl) (by kernel_rfl) (by kernel_rfl) rfl (fun _ _ _ h => h) (Or.inl ⟨by rfl, ?hya3⟩) (DL.of hsel) ?resta3
      case hya3 => (intro w hSw; go_simp; try rfl)
      try simp only [Act.put, List.setIfInBounds_toArray, List.set_cons_zero, List.set_cons_succ, List.getElem_toArray, List.getElem_cons_zero, List.getElem_cons_succ]
      refine wpAnyT_take (i := 3) (v := ?va4) rfl (by kernel_rfl) (by kernel_rfl) (by kernel_rfl) rfl (fun _ _ _ h => h) (Or.inl ⟨by rfl, ?hya4⟩) (DL.of hsel) ?resta4
      case hya4 => (intro w hSw; go_simp; try rfl)
      try simp only [Act.put, List.setIfInBounds_toArray, List.set_cons_zero, List.set_cons_succ, List.getElem_toArray, List.getElem_cons_zero, List.getElem_cons_succ]
      refine wpAnyT_take (i := 4) (v := ?va5) rfl (by kernel_rfl) (by kernel_rfl) (by kernel_rfl) rfl (fun _ _ _ h => h) (Or.inl ⟨by rfl, ?hya5⟩) (DL.of hsel) ?resta5
      case hya5 => (intro w hSw; go_simp; try rfl)
      try simp only [Act.put, List.setIfInBounds_toArray, List.set_cons_zero, List.set_cons_succ, List.getElem_toArray, List.getElem_cons_zero, List.getElem_cons_succ]
      refine wpAnyT_take (i := 5) (v := ?va6) rfl (by kernel_rfl) (by kernel_rfl) (by kernel_rfl) rfl (fun _ _ _ h => h) (Or.inl ⟨by rfl, ?hya6⟩) (DL.of hsel) ?resta6
      case hya6 => (intro w hSw; go_simp; try rfl)
      try simp only [Act.put, List.setIfInBounds_toArray, List.set_cons_zero, List.set_cons_succ, List.getElem_toArray, List.getElem_cons_zero, List.getElem_cons_succ]
      refine wpAnyT_take (i := 6) (v := ?va7) rfl (by kernel_rfl) (by kernel_rfl) (by kernel_rfl) rfl (fun _ _ _ h => h) (Or.inl ⟨by rfl, ?hya7⟩) (DL.of hsel) ?resta7
      case hya7 => (intro w hSw; go_simp; try rfl)
      try simp only [Act.put, List.setIfInBounds_toArray, List.set_cons_zero, List.set_cons_succ, List.getElem_toArray, List.getElem_cons_zero, List.getElem_cons_succ]
      refine wpAnyT_load (i := 7) (v := ?va8) rfl (by kernel_rfl) (by kernel_rfl) (by kernel_rfl) rfl (by kernel_rfl) (by kernel_rfl) (fun _ _ _ h => h) (Or.inl ⟨by rfl, ?hya8⟩) (DL.of hsel) ?resta8
      case hya8 => (intro w hSw; obtain ⟨⟨s0, s1, s2, s3, s4, s5, s6, s7⟩, t0, t1, t2, t3, t4, t5, t6, t7⟩ := hSw rfl; go_simp; try rfl)
      try simp only [Act.put, List.setIfInBounds_toArray, List.set_cons_zero, List.set_cons_succ, List.getElem_toArray, List.getElem_cons_zero, List.getElem_cons_succ]
      refine wpAnyT_take (i := 8) (v := ?va9) rfl (by kernel_rfl) (by kernel_rfl) (by kernel_rfl) rfl (fun _ _ _ h => h) (Or.inl ⟨by rfl, ?hya9⟩) (DL.of hsel) ?resta9
      case hya9 => (intro w hSw; go_simp; try rfl)
      try simp only [Act.put, List.setIfInBounds_toArray, List.set_cons_zero, List.set_cons_succ, List.getElem_toArray, List.getElem_cons_zero, List.getElem_cons_succ]
      refine wpAnyT_take (i := 9) (v := ?va10) rfl (by kernel_rfl) (by kernel_rfl) (by kernel_rfl) rfl (fun _ _ _ h => h) (Or.inl ⟨by rfl, ?hya10⟩) (DL.of hsel) ?resta10
      case hya10 => (intro w hSw; go_simp; try rfl)
      try simp only [Act.put, List.setIfInBounds_toArray, List.set_cons_zero, List.set_cons_succ, List.getElem_toArray, List.getElem_cons_zero, List.getElem_cons_succ]
      refine wpAnyT_take (i := 10) (v := ?va11) rfl (by kernel_rfl) (by kernel_rfl) (by kernel_rfl) rfl (fun _ _ _ h => h) (Or.inl ⟨by rfl, ?hya11⟩) (DL.of hsel) ?resta11
      case hya11 => (intro w hSw; go_simp; try rfl)
      try simp only [Act.put, List.setIfInBounds_toArray, List.set_cons_zero, List.set_cons_succ, List.getElem_toArray, List.getElem_cons_zero, List.getElem_cons_succ]
      refine wpAnyT_load (i := 11) (v := ?va12) rfl (by kernel_rfl) (by kernel_rfl) (by kernel_rfl) rfl (by kernel_rfl) (by kernel_rfl) (fun _ _ _ h => h) (Or.inl ⟨by rfl, ?hya12⟩) (DL.of hsel) ?resta12
      case hya12 => (intro w hSw; obtain ⟨⟨s0, s1, s2, s3, s4, s5, s6, s7⟩, t0, t1, t2, t3, t4, t5, t6, t7⟩ := hSw rfl; go_simp; try rfl)
      try simp only [Act.put, List.setIfInBounds_toArray, List.set_cons_zero, List.set_cons_succ, List.getElem_toArray, List.getElem_cons_zero, List.getElem_cons_succ]
      refine wpAnyT_take (i := 12) (v := ?va13) rfl (by kernel_rfl) (by kernel_rfl) (by kernel_rfl) rfl (fun _ _ _ h => h) (Or.inl ⟨by rfl, ?hya13⟩) (DL.of hsel) ?resta13
      case hya13 => (intro w hSw; go_simp; try rfl)
      try simp only [Act.put, List.setIfInBounds_toArray, List.set_cons_zero, List.set_cons_succ, List.getElem_toArray, List.getElem_cons_zero, List.getElem_cons_succ]
      refine wpAnyT_ready (rs := [13]) (by kernel_rfl) (by simp) ?_
      refine AllReadyT.cons rfl (fun K hK => ?_) AllReadyT.nil
      obtain ⟨⟨s0, s1, s2, s3, s4, s5, s6, s7⟩, _⟩ := hsel
      try simp only [Act.put, List.getElem_toArray, List.getElem_cons_zero, List.getElem_cons_succ]
      go_simp
      refine hK.out _ _ (DL.late (by kernel_rfl)) (fun _ => ?_)
      clear hK K
      try simp only [Act.put, List.setIfInBounds_toArray, List.set_cons_zero, List.set_cons_succ, List.getElem_toArray, List.getElem_cons_zero, List.getElem_cons_succ]
      obtain ⟨W1, hW1⟩ : ∃ W1, W1 = ((((((((wd.setCell ⟨g, off + k * 8, none⟩ (.int .i64 y.k.kind)).setCell ⟨g, off + k * 8 + 1, none⟩ (.int .i64 y.k.op)).setCell ⟨g, off + k * 8 + 2, none⟩ (.int .i64 y.k.d)).setCell ⟨g, off + k * 8 + 3, none⟩ (.int .i64 y.k.a)).setCell ⟨g, off + k * 8 + 4, none⟩ (.int .i64 y.k.b)).setCell ⟨g, off + k * 8 + 5, none⟩ (.int .i32 y.k.num)).setCell ⟨g, off + k * 8 + 6, none⟩ (.string y.k.name)).setCell ⟨g, off + k * 8 + 7, none⟩ (.slice y.A y.k.args.length y.c)) := ⟨_, rfl⟩
      rw [← hW1]
      obtain ⟨hR1, hC1, hE1, hf1⟩ := HST.out W1 hW1
      have HR1 := Lib.hid hR1
      have HC1 := Lib.hid hC1
      clear hW1 hR1 hC1 s0 s1 s2 s3 s4 s5 s6 s7
      refine wpAnyT_take (i := 14) (v := ?va14) rfl (by kernel_rfl) (by kernel_rfl) (by kernel_rfl) rfl (fun _ _ _ h => h) (Or.inl ⟨by rfl, ?hya14⟩) (DL.late (by kernel_rfl)) ?resta14
      case hya14 => (intro w hSw; go_simp; try rfl)
      try simp only [Act.put, List.setIfInBounds_toArray, List.set_cons_zero, List.set_cons_succ, List.getElem_toArray, List.getElem_cons_zero, List.getElem_cons_succ]
      obtain ⟨s0, s1, s2, s3, s4, s5, s6, s7⟩ := hE1
      refine wpAnyT_ready (rs := [15]) (by kernel_rfl) (by simp) ?_
      refine AllReadyT.cons rfl (fun K hK => ?_) AllReadyT.nil
      try simp only [Act.put, List.getElem_toArray, List.getElem_cons_zero, List.getElem_cons_succ]
      go_simp
      refine hK.out _ _ (DL.late (by kernel_rfl)) (fun _ => ?_)
      clear hK K
      try simp only [Act.put, List.setIfInBounds_toArray, List.set_cons_zero, List.set_cons_succ, List.getElem_toArray, List.getElem_cons_zero, List.getElem_cons_succ]
      obtain ⟨W2, hW2⟩ : ∃ W2, W2 = ((((((((W1.setCell ⟨g, off + jn * 8, none⟩ (.int .i64 x.k.kind)).setCell ⟨g, off + jn * 8 + 1, none⟩ (.int .i64 x.k.op)).setCell ⟨g, off + jn * 8 + 2, none⟩ (.int .i64 x.k.d)).setCell ⟨g, off + jn * 8 + 3, none⟩ (.int .i64 x.k.a)).setCell ⟨g, off + jn * 8 + 4, none⟩ (.int .i64 x.k.b)).setCell ⟨g, off + jn * 8 + 5, none⟩ (.int .i32 x.k.num)).setCell ⟨g, off + jn * 8 + 6, none⟩ (.string x.k.name)).setCell ⟨g, off + jn * 8 + 7, none⟩ (.slice x.A x.k.args.length x.c)) := ⟨_, rfl⟩
      rw [← hW2]
      have hR2 := HND.out W1 W2 HR1.out HC1.out hW2
      have HR2 := Lib.hid hR2
      clear hW2 hR2 hf1 s0 s1 s2 s3 s4 s5 s6 s7
      refine wpAnyT_done (by kernel_rfl) ?_ _
      -- END region 3
      clear HST HND HR1 HC1
      go_wp2_with fail
      go_roundw
      case rel =>
        refine ⟨k + 1, jn - 1, (ys.set k y).set jn x, by omega, by simp, by congr 1; omega, fun p hp' => ?_, by simp [HY.out.2], HR2.out.1, HR2.out.2⟩
        have hb := HY.out.1
        have hk1 := hb k hkn
        have hj1 := hb jn hjn
        rw [HXY.out.1, if_neg (by omega)] at hk1
        rw [HXY.out.2, if_neg (by omega)] at hj1
        simp only [List.getElem?_set, List.length_set, HY.out.2]
        by_cases e1 : jn = p
        · subst e1
          rw [if_pos rfl, if_pos hjn, if_pos (.inr (by omega)), show n - 1 - jn = k from by omega]; exact hk1
        · rw [if_neg e1]
          by_cases e2 : k = p
          · subst e2
            rw [if_pos rfl, if_pos hkn, if_pos (.inl (by omega)), show n - 1 - k = jn from by omega]; exact hj1
          · rw [if_neg e2, hb p hp']
            by_cases e3 : p < k ∨ n ≤ p + k
            · rw [if_pos e3, if_pos (by omega)]
            · rw [if_neg e3, if_neg (by omega)]
      case measure => simp [intOf]; omega
    · go_wp2_with fail
      go_end0
      have hr : ys = xs.reverse := by
        apply List.ext_getElem?
        intro p
        by_cases hp' : p < n
        · rw [HY.out.1 p hp', List.getElem?_reverse (by rw [← HN.out]; exact hp'), ← HN.out]
          by_cases e : p < k ∨ n ≤ p + k
          · rw [if_pos e]
          · rw [if_neg e]; congr 1; omega
        · rw [List.getElem?_eq_none (by rw [HY.out.2]; omega), List.getElem?_eq_none (by rw [List.length_reverse, ← HN.out]; omega)]
      rw [← hr]
      exact ⟨⟨_, rfl⟩, HR.out, HC.out⟩
end Go.Proofs.Ytlniohgnkihefaa
