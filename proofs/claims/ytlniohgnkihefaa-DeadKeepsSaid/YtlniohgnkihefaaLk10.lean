/- slices.Reverse of instructions: the walk. -/
import Derived.Test.YtlniohgnkihefaaLk9
import Derived.Test.YtlniohgnkihefaaLk2
import Derived.Test.YtlniohgnkihefaaLk7
namespace Go.Proofs.Ytlniohgnkihefaa
open Go.RowKit
set_option maxRecDepth 100000 in
set_option maxHeartbeats 4000000 in
theorem rev14_any {w : World} {v : Value} {r : Option Nat} {xs : List InsQ} (h : RowAt w 48 8 v r xs.length (insRowC xs)) (hl : xs.length ≤ 1000) :
    Calls Try.prog 46 #[v] w fun e w' => (∃ u, e = .returned u) ∧ RowAt w' 48 8 v r xs.length (insRowC xs.reverse) ∧ Chg (fun k => some k = r) w w' := by
  by_cases hp : 0 < xs.length
  case neg =>
    have hx : xs = [] := List.eq_nil_of_length_eq_zero (by omega)
    subst hx
    obtain ⟨A, c, rfl, _⟩ := h.shape
    have H := Lib.hid h
    clear h hp
    go_enter Try.func46, Try.ntmps46
    go_wp2_with fail
    go_loopw [2, 3] (fun a b wr => a = .int .i64 0 ∧ b = .int .i64 (-1) ∧ wr = w) (fun a b _ => 0)
    case atStart => exact ⟨rfl, rfl, rfl⟩
    case round =>
      obtain ⟨rfl, rfl, rfl⟩ := hrel
      go_wp2_with fail
      go_end0
      exact ⟨⟨_, rfl⟩, H.out, Chg.refl _ _⟩
  case pos =>
  obtain ⟨g, off, c, rfl, rfl, _, hcm, _, _, hfr⟩ := h.form hp
  obtain ⟨n, hn⟩ : ∃ n, n = xs.length := ⟨_, rfl⟩
  rw [← hn] at h hp hl ⊢
  have H := Lib.hid h
  have HN := Lib.hid hn
  clear h hn hfr
  go_enter Try.func46, Try.ntmps46
  go_wp2_with fail
  go_loopw [2, 3] (fun a b wr => ∃ (k jn : Nat) (ys : List InsQ), k + jn + 1 = n ∧ a = .int .i64 (k : Nat) ∧ b = .int .i64 (jn : Nat) ∧ (∀ p, p < n → ys[p]? = if p < k ∨ n ≤ p + k then xs[n - 1 - p]? else xs[p]?) ∧ ys.length = n ∧ RowAt wr 48 8 (.slice (some ⟨g, off, none⟩) n c) (some g) n (insRowC ys) ∧ Chg (fun k => some k = some g) w wr) (fun a b _ => n - (intOf a).toNat)
  case atStart => exact ⟨0, n - 1, xs, by omega, rfl, by congr 1; omega, fun p hp => by rw [if_neg (by omega)], HN.out.symm, H.out, Chg.refl _ _⟩
  case round =>
    obtain ⟨k, jn, ys, hkj, rfl, rfl, hys, hyl, hR, hC⟩ := hrel
    have HY := Lib.hid (And.intro hys hyl)
    have HR := Lib.hid hR
    have HC := Lib.hid hC
    clear hys hyl hR hC
    by_cases hlt : k < jn
    · obtain ⟨x, hx⟩ : ∃ x, ys[k]? = some x := ⟨_, List.getElem?_eq_getElem (by rw [HY.out.2]; omega)⟩
      obtain ⟨y, hy⟩ : ∃ y, ys[jn]? = some y := ⟨_, List.getElem?_eq_getElem (by rw [HY.out.2]; omega)⟩
      obtain ⟨wd, hwd⟩ : ∃ wd, wd = wr.drew := ⟨_, rfl⟩
      have hRd : RowAt wd 48 8 (.slice (some ⟨g, off, none⟩) n c) (some g) n (insRowC ys) := by rw [hwd]; exact HR.out.drew
      have hCd : Chg (fun k => some k = some g) w wd := by rw [hwd]; exact HC.out.drew
      have hsel : Elt wd g (off + k * 8) x ∧ Elt wd g (off + jn * 8) y := ⟨elt_of_row hRd hp k x hx, elt_of_row hRd hp jn y hy⟩
      have hfr : ∀ j, wd.frozen? ⟨g, j, none⟩ = false := by obtain ⟨g', off', cap, hv, hr, _, _, _, _, hf⟩ := hRd.form hp; cases hr; exact hf
      have hkn : k < n := by omega
      have hjn : jn < n := by omega
      have hyk : k < ys.length := by rw [HY.out.2]; exact hkn
      have HST : Hid (∀ W1, W1 = ((((((((wd.setCell ⟨g, off + k * 8, none⟩ (.int .i64 y.k.kind)).setCell ⟨g, off + k * 8 + 1, none⟩ (.int .i64 y.k.op)).setCell ⟨g, off + k * 8 + 2, none⟩ (.int .i64 y.k.d)).setCell ⟨g, off + k * 8 + 3, none⟩ (.int .i64 y.k.a)).setCell ⟨g, off + k * 8 + 4, none⟩ (.int .i64 y.k.b)).setCell ⟨g, off + k * 8 + 5, none⟩ (.int .i32 y.k.num)).setCell ⟨g, off + k * 8 + 6, none⟩ (.string y.k.name)).setCell ⟨g, off + k * 8 + 7, none⟩ (.slice y.A y.k.args.length y.c)) → RowAt W1 48 8 (.slice (some ⟨g, off, none⟩) n c) (some g) n (insRowC (ys.set k y)) ∧ Chg (fun k => some k = some g) w W1 ∧ Elt W1 g (off + jn * 8) y ∧ ∀ j, W1.frozen? ⟨g, j, none⟩ = false) := Lib.hid fun W1 e => by
        have h1 := hRd.putE k hkn y
        rw [putE_row ys k hyk, ← e] at h1
        refine ⟨h1, hCd.trans (by rw [e]; exact chg_put8 _ _ _ _ _ _ _ _ _) fun _ _ h => h, elt_of_row h1 hp jn y (by rw [List.getElem?_set_ne (by omega)]; exact hy), ?_⟩
        obtain ⟨g', off', cap, hv, hr, _, _, _, _, hf⟩ := h1.form hp; cases hr; exact hf
      have HND : Hid (∀ W1 W2, RowAt W1 48 8 (.slice (some ⟨g, off, none⟩) n c) (some g) n (insRowC (ys.set k y)) → Chg (fun k => some k = some g) w W1 → W2 = ((((((((W1.setCell ⟨g, off + jn * 8, none⟩ (.int .i64 x.k.kind)).setCell ⟨g, off + jn * 8 + 1, none⟩ (.int .i64 x.k.op)).setCell ⟨g, off + jn * 8 + 2, none⟩ (.int .i64 x.k.d)).setCell ⟨g, off + jn * 8 + 3, none⟩ (.int .i64 x.k.a)).setCell ⟨g, off + jn * 8 + 4, none⟩ (.int .i64 x.k.b)).setCell ⟨g, off + jn * 8 + 5, none⟩ (.int .i32 x.k.num)).setCell ⟨g, off + jn * 8 + 6, none⟩ (.string x.k.name)).setCell ⟨g, off + jn * 8 + 7, none⟩ (.slice x.A x.k.args.length x.c)) →
          RowAt W2 48 8 (.slice (some ⟨g, off, none⟩) n c) (some g) n (insRowC ((ys.set k y).set jn x)) ∧ Chg (fun k => some k = some g) w W2) := Lib.hid fun W1 W2 h1 hc e => by
        have h2 := h1.putE jn hjn x
        rw [putE_row _ jn (by rw [List.length_set, HY.out.2]; exact hjn), ← e] at h2
        exact ⟨h2, hc.trans (by rw [e]; exact chg_put8 _ _ _ _ _ _ _ _ _) fun _ _ h => h⟩
      have HXY := Lib.hid (And.intro hx hy)
      have HWD := Lib.hid hwd
      clear hx hy hRd hCd hwd hyk
      go_wp2_with fail
      -- GENERATED: region 3
      refine wp_region_T (fun Y => Elt Y g (off + k * 8) x ∧ Elt Y g (off + jn * 8) y) [13, 15] (by kernel_rfl) (by rw [← HWD.out]; exact hsel) (fun _ => ?_)
      rw [← HWD.out]
      refine wpAnyT_take (i := 0) (v := ?va1) rfl (by kernel_rfl) (by kernel_rfl) (by kernel_rfl) rfl (fun _ _ _ h => h) (Or.inl ⟨by rfl, ?hya1⟩) (DL.of hsel) ?resta1
      case hya1 => (intro w hSw; go_simp; try rfl)
      try simp only [Act.put, List.setIfInBounds_toArray, List.set_cons_zero, List.set_cons_succ, List.getElem_toArray, List.getElem_cons_zero]
      refine wpAnyT_take (i := 1) (v := ?va2) rfl (by kernel_rfl) (by kernel_rfl) (by kernel_rfl) rfl (fun _ _ _ h => h) (Or.inl ⟨by rfl, ?hya2⟩) (DL.of hsel) ?resta2
      case hya2 => (intro w hSw; go_simp; try rfl)
      try simp only [Act.put, List.setIfInBounds_toArray, List.set_cons_zero, List.set_cons_succ, List.getElem_toArray, List.getElem_cons_zero, List.getElem_cons_succ]
      refine wpAnyT_take (i := 2) (v := ?va3) rfl (by kernel_rfl) (by kernel_rfl) (by kernel_rfl) rfl (fun _ _ _ h => h) (Or.inl ⟨by rfl, ?hya3⟩) (DL.of hsel) ?resta3
      case hya3 => (intro w hSw; go_simp; try rfl)
      try simp only [Act.put, List.setIfInBounds_toArray, List.set_cons_zero, List.set_cons_succ, List.getElem_toArray, List.getElem_cons_zero, List.getElem_cons_succ]
      refine wpAnyT_take (i := 3) (v := ?va4) rfl (by kernel_rfl) (by kernel_rfl) (by kernel_rfl) rfl (fun _ _ _ h => h) (Or.inl ⟨by rfl, ?hya4⟩) (DL.of hsel) ?resta4
      case hya4 => (intro w hSw; go_simp; try rfl)
      try simp only [Act.put, List.setIfInBounds_toArray, List.set_cons_zero, List.set_cons_succ, List.getElem_toArray, List.getElem_cons_zero, List.getElem_cons_succ]
      refine wpAnyT_take (i := 4) (v := ?va5) rfl (by kernel_rfl) (by kernel_rfl) (by kernel_rfl) rfl (fun _ _ _ h => h) (Or.inl ⟨by rfl, ?hya5⟩) (DL.of hsel) ?resta5
      case hya5 => (intro w hSw; go_simp; try rfl)
      try simp only [Act.put, List.setIfInBounds_toArray, List.set_cons_zero, List.set_cons_succ, List.getElem_toArray, List.getElem_cons_zero, List.getElem_cons_succ]
      refine wpAnyT_take (i := 5) (v := ?va6) rfl (by kernel_rfl) (by kernel_rfl) (by kernel_rfl) rfl (fun _ _ _ h => h) (Or.inl ⟨by rfl, ?hya6⟩) (DL.of hsel) ?resta6
      case hya6 => (intro w hSw; go_simp; try rfl)
      try simp only [Act.put, List.setIfInBounds_toArray, List.set_cons_zero, List.set_cons_succ, List.getElem_toArray, List.getElem_cons_zero, List.getElem_cons_succ]
      refine wpAnyT_take (i := 6) (v := ?va7) rfl (by kernel_rfl) (by kernel_rfl) (by kernel_rfl) rfl (fun _ _ _ h => h) (Or.inl ⟨by rfl, ?hya7⟩) (DL.of hsel) ?resta7
      case hya7 => (intro w hSw; go_simp; try rfl)
      try simp only [Act.put, List.setIfInBounds_toArray, List.set_cons_zero, List.set_cons_succ, List.getElem_toArray, List.getElem_cons_zero, List.getElem_cons_succ]
      refine wpAnyT_load (i := 7) (v := ?va8) rfl (by kernel_rfl) (by kernel_rfl) (by kernel_rfl) rfl (by kernel_rfl) (by kernel_rfl) (fun _ _ _ h => h) (Or.inl ⟨by rfl, ?hya8⟩) (DL.of hsel) ?resta8
      case hya8 => (intro w hSw; obtain ⟨⟨s0, s1, s2, s3, s4, s5, s6, s7⟩, t0, t1, t2, t3, t4, t5, t6, t7⟩ := hSw rfl; go_simp; try rfl)
      try simp only [Act.put, List.setIfInBounds_toArray, List.set_cons_zero, List.set_cons_succ, List.getElem_toArray, List.getElem_cons_zero, List.getElem_cons_succ]
      refine wpAnyT_take (i := 8) (v := ?va9) rfl (by kernel_rfl) (by kernel_rfl) (by kernel_rfl) rfl (fun _ _ _ h => h) (Or.inl ⟨by rfl, ?hya9⟩) (DL.of hsel) ?resta9
      case hya9 => (intro w hSw; go_simp; try rfl)
      try simp only [Act.put, List.setIfInBounds_toArray, List.set_cons_zero, List.set_cons_succ, List.getElem_toArray, List.getElem_cons_zero, List.getElem_cons_succ]
      refine wpAnyT_take (i := 9) (v := ?va10) rfl (by kernel_rfl) (by kernel_rfl) (by kernel_rfl) rfl (fun _ _ _ h => h) (Or.inl ⟨by rfl, ?hya10⟩) (DL.of hsel) ?resta10
      case hya10 => (intro w hSw; go_simp; try rfl)
      try simp only [Act.put, List.setIfInBounds_toArray, List.set_cons_zero, List.set_cons_succ, List.getElem_toArray, List.getElem_cons_zero, List.getElem_cons_succ]
      refine wpAnyT_take (i := 10) (v := ?va11) rfl (by kernel_rfl) (by kernel_rfl) (by kernel_rfl) rfl (fun _ _ _ h => h) (Or.inl ⟨by rfl, ?hya11⟩) (DL.of hsel) ?resta11
      case hya11 => (intro w hSw; go_simp; try rfl)
      try simp only [Act.put, List.setIfInBounds_toArray, List.set_cons_zero, List.set_cons_succ, List.getElem_toArray, List.getElem_cons_zero, List.getElem_cons_succ]
      refine wpAnyT_load (i := 11) (v := ?va12) rfl (by kernel_rfl) (by kernel_rfl) (by kernel_rfl) rfl (by kernel_rfl) (by kernel_rfl) (fun _ _ _ h => h) (Or.inl ⟨by rfl, ?hya12⟩) (DL.of hsel) ?resta12
      case hya12 => (intro w hSw; obtain ⟨⟨s0, s1, s2, s3, s4, s5, s6, s7⟩, t0, t1, t2, t3, t4, t5, t6, t7⟩ := hSw rfl; go_simp; try rfl)
      try simp only [Act.put, List.setIfInBounds_toArray, List.set_cons_zero, List.set_cons_succ, List.getElem_toArray, List.getElem_cons_zero, List.getElem_cons_succ]
      refine wpAnyT_take (i := 12) (v := ?va13) rfl (by kernel_rfl) (by kernel_rfl) (by kernel_rfl) rfl (fun _ _ _ h => h) (Or.inl ⟨by rfl, ?hya13⟩) (DL.of hsel) ?resta13
      case hya13 => (intro w hSw; go_simp; try rfl)
      try simp only [Act.put, List.setIfInBounds_toArray, List.set_cons_zero, List.set_cons_succ, List.getElem_toArray, List.getElem_cons_zero, List.getElem_cons_succ]
      refine wpAnyT_ready (rs := [13]) (by kernel_rfl) (by simp) ?_
      refine AllReadyT.cons rfl (fun K hK => ?_) AllReadyT.nil
      obtain ⟨⟨s0, s1, s2, s3, s4, s5, s6, s7⟩, _⟩ := hsel
      try simp only [Act.put, List.getElem_toArray, List.getElem_cons_zero, List.getElem_cons_succ]
      go_simp
      refine hK.out _ _ (DL.late (by kernel_rfl)) (fun _ => ?_)
      clear hK K
      try simp only [Act.put, List.setIfInBounds_toArray, List.set_cons_zero, List.set_cons_succ, List.getElem_toArray, List.getElem_cons_zero, List.getElem_cons_succ]
      obtain ⟨W1, hW1⟩ : ∃ W1, W1 = ((((((((wd.setCell ⟨g, off + k * 8, none⟩ (.int .i64 y.k.kind)).setCell ⟨g, off + k * 8 + 1, none⟩ (.int .i64 y.k.op)).setCell ⟨g, off + k * 8 + 2, none⟩ (.int .i64 y.k.d)).setCell ⟨g, off + k * 8 + 3, none⟩ (.int .i64 y.k.a)).setCell ⟨g, off + k * 8 + 4, none⟩ (.int .i64 y.k.b)).setCell ⟨g, off + k * 8 + 5, none⟩ (.int .i32 y.k.num)).setCell ⟨g, off + k * 8 + 6, none⟩ (.string y.k.name)).setCell ⟨g, off + k * 8 + 7, none⟩ (.slice y.A y.k.args.length y.c)) := ⟨_, rfl⟩
      rw [← hW1]
      obtain ⟨hR1, hC1, hE1, hf1⟩ := HST.out W1 hW1
      have HR1 := Lib.hid hR1
      have HC1 := Lib.hid hC1
      clear hW1 hR1 hC1 s0 s1 s2 s3 s4 s5 s6 s7
      refine wpAnyT_take (i := 14) (v := ?va14) rfl (by kernel_rfl) (by kernel_rfl) (by kernel_rfl) rfl (fun _ _ _ h => h) (Or.inl ⟨by rfl, ?hya14⟩) (DL.late (by kernel_rfl)) ?resta14
      case hya14 => (intro w hSw; go_simp; try rfl)
      try simp only [Act.put, List.setIfInBounds_toArray, List.set_cons_zero, List.set_cons_succ, List.getElem_toArray, List.getElem_cons_zero, List.getElem_cons_succ]
      obtain ⟨s0, s1, s2, s3, s4, s5, s6, s7⟩ := hE1
      refine wpAnyT_ready (rs := [15]) (by kernel_rfl) (by simp) ?_
      refine AllReadyT.cons rfl (fun K hK => ?_) AllReadyT.nil
      try simp only [Act.put, List.getElem_toArray, List.getElem_cons_zero, List.getElem_cons_succ]
      go_simp
      refine hK.out _ _ (DL.late (by kernel_rfl)) (fun _ => ?_)
      clear hK K
      try simp only [Act.put, List.setIfInBounds_toArray, List.set_cons_zero, List.set_cons_succ, List.getElem_toArray, List.getElem_cons_zero, List.getElem_cons_succ]
      obtain ⟨W2, hW2⟩ : ∃ W2, W2 = ((((((((W1.setCell ⟨g, off + jn * 8, none⟩ (.int .i64 x.k.kind)).setCell ⟨g, off + jn * 8 + 1, none⟩ (.int .i64 x.k.op)).setCell ⟨g, off + jn * 8 + 2, none⟩ (.int .i64 x.k.d)).setCell ⟨g, off + jn * 8 + 3, none⟩ (.int .i64 x.k.a)).setCell ⟨g, off + jn * 8 + 4, none⟩ (.int .i64 x.k.b)).setCell ⟨g, off + jn * 8 + 5, none⟩ (.int .i32 x.k.num)).setCell ⟨g, off + jn * 8 + 6, none⟩ (.string x.k.name)).setCell ⟨g, off + jn * 8 + 7, none⟩ (.slice x.A x.k.args.length x.c)) := ⟨_, rfl⟩
      rw [← hW2]
      have hR2 := HND.out W1 W2 HR1.out HC1.out hW2
      have HR2 := Lib.hid hR2
      clear hW2 hR2 hf1 s0 s1 s2 s3 s4 s5 s6 s7
      refine wpAnyT_done (by kernel_rfl) ?_ _
      -- END region 3
      clear HST HND HR1 HC1
      go_wp2_with fail
      go_roundw
      case rel =>
        refine ⟨k + 1, jn - 1, (ys.set k y).set jn x, by omega, by simp, by congr 1; omega, fun p hp' => ?_, by simp [HY.out.2], HR2.out.1, HR2.out.2⟩
        have hb := HY.out.1
        have hk1 := hb k hkn
        have hj1 := hb jn hjn
        rw [HXY.out.1, if_neg (by omega)] at hk1
        rw [HXY.out.2, if_neg (by omega)] at hj1
        simp only [List.getElem?_set, List.length_set, HY.out.2]
        by_cases e1 : jn = p
        · subst e1
          rw [if_pos rfl, if_pos hjn, if_pos (.inr (by omega)), show n - 1 - jn = k from by omega]; exact hk1
        · rw [if_neg e1]
          by_cases e2 : k = p
          · subst e2
            rw [if_pos rfl, if_pos hkn, if_pos (.inl (by omega)), show n - 1 - k = jn from by omega]; exact hj1
          · rw [if_neg e2, hb p hp']
            by_cases e3 : p < k ∨ n ≤ p + k
            · rw [if_pos e3, if_pos (by omega)]
            · rw [if_neg e3, if_neg (by omega)]
      case measure => simp [intOf]; omega
    · go_wp2_with fail
      go_end0
      have hr : ys = xs.reverse := by
        apply List.ext_getElem?
        intro p
        by_cases hp' : p < n
        · rw [HY.out.1 p hp', List.getElem?_reverse (by rw [← HN.out]; exact hp'), ← HN.out]
          by_cases e : p < k ∨ n ≤ p + k
          · rw [if_pos e]
          · rw [if_neg e]; congr 1; omega
        · rw [List.getElem?_eq_none (by rw [HY.out.2]; omega), List.getElem?_eq_none (by rw [List.length_reverse, ← HN.out]; omega)]
      rw [← hr]
      exact ⟨⟨_, rfl⟩, HR.out, HC.out⟩
end Go.Proofs.Ytlniohgnkihefaa
namespace Go.Proofs.Ytlniohgnkihefaa
open Go.RowKit
theorem step_make_row {P : Program} (w : World) {ops : Array Oper} {o : Oper} {a : Act} {K : Act → World → Prop} {Q : Exit → Act → World → Prop} {E : Prop}
    (hg : o.guard = none) (l c : Operand) (t : TypeId) (hop : o.op = Op.makeSlice t l c)
    (base : Nat) (e : TypeId) (z : Value) (size bytes : Nat) (h1 : P.underlying t = some (.slice e)) (hinfo : (P.info? e).map (fun i => (i.zero, i.size, i.bytes)) = some (some z, size, bytes))
    (kl kc : IntKind) (L C : Int) (n : Nat) (hl : a.eval l = .int kl L) (hc : a.eval c = .int kc C) (hL : L = (n : Int)) (hC : C = (n : Int)) (b2 : bytes * n ≤ 281474976710656) (b3 : n ≤ maxLen) (b4 : base ≤ w.heap.size)
    (hK : ∀ w', w'.ownsRow base e size (.slice (some ⟨w.heap.size, 0, none⟩) n n) n (madeCells z.cells (n * size)).toList → w.grownBy w' none → K (a.put o.dst (.slice (some ⟨w.heap.size, 0, none⟩) n n)) w') :
    if Region.wanted o (yielded ops a.tmps) = true then Oper.wp P o a w K Q else E := by
  have hw : Region.wanted o (yielded ops a.tmps) = true := by simp [Region.wanted, hg]
  rw [if_pos hw]
  obtain ⟨i0, hi, hz0, hz1, hz2⟩ := info_parts hinfo
  obtain ⟨w', hrun, r1, r2⟩ := run_make_full (P := P) w base t e i0 z size h1 hi hz0 hz1 kl kc n (by rw [hz2]; exact b2) b3 b4
  subst hL
  subst hC
  unfold Oper.wp
  simp [execOp, hop, hl, hc, hrun, Result.andThen]
  exact hK w' r1 r2
end Go.Proofs.Ytlniohgnkihefaa
namespace Go.Proofs.Ytlniohgnkihefaa
open Go.RowKit

theorem row_block {W : World} {e size n : Nat} {v : Value} {r : Option Nat} {xs : List Value} (h : RowAt W e size v r n xs) : r = v.ownBlock := by
  rcases h.2 with ⟨rfl, rfl, _⟩ | ⟨g, off, cap, cur, rfl, rfl, _⟩ <;> rfl
/-- What a round must keep. -/
structure KS (w : World) (Bn : Nat) (W W' : World) : Prop where
  size : W.heap.size ≤ W'.heap.size
  other : ∀ (k : Nat) (o : Obj), W.heap[k]? = some o → o.isCells = false → W'.heap[k]? = some o
  box : ∀ v, Boxed W Bn 43 v → Boxed W' Bn 43 v
  old : ∀ k, k < w.heap.size → W'.heap[k]? = W.heap[k]?
theorem KS.refl (w : World) (Bn : Nat) (W : World) : KS w Bn W W := ⟨Nat.le_refl _, fun _ _ h _ => h, fun _ h => h, fun _ _ => rfl⟩
theorem KS.trans {w A B C : World} {Bn : Nat} (h : KS w Bn A B) (k : KS w Bn B C) : KS w Bn A C := ⟨Nat.le_trans h.size k.size, fun i o hi ho => k.other i o (h.other i o hi ho) ho, fun v hv => k.box v (h.box v hv), fun i hi => (k.old i hi).trans (h.old i hi)⟩
theorem KS.of_chg {w W W' : World} {Bn : Nat} {S : Nat → Prop} (h : Chg S W W') (hb : Below w.heap.size w W) (hS : ∀ k, S k → k ≠ Bn ∧ w.heap.size ≤ k ∧ ∃ c t f, W.heap[k]? = some (.cells c t f)) : KS w Bn W W' :=
  ⟨h.size, fun k o hk ho => h.heap hk (fun hs => by obtain ⟨_, _, c, t, f, e⟩ := hS k hs; rw [e] at hk; cases hk; cases ho), fun v hv => h.heap hv fun hs => (hS _ hs).1 rfl, fun k hk => h.block k (Nat.lt_of_lt_of_le hk hb.size) fun hs => by have := (hS k hs).2.1; omega⟩
theorem KS.of_below {w W W' : World} {Bn : Nat} (h : Below W.heap.size W W') (hb : Below w.heap.size w W) : KS w Bn W W' := KS.of_chg (S := fun _ => False) (Chg.of_below h _) hb fun _ h => h.elim
theorem KS.kpw {w W W' : World} {Bn : Nat} {v : Value} {A : Option Addr} (h : KS w Bn W W') (hB : Boxed W Bn 43 v) (hA : ∀ g off, A = some ⟨g, off, none⟩ → g < w.heap.size) : KpW Bn A W W' :=
  ⟨(show W'.heap[Bn]? = _ from h.box v hB).trans (Eq.symm hB), fun g off e => h.old g (hA g off e)⟩
theorem KS.from {w W W' : World} {Bn : Nat} (h : KS w Bn W W') (B : Nat) : KeepsFrom B W W' := ⟨h.size, fun k o _ hk ho => h.other k o hk ho⟩
section
variable {w W W' : World} {q2 q6 q7 q8 s Bn : Nat} {x : BlkQ} {st : Sw} {v : Value} {r rr : Option Nat}
theorem SwI.ks_inbox (h : SwI w q2 q6 q7 q8 s x st v r rr W) {q : Nat} {c : Array Value} {f : Nat × Nat} (hq : W.heap[q]? = some (.cells c 48 f)) (hN : w.heap.size ≤ q) {v2 : Value} (hB : Boxed W Bn 43 v2) (j : Nat) (u : Value) : KS w Bn W (W.setCell ⟨q, j, none⟩ u) :=
  KS.of_chg (Chg.store W q j u) h.below fun k e => by
    rw [e]
    refine ⟨fun e => ?_, hN, _, _, _, hq⟩
    unfold Boxed at hB
    rw [← e, hq] at hB; cases hB
theorem SwI.ks_turned (h : SwI w q2 q6 q7 q8 s x st v r rr W) {v2 : Value} (hB : Boxed W Bn 43 v2) (u : Value) : KS w Bn W (W.setCell ⟨q8, 0, none⟩ u) :=
  KS.of_chg (Chg.store W q8 0 u) h.below fun k e => by
    rw [e]
    refine ⟨fun e => ?_, h.low.1.2.2.2.1, _, _, _, h.b8⟩
    have h8 := h.b8
    unfold Boxed at hB h8
    rw [← e, h8] at hB; cases hB
theorem SwI.ks_grow (h : SwI w q2 q6 q7 q8 s x st v r rr W) {ws ws0 : List Nat} {r' : Option Nat} (g : GrowAt W s r ws0 W' r' ws) {v2 : Value} (hB : Boxed W Bn 43 v2) : KS w Bn W W' :=
  KS.of_chg g.chg h.below fun k e => by
    obtain ⟨ws1, hb, _⟩ := h.set
    obtain ⟨u, g1, g2⟩ := hb.ex
    refine ⟨fun e2 => h.bits (by rw [e2]; exact hB) (by decide) (by decide) e, ?_, ?_⟩
    · rcases e with rfl | e
      · exact h.low.1.2.2.2.2
      · exact h.low.2.1 k e.symm
    · rcases e with rfl | e
      · exact ⟨_, _, _, g1⟩
      · rcases g2.2 with ⟨_, e2, _⟩ | ⟨g', off, cap, cur, _, e2, hg', _⟩
        · rw [e2] at e; cases e
        · rw [e2] at e; cases e; exact ⟨_, _, _, hg'⟩
theorem SwI.ks_push (h : SwI w q2 q6 q7 q8 s x st v r rr W) {v' : Value} (hC : Chg (fun k => some k = rr) W W') {v2 : Value} (hB : Boxed W Bn 43 v2) (hne : q7 ≠ Bn) : KS w Bn W (W'.setCell ⟨q7, 0, none⟩ v') := by
  have hS := Chg.store W' q7 0 v'
  refine KS.of_chg (S := fun k => some k = rr ∨ k = q7) ((hC.mono fun _ _ e => .inl e).trans hS fun _ _ e => .inr e) h.below fun k e => ?_
  rcases e with e | rfl
  · obtain ⟨xs, _, hr, _⟩ := h.row
    rcases hr.2 with ⟨_, e2, _⟩ | ⟨g', off, cap, cur, _, e2, hg', _⟩
    · rw [e2] at e; cases e
    · rw [e2] at e; cases e
      refine ⟨fun e3 => ?_, h.low.2.2 _ e2, _, _, _, hg'⟩
      have hB' := hB
      unfold Boxed at hB'
      rw [← e3, hg'] at hB'; cases hB'
  · exact ⟨hne, h.low.1.2.2.1, _, _, _, h.b7⟩
end
/-- Numbers of an instruction: in a block of numbers, or in memory that was there. -/
def ArgM (W : World) (B : Nat) (A : Option Addr) (zs : List Int) : Prop := IntsIn W A zs ∨ (ReadsAt W A (ints zs) ∧ (0 < zs.length → ∀ g off, A = some ⟨g, off, none⟩ → g < B))
theorem ArgM.reads {W : World} {B : Nat} {A : Option Addr} {zs : List Int} (h : ArgM W B A zs) : ReadsAt W A (ints zs) := by
  rcases h with h | h
  · exact h.reads
  · exact h.1
/-- Blocks below B, of numbers, of instructions (and of blocks, where b) lie as they lay. -/
structure KO (B : Nat) (b : Bool) (W W' : World) : Prop where
  size : W.heap.size ≤ W'.heap.size
  old : ∀ k, k < B → W'.heap[k]? = W.heap[k]?
  typ : ∀ (k : Nat) (c : Array Value) (t : Nat) (f : Nat × Nat), W.heap[k]? = some (.cells c t f) → t = 3 ∨ t = 48 ∨ (b = true ∧ t = 45) → W'.heap[k]? = some (.cells c t f)
theorem KO.of_below {B : Nat} {b : Bool} {W W' : World} (h : Below W.heap.size W W') (hB : B ≤ W.heap.size) : KO B b W W' := ⟨h.size, fun k hk => h.block k (by omega), fun k c t f hk _ => (h.block k (lt_of_heap hk)).trans hk⟩
theorem KO.of_chg {B : Nat} {b : Bool} {W W' : World} {S : Nat → Prop} (h : Chg S W W') (hB : B ≤ W.heap.size) (hS : ∀ k, S k → B ≤ k ∧ ∀ c t f, W.heap[k]? = some (.cells c t f) → t ≠ 3 ∧ t ≠ 48 ∧ (b = true → t ≠ 45)) : KO B b W W' :=
  ⟨h.size, fun k hk => h.block k (by omega) fun hs => by have := (hS k hs).1; omega, fun k c t f hk ht => h.heap hk fun hs => by
    obtain ⟨h1, h2, h3⟩ := (hS k hs).2 c t f hk
    rcases ht with e | e | ⟨e1, e⟩
    · exact h1 e
    · exact h2 e
    · exact h3 e1 e⟩
theorem IntsIn.ko {B : Nat} {b : Bool} {W W' : World} {A : Option Addr} {zs : List Int} (h : IntsIn W A zs) (k : KO B b W W') : IntsIn W' A zs := h.ki fun i c f hi => k.typ i c _ f hi (.inl rfl)
theorem ArgM.ko {B : Nat} {b : Bool} {W W' : World} {A : Option Addr} {zs : List Int} (h : ArgM W B A zs) (k : KO B b W W') : ArgM W' B A zs := by
  rcases h with h | ⟨h1, h2⟩
  · exact .inl (h.ko k)
  · refine .inr ⟨fun hp => ?_, h2⟩
    obtain ⟨g, off, hA, hg, hc⟩ := h1 hp
    refine ⟨g, off, hA, Nat.lt_of_lt_of_le hg k.size, fun j u hu => ?_⟩
    have hlt := h2 (by simpa [ints] using hp) g off hA
    have := hc j u hu
    unfold World.cell? at this ⊢
    rw [k.old g hlt]; exact this
def InsIn (W : World) (B : Nat) (A : Option Addr) (l : List Ins) : Prop := ∃ xs : List InsQ, xs.map InsQ.k = l ∧
  (0 < xs.length → ∃ g off c f, A = some ⟨g, off, none⟩ ∧ W.heap[g]? = some (.cells c 48 f) ∧ ∀ i (h : i < xs.length) j u, (insQ xs[i])[j]? = some u → c[off + i * 8 + j]? = some u) ∧ ∀ y ∈ xs, ArgM W B y.A y.k.args
theorem InsIn.mem {W : World} {B : Nat} {A : Option Addr} {l : List Ins} (h : InsIn W B A l) : InsMem W A l := by
  obtain ⟨xs, h1, h2, h3⟩ := h
  refine ⟨xs, h1, fun hp => ?_, fun y hy => (h3 y hy).reads⟩
  obtain ⟨g, off, c, f, hA, hg, hc⟩ := h2 hp
  exact ⟨g, off, hA, lt_of_heap hg, fun i hi j v hv => by rw [cell_of_row _ _ _ _ _ _ hg]; exact hc i hi j v hv⟩
theorem InsIn.ko {B : Nat} {b : Bool} {W W' : World} {A : Option Addr} {l : List Ins} (h : InsIn W B A l) (k : KO B b W W') : InsIn W' B A l := by
  obtain ⟨xs, h1, h2, h3⟩ := h
  refine ⟨xs, h1, fun hp => ?_, fun y hy => (h3 y hy).ko k⟩
  obtain ⟨g, off, c, f, hA, hg, hc⟩ := h2 hp
  exact ⟨g, off, c, f, hA, k.typ g c _ f hg (.inr (.inl rfl)), hc⟩
theorem insIn_of_row {W : World} {B : Nat} {A : Option Addr} {c n : Nat} {r : Option Nat} {xs : List InsQ} (h : RowAt W 48 8 (.slice A n c) r n (insRowC xs)) (ha : ∀ y ∈ xs, ArgM W B y.A y.k.args) : InsIn W B A (xs.map InsQ.k) := by
  refine ⟨xs, rfl, fun hp => ?_, ha⟩
  have hn : xs.length = n := by have := h.1; rw [insRowC_len] at this; omega
  rcases h.2 with ⟨_, _, h0⟩ | ⟨g, off, cap, cur, hv, _, hg, h1, h2, h3, h4⟩
  · omega
  · injection hv with hA _ _
    refine ⟨g, off, cur, (0, 0), hA, hg, fun i hi j u hu => ?_⟩
    have := insRowC_at xs i hi j u hu
    rw [← h4, List.getElem?_take] at this
    split at this
    · rw [List.getElem?_drop] at this; rw [← Array.getElem?_toList, Nat.add_assoc]; exact this
    · cases this
def keysR {xs : List InsQ} (l : List (ElR xs)) : List Ins := (valsR l).map fun q => q.2.k
theorem keysR_snoc {xs : List InsQ} (l : List (ElR xs)) (x : ElR xs) : keysR (l ++ [x]) = keysR l ++ [x.1.2.k] := by unfold keysR; rw [valsR_snoc]; simp
theorem sw_cases (x : Ins) (S : Nat → Bool) : (pureP x = true ∧ hasP S x.d = false) ∨ (pureP x = true ∧ hasP S x.d = true ∧ x.kind = 2 ∧ x.a = x.d) ∨ (pureP x = true ∧ hasP S x.d = true ∧ x.kind = 2 ∧ x.a ≠ x.d) ∨ (pureP x = true ∧ hasP S x.d = true ∧ x.kind ≠ 2 ∧ x.kind ≠ 7) ∨
    (pureP x = false ∧ x.kind = 7 ∧ 0 ≤ x.d ∧ hasP S x.d = false) ∨ (pureP x = false ∧ x.kind = 7 ∧ 0 ≤ x.d ∧ hasP S x.d = true) ∨ (pureP x = false ∧ x.kind = 7 ∧ x.d < 0 ∧ hasP S x.d = false) ∨ (pureP x = false ∧ x.kind ≠ 7) := by
  have h7 : x.kind = 7 → pureP x = false := fun e => by unfold pureP; simp [e]
  have hneg : x.d < 0 → hasP S x.d = false := fun h => by unfold hasP; rw [decide_eq_false (by omega)]; rfl
  cases hp : pureP x with
  | true =>
    have k7 : x.kind ≠ 7 := fun e => by rw [h7 e] at hp; cases hp
    cases hh : hasP S x.d with
    | false => exact .inl ⟨rfl, rfl⟩
    | true =>
      by_cases k2 : x.kind = 2
      · by_cases ha : x.a = x.d
        · exact .inr (.inl ⟨rfl, rfl, k2, ha⟩)
        · exact .inr (.inr (.inl ⟨rfl, rfl, k2, ha⟩))
      · exact .inr (.inr (.inr (.inl ⟨rfl, rfl, k2, k7⟩)))
  | false =>
    by_cases k7 : x.kind = 7
    · by_cases hd : 0 ≤ x.d
      · cases hh : hasP S x.d with
        | false => exact .inr (.inr (.inr (.inr (.inl ⟨rfl, k7, hd, rfl⟩))))
        | true => exact .inr (.inr (.inr (.inr (.inr (.inl ⟨rfl, k7, hd, rfl⟩)))))
      · exact .inr (.inr (.inr (.inr (.inr (.inr (.inl ⟨rfl, k7, by omega, hneg (by omega)⟩))))))
    · exact .inr (.inr (.inr (.inr (.inr (.inr (.inr ⟨rfl, k7⟩))))))
theorem sw_goes {st : Sw} {x : Ins} (h : goesP x st.S = true) : swStep st x = { st with t := true } := by unfold swStep; rw [if_pos h]
theorem sw_stays {st : Sw} {x : Ins} (h : goesP x st.S = false) (h2 : lessP x st.S = false) : swStep st x = ⟨aheadP x st.S, st.left ++ [x], st.t⟩ := by
  unfold swStep
  rw [if_neg (by rw [h]; simp), cut_not h2, h2, Bool.or_false]
theorem sw_less {st : Sw} {x : Ins} (h : goesP x st.S = false) (h2 : lessP x st.S = true) : swStep st x = ⟨aheadP { x with d := -1 } st.S, st.left ++ [{ x with d := -1 }], true⟩ := by
  unfold swStep cutP
  rw [if_neg (by rw [h]; simp), if_pos h2, h2, Bool.or_true]
theorem box5 {W : World} {q t : Nat} {a0 a1 a2 a3 a4 b0 b1 b2 b3 b4 : Value} (h : W.heap[q]? = some (.cells #[a0, a1, a2, a3, a4] t (0, 0))) :
    (((((W.setCell ⟨q, 0, none⟩ b0).setCell ⟨q, 1, none⟩ b1).setCell ⟨q, 2, none⟩ b2).setCell ⟨q, 3, none⟩ b3).setCell ⟨q, 4, none⟩ b4).heap[q]? = some (.cells #[b0, b1, b2, b3, b4] t (0, 0)) := by
  have h0 := heap_setCell_same W q 0 _ t b0 h
  have h1 := heap_setCell_same _ q 1 _ t b1 h0
  have h2 := heap_setCell_same _ q 2 _ t b2 h1
  have h3 := heap_setCell_same _ q 3 _ t b3 h2
  have h4 := heap_setCell_same _ q 4 _ t b4 h3
  exact h4
theorem chg5 {W : World} {q : Nat} {b0 b1 b2 b3 b4 : Value} : Chg (fun k => k = q) W (((((W.setCell ⟨q, 0, none⟩ b0).setCell ⟨q, 1, none⟩ b1).setCell ⟨q, 2, none⟩ b2).setCell ⟨q, 3, none⟩ b3).setCell ⟨q, 4, none⟩ b4) := by
  have h := Chg.refl (fun k => k = q) W
  replace h := h.setCell ⟨q, 0, none⟩ (fun _ => rfl) b0
  replace h := h.setCell ⟨q, 1, none⟩ (fun _ => rfl) b1
  replace h := h.setCell ⟨q, 2, none⟩ (fun _ => rfl) b2
  replace h := h.setCell ⟨q, 3, none⟩ (fun _ => rfl) b3
  replace h := h.setCell ⟨q, 4, none⟩ (fun _ => rfl) b4
  exact h
def SelS (q2 q8 : Nat) (v : Value) (kind ka tgt els : Int) (t : Bool) (Y : World) : Prop :=
  (Y.cell? ⟨q2, 0, none⟩ = some v ∧ Y.cell? ⟨q2, 1, none⟩ = some (.int .i64 kind) ∧ Y.cell? ⟨q2, 2, none⟩ = some (.int .i64 ka) ∧ Y.cell? ⟨q2, 3, none⟩ = some (.int .i64 tgt) ∧ Y.cell? ⟨q2, 4, none⟩ = some (.int .i64 els)) ∧ Y.cell? ⟨q8, 0, none⟩ = some (.bool t)
theorem selS_chg {q2 q8 q : Nat} {v : Value} {kind ka tgt els : Int} {t : Bool} {Y Y' : World} (h : SelS q2 q8 v kind ka tgt els t Y) (hc : Chg (fun k => k = q) Y Y') (h2 : q2 ≠ q) (h8 : q8 ≠ q) : SelS q2 q8 v kind ka tgt els t Y' :=
  ⟨⟨hc.cell h.1.1 h2, hc.cell h.1.2.1 h2, hc.cell h.1.2.2.1 h2, hc.cell h.1.2.2.2.1 h2, hc.cell h.1.2.2.2.2 h2⟩, hc.cell h.2 h8⟩
theorem chg_put (W : World) (D : Nat) (o : Obj) : Chg (fun k => k = D) W (W.putObj D o) := ⟨rfl, rfl, rfl, by simp, fun k _ hk => World.putObj_heap_other hk⟩
theorem revI_keys (xs : List InsQ) : (revI xs).map (fun q => q.2.k) = (xs.map InsQ.k).reverse := by
  unfold revI
  rw [List.map_reverse]
  congr 1
  apply List.ext_getElem (by simp)
  intro i h1 h2
  simp
end Go.Proofs.Ytlniohgnkihefaa
