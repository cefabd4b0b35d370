/- Join of two sets in memory. -/
import Derived.Test.YtlniohgnkihefaaBitsC
namespace Go.Proofs.Ytlniohgnkihefaa
open Go.RowKit

/-- Is there a number below 64 k in the second set that is not in the first? -/
def newTo (ws wc : List Nat) (k : Nat) : Bool := (List.range (64 * k)).any fun n => memW wc n && !memW ws n
theorem newTo_succ (ws wc : List Nat) (k : Nat) : newTo ws wc (k + 1) = (newTo ws wc k || (List.range 64).any fun j => memW wc (64 * k + j) && !memW ws (64 * k + j)) := by
  unfold newTo
  rw [Nat.mul_add, Nat.mul_one, List.range_add, List.any_append, List.any_map]
  rfl
theorem word_any (x y : Nat) (hx : x < big64) (hy : y < big64) : (!(x &&& (big64 - 1 - y) == 0)) = (List.range 64).any fun j => x.testBit j && !y.testBit j := by
  rw [Bool.eq_iff_iff]
  simp only [Bool.not_eq_true', beq_eq_false_iff_ne, ne_eq, List.any_eq_true, List.mem_range, Bool.and_eq_true]
  rw [word_zero _ (and_lt64 hx)]
  constructor
  · intro h
    apply Classical.byContradiction
    intro hn
    apply h
    intro i hi
    rw [Nat.testBit_and, testBit_not64 _ _ hy hi]
    cases e1 : x.testBit i with
    | false => rfl
    | true =>
      cases e2 : y.testBit i with
      | true => rfl
      | false => exact absurd ⟨i, hi, e1, by rw [e2]⟩ hn
  · rintro ⟨i, hi, h1, h2⟩ h
    have := h i hi
    rw [Nat.testBit_and, testBit_not64 _ _ hy hi, h1] at this
    simp at this h2
    rw [h2] at this
    cases this
theorem memW_at (ws : List Nat) (k j : Nat) (hj : j < 64) : memW ws (64 * k + j) = (ws.getD k 0).testBit j := by
  unfold memW
  rw [show (64 * k + j) / 64 = k from by omega, show (64 * k + j) % 64 = j from by omega]
theorem newTo_step (ws wc : List Nat) (k : Nat) (h1 : ∀ x ∈ ws, x < big64) (h2 : ∀ x ∈ wc, x < big64) :
    newTo ws wc (k + 1) = (newTo ws wc k || !(wc.getD k 0 &&& (big64 - 1 - ws.getD k 0) == 0)) := by
  rw [newTo_succ, word_any _ _ (getD_lt h2 k) (getD_lt h1 k)]
  congr 1
  rw [Bool.eq_iff_iff]
  simp only [List.any_eq_true, List.mem_range]
  constructor
  · rintro ⟨j, hj, h⟩; exact ⟨j, hj, by rw [memW_at _ _ _ hj, memW_at _ _ _ hj] at h; exact h⟩
  · rintro ⟨j, hj, h⟩; exact ⟨j, hj, by rw [memW_at _ _ _ hj, memW_at _ _ _ hj]; exact h⟩

/-- What the round of Join leaves. -/
theorem memW_or (ws : List Nat) (k x n : Nat) (hi : k < ws.length) : memW (ws.set k (ws.getD k 0 ||| x)) n = (memW ws n || (decide (n / 64 = k) && x.testBit (n % 64))) := by
  rw [memW_set _ _ _ _ hi]
  by_cases h : n / 64 = k
  · rw [if_pos h, Nat.testBit_or]
    unfold memW
    rw [h]
    simp
  · rw [if_neg h]; simp [h]
def upTo (ws wc : List Nat) (k n : Nat) : Bool := memW ws n || (decide (n / 64 < k) && memW wc n)
theorem upTo_step (ws wc : List Nat) (k n : Nat) : (upTo ws wc k n || (decide (n / 64 = k) && (wc.getD k 0).testBit (n % 64))) = upTo ws wc (k + 1) n := by
  unfold upTo
  by_cases h : n / 64 = k
  · have : memW wc n = (wc.getD k 0).testBit (n % 64) := by unfold memW; rw [h]
    rw [this]
    simp [h]
  · have e : decide (n / 64 < k + 1) = decide (n / 64 < k) := by rw [Bool.eq_iff_iff]; simp; omega
    simp [h, e]
theorem upTo_all (ws wc : List Nat) (n : Nat) : upTo ws wc wc.length n = (memW ws n || memW wc n) := by
  unfold upTo
  by_cases h : n / 64 < wc.length
  · simp [h]
  · rw [memW_none wc n (by omega)]; simp
theorem upTo_at (ws wc : List Nat) (k j : Nat) (hj : j < 64) : upTo ws wc k (64 * k + j) = memW ws (64 * k + j) := by
  unfold upTo
  rw [show (64 * k + j) / 64 = k from by omega]; simp
/-- The words at a place that has not been come to are the same. -/
theorem word_eq (ws ws1 wc : List Nat) (k : Nat) (h : ∀ n, memW ws1 n = upTo ws wc k n) (h1 : ∀ x ∈ ws, x < big64) (h2 : ∀ x ∈ ws1, x < big64) : ws1.getD k 0 = ws.getD k 0 := by
  apply Nat.eq_of_testBit_eq
  intro j
  by_cases hj : j < 64
  · rw [← memW_at ws1 k j hj, ← memW_at ws k j hj, h, upTo_at _ _ _ _ hj]
  · have a1 := getD_lt h1 k
    have a2 := getD_lt h2 k
    rw [big64_eq] at a1 a2
    rw [Nat.testBit_lt_two_pow (Nat.lt_of_lt_of_le a1 (Nat.pow_le_pow_right (by omega) (by omega))), Nat.testBit_lt_two_pow (Nat.lt_of_lt_of_le a2 (Nat.pow_le_pow_right (by omega) (by omega)))]

theorem andNot_bits (x y : Nat) (hx : x < big64) (hy : y < big64) : bits BinOp.andNot .u64 (x : Int) (y : Int) = ((x &&& (big64 - 1 - y) : Nat) : Int) := u64_andNot_nat x y hx hy
theorem or_bits (x y : Nat) (hx : x < big64) (hy : y < big64) : bits BinOp.or .u64 (x : Int) (y : Int) = ((x ||| y : Nat) : Int) := u64_or_nat x y hx hy

theorem cast_ne (n : Nat) : ((n : Int) != 0) = !(n == 0) := by cases n <;> simp <;> omega

set_option maxRecDepth 100000 in
set_option maxHeartbeats 4000000 in
theorem join_any {w : World} {b c : Nat} {r rc : Option Nat} {ws wc : List Nat} (h : BitsAt w b r ws) (hc : BitsAt w c rc wc) (hd : ∀ k, rc = some k → r ≠ some k) :
    Calls Try.prog 39 #[.pointer (some ⟨b, 0, none⟩), .pointer (some ⟨c, 0, none⟩)] w fun e w' => e = .returned (.bool (newTo ws wc wc.length)) ∧
      ∃ r' ws', GrowAt w b r ws w' r' ws' ∧ ∀ n, memW ws' n = (memW ws n || memW wc n) := by
  obtain ⟨vc, hc1, hc2⟩ := hc.ex
  obtain ⟨Ac, cc, rfl, _⟩ := hc2.shape
  have hcc := cell_of_one hc1
  have hrd := hc2.reads
  have hll := hc.len
  have hrb : ∀ k, rc = some k → k < w.heap.size ∧ ¬ FootB b r k := by
    intro k hk
    refine ⟨hc.rlt k hk, ?_⟩
    rintro (e | e)
    · obtain ⟨v, h1, _⟩ := h.ex
      exact row_ne_of_type hc2 h1 (by decide) (by rw [hk, e])
    · exact hd k hk e.symm
  have hAc : ∀ g off, 0 < wc.length → Ac = some ⟨g, off, none⟩ → rc = some g := by
    intro g off hp hA
    obtain ⟨g', off', cap', hv, hr, _⟩ := hc2.form hp
    injection hv with ha _ _
    rw [hA] at ha; cases ha; exact hr
  have H := Lib.hid h
  have HCL := Lib.hid hc.lt
  have HRD := Lib.hid hrd
  have HRB := Lib.hid hrb
  have HAC := Lib.hid hAc
  clear h hc hd hrd hc2 hrb hAc hc1
  go_enter Try.func39, Try.ntmps39
  go_wp2_with (go_at_call 55; refine (words_cell _ _ _ hcc).mono ?_; rintro e w' ⟨rfl, rfl⟩)
  go_loopw [5, 13] (fun t i wr => ∃ k r1 ws1, k ≤ wc.length ∧ i = .int .i64 (k : Nat) ∧ t = .bool (newTo ws wc k) ∧ GrowAt w b r ws wr r1 ws1 ∧ ∀ n, memW ws1 n = upTo ws wc k n) (fun _ i _ => wc.length - (intOf i).toNat)
  case atStart => exact ⟨0, r, ws, Nat.zero_le _, rfl, rfl, GrowAt.refl H.out, fun n => by simp [upTo]⟩
  case round =>
    obtain ⟨k, r1, ws1, hk, rfl, rfl, hg, hm⟩ := hrel
    by_cases hlt : k < wc.length
    · obtain ⟨g, off, rfl, hgl, hcl⟩ := HRD.out (by simp [cells64]; omega)
      have hrg := HAC.out g off (by omega) rfl
      have hx := hg.chg.cell (p := ⟨g, off + k, none⟩) (hcl k _ (cells64_at wc k hlt)) (HRB.out g hrg).2
      obtain ⟨x, hxe⟩ : ∃ x, x = wc.getD k 0 := ⟨_, rfl⟩
      rw [← hxe] at hx
      obtain ⟨t0, ht0⟩ : ∃ t0, t0 = newTo ws wc k := ⟨_, rfl⟩
      rw [← ht0]
      have HX := Lib.hid hxe
      have HT := Lib.hid ht0
      have HG := Lib.hid hg
      have HM := Lib.hid hm
      clear hcl hxe ht0 hg hm hrg
      have hk' : (k : Int) < 1024 := by omega
      go_wp2_with fail
      obtain ⟨wo, rfl⟩ : ∃ wo : World, wo = wr := ⟨_, rfl⟩
      go_loopw [18] (fun _ wq => ∃ r2 m, GrowAt wo b r1 ws1 wq r2 (ws1 ++ List.replicate m 0) ∧ (m = 0 ∨ ws1.length + m ≤ k + 1)) (fun _ wq => k + 1 - lenAt wq b)
      case atStart => exact ⟨r1, 0, by simpa using GrowAt.refl HG.out.at_, .inl rfl⟩
      case round =>
        obtain ⟨r2, m, hg2, hm2⟩ := hrel
        obtain ⟨ws2, hws⟩ : ∃ ws2, ws2 = ws1 ++ List.replicate m 0 := ⟨_, rfl⟩
        rw [← hws] at hg2
        have hl2 : ws2.length = ws1.length + m := by rw [hws]; simp
        have HW := Lib.hid hws
        have HL2 := Lib.hid hl2
        clear hws
        obtain ⟨v, hb, hR⟩ := hg2.at_.ex
        obtain ⟨A, c', rfl, hmx⟩ := hR.shape
        have hcb := cell_of_one hb
        have hfz := free_of_one hb
        have hle := hg2.at_.len
        have hlen := lenAt_of hcb
        have HGR := Lib.hid hg2
        have HLN := Lib.hid hlen
        have HM2 := Lib.hid hm2
        clear hg2 hlen hm2 hl2 hx
        by_cases ht : ws2.length ≤ k
        · go_wp2_with (at_builtin; refine wpList_append_one _ rfl _ _ 79 101 (.int .u64 0) 8 rfl Try.underlying79 info_u64 rfl hR _ rfl rfl rfl (by omega) (by unfold maxLen; omega) ?_; intro v' r' w' hR' hC hN; obtain ⟨A', cq, rfl, _⟩ := hR'.shape; obtain ⟨hb', hG⟩ := GrowAt.appended HGR.out.at_ hb hR' hC hN (by omega); have hc' := cell_of_one hb'; have hfz' := free_of_one hb')
          go_roundw
          case rel =>
            refine ⟨r', m + 1, ?_, .inr (by have := HL2.out; omega)⟩
            have e : ws1 ++ List.replicate (m + 1) 0 = ws2 ++ [0] := by rw [HW.out, List.replicate_succ', List.append_assoc]
            rw [e]
            exact HGR.out.trans hG
          case measure =>
            have hcs := cell_of_one (one_setCell (u := .slice A' (ws2.length + 1) cq) hb')
            rw [HLN.out, lenAt_of hcs]
            omega
        · have hg' : k < ws2.length := by omega
          clear hmx ht
          obtain ⟨gb, offb, cb', hv, _, _, _, _, hcl, hfz2⟩ := hR.form (by omega)
          injection hv with hA _ hcc'
          subst hA; subst hcc'
          have hy := hcl k _ (cells64_at ws2 k hg')
          have hfx := hfz2 (offb + k)
          clear hcl hfz2
          obtain ⟨y, hye⟩ : ∃ y, y = ws2.getD k 0 := ⟨_, rfl⟩
          rw [← hye] at hy
          have HY := Lib.hid hye
          clear hye
          have hxl : x < big64 := by rw [HX.out]; exact getD_lt HCL.out _
          have hyl : y < big64 := by rw [HY.out]; exact getD_lt HGR.out.at_.lt _
          have hmem : ∀ n, memW (ws2.set k (y ||| x)) n = upTo ws wc (k + 1) n := by
            intro n
            rw [HY.out, memW_or _ _ _ _ hg', HW.out, memW_zeros, HM.out, HX.out, upTo_step]
          have hyw : y = ws.getD k 0 := by
            rw [HY.out]
            exact word_eq ws ws2 wc k (fun n => by rw [HW.out, memW_zeros, HM.out]) H.out.lt HGR.out.at_.lt
          have hstep := newTo_step ws wc k H.out.lt HCL.out
          rw [← HX.out, ← hyw, ← HT.out] at hstep
          have hgrow := HG.out.trans (HGR.out.trans (GrowAt.set HGR.out.at_ hb k (y ||| x) hg' (or_lt64 hyl hxl)))
          rw [← or_bits _ _ hyl hxl] at hgrow
          have han := andNot_bits _ _ hxl hyl
          have HS := Lib.hid hstep
          have HGW := Lib.hid hgrow
          have HME := Lib.hid hmem
          have HAN := Lib.hid han
          clear hxl hyl hmem hyw hstep hgrow han
          cases t0 with
          | true =>
            go_wp2
            go_roundw
            case rel => exact ⟨k + 1, r2, _, by omega, by go_num, by rw [HS.out]; rfl, HGW.out, HME.out⟩
            case measure => simp [intOf]; omega
          | false =>
            go_wp2
            go_roundw
            case rel =>
              refine ⟨k + 1, r2, _, by omega, by go_num, ?_, HGW.out, HME.out⟩
              rw [HS.out, HAN.out]
              rw [Bool.false_or, cast_ne]
            case measure => simp [intOf]; omega
    · obtain rfl : k = wc.length := by omega
      go_wp2
      go_ret
      exact ⟨rfl, r1, ws1, hg, fun n => by rw [hm, upTo_all]⟩

theorem newTo_self (ws : List Nat) (k : Nat) : newTo ws ws k = false := by
  unfold newTo
  rw [List.any_eq_false]
  intro n _
  simp
theorem newTo_none (ws wc : List Nat) (h : ∀ n, memW wc n = false) (k : Nat) : newTo ws wc k = false := by
  unfold newTo
  rw [List.any_eq_false]
  intro n _
  simp [h]
theorem set_same (ws : List Nat) (k : Nat) (hk : k < ws.length) : ws.set k (ws.getD k 0) = ws := by
  apply List.ext_getElem?
  intro i
  rw [List.getElem?_set]
  by_cases h : k = i
  · subst h; simp [hk]
  · rw [if_neg h]

set_option maxRecDepth 100000 in
set_option maxHeartbeats 4000000 in
theorem join_self {w : World} {b : Nat} {r : Option Nat} {ws : List Nat} (h : BitsAt w b r ws) :
    Calls Try.prog 39 #[.pointer (some ⟨b, 0, none⟩), .pointer (some ⟨b, 0, none⟩)] w fun e w' => e = .returned (.bool false) ∧ GrowAt w b r ws w' r ws := by
  obtain ⟨v, hb0, hc2⟩ := h.ex
  obtain ⟨Ac, cc, rfl, _⟩ := hc2.shape
  have hcc := cell_of_one hb0
  have hll := h.len
  have H := Lib.hid h
  have HB0 := Lib.hid hb0
  have HR0 := Lib.hid hc2
  clear h hc2 hb0
  go_enter Try.func39, Try.ntmps39
  go_wp2_with (go_at_call 55; refine (words_cell _ _ _ hcc).mono ?_; rintro e w' ⟨rfl, rfl⟩)
  go_loopw [5, 13] (fun t i wr => ∃ k : Nat, k ≤ ws.length ∧ i = .int .i64 (k : Nat) ∧ t = .bool false ∧ GrowAt w b r ws wr r ws ∧ wr.heap[b]? = some (.cells #[.slice Ac ws.length cc] 81 (0, 0))) (fun _ i _ => ws.length - (intOf i).toNat)
  case atStart => exact ⟨0, Nat.zero_le _, rfl, rfl, GrowAt.refl H.out, HB0.out⟩
  case round =>
    obtain ⟨k, hk, rfl, rfl, hg, hb⟩ := hrel
    have hcb := cell_of_one hb
    have hfz := free_of_one hb
    by_cases hlt : k < ws.length
    · obtain ⟨v1, hb1, hR⟩ := hg.at_.ex
      have hv1 : v1 = .slice Ac ws.length cc := by rw [hb] at hb1; injection hb1 with e1; injection e1 with e1; injection e1 with e1; injection e1 with e1 _; exact e1.symm
      subst hv1
      obtain ⟨g, off, cap, hv, hrg, _, _, _, hcl, hfz2⟩ := hR.form (by omega)
      injection hv with hA _ hce
      subst hA; subst hce
      have hx := hcl k _ (cells64_at ws k hlt)
      have hfx := hfz2 (off + k)
      clear hcl hfz2
      obtain ⟨x, hxe⟩ : ∃ x, x = ws.getD k 0 := ⟨_, rfl⟩
      rw [← hxe] at hx
      have hxl : x < big64 := by rw [hxe]; exact getD_lt H.out.lt _
      have hgrow := hg.trans (GrowAt.set hg.at_ hb k (x ||| x) hlt (or_lt64 hxl hxl))
      rw [Nat.or_self, hxe, set_same ws k hlt, ← hxe] at hgrow
      have hor := or_bits _ _ hxl hxl
      rw [Nat.or_self] at hor
      have han := andNot_bits _ _ hxl hxl
      have hz : x &&& (big64 - 1 - x) = 0 := by
        rw [word_zero _ (and_lt64 hxl)]
        intro i hi
        rw [Nat.testBit_and, testBit_not64 _ _ hxl hi]; simp
      rw [hz] at han
      have hxa : ((bits BinOp.andNot IntKind.u64 (x : Int) (x : Int)) != 0) = false := by rw [han]; rfl
      have hne : r ≠ some b := H.out.ne
      have hgb : g ≠ b := fun e => hne (by rw [hrg, e])
      have hb2 : ∀ u, (wr.setCell ⟨g, off + k, none⟩ u).heap[b]? = some (.cells #[.slice (some ⟨g, off, none⟩) ws.length cc] 81 (0, 0)) := fun u => (Chg.store wr g (off + k) u).heap hb (fun e => hgb e.symm)
      have HX := Lib.hid hxe
      have HG := Lib.hid hg
      have HGW := Lib.hid hgrow
      have HOR := Lib.hid hor
      have HXA := Lib.hid hxa
      have HB2 := Lib.hid hb2
      have hk' : (k : Int) < 1024 := by omega
      clear hxe hg hgrow hor han hz hxa hxl hb2 hb1 hR hrg hgb
      go_wp2_with fail
      obtain ⟨wo, rfl⟩ : ∃ wo : World, wo = wr := ⟨_, rfl⟩
      refine wp_loop_rounds 1 ?_
      rw [rounds_succ]
      go_wp2
      go_roundw
      case rel =>
        refine ⟨k + 1, by omega, by go_num, ?_, ?_, HB2.out _⟩
        · rw [HXA.out]
        · rw [HOR.out]; exact HGW.out
      case measure => simp [intOf]; omega
    · obtain rfl : k = ws.length := by omega
      go_wp2
      go_ret
      exact ⟨rfl, hg⟩
theorem join_none {w : World} (b : Nat) :
    Calls Try.prog 39 #[.pointer (some ⟨b, 0, none⟩), .pointer none] w fun e w' => e = .returned (.bool false) ∧ w = w' := by
  go_enter Try.func39, Try.ntmps39
  go_wp2_with (go_at_call 55; refine (words_nil _).mono ?_; rintro e w' ⟨rfl, rfl⟩)
  refine wp_loop_rounds 1 ?_
  rw [rounds_succ]
  go_wp2
  go_ret
  exact ⟨rfl, rfl⟩
theorem join_nil {w : World} (p : Option Addr) :
    Calls Try.prog 39 #[.pointer none, .pointer p] w fun e w' => e = .returned (.bool false) ∧ w = w' := by
  go_enter Try.func39, Try.ntmps39
  go_wp2_with fail
  go_ret
  exact ⟨rfl, rfl⟩
end Go.Proofs.Ytlniohgnkihefaa
