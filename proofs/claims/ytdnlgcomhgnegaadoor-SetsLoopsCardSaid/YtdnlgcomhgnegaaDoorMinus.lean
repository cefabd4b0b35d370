/- Sets of numbers in memory: Clone, Same, Minus. -/
import Derived.Test.YtdnlgcomhgnegaaDoorBitsF
import Derived.Test.YtdnlgcomhgnegaaDoorBitsE
import Derived.Test.YtdnlgcomhgnegaaDoorTz
import Derived.BigQuiet
import Derived.Deep.QuietTactic
namespace Go.Proofs.YtdnlgcomhgnegaaDoor
open Go.RowKit

/-- What a set's words are, read alone. -/
theorem at_any (A : Option Addr) (c : Nat) (ws : List Nat) (k : Nat) (w : World) (hl : ws.length ≤ 1024) (hk : k < 9223372036854775807) (hr : ReadsAt w A (cells64 ws)) :
    Calls Tryd.prog 37 #[.slice A ws.length c, .int .i64 (k : Nat)] w fun e w' => e = .returned (.int .u64 ((ws.getD k 0 : Nat) : Int)) ∧ w = w' := by
  by_cases h : k < ws.length
  · obtain ⟨g, off, rfl, hg, hc⟩ := hr (by rw [cells64_length]; omega)
    have hx := hc k _ (cells64_at ws k h)
    obtain ⟨x, hxe⟩ : ∃ x, x = ws.getD k 0 := ⟨_, rfl⟩
    rw [← hxe] at hx ⊢
    clear hc hr hxe
    go_enter Tryd.func37, Tryd.ntmps37
    go_wp2_with fail
    go_ret
    exact ⟨rfl, rfl⟩
  · have h0 : ws.getD k 0 = 0 := by rw [List.getD_eq_getElem?_getD, List.getElem?_eq_none (by omega)]; rfl
    rw [h0]
    clear hr h0
    go_enter Tryd.func37, Tryd.ntmps37
    go_wp2_with fail
    go_ret
    exact ⟨rfl, rfl⟩

def sameTo (ws wc : List Nat) (k : Nat) : Bool := (List.range k).all fun i => ws.getD i 0 == wc.getD i 0
theorem sameTo_iff (ws wc : List Nat) (h1 : ∀ x ∈ ws, x < big64) (h2 : ∀ x ∈ wc, x < big64) : sameTo ws wc (max ws.length wc.length) = true ↔ ∀ n, memW ws n = memW wc n := by
  unfold sameTo
  rw [List.all_eq_true]
  constructor
  · intro h n
    unfold memW
    rcases Nat.lt_or_ge (n / 64) (max ws.length wc.length) with h3 | h3
    · rw [eq_of_beq (h (n / 64) (List.mem_range.2 h3))]
    · rw [List.getD_eq_getElem?_getD, List.getD_eq_getElem?_getD, List.getElem?_eq_none (by omega), List.getElem?_eq_none (by omega)]
  · intro h i _
    rw [beq_iff_eq]
    refine Nat.eq_of_testBit_eq fun j => ?_
    rcases Nat.lt_or_ge j 64 with h3 | h3
    · have := h (64 * i + j)
      unfold memW at this
      rw [show (64 * i + j) / 64 = i by omega, show (64 * i + j) % 64 = j by omega] at this
      exact this
    · have hb : ∀ x, x < big64 → x.testBit j = false := fun x hx => Nat.testBit_lt_two_pow (Nat.lt_of_lt_of_le hx (by rw [big64_eq]; exact Nat.pow_le_pow_right (by omega) h3))
      rw [hb _ (getD_lt h1 i), hb _ (getD_lt h2 i)]

set_option maxHeartbeats 1000000 in
set_option maxRecDepth 100000 in
theorem same_core {w : World} (p q : Option Addr) {A C : Option Addr} {ca cc : Nat} {ws wc : List Nat} (hlb : ws.length ≤ 1024) (hlc : wc.length ≤ 1024) (hwb : Calls Tryd.prog 32 #[.pointer p] w fun e w' => e = .returned (.slice A ws.length ca) ∧ w = w') (hwc : Calls Tryd.prog 32 #[.pointer q] w fun e w' => e = .returned (.slice C wc.length cc) ∧ w = w') (hrb : ReadsAt w A (cells64 ws)) (hrc : ReadsAt w C (cells64 wc)) :
    Calls Tryd.prog 23 #[.pointer p, .pointer q] w fun e w' => e = .returned (.bool (sameTo ws wc (max ws.length wc.length))) ∧ Below w.heap.size w w' := by
  have HWB := Lib.hid hwb
  have HWC := Lib.hid hwc
  have HRB := Lib.hid hrb
  have HRC := Lib.hid hrc
  clear hwb hwc hrb hrc
  by_cases hq : ws.length < wc.length
  all_goals
    go_enter Tryd.func23, Tryd.ntmps23
    go_wp2_with fail
    refine HWB.out.mono ?_
    rintro e w' ⟨rfl, rfl⟩
    go_wp2_with fail
    refine HWC.out.mono ?_
    rintro e w' ⟨rfl, rfl⟩
    go_wp2_with fail
    go_loopw [17] (fun i wr => ∃ k : Nat, k ≤ max ws.length wc.length ∧ i = .int .i64 (k : Nat) ∧ Below w.heap.size w wr ∧ sameTo ws wc k = true) (fun i _ => max ws.length wc.length - (intOf i).toNat)
    case atStart => exact ⟨0, Nat.zero_le _, rfl, Below.refl _ _, rfl⟩
    case round =>
      obtain ⟨k, hk, rfl, hB, hn⟩ := hrel
      have HB := Lib.hid hB
      have HN := Lib.hid hn
      clear hB hn
      by_cases hlt : k < max ws.length wc.length
      · first
        | (have hk1 : k < wc.length := by omega)
        | (have hk1 : k < ws.length := by omega)
        have hstep : sameTo ws wc (k + 1) = (ws.getD k 0 == wc.getD k 0) := by
          have h1 := HN.out
          unfold sameTo at h1 ⊢
          rw [List.range_succ, List.all_append, h1]
          simp
        have HLT := Lib.hid hlt
        clear hk hlt
        obtain ⟨x, hxe⟩ : ∃ x, x = ws.getD k 0 := ⟨_, rfl⟩
        obtain ⟨y, hye⟩ : ∃ y, y = wc.getD k 0 := ⟨_, rfl⟩
        rw [← hxe, ← hye] at hstep
        have hRb : ∀ W, Below w.heap.size w W → ReadsAt W A (cells64 ws) := fun W h => HRB.out.kept (S := fun _ => False) (Chg.of_below h _) fun _ _ _ _ h => h
        have hRc : ∀ W, Below w.heap.size w W → ReadsAt W C (cells64 wc) := fun W h => HRC.out.kept (S := fun _ => False) (Chg.of_below h _) fun _ _ _ _ h => h
        have HX := Lib.hid hxe
        have HY := Lib.hid hye
        have HS := Lib.hid hstep
        clear hxe hye hstep
        have hCA : Calls Tryd.prog 37 #[.slice A ws.length ca, .int .i64 (k : Nat)] wr fun e w' => e = .returned (.int .u64 (x : Int)) ∧ wr = w' := by
          rw [HX.out]; exact at_any A ca ws k _ hlb (by omega) (hRb _ HB.out)
        have hCC : Calls Tryd.prog 37 #[.slice C wc.length cc, .int .i64 (k : Nat)] wr fun e w' => e = .returned (.int .u64 (y : Int)) ∧ wr = w' := by
          rw [HY.out]; exact at_any C cc wc k _ hlc (by omega) (hRc _ HB.out)
        have HCA := Lib.hid hCA
        have HCC := Lib.hid hCC
        clear hRb hRc hCA hCC
        by_cases q : x = y
        · have qf : (x != y) = false := by rw [q]; simp
          have hk2 : k < max ws.length wc.length := HLT.out
          have HS2 : Hid (sameTo ws wc (k + 1) = true) := Lib.hid (by rw [HS.out, q]; simp)
          clear q hk2
          go_wp2_with fail
          refine HCA.out.mono ?_
          rintro e w' ⟨rfl, rfl⟩
          go_wp2_with fail
          refine HCC.out.mono ?_
          rintro e w' ⟨rfl, rfl⟩
          go_wp2_with fail
          go_roundw
          case rel => exact ⟨k + 1, HLT.out, by go_num, HB.out, HS2.out⟩
          case measure => have := HLT.out; simp [intOf]; omega
        · have qf : (x != y) = true := bne_iff_ne.2 q
          have HS2 : Hid (sameTo ws wc (max ws.length wc.length) = false) := Lib.hid (by
            unfold sameTo
            rw [List.all_eq_false]
            exact ⟨k, List.mem_range.2 HLT.out, by rw [← HX.out, ← HY.out]; simpa using q⟩)
          clear q
          go_wp2_with fail
          refine HCA.out.mono ?_
          rintro e w' ⟨rfl, rfl⟩
          go_wp2_with fail
          refine HCC.out.mono ?_
          rintro e w' ⟨rfl, rfl⟩
          go_wp2_with fail
          go_ret
          exact ⟨ret_bool HS2.out.symm, HB.out⟩
      · have hk1 : wc.length ≤ k := by omega
        have hk2 : ws.length ≤ k := by omega
        have hk3 : max ws.length wc.length = k := by omega
        clear hlt hk
        have HK := Lib.hid hk3
        clear hk3
        go_wp2_with fail
        go_ret
        exact ⟨ret_bool (by rw [HK.out]; exact HN.out.symm), HB.out⟩
/-- What a pointer to a set has: nothing, where it is nil. -/
def SetAt (w : World) (p : Option Addr) (ws : List Nat) : Prop := (p = none ∧ ws = []) ∨ ∃ b r, p = some ⟨b, 0, none⟩ ∧ BitsAt w b r ws
theorem SetAt.words {w : World} {p : Option Addr} {ws : List Nat} (h : SetAt w p ws) : ∃ A c, ws.length ≤ 1024 ∧ (Calls Tryd.prog 32 #[.pointer p] w fun e w' => e = .returned (.slice A ws.length c) ∧ w = w') ∧ ReadsAt w A (cells64 ws) := by
  rcases h with ⟨rfl, rfl⟩ | ⟨b, r, rfl, h⟩
  · exact ⟨none, 0, Nat.zero_le _, words_nil w, fun h => by cases h⟩
  · obtain ⟨v, h1, h2⟩ := h.ex
    obtain ⟨A, c, rfl, _⟩ := h2.shape
    exact ⟨A, c, h.len, words_cell _ _ _ (cell_of_one h1), h2.reads⟩
theorem same_sets {w : World} {p q : Option Addr} {ws wc : List Nat} (h : SetAt w p ws) (hc : SetAt w q wc) :
    Calls Tryd.prog 23 #[.pointer p, .pointer q] w fun e w' => e = .returned (.bool (sameTo ws wc (max ws.length wc.length))) ∧ Below w.heap.size w w' := by
  obtain ⟨A, ca, h1, h2, h3⟩ := h.words
  obtain ⟨C, cc, h4, h5, h6⟩ := hc.words
  exact same_core p q h1 h4 h2 h5 h3 h6
theorem same_any {w : World} {b c : Nat} {r rc : Option Nat} {ws wc : List Nat} (h : BitsAt w b r ws) (hc : BitsAt w c rc wc) :
    Calls Tryd.prog 23 #[.pointer (some ⟨b, 0, none⟩), .pointer (some ⟨c, 0, none⟩)] w fun e w' => e = .returned (.bool (sameTo ws wc (max ws.length wc.length))) ∧ Below w.heap.size w w' :=
  same_sets (.inr ⟨b, r, rfl, h⟩) (.inr ⟨c, rc, rfl, hc⟩)

set_option maxHeartbeats 1000000 in
set_option maxRecDepth 100000 in
theorem clone_any {w : World} {b : Nat} {r : Option Nat} {ws : List Nat} (h : BitsAt w b r ws) :
    Calls Tryd.prog 21 #[.pointer (some ⟨b, 0, none⟩)] w fun e w' => ∃ b' r', e = .returned (.pointer (some ⟨b', 0, none⟩)) ∧ NewBits w w' b' r' ws := by
  obtain ⟨v, hb1, hb2⟩ := h.ex
  obtain ⟨A, ca, rfl, _⟩ := hb2.shape
  have hb3 := cell_of_one hb1
  have H := Lib.hid h
  have HB2 := Lib.hid hb2
  clear h hb1 hb2
  go_enter Tryd.func21, Tryd.ntmps21
  go_wp2_with fail
  refine (words_cell _ _ _ hb3).mono ?_
  rintro e w' ⟨rfl, rfl⟩
  go_wp2_with fail
  refine (clone64_both _ _ ws w H.out.len HB2.out).mono ?_
  rintro e w1 ⟨⟨hB, _⟩, v, r', rfl, hR, hn⟩
  obtain ⟨A', c', rfl, _⟩ := hR.shape
  have HB := Lib.hid hB
  have HR := Lib.hid hR
  have HN := Lib.hid hn
  clear hB hR hn
  go_wp2_with fail
  go_ret
  exact ⟨w1.heap.size, r', rfl, ⟨⟨_, heap_alloc_new w1 _, HR.out.alloc _⟩, H.out.lt, H.out.len⟩, HB.out.alloc HB.out.size _, HB.out.size, HN.out⟩

/-- Has one of the words below k a number that the other set has as well? -/
def hitTo (ws wc : List Nat) (k : Nat) : Bool := (List.range (64 * k)).any fun n => memW wc n && memW ws n
theorem hitTo_step (ws wc : List Nat) (k : Nat) (h1 : ∀ x ∈ wc, x < big64) : hitTo ws wc (k + 1) = (hitTo ws wc k || !(wc.getD k 0 &&& ws.getD k 0 == 0)) := by
  unfold hitTo
  rw [show 64 * (k + 1) = 64 * k + 64 by omega, List.range_add, List.any_append]
  congr 1
  rw [List.any_map, Bool.eq_iff_iff, List.any_eq_true]
  have hx := getD_lt h1 k
  have hz := word_zero (wc.getD k 0 &&& ws.getD k 0) (and_lt64 hx)
  constructor
  · rintro ⟨j, hj, h⟩
    rw [List.mem_range] at hj
    simp only [Function.comp_apply] at h
    rw [memW_at _ _ _ hj, memW_at _ _ _ hj, ← Nat.testBit_and] at h
    rw [Bool.not_eq_true', beq_eq_false_iff_ne]
    intro h0
    rw [hz.1 h0 j hj] at h; cases h
  · intro h
    rw [Bool.not_eq_true', beq_eq_false_iff_ne] at h
    refine Decidable.byContradiction fun hn => h (hz.2 fun j hj => ?_)
    rw [Nat.testBit_and]
    refine Bool.eq_false_iff.2 fun h' => hn ⟨j, List.mem_range.2 hj, ?_⟩
    simp only [Function.comp_apply]
    rw [memW_at _ _ _ hj, memW_at _ _ _ hj]
    exact h'
theorem hitTo_end (ws wc : List Nat) (k : Nat) (hk : ws.length ≤ k ∨ wc.length ≤ k) : hitTo ws wc k = (List.range 65536).any (fun n => memW wc n && memW ws n) ∨ 1024 < ws.length ∨ 1024 < wc.length := by
  by_cases h1 : 1024 < ws.length
  · exact .inr (.inl h1)
  by_cases h2 : 1024 < wc.length
  · exact .inr (.inr h2)
  left
  unfold hitTo
  rw [Bool.eq_iff_iff, List.any_eq_true, List.any_eq_true]
  have hno : ∀ n, (memW wc n && memW ws n) = true → n / 64 < ws.length ∧ n / 64 < wc.length := fun n h => by
    simp only [Bool.and_eq_true] at h
    refine ⟨Decidable.byContradiction fun h3 => ?_, Decidable.byContradiction fun h3 => ?_⟩
    · rw [memW_none ws n (by omega)] at h; exact absurd h.2 (by decide)
    · rw [memW_none wc n (by omega)] at h; exact absurd h.1 (by decide)
  constructor
  · rintro ⟨n, _, h⟩
    have := hno n h
    exact ⟨n, List.mem_range.2 (by omega), h⟩
  · rintro ⟨n, _, h⟩
    have := hno n h
    exact ⟨n, List.mem_range.2 (by omega), h⟩
def hitW (ws wc : List Nat) : Bool := (List.range 65536).any (fun n => memW wc n && memW ws n)
theorem minus_word (ws wc ws1 : List Nat) (k : Nat) (hk : k < ws1.length) (h : ∀ n, memW ws1 n = (memW ws n && !(decide (n / 64 < k) && memW wc n))) (h1 : ∀ x ∈ wc, x < big64) (n : Nat) :
    memW (ws1.set k (ws.getD k 0 &&& (big64 - 1 - wc.getD k 0))) n = (memW ws n && !(decide (n / 64 < k + 1) && memW wc n)) := by
  rw [memW_set _ _ _ _ hk]
  by_cases hn : n / 64 = k
  · rw [if_pos hn, Nat.testBit_and, testBit_not64 _ _ (getD_lt h1 k) (by omega), decide_eq_true (by omega : n / 64 < k + 1), Bool.true_and]
    unfold memW
    rw [hn]
  · rw [if_neg hn, h]
    congr 3
    exact decide_eq_decide.2 (by omega)

set_option maxHeartbeats 2000000 in
set_option maxRecDepth 100000 in
theorem minus_any {w : World} {b c : Nat} {r rc : Option Nat} {ws wc : List Nat} (h : BitsAt w b r ws) (hc : BitsAt w c rc wc) (hd : ∀ k, rc = some k → r ≠ some k) :
    Calls Tryd.prog 24 #[.pointer (some ⟨b, 0, none⟩), .pointer (some ⟨c, 0, none⟩)] w fun e w' => e = .returned (.bool (hitW ws wc)) ∧
      ∃ ws', GrowAt w b r ws w' r ws' ∧ ∀ n, memW ws' n = (memW ws n && !memW wc n) := by
  obtain ⟨vc, hc1, hc2⟩ := hc.ex
  obtain ⟨Ac, cc, rfl, _⟩ := hc2.shape
  have hcc := cell_of_one hc1
  have hrd := hc2.reads
  have hll := hc.len
  have hlb := h.len
  have hrb : ∀ k, rc = some k → k < w.heap.size ∧ ¬ FootB b r k := by
    intro k hk
    refine ⟨hc.rlt k hk, ?_⟩
    rintro (e | e)
    · obtain ⟨v, h1, _⟩ := h.ex
      exact row_ne_of_type hc2 h1 (by decide) (by rw [hk, e])
    · exact hd k hk e.symm
  have hAc : ∀ g off, 0 < wc.length → Ac = some ⟨g, off, none⟩ → rc = some g := by
    intro g off hp hA
    obtain ⟨g', off', cap', hv, hr, _⟩ := hc2.form hp
    injection hv with ha _ _
    rw [hA] at ha; cases ha; exact hr
  have hend : ∀ k, (ws.length ≤ k ∨ wc.length ≤ k) → hitTo ws wc k = hitW ws wc := fun k hk => by
    rcases hitTo_end ws wc k hk with h | h | h
    · exact h
    · omega
    · omega
  have H := Lib.hid h
  have HCL := Lib.hid hc.lt
  have HRD := Lib.hid hrd
  have HRB := Lib.hid hrb
  have HAC := Lib.hid hAc
  have HEND := Lib.hid hend
  clear h hc hd hrd hc2 hrb hAc hc1 hend
  go_enter Tryd.func24, Tryd.ntmps24
  go_wp2_with fail
  refine (words_cell _ _ _ hcc).mono ?_
  rintro e w' ⟨rfl, rfl⟩
  go_wp2_with fail
  go_loopw [5, 11] (fun t i wr => ∃ (k : Nat) (ws1 : List Nat), k ≤ wc.length ∧ i = .int .i64 (k : Nat) ∧ t = .bool (hitTo ws wc k) ∧ GrowAt w b r ws wr r ws1 ∧ ws1.length = ws.length ∧ (∀ n, memW ws1 n = (memW ws n && !(decide (n / 64 < k) && memW wc n))) ∧ ∀ i, k ≤ i → ws1.getD i 0 = ws.getD i 0) (fun _ i _ => wc.length - (intOf i).toNat)
  case atStart => exact ⟨0, ws, Nat.zero_le _, rfl, rfl, GrowAt.refl H.out, rfl, fun n => by simp, fun _ _ => rfl⟩
  case round =>
    obtain ⟨k, ws1, hk, rfl, rfl, hg, hl1, hm, hsame⟩ := hrel
    obtain ⟨v, hb, hR⟩ := hg.at_.ex
    obtain ⟨A, ca, rfl, _⟩ := hR.shape
    have hcb := cell_of_one hb
    by_cases hlt : k < wc.length
    · obtain ⟨g, off, rfl, hgl, hcl⟩ := HRD.out (by simp [cells64]; omega)
      have hrg := HAC.out g off (by omega) rfl
      have hx := hg.chg.cell (p := ⟨g, off + k, none⟩) (hcl k _ (cells64_at wc k hlt)) (HRB.out g hrg).2
      obtain ⟨x, hxe⟩ : ∃ x, x = wc.getD k 0 := ⟨_, rfl⟩
      rw [← hxe] at hx
      obtain ⟨t0, ht0⟩ : ∃ t0, t0 = hitTo ws wc k := ⟨_, rfl⟩
      rw [← ht0]
      have HX := Lib.hid hxe
      have HT := Lib.hid ht0
      have HG := Lib.hid hg
      have HM := Lib.hid hm
      have HSM := Lib.hid hsame
      have HBB := Lib.hid hb
      have HROW := Lib.hid hR
      clear hcl hxe ht0 hg hm hrg hsame hb hR
      have hk' : (k : Int) < 1024 := by omega
      by_cases hbr : k < ws1.length
      · have hr2 := HROW.out
        obtain ⟨gb, offb, cb', hv, _, _, _, _, hcl, hfz2⟩ := hr2.form (by omega)
        injection hv with hA _ hcc'
        subst hA; subst hcc'
        have hy := hcl k _ (cells64_at ws1 k hbr)
        have hfx := hfz2 (offb + k)
        clear hcl hfz2 hr2
        obtain ⟨y, hye⟩ : ∃ y, y = ws.getD k 0 := ⟨_, rfl⟩
        rw [HSM.out k (Nat.le_refl _), ← hye] at hy
        have hxl : x < big64 := by rw [HX.out]; exact getD_lt HCL.out _
        have hyl : y < big64 := by rw [hye]; exact getD_lt H.out.lt _
        have hstep := hitTo_step ws wc k HCL.out
        rw [← HX.out, ← hye, ← HT.out] at hstep
        have hmem : ∀ n, memW (ws1.set k (y &&& (big64 - 1 - x))) n = (memW ws n && !(decide (n / 64 < k + 1) && memW wc n)) := fun n => by
          rw [HX.out, hye]; exact minus_word ws wc ws1 k hbr HM.out HCL.out n
        have hgrow := HG.out.trans (GrowAt.set HG.out.at_ HBB.out k (y &&& (big64 - 1 - x)) hbr (and_lt64 hyl))
        rw [← andNot_bits _ _ hyl hxl] at hgrow
        have hand : bits BinOp.and .u64 (x : Int) (y : Int) = ((x &&& y : Nat) : Int) := u64_and_nat x y hxl hyl
        have HS := Lib.hid hstep
        have HME := Lib.hid hmem
        have HGW := Lib.hid hgrow
        have HAN := Lib.hid hand
        have HSM2 : Hid (∀ i, k + 1 ≤ i → (ws1.set k (y &&& (big64 - 1 - x))).getD i 0 = ws.getD i 0) := Lib.hid fun i hi => by
          rw [List.getD_eq_getElem?_getD, List.getElem?_set_ne (by omega), ← List.getD_eq_getElem?_getD, HSM.out i (by omega)]
        clear hxl hyl hstep hmem hgrow hand hye
        cases t0 with
        | true =>
          go_wp2_with (go_at_call 32; refine (words_cell _ _ _ hcb).mono ?_; rintro e w' ⟨rfl, rfl⟩)
          go_roundw
          case rel => exact ⟨k + 1, _, by omega, by go_num, by rw [HS.out]; rfl, HGW.out, by simp [hl1], HME.out, HSM2.out⟩
          case measure => simp [intOf]; omega
        | false =>
          go_wp2_with (go_at_call 32; refine (words_cell _ _ _ hcb).mono ?_; rintro e w' ⟨rfl, rfl⟩)
          go_roundw
          case rel => exact ⟨k + 1, _, by omega, by go_num, by rw [HS.out, HAN.out, Bool.false_or, cast_ne], HGW.out, by simp [hl1], HME.out, HSM2.out⟩
          case measure => simp [intOf]; omega
      · have hbr2 : ws1.length ≤ k := by omega
        have hlk : ws.length ≤ k := by omega
        have hE : hitTo ws wc k = hitW ws wc := HEND.out k (.inl hlk)
        have hE2 : t0 = hitW ws wc := by rw [HT.out, hE]
        have hM2 : ∀ n, memW ws1 n = (memW ws n && !memW wc n) := fun n => by
          rw [HM.out]
          rcases Nat.lt_or_ge (n / 64) k with h | h
          · rw [decide_eq_true h, Bool.true_and]
          · rw [memW_none ws n (by omega)]; rfl
        have HE := Lib.hid hE2
        have HM2 := Lib.hid hM2
        clear hlk hE hE2 hM2 hbr
        go_wp2_with (go_at_call 32; refine (words_cell _ _ _ hcb).mono ?_; rintro e w' ⟨rfl, rfl⟩)
        go_ret
        exact ⟨ret_bool HE.out, ws1, HG.out, HM2.out⟩
    · obtain rfl : k = wc.length := by omega
      have HG := Lib.hid hg
      have HM2 : Hid (∀ n, memW ws1 n = (memW ws n && !memW wc n)) := Lib.hid fun n => by
        rw [hm]
        rcases Nat.lt_or_ge (n / 64) wc.length with h | h
        · rw [decide_eq_true h, Bool.true_and]
        · rw [memW_none wc n h]; simp
      clear hg hm hsame hb hR
      go_wp2_with fail
      go_ret
      exact ⟨ret_bool (HEND.out _ (.inr (Nat.le_refl _))), ws1, HG.out, HM2.out⟩

set_option maxHeartbeats 2000000 in
set_option maxRecDepth 100000 in
theorem minus_self {w : World} {b : Nat} {r : Option Nat} {ws : List Nat} (h : BitsAt w b r ws) :
    Calls Tryd.prog 24 #[.pointer (some ⟨b, 0, none⟩), .pointer (some ⟨b, 0, none⟩)] w fun e w' => e = .returned (.bool (hitW ws ws)) ∧
      ∃ ws', GrowAt w b r ws w' r ws' ∧ ∀ n, memW ws' n = (memW ws n && !memW ws n) := by
  obtain ⟨vc, hc1, hc2⟩ := h.ex
  obtain ⟨Ac, cc, rfl, _⟩ := hc2.shape
  have hcc := cell_of_one hc1
  have hll := h.len
  have hend : ∀ k, ws.length ≤ k → hitTo ws ws k = hitW ws ws := fun k hk => by
    rcases hitTo_end ws ws k (.inl hk) with h | h | h
    · exact h
    · omega
    · omega
  have H := Lib.hid h
  have HB0 := Lib.hid hc1
  have HCL := Lib.hid h.lt
  have HEND := Lib.hid hend
  have hne : r ≠ some b := h.ne
  clear h hc2 hc1 hend
  go_enter Tryd.func24, Tryd.ntmps24
  go_wp2_with fail
  refine (words_cell _ _ _ hcc).mono ?_
  rintro e w' ⟨rfl, rfl⟩
  go_wp2_with fail
  go_loopw [5, 11] (fun t i wr => ∃ (k : Nat) (ws1 : List Nat), k ≤ ws.length ∧ i = .int .i64 (k : Nat) ∧ t = .bool (hitTo ws ws k) ∧ (GrowAt w b r ws wr r ws1 ∧ wr.heap[b]? = some (.cells #[.slice Ac ws.length cc] 49 (0, 0))) ∧ ws1.length = ws.length ∧ (∀ n, memW ws1 n = (memW ws n && !(decide (n / 64 < k) && memW ws n))) ∧ ∀ i, k ≤ i → ws1.getD i 0 = ws.getD i 0) (fun _ i _ => ws.length - (intOf i).toNat)
  case atStart => exact ⟨0, ws, Nat.zero_le _, rfl, rfl, ⟨GrowAt.refl H.out, HB0.out⟩, rfl, fun n => by simp, fun _ _ => rfl⟩
  case round =>
    obtain ⟨k, ws1, hk, rfl, rfl, ⟨hg, hb⟩, hl1, hm, hsame⟩ := hrel
    have hcb := cell_of_one hb
    by_cases hlt : k < ws.length
    · obtain ⟨v1, hb1, hR⟩ := hg.at_.ex
      have hv1 : v1 = .slice Ac ws.length cc := by rw [hb] at hb1; injection hb1 with e1; injection e1 with e1; injection e1 with e1; injection e1 with e1 _; exact e1.symm
      subst hv1
      rw [← hl1] at hR
      obtain ⟨g, off, cap, hv, hrg, _, _, _, hcl, hfz2⟩ := hR.form (by omega)
      injection hv with hA _ hce
      subst hA; subst hce
      have hx := hcl k _ (cells64_at ws1 k (by omega))
      have hfx := hfz2 (off + k)
      obtain ⟨x, hxe⟩ : ∃ x, x = ws.getD k 0 := ⟨_, rfl⟩
      rw [hsame k (Nat.le_refl _), ← hxe] at hx
      obtain ⟨t0, ht0⟩ : ∃ t0, t0 = hitTo ws ws k := ⟨_, rfl⟩
      rw [← ht0]
      have hxl : x < big64 := by rw [hxe]; exact getD_lt H.out.lt _
      have hstep := hitTo_step ws ws k HCL.out
      rw [← hxe, ← ht0] at hstep
      have hmem : ∀ n, memW (ws1.set k (x &&& (big64 - 1 - x))) n = (memW ws n && !(decide (n / 64 < k + 1) && memW ws n)) := fun n => by
        rw [hxe]; exact minus_word ws ws ws1 k (by omega) hm HCL.out n
      have hgrow := hg.trans (GrowAt.set hg.at_ (by rw [hl1]; exact hb) k (x &&& (big64 - 1 - x)) (by omega) (and_lt64 hxl))
      rw [← andNot_bits _ _ hxl hxl] at hgrow
      have hand : bits BinOp.and .u64 (x : Int) (x : Int) = ((x &&& x : Nat) : Int) := u64_and_nat x x hxl hxl
      have hgb : g ≠ b := fun e => hne (by rw [hrg, e])
      have hb2 : ∀ u, (wr.setCell ⟨g, off + k, none⟩ u).heap[b]? = some (.cells #[.slice (some ⟨g, off, none⟩) ws.length cc] 49 (0, 0)) := fun u => (Chg.store wr g (off + k) u).heap hb (fun e => hgb e.symm)
      have hk' : (k : Int) < 1024 := by omega
      have HS := Lib.hid hstep
      have HME := Lib.hid hmem
      have HGW := Lib.hid hgrow
      have HAN := Lib.hid hand
      have HB2 := Lib.hid hb2
      have HSM2 : Hid (∀ i, k + 1 ≤ i → (ws1.set k (x &&& (big64 - 1 - x))).getD i 0 = ws.getD i 0) := Lib.hid fun i hi => by
        rw [List.getD_eq_getElem?_getD, List.getElem?_set_ne (by omega), ← List.getD_eq_getElem?_getD, hsame i (by omega)]
      clear hcl hfz2 hxe ht0 hg hm hrg hsame hb hR hxl hstep hmem hgrow hand hgb hb2 hb1
      cases t0 with
      | true =>
        go_wp2_with (go_at_call 32; refine (words_cell _ _ _ hcb).mono ?_; rintro e w' ⟨rfl, rfl⟩)
        go_roundw
        case rel => exact ⟨k + 1, _, by omega, by go_num, by rw [HS.out]; rfl, ⟨HGW.out, HB2.out _⟩, by simp [hl1], HME.out, HSM2.out⟩
        case measure => simp [intOf]; omega
      | false =>
        go_wp2_with (go_at_call 32; refine (words_cell _ _ _ hcb).mono ?_; rintro e w' ⟨rfl, rfl⟩)
        go_roundw
        case rel => exact ⟨k + 1, _, by omega, by go_num, by rw [HS.out, HAN.out, Bool.false_or, cast_ne], ⟨HGW.out, HB2.out _⟩, by simp [hl1], HME.out, HSM2.out⟩
        case measure => simp [intOf]; omega
    · obtain rfl : k = ws.length := by omega
      have HG := Lib.hid hg
      have HM2 : Hid (∀ n, memW ws1 n = (memW ws n && !memW ws n)) := Lib.hid fun n => by
        rw [hm]
        rcases Nat.lt_or_ge (n / 64) ws.length with h | h
        · rw [decide_eq_true h, Bool.true_and]
        · rw [memW_none ws n h]; simp
      clear hg hm hsame hb
      go_wp2_with fail
      go_ret
      exact ⟨ret_bool (HEND.out _ (Nat.le_refl _)), ws1, HG.out, HM2.out⟩
end Go.Proofs.YtdnlgcomhgnegaaDoor
