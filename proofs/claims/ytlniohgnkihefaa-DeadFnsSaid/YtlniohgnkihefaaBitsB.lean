/- Put and Drop of a set in memory. -/
import Derived.Test.YtlniohgnkihefaaBitsA
namespace Go.Proofs.Ytlniohgnkihefaa
open Go.RowKit

theorem info_u64 : (Try.prog.info? 101).map (fun i => (i.zero, i.size, i.bytes)) = some (some (.int .u64 0), 1, 8) := by kernel_rfl

def lenAt (w : World) (b : Nat) : Nat := match w.cell? ⟨b, 0, none⟩ with | some (.slice _ n _) => n | _ => 0
theorem lenAt_of {w : World} {b n c : Nat} {A : Option Addr} (h : w.cell? ⟨b, 0, none⟩ = some (.slice A n c)) : lenAt w b = n := by simp [lenAt, h]

/-- A set's words, grown: what a loop holds of them. -/
structure GrowAt (w : World) (b : Nat) (r : Option Nat) (ws : List Nat) (w' : World) (r' : Option Nat) (ws' : List Nat) : Prop where
  at_ : BitsAt w' b r' ws'
  chg : Chg (FootB b r) w w'
  new : NewOr w r r'

theorem GrowAt.refl {w : World} {b : Nat} {r : Option Nat} {ws : List Nat} (h : BitsAt w b r ws) : GrowAt w b r ws w r ws := ⟨h, Chg.refl _ _, NewOr.refl _ _⟩
theorem GrowAt.trans {w w1 w2 : World} {b : Nat} {r r1 r2 : Option Nat} {ws ws1 ws2 : List Nat} (h : GrowAt w b r ws w1 r1 ws1) (k : GrowAt w1 b r1 ws1 w2 r2 ws2) : GrowAt w b r ws w2 r2 ws2 :=
  ⟨k.at_, h.chg.trans k.chg (fun i hi hf => by
    rcases hf with hf | hf
    · exact .inl hf
    · exact .inr (h.new.old hi hf.symm).symm), h.new.trans k.new h.chg.size⟩

/-- Behind 'b.w = append(b.w, 0)': append's law has given a row; the field takes its slice. -/
theorem GrowAt.appended {W w1 : World} {b : Nat} {v v1 : Value} {r r1 : Option Nat} {ws : List Nat} (h : BitsAt W b r ws)
    (hb : W.heap[b]? = some (.cells #[v] 81 (0, 0)))
    (hR : RowAt w1 101 1 v1 r1 (ws.length + 1) (cells64 ws ++ [.int .u64 0])) (hC : Chg (fun k => some k = r) W w1) (hN : NewOr W r r1) (hl : ws.length < 1024) :
    w1.heap[b]? = some (.cells #[v] 81 (0, 0)) ∧ GrowAt W b r ws (w1.setCell ⟨b, 0, none⟩ v1) r1 (ws ++ [0]) := by
  have hne := h.ne
  have hb1 := hC.heap hb (fun e => hne e.symm)
  have hne1 : r1 ≠ some b := row_ne_of_type hR hb1 (by decide)
  have hs : Chg (fun k => k = b) w1 (w1.setCell ⟨b, 0, none⟩ v1) := Chg.store w1 b 0 v1
  refine ⟨hb1, ⟨⟨v1, one_setCell hb1, ?_⟩, ?_, by simp; omega⟩, ?_, hN⟩
  · have := hR.kept hs (fun k hk e => hne1 (by rw [hk, e]))
    rw [show (0 : Int) = ((0 : Nat) : Int) from rfl, ← cells64_snoc] at this
    simpa using this
  · intro x hx
    rcases List.mem_append.1 hx with hx | hx
    · exact h.lt x hx
    · simp at hx; subst hx; decide
  · exact (hC.mono (fun i _ hi => .inr hi)).trans hs (fun i _ hi => .inl hi)

/-- Behind a store into a word. -/
theorem GrowAt.set {W : World} {b g off c : Nat} {r : Option Nat} {ws : List Nat} (h : BitsAt W b r ws) (hb : W.heap[b]? = some (.cells #[.slice (some ⟨g, off, none⟩) ws.length c] 81 (0, 0)))
    (i x : Nat) (hi : i < ws.length) (hx : x < big64) : GrowAt W b r ws (W.setCell ⟨g, off + i, none⟩ (.int .u64 (x : Int))) r (ws.set i x) := by
  obtain ⟨v, h1, h2⟩ := h.ex
  rw [hb] at h1
  injection h1 with h1
  injection h1 with h1
  have hv : v = .slice (some ⟨g, off, none⟩) ws.length c := by
    injection h1 with h1; injection h1 with h1; exact h1.symm
  subst hv
  obtain ⟨g', off', cap, hv, hr, _⟩ := h2.form (by omega)
  injection hv with ha _ _
  injection ha with ha
  injection ha with hg ho
  subst hg; subst ho
  have hs : Chg (fun k => k = g) W (W.setCell ⟨g, off + i, none⟩ (.int .u64 (x : Int))) := Chg.store W g (off + i) _
  have hne := h.ne
  refine ⟨⟨⟨_, hs.heap hb (fun e => hne (by rw [hr, e])), ?_⟩, ?_, by simpa using h.len⟩, hs.mono (fun k _ hk => .inr (by rw [hk, hr])), NewOr.refl _ _⟩
  · have := h2.stored i (.int .u64 (x : Int)) (by omega)
    rw [cells64_set] at this
    simpa using this
  · intro y hy
    rcases List.mem_or_eq_of_mem_set hy with hy | hy
    · exact h.lt y hy
    · subst hy; exact hx

theorem BitsAt.drew {w : World} {b : Nat} {r : Option Nat} {ws : List Nat} (h : BitsAt w b r ws) : BitsAt w.drew b r ws := ⟨h.ex, h.lt, h.len⟩
theorem GrowAt.drew {w w' : World} {b : Nat} {r r' : Option Nat} {ws ws' : List Nat} (h : GrowAt w b r ws w' r' ws') : GrowAt w b r ws w'.drew r' ws' := ⟨h.at_.drew, h.chg.drew, h.new⟩

theorem or_pow (x j : Nat) (hx : x < big64) (hj : j < 64) : bits BinOp.or .u64 (x : Int) (IntKind.u64.wrap (2 ^ j)) = ((x ||| 2 ^ j : Nat) : Int) := by
  have hp := pow_lt64 hj
  have e : IntKind.u64.wrap (2 ^ j) = ((2 ^ j : Nat) : Int) := by
    rw [IntKind.wrap_u64]
    rw [show ((2 : Int) ^ j) = ((2 ^ j : Nat) : Int) from by simp]
    generalize 2 ^ j = p at hp ⊢
    unfold big64 at hp
    omega
  rw [e]
  exact u64_or_nat _ _ hx hp

def putOk (ws : List Nat) (k : Int) : Bool := decide (0 ≤ k) && decide (k < 65536) && !memW ws k.toNat

set_option maxRecDepth 100000 in
set_option maxHeartbeats 1000000 in
theorem put_in {w : World} {b : Nat} {r : Option Nat} {ws : List Nat} (h : BitsAt w b r ws) (k : Int) (h0 : 0 ≤ k) (h1 : k < 65536) (hm : memW ws k.toNat = false) :
    Calls Try.prog 57 #[.pointer (some ⟨b, 0, none⟩), .int .i64 k] w fun e w' => e = .returned (.bool true) ∧
      ∃ r' ws', GrowAt w b r ws w' r' ws' ∧ ∀ n, memW ws' n = (memW ws n || n == k.toNat) := by
  have hhas := has_any h k (by omega)
  have hf : hasW ws k = false := by unfold hasW; simp [hm]
  rw [hf] at hhas
  have H := Lib.hid h
  have HM := Lib.hid hm
  have HF := Lib.hid hhas
  clear h hm hf hhas
  go_enter Try.func57, Try.ntmps57
  go_wp2_with (go_at_call 43; refine HF.out.mono ?_; rintro e w' ⟨rfl, rfl⟩)
  go_loopw [20] (fun _ wr => ∃ r1 m, GrowAt w b r ws wr r1 (ws ++ List.replicate m 0) ∧ (m = 0 ∨ (ws.length + m : Nat) ≤ k / 64 + 1)) (fun _ wr => (k / 64 + 1).toNat - lenAt wr b)
  case atStart => exact ⟨r, 0, by simpa using GrowAt.refl H.out, .inl rfl⟩
  case round =>
    obtain ⟨r1, m, hg, hm⟩ := hrel
    obtain ⟨ws1, hws⟩ : ∃ ws1, ws1 = ws ++ List.replicate m 0 := ⟨_, rfl⟩
    rw [← hws] at hg
    have hl1 : ws1.length = ws.length + m := by rw [hws]; simp
    have HW := Lib.hid hws
    have HL1 := Lib.hid hl1
    clear hws
    obtain ⟨v, hb, hR⟩ := hg.at_.ex
    obtain ⟨A, c, rfl, hmx⟩ := hR.shape
    have hc := cell_of_one hb
    have hfz := free_of_one hb
    have hle := hg.at_.len
    have hlen := lenAt_of hc
    by_cases ht : (ws1.length : Int) ≤ k / 64
    · have HGR := Lib.hid hg
      have HLN := Lib.hid hlen
      have HM := Lib.hid hm
      clear hg hlen hm hl1
      go_wp2_with (at_builtin; refine wpList_append_one _ rfl _ _ 79 101 (.int .u64 0) 8 rfl Try.underlying79 info_u64 rfl hR _ rfl rfl rfl (by omega) (by unfold maxLen; omega) ?_; intro v' r' w' hR' hC hN; obtain ⟨A', c', rfl, _⟩ := hR'.shape; obtain ⟨hb', hG⟩ := GrowAt.appended HGR.out.at_ hb hR' hC hN (by omega); have hc' := cell_of_one hb'; have hfz' := free_of_one hb')
      go_roundw
      case rel =>
        refine ⟨r', m + 1, ?_, .inr (by have := HL1.out; omega)⟩
        have e : ws ++ List.replicate (m + 1) 0 = ws1 ++ [0] := by rw [HW.out, List.replicate_succ', List.append_assoc]
        rw [e]
        exact HGR.out.trans hG
      case measure =>
        have hcs := cell_of_one (one_setCell (u := .slice A' (ws1.length + 1) c') hb')
        rw [HLN.out, lenAt_of hcs]
        omega
    · have hg' : k / 64 < ws1.length := by omega
      have HGR := Lib.hid hg
      have HM := Lib.hid hm
      clear hg hlen hm hl1 hmx ht
      obtain ⟨g, off, c', hv, _, _, _, _, hcl, hfz2⟩ := hR.form (by omega)
      injection hv with hA _ hcc
      subst hA; subst hcc
      have hx := hcl (k / 64).toNat _ (cells64_at ws1 _ (by omega))
      have hfx := hfz2 (off + (k / 64).toNat)
      clear hcl hfz2
      obtain ⟨x, hxe⟩ : ∃ x, x = ws1.getD (k / 64).toNat 0 := ⟨_, rfl⟩
      rw [← hxe] at hx
      have HX := Lib.hid hxe
      clear hxe
      go_wp2
      go_region
      go_wp2
      go_ret
      refine ⟨rfl, r1, ws1.set (k / 64).toNat (x ||| 2 ^ (k % 64).toNat), ?_, fun n => ?_⟩
      · have hxl : x < big64 := by rw [HX.out]; exact getD_lt HGR.out.at_.lt _
        rw [or_pow _ _ hxl (by omega)]
        exact (HGR.out.trans (GrowAt.set HGR.out.at_ hb _ _ (by omega) (or_lt64 hxl (pow_lt64 (by omega))))).drew
      · rw [HX.out, show (k / 64).toNat = k.toNat / 64 from by omega, show (k % 64).toNat = k.toNat % 64 from by omega, memW_put _ _ _ (by omega), HW.out, memW_zeros]

set_option maxRecDepth 100000 in
theorem put_out {w : World} {b : Nat} {r : Option Nat} {ws : List Nat} (h : BitsAt w b r ws) (k : Int) (h63 : -9223372036854775808 ≤ k ∧ k ≤ 9223372036854775807) (ho : putOk ws k = false) :
    Calls Try.prog 57 #[.pointer (some ⟨b, 0, none⟩), .int .i64 k] w fun e w' => e = .returned (.bool false) ∧ w = w' := by
  have HF := Lib.hid (has_any h k h63.2)
  clear h
  by_cases h0 : k < 0
  · clear ho
    go_enter Try.func57, Try.ntmps57
    go_wp2_with (go_at_call 43; refine HF.out.mono ?_; rintro e w' ⟨rfl, rfl⟩)
    go_ret
    exact ⟨rfl, rfl⟩
  · by_cases h1 : 65536 ≤ k
    · clear ho
      go_enter Try.func57, Try.ntmps57
      go_wp2_with (go_at_call 43; refine HF.out.mono ?_; rintro e w' ⟨rfl, rfl⟩)
      go_ret
      exact ⟨rfl, rfl⟩
    · have hh : hasW ws k = true := by
        unfold putOk at ho
        unfold hasW
        simp only [show decide (0 ≤ k) = true by simp; omega, show decide (k < 65536) = true by simp; omega, Bool.true_and] at ho ⊢
        simpa using ho
      have h0' : 0 ≤ k := by omega
      have h1' : k < 65536 := by omega
      have HF2 := HF.out
      rw [hh] at HF2
      have HF3 := Lib.hid HF2
      clear HF HF2 ho hh h0 h1
      go_enter Try.func57, Try.ntmps57
      go_wp2_with (go_at_call 43; refine HF3.out.mono ?_; rintro e w' ⟨rfl, rfl⟩)
      go_ret
      exact ⟨rfl, rfl⟩

/-- Put, of any number. -/
theorem put_any {w : World} {b : Nat} {r : Option Nat} {ws : List Nat} (h : BitsAt w b r ws) (k : Int) (h63 : -9223372036854775808 ≤ k ∧ k ≤ 9223372036854775807) :
    Calls Try.prog 57 #[.pointer (some ⟨b, 0, none⟩), .int .i64 k] w fun e w' => e = .returned (.bool (putOk ws k)) ∧
      ∃ r' ws', GrowAt w b r ws w' r' ws' ∧ ∀ n, memW ws' n = (memW ws n || (putOk ws k && n == k.toNat)) := by
  by_cases ho : putOk ws k = true
  · have ho' := ho
    unfold putOk at ho'
    simp only [Bool.and_eq_true, decide_eq_true_eq, Bool.not_eq_true'] at ho'
    refine (put_in h k ho'.1.1 ho'.1.2 ho'.2).mono ?_
    rintro e w' ⟨he, r', ws', hg, hm⟩
    rw [ho]
    exact ⟨he, r', ws', hg, fun n => by rw [hm]; simp⟩
  · have ho' : putOk ws k = false := by simpa using ho
    refine (put_out h k h63 ho').mono ?_
    rintro e w' ⟨he, rfl⟩
    rw [ho']
    exact ⟨he, r, ws, GrowAt.refl h, fun n => by simp⟩
theorem put_nil (k : Int) (w : World) :
    Calls Try.prog 57 #[.pointer none, .int .i64 k] w fun e w' => e = .returned (.bool false) ∧ w = w' := by
  go_enter Try.func57, Try.ntmps57
  go_wp2_with fail
  go_ret
  exact ⟨rfl, rfl⟩
end Go.Proofs.Ytlniohgnkihefaa
