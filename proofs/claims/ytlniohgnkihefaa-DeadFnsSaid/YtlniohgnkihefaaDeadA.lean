/- dead: asked, Pure, next, ending, ahead. -/
import Derived.Test.YtlniohgnkihefaaBitsE
import Derived.Test.YtlniohgnkihefaaBitsF
import Derived.Test.YtlniohgnkihefaaBitsG
import Derived.Test.YtlniohgnkihefaaData
namespace Go.Proofs.Ytlniohgnkihefaa
open Go.RowKit

def insAgg (x : Ins) (A : Option Addr) (c : Nat) : Value := .agg #[.int .i64 x.kind, .int .i64 x.op, .int .i64 x.d, .int .i64 x.a, .int .i64 x.b, .int .i32 x.num, .string x.name, .slice A x.args.length c]
/-- What an instruction asks. -/
def askP (x : Ins) (n : Nat) : Bool := ofSet x.args n || (inR x.a && n == x.a.toNat) || (inR x.b && n == x.b.toNat)
def pureP (x : Ins) : Bool := decide (x.kind = 1 ∨ x.kind = 2 ∨ x.kind = 3) || (decide (x.kind = 4) && (decide (x.op ≠ 4) && decide (x.op ≠ 5))) || (decide (x.kind = 5) && decide (x.a < 0))
theorem reads_alloc {w : World} {A : Option Addr} {xs : List Value} (h : ReadsAt w A xs) (o : Obj) : ReadsAt (w.alloc o) A xs := h.kept (S := fun _ => False) ((Chg.refl _ w).alloc o) fun _ _ _ _ h => h
theorem box_at (w : World) (cs : Array Value) (t j : Nat) (v : Value) (h : cs[j]? = some v) : (w.alloc (.cells cs t)).cell? ⟨w.heap.size, j, none⟩ = some v := (cell_of_row _ _ j _ _ _ (heap_alloc_new w _)).trans h

set_option maxHeartbeats 1000000 in
theorem asked_any (x : Ins) (hx : InsOk x) (A : Option Addr) (c : Nat) (w : World) (hr : ReadsAt w A (ints x.args)) :
    Calls Try.prog 60 #[insAgg x A c] w fun e w' => ∃ b r ws, e = .returned (.pointer (some ⟨b, 0, none⟩)) ∧ NewBits w w' b r ws ∧ ∀ n, memW ws n = askP x n := by
  obtain ⟨kind, op, d, a, b, num, name, args⟩ := x
  dsimp only [insAgg, askP] at hr ⊢
  have hA : I64 a := hx.a
  have hB : I64 b := hx.b
  have hz := hx.args
  have hl := hx.nargs
  have HR := Lib.hid (reads_alloc hr (.cells #[.int .i64 kind, .int .i64 op, .int .i64 d, .int .i64 a, .int .i64 b, .int .i32 num, .string name, .slice A args.length c] 48))
  have HO := Lib.hid fun W hR => of_any A c args W (by unfold maxLen at hl; exact hl) hz hR
  have h3 := box_at w #[.int .i64 kind, .int .i64 op, .int .i64 d, .int .i64 a, .int .i64 b, .int .i32 num, .string name, .slice A args.length c] 48 3 (.int .i64 a) rfl
  have h4 := box_at w #[.int .i64 kind, .int .i64 op, .int .i64 d, .int .i64 a, .int .i64 b, .int .i32 num, .string name, .slice A args.length c] 48 4 (.int .i64 b) rfl
  have HB0 := Lib.hid (((Below.refl _ w).alloc (Nat.le_refl _) (.cells #[.int .i64 kind, .int .i64 op, .int .i64 d, .int .i64 a, .int .i64 b, .int .i32 num, .string name, .slice A args.length c] 48)))
  have H34 := Lib.hid (And.intro h3 h4)
  have HAB := Lib.hid (And.intro hA hB)
  clear hr hz hl hx h3 h4 hA hB
  go_enter Try.func60, Try.ntmps60
  go_wp2_with fail
  refine (HO.out _ HR.out).mono ?_
  rintro e w1 ⟨b1, r1, ws1, rfl, hN, hm⟩
  have h3 := (hN.below.cell (p := ⟨w.heap.size, 3, none⟩) (by simp)).trans H34.out.1
  have h4 := (hN.below.cell (p := ⟨w.heap.size, 4, none⟩) (by simp)).trans H34.out.2
  have HN := Lib.hid hN
  have HM := Lib.hid hm
  have H4 := Lib.hid h4
  clear hN hm h4
  go_wp2_with fail
  refine (put_any HN.out.at_ a HAB.out.1).mono ?_
  rintro e w2 ⟨rfl, r2, ws2, hG, hm2⟩
  have hne : ¬ FootB b1 r1 w.heap.size := by
    have h5 := HN.out.nb
    rintro (e | e)
    · simp at h5; omega
    · have h6 := HN.out.nr _ e.symm
      rw [World.size_alloc] at h6
      omega
  have h4 := hG.chg.cell H4.out hne
  have HG := Lib.hid hG
  have HM2 := Lib.hid hm2
  clear hG hm2 hne
  go_wp2_with fail
  refine (put_any HG.out.at_ b HAB.out.2).mono ?_
  rintro e w3 ⟨rfl, r3, ws3, hG, hm3⟩
  have HG3 := Lib.hid hG
  have HM3 := Lib.hid hm3
  clear hG hm3
  go_wp2_with fail
  go_ret
  have hN3 := (HN.out.grow HG.out).grow HG3.out
  refine ⟨b1, r3, ws3, rfl, ⟨hN3.at_, HB0.out.trans (hN3.below.mono (by simp)), by have := hN3.nb; simp at this; omega, fun k hk => by have := hN3.nr k hk; simp at this; omega⟩, fun n => ?_⟩
  rw [HM3.out, put_mem, HM2.out, put_mem, HM.out]
theorem pure_any (x : Ins) (A : Option Addr) (c : Nat) (w : World) :
    Calls Try.prog 44 #[insAgg x A c] w fun e w' => e = .returned (.bool (pureP x)) ∧ Below w.heap.size w w' := by
  obtain ⟨kind, op, d, a, b, num, name, args⟩ := x
  dsimp only [insAgg, pureP]
  have HB := Lib.hid ((Below.refl _ w).alloc (Nat.le_refl _) (.cells #[.int .i64 kind, .int .i64 op, .int .i64 d, .int .i64 a, .int .i64 b, .int .i32 num, .string name, .slice A args.length c] 48))
  by_cases k1 : kind = 1
  · subst k1
    go_enter Try.func44, Try.ntmps44
    go_wp2
    go_ret
    exact ⟨by simp, HB.out⟩
  by_cases k2 : kind = 2
  · subst k2
    go_enter Try.func44, Try.ntmps44
    go_wp2
    go_ret
    exact ⟨by simp, HB.out⟩
  by_cases k3 : kind = 3
  · subst k3
    go_enter Try.func44, Try.ntmps44
    go_wp2
    go_ret
    exact ⟨by simp, HB.out⟩
  have q1 : (kind == 1) = false := beq_eq_false_iff_ne.2 k1
  have q2 : (kind == 2) = false := beq_eq_false_iff_ne.2 k2
  have q3 : (kind == 3) = false := beq_eq_false_iff_ne.2 k3
  by_cases k4 : kind = 4
  · subst k4
    clear q1 q2 q3 k1 k2 k3
    by_cases o4 : op = 4
    · subst o4
      go_enter Try.func44, Try.ntmps44
      go_wp2
      go_ret
      exact ⟨by simp, HB.out⟩
    · have p4 : (op != 4) = true := bne_iff_ne.2 o4
      by_cases o5 : op = 5
      · subst o5
        go_enter Try.func44, Try.ntmps44
        go_wp2
        go_ret
        exact ⟨by simp, HB.out⟩
      · have p5 : (op != 5) = true := bne_iff_ne.2 o5
        go_enter Try.func44, Try.ntmps44
        go_wp2
        go_ret
        exact ⟨by simp [o4, o5], HB.out⟩
  have q4 : (kind == 4) = false := beq_eq_false_iff_ne.2 k4
  by_cases k5 : kind = 5
  · subst k5
    clear q1 q2 q3 q4 k1 k2 k3 k4
    by_cases ha : a < 0
    · have pa : decide (a < 0) = true := decide_eq_true ha
      go_enter Try.func44, Try.ntmps44
      go_wp2
      go_ret
      exact ⟨by simp [ha], HB.out⟩
    · have pa : decide (a < 0) = false := decide_eq_false ha
      go_enter Try.func44, Try.ntmps44
      go_wp2
      go_ret
      exact ⟨by simp, HB.out⟩
  have q5 : (kind == 5) = false := beq_eq_false_iff_ne.2 k5
  go_enter Try.func44, Try.ntmps44
  go_wp2
  go_ret
  exact ⟨by simp [k1, k2, k3, k4, k5], HB.out⟩

def blkAgg (k : Blk) (A : Option Addr) (c : Nat) : Value := .agg #[.slice A k.ins.length c, .int .i64 k.kind, .int .i64 k.a, .int .i64 k.to, .int .i64 k.els]
/-- The blocks that a block goes on to. -/
def nextP (k : Blk) : List Int := if k.kind = 1 then [k.to] else if k.kind = 2 then [k.to, k.els] else []
/-- Numbers in a block of their own. -/
def IntsAt (W : World) (A : Option Addr) (l : List Int) : Prop := 0 < l.length → ∃ g, A = some ⟨g, 0, none⟩ ∧ W.heap[g]? = some (.cells (ints l).toArray 3 (0, 0))
theorem next_any (k : Blk) (A : Option Addr) (c : Nat) (w : World) :
    Calls Try.prog 38 #[blkAgg k A c] w fun e w' => ∃ A' c', e = .returned (.slice A' (nextP k).length c') ∧ IntsAt w' A' (nextP k) ∧ Below w.heap.size w w' := by
  obtain ⟨ins, kind, a, to, els⟩ := k
  dsimp only [blkAgg, nextP]
  have HB := Lib.hid ((Below.refl _ w).alloc (Nat.le_refl _) (.cells #[.slice A ins.length c, .int .i64 kind, .int .i64 a, .int .i64 to, .int .i64 els] 45))
  by_cases k1 : kind = 1
  · subst k1
    go_enter Try.func38, Try.ntmps38
    go_wp2
    go_ret
    refine ⟨_, ⟨_, rfl⟩, ?_, HB.out.alloc HB.out.size _⟩
    intro _
    have h := heap_alloc_new (w.alloc (.cells #[.slice A ins.length c, .int .i64 1, .int .i64 a, .int .i64 to, .int .i64 els] 45)) (.cells #[.int .i64 to] 3)
    rw [World.size_alloc] at h
    exact ⟨_, rfl, h⟩
  by_cases k2 : kind = 2
  · subst k2
    go_enter Try.func38, Try.ntmps38
    go_wp2
    go_ret
    refine ⟨_, ⟨_, rfl⟩, ?_, HB.out.alloc HB.out.size _⟩
    intro _
    have h := heap_alloc_new (w.alloc (.cells #[.slice A ins.length c, .int .i64 2, .int .i64 a, .int .i64 to, .int .i64 els] 45)) (.cells #[.int .i64 to, .int .i64 els] 3)
    rw [World.size_alloc] at h
    exact ⟨_, rfl, h⟩
  have q1 : (kind == 1) = false := beq_eq_false_iff_ne.2 k1
  have q2 : (kind == 2) = false := beq_eq_false_iff_ne.2 k2
  rw [if_neg k1, if_neg k2]
  go_enter Try.func38, Try.ntmps38
  go_wp2
  go_ret
  first | exact ⟨none, ⟨0, rfl⟩, (fun h => by cases h), HB.out⟩ | exact ⟨none, 0, rfl, (fun h => by cases h), HB.out⟩
/-- What is live ahead of a block's end. -/
def endP (k : Blk) (S : Nat → Bool) (n : Nat) : Bool := S n || (decide (k.kind ≠ 1) && (inR k.a && n == k.a.toNat))
set_option maxHeartbeats 1000000 in
theorem ending_any (k : Blk) (hk : BlkOk k) (A : Option Addr) (c : Nat) {w : World} {b : Nat} {r : Option Nat} {ws : List Nat} (h : BitsAt w b r ws) :
    Calls Try.prog 40 #[blkAgg k A c, .pointer (some ⟨b, 0, none⟩)] w fun e w' => ∃ b' r' ws', e = .returned (.pointer (some ⟨b', 0, none⟩)) ∧ NewBits w w' b' r' ws' ∧ ∀ n, memW ws' n = endP k (memW ws) n := by
  obtain ⟨ins, kind, a, to, els⟩ := k
  dsimp only [blkAgg, endP]
  have HA := Lib.hid hk.a
  have HB := Lib.hid ((Below.refl _ w).alloc (Nat.le_refl _) (.cells #[.slice A ins.length c, .int .i64 kind, .int .i64 a, .int .i64 to, .int .i64 els] 45))
  have H := Lib.hid (h.kept ((Chg.refl (fun _ => False) w).alloc (.cells #[.slice A ins.length c, .int .i64 kind, .int .i64 a, .int .i64 to, .int .i64 els] 45)) (fun h => h) fun _ _ h => h)
  have h1 := box_at w #[.slice A ins.length c, .int .i64 kind, .int .i64 a, .int .i64 to, .int .i64 els] 45 1 (.int .i64 kind) rfl
  have h2 := box_at w #[.slice A ins.length c, .int .i64 kind, .int .i64 a, .int .i64 to, .int .i64 els] 45 2 (.int .i64 a) rfl
  have H12 := Lib.hid (And.intro h1 h2)
  clear hk h h1 h2
  go_enter Try.func40, Try.ntmps40
  go_wp2_with fail
  refine (clone_any H.out).mono ?_
  rintro e w1 ⟨b1, r1, rfl, hN⟩
  have h1 := (hN.below.cell (p := ⟨w.heap.size, 1, none⟩) (by simp)).trans H12.out.1
  have h2 := (hN.below.cell (p := ⟨w.heap.size, 2, none⟩) (by simp)).trans H12.out.2
  have HN := Lib.hid hN
  have HW : Hid (NewBits w w1 b1 r1 ws) := Lib.hid ⟨hN.at_, HB.out.trans (hN.below.mono (by simp)), by have := hN.nb; simp at this; omega, fun k hk => by have := hN.nr k hk; simp at this; omega⟩
  clear hN
  by_cases k1 : kind = 1
  · have q1 : (kind != 1) = false := by rw [k1]; rfl
    have K1 := Lib.hid k1
    clear k1
    go_wp2_with fail
    go_ret
    exact ⟨_, _, _, rfl, HW.out, fun n => by simp [K1.out]⟩
  · have q1 : (kind != 1) = true := bne_iff_ne.2 k1
    have K1 := Lib.hid k1
    clear k1
    go_wp2_with fail
    refine (put_any HN.out.at_ a HA.out).mono ?_
    rintro e w2 ⟨rfl, r2, ws2, hG, hm⟩
    have HG := Lib.hid hG
    have HM := Lib.hid hm
    clear hG hm
    go_wp2_with fail
    go_ret
    exact ⟨_, _, _, rfl, HW.out.grow HG.out, fun n => by rw [HM.out, put_mem]; simp [K1.out]⟩
/-- What is live ahead of an instruction. -/
def aheadP (x : Ins) (S : Nat → Bool) (n : Nat) : Bool := (S n && !(n == x.d.toNat && decide (0 ≤ x.d))) || askP x n
theorem dropP_eq (ws : List Nat) (d : Int) (n : Nat) : (memW ws n && !(hasW ws d && n == d.toNat)) = (memW ws n && !(n == d.toNat && decide (0 ≤ d))) := by
  unfold hasW
  cases h : memW ws n with
  | false => simp
  | true =>
    by_cases e : n = d.toNat
    · subst e
      rw [h]; simp
    · have : (n == d.toNat) = false := by simpa using e
      simp [this]
set_option maxHeartbeats 1000000 in
theorem ahead_any (x : Ins) (hx : InsOk x) (A : Option Addr) (c : Nat) {w : World} {b : Nat} {r : Option Nat} {ws : List Nat} (h : BitsAt w b r ws) (hr : ReadsAt w A (ints x.args)) (hAf : 0 < x.args.length → ∀ g off, A = some ⟨g, off, none⟩ → ¬ FootB b r g) :
    Calls Try.prog 42 #[insAgg x A c, .pointer (some ⟨b, 0, none⟩)] w fun e w' => (∃ v, e = .returned v) ∧ ∃ r' ws', GrowAt w b r ws w' r' ws' ∧ ∀ n, memW ws' n = aheadP x (memW ws) n := by
  have hAG : insAgg x A c = .agg #[.int .i64 x.kind, .int .i64 x.op, .int .i64 x.d, .int .i64 x.a, .int .i64 x.b, .int .i32 x.num, .string x.name, .slice A x.args.length c] := rfl
  have HASK := Lib.hid fun W hR => asked_any x hx A c W hR
  have hD := hx.d
  have hblt := h.blt
  have hrlt := h.rlt
  have H0 := Lib.hid (h.kept ((Chg.refl (fun _ => False) w).alloc (.cells #[.int .i64 x.kind, .int .i64 x.op, .int .i64 x.d, .int .i64 x.a, .int .i64 x.b, .int .i32 x.num, .string x.name, .slice A x.args.length c] 48)) (fun h => h) fun _ _ h => h)
  have HC0 : Hid (Chg (FootB b r) w (w.alloc (.cells #[.int .i64 x.kind, .int .i64 x.op, .int .i64 x.d, .int .i64 x.a, .int .i64 x.b, .int .i32 x.num, .string x.name, .slice A x.args.length c] 48))) := Lib.hid ((Chg.refl _ w).alloc _)
  have HR0 := Lib.hid (reads_alloc hr (.cells #[.int .i64 x.kind, .int .i64 x.op, .int .i64 x.d, .int .i64 x.a, .int .i64 x.b, .int .i32 x.num, .string x.name, .slice A x.args.length c] 48))
  have hbx : ∀ j v, (#[.int .i64 x.kind, .int .i64 x.op, .int .i64 x.d, .int .i64 x.a, .int .i64 x.b, .int .i32 x.num, .string x.name, .slice A x.args.length c] : Array Value)[j]? = some v → (w.alloc (.cells #[.int .i64 x.kind, .int .i64 x.op, .int .i64 x.d, .int .i64 x.a, .int .i64 x.b, .int .i32 x.num, .string x.name, .slice A x.args.length c] 48)).cell? ⟨w.heap.size, j, none⟩ = some v := fun j v hv => box_at w _ _ j v hv
  have HBX := Lib.hid hbx
  have HAF := Lib.hid hAf
  have HRL := Lib.hid hrlt
  have HBL := Lib.hid hblt
  have HD := Lib.hid hD
  rw [hAG] at HASK ⊢
  clear h hr hx hbx hAf hrlt hblt hD hAG
  go_enter Try.func42, Try.ntmps42
  go_wp2_with fail
  refine (drop_any H0.out x.d HD.out.2).mono ?_
  rintro e w1 ⟨rfl, ws1, hG, hm⟩
  have hnb : ¬ FootB b r w.heap.size := by
    rintro (e | e)
    · have := HBL.out; omega
    · have := HRL.out _ e.symm; omega
  have k0 := hG.chg.cell (HBX.out 0 _ rfl) hnb
  have k1 := hG.chg.cell (HBX.out 1 _ rfl) hnb
  have k2 := hG.chg.cell (HBX.out 2 _ rfl) hnb
  have k3 := hG.chg.cell (HBX.out 3 _ rfl) hnb
  have k4 := hG.chg.cell (HBX.out 4 _ rfl) hnb
  have k5 := hG.chg.cell (HBX.out 5 _ rfl) hnb
  have k6 := hG.chg.cell (HBX.out 6 _ rfl) hnb
  have k7 := hG.chg.cell (HBX.out 7 _ rfl) hnb
  have HG := Lib.hid hG
  have HM := Lib.hid hm
  have hR1 : ReadsAt w1 A (ints x.args) := by
    by_cases hz : 0 < x.args.length
    · exact HR0.out.kept hG.chg fun g off e _ => HAF.out hz g off e
    · intro hp; exact absurd (by simpa [ints] using hp) hz
  have HR1 := Lib.hid hR1
  clear hG hm hnb hR1
  go_wp2_with fail
  refine (HASK.out _ HR1.out).mono ?_
  rintro e w2 ⟨b2, r2, ws2, rfl, hN, hm2⟩
  have hat2 : BitsAt w2 b r ws1 := HG.out.at_.kept (Chg.of_below hN.below (fun _ => False)) (fun h => h) fun _ _ h => h
  have HN := Lib.hid hN
  have HM2 := Lib.hid hm2
  have HJ := Lib.hid (join_any hat2 hN.at_ fun k hk e => by have h1 := hN.nr k hk; have h2 := HG.out.at_.rlt k e; omega)
  clear hN hm2 hat2 k0 k1 k2 k3 k4 k5 k6 k7
  go_wp2_with fail
  refine HJ.out.mono ?_
  rintro e w3 ⟨rfl, r3, ws3, hG3, hm3⟩
  have HG3 := Lib.hid hG3
  have HM3 := Lib.hid hm3
  clear hG3 hm3
  go_wp2_with fail
  go_end0
  have hbel2 : Below w1.heap.size w1 w2 := HN.out.below
  have hgr2 : GrowAt w1 b r ws1 w2 r ws1 := ⟨HG.out.at_.kept (Chg.of_below hbel2 (fun _ => False)) (fun h => h) fun _ _ h => h, Chg.of_below hbel2 _, .refl _ _⟩
  have hg0 : GrowAt w b r ws (w.alloc (.cells #[.int .i64 x.kind, .int .i64 x.op, .int .i64 x.d, .int .i64 x.a, .int .i64 x.b, .int .i32 x.num, .string x.name, .slice A x.args.length c] 48)) r ws := ⟨H0.out, HC0.out, .refl _ _⟩
  refine ⟨⟨_, rfl⟩, r3, ws3, ((hg0.trans HG.out).trans hgr2).trans HG3.out, fun n => ?_⟩
  rw [HM3.out, HM.out, HM2.out, dropP_eq]
  rfl
end Go.Proofs.Ytlniohgnkihefaa
