/- PickFns: the walk of the law. -/
import Derived.Test.YtnfneinonkpmeaaRefF
import Derived.Test.YtnfneinonkpmeaaLives15
import Derived.Test.YtnfneinonkpmeaaSmall
import Derived.Deep.RegionHeld3
namespace Go.Proofs.Ytnfneinonkpmeaa
open Go.RowKit Go.Maps
variable {T : Nat → Prop} {w w' : World}

theorem firstOf_args {o : Option Vins} {l : List Vins} (ho : ∀ y, o = some y → y.args = []) (hl : ∀ y ∈ l, y.args = []) : ∀ y ∈ firstOf o l, y.args = [] := by
  intro y hy
  cases o with
  | none => exact hl y hy
  | some z =>
    obtain rfl : y = z := by simpa [firstOf] using hy
    exact ho y rfl
theorem binRest_args (op d a b : Int) : ∀ y ∈ binRest op d a b, y.args = [] := by
  intro y hy
  unfold binRest at hy
  repeat' split at hy
  all_goals
    simp at hy
    first
    | (subst hy; rfl)
    | (rcases hy with rfl | rfl <;> rfl)
theorem binS_args (K : Int → Option Int) (op d a b : Int) : ∀ y ∈ binS K op d a b, y.args = [] := by
  refine firstOf_args (fun y hy => ?_) (firstOf_args (fun y hy => ?_) (binRest_args op d a b))
  · obtain ⟨n, _, hn⟩ := Option.bind_eq_some_iff.1 hy
    exact short_args hn
  · obtain ⟨n, _, hn⟩ := Option.bind_eq_some_iff.1 hy
    exact short_args hn
theorem insS_args (K : Int → Option Int) (x : Ins) (h : x.args.length ≤ 8) : ∀ y ∈ insS K x, y.args.length ≤ 8 := by
  intro y hy
  unfold insS at hy
  split at hy
  · simp at hy; subst hy; simp
  split at hy
  · simp at hy; subst hy; simp
  split at hy
  · simp at hy; subst hy; (repeat' split) <;> exact Nat.zero_le _
  split at hy
  · simp [binS_args K _ _ _ _ y hy]
  split at hy
  · simp at hy; subst hy; simp
  split at hy
  · simp at hy; subst hy; simp
  split at hy
  · simp at hy; subst hy; exact h
  split at hy
  · simp at hy; subst hy; simp
  · simp at hy; subst hy; simp
theorem insL_args (K : Int → Option Int) (xs : List Ins) (h : ∀ x ∈ xs, x.args.length ≤ 8) : ∀ y ∈ insL K xs, y.args.length ≤ 8 := by
  induction xs generalizing K with
  | nil => intro y hy; simp [insL] at hy
  | cons x xs ih =>
    intro y hy
    rcases List.mem_append.1 hy with hy | hy
    · exact insS_args K x (h x (by simp)) y hy
    · exact ih (nextK K x) (fun z hz => h z (by simp [hz])) y hy
theorem endS_args (b : Blk) (n : Int) : ∀ y ∈ endS b n, y.args = [] := by
  intro y hy
  unfold endS at hy
  repeat' split at hy
  all_goals first
    | (simp at hy; done)
    | (simp at hy; subst hy; rfl)
    | (simp at hy; rcases hy with rfl | rfl <;> rfl)
theorem codeFrom_args (i : Nat) (bs : List Blk) (h : ∀ b ∈ bs, ∀ x ∈ b.ins, x.args.length ≤ 8) : ∀ y ∈ codeFrom i bs, y.args.length ≤ 8 := by
  induction bs generalizing i with
  | nil => intro y hy; simp [codeFrom] at hy
  | cons b bs ih =>
    intro y hy
    rcases List.mem_append.1 hy with hy | hy
    · simp only [blkS, List.mem_cons, List.mem_append] at hy
      rcases hy with rfl | hy | hy
      · exact Nat.zero_le _
      · exact insL_args K0 b.ins (h b (by simp)) y hy
      · rw [endS_args _ _ y hy]; simp
    · exact ih (i + 1) (fun c hc => h c (by simp [hc])) y hy
theorem args8 {n : Int} {x : Ins} (h : InsV n x) : x.args.length ≤ 8 := by cases h <;> first | assumption | simp
theorem codeS_args {f : Fn} (hV : FnV f) : ∀ y ∈ codeS f.blocks, y.args.length ≤ 8 := by
  refine codeFrom_args 0 _ fun b hb x hx => ?_
  have := hV.blocks b hb
  cases this with
  | jump ins ta hi ht => exact args8 (hi x hx)
  | branch ins a ta els hi ha ht he => exact args8 (hi x hx)
  | leave ins a hi ha => exact args8 (hi x hx)
theorem codeS_len {f : Fn} (hL : LightFn f) : (codeS f.blocks).length ≤ 16240 := by
  have := codeTo_len f.blocks f.blocks.length hL.ni hL.nb
  rw [codeTo_all] at this; exact this
theorem rd_true {T' : Nat → Prop} {A : Option Addr} {l : List Vins} (h : RdSl 7 (RdVins w T) w T' A l) : RdSl 7 (RdVins w fun _ => True) w (fun _ => True) A l :=
  h.mono (fun _ _ => trivial) fun _ _ h => h.mono fun _ _ _ => trivial

/-- Within a round: the function's box, its blocks. -/
structure LSt (W0 : World) (f : Fn) (bx : Nat) (A1 : Option Addr) (k1 : Nat) (T : Nat → Prop) (W : World) : Prop where
  below : Below W0.heap.size W0 W
  blks : RdSl 5 (RdBlk W T) W T A1 f.blocks
  e0 : W.cell? ⟨bx, 0, none⟩ = some (.string f.name)
  e1 : W.cell? ⟨bx, 1, none⟩ = some (.int .i64 f.params)
  e2 : W.cell? ⟨bx, 2, none⟩ = some (.int .i64 f.regs)
  e3 : W.cell? ⟨bx, 3, none⟩ = some (.slice A1 f.blocks.length k1)
  lt : bx < W.heap.size
theorem LSt.next {W0 : World} {f : Fn} {bx : Nat} {A1 : Option Addr} {k1 : Nat} {W W' : World} (h : LSt W0 f bx A1 k1 T W) (hB : Below W.heap.size W W') : LSt W0 f bx A1 k1 T W' :=
  ⟨h.below.trans (hB.mono h.below.size), blks_below h.blks hB, (hB.cell (p := ⟨bx, 0, none⟩) h.lt).trans h.e0, (hB.cell (p := ⟨bx, 1, none⟩) h.lt).trans h.e1, (hB.cell (p := ⟨bx, 2, none⟩) h.lt).trans h.e2, (hB.cell (p := ⟨bx, 3, none⟩) h.lt).trans h.e3, Nat.lt_of_lt_of_le h.lt hB.size⟩

set_option maxHeartbeats 8000000 in
set_option maxRecDepth 100000 in
theorem pickFns_any (m : Mid) (A B : Option Addr) (c d : Nat) (w : World) (h : RdMid w T m A c B d) :
    Calls Try.prog 3 #[.agg #[.slice A m.globals.length c, .slice B m.fns.length d]] w fun e w' => e = .returned (.bool true) ∧ Below w.heap.size w w' := by
  have hlf : m.fns.length ≤ 9223372036854775807 := by have := h.nfns; unfold maxLen at this; omega
  obtain ⟨w1, hw1, hb1, hlt1, hc⟩ := box_new w #[.slice A m.globals.length c, .slice B m.fns.length d] 25
  have hc0 := hc 0
  have hc1 := hc 1
  simp only [List.getElem?_toArray, List.getElem?_cons_succ, List.getElem?_cons_zero] at hc0 hc1
  have HM := Lib.hid (mid_below h hb1)
  have HB1 := Lib.hid hb1
  have HW := Lib.hid hw1
  clear h hb1 hc hw1
  go_enter Try.func3, Try.ntmps3
  go_wp2_with fail
  rw [← HW.out]
  refine (Small_any m A B c d _ HM.out).mono ?_
  rintro e w2 ⟨t, rfl, hB2, hv⟩
  have d0 := (hB2.cell (p := ⟨w.heap.size, 0, none⟩) hlt1).trans hc0
  have d1 := (hB2.cell (p := ⟨w.heap.size, 1, none⟩) hlt1).trans hc1
  have HB2 : Hid (Below w.heap.size w w2) := Lib.hid (HB1.out.trans (hB2.mono HB1.out.size))
  have HM2 := Lib.hid (mid_below HM.out hB2)
  have HV := Lib.hid hv
  have hlt2 : w.heap.size < w2.heap.size := Nat.lt_of_lt_of_le hlt1 hB2.size
  clear hB2 hv hc0 hc1
  cases t with
  | false =>
    go_wp2_with fail
    refine (lives_any _).mono ?_
    rintro e w3 ⟨rfl, hB3⟩
    have HB3 : Hid (Below w.heap.size w w3) := Lib.hid (HB2.out.trans (hB3.mono HB2.out.size))
    clear hB3
    go_wp2_with fail
    go_ret
    exact ⟨rfl, HB3.out⟩
  | true =>
    have HSM : Hid (SmallV m) := Lib.hid (HV.out rfl)
    go_wp2_with fail
    go_loopw [12] (fun i wr => ∃ (k : Nat), k ≤ m.fns.length ∧ i = .int .i64 (k : Nat) ∧ Below w2.heap.size w2 wr) (fun i _ => m.fns.length - (intOf i).toNat)
    case atStart => exact ⟨0, by omega, rfl, Below.refl _ _⟩
    case round =>
      obtain ⟨k, hk, rfl, hB⟩ := hrel
      have HBK := Lib.hid hB
      have HBW : Hid (Below w.heap.size w wr) := Lib.hid (HB2.out.trans (hB.mono HB2.out.size))
      clear hB
      by_cases hlt : k < m.fns.length
      · obtain ⟨f, hfe⟩ : ∃ f, f = m.fns[k] := ⟨_, rfl⟩
        obtain ⟨g, off, A1, c1, rfl, hg, hok, hsub, g0, g1, g2, g3⟩ := fn_at (fns_below HM2.out.fns HBK.out) k hlt f hfe
        have hfm : f ∈ m.fns := by rw [hfe]; exact List.getElem_mem hlt
        have HFV : Hid (FnV f) := Lib.hid (by rw [hfe]; exact (HSM.out.may.fns k hlt).fn)
        have HFL : Hid (LightFn f) := Lib.hid (HSM.out.light.fns f hfm)
        obtain ⟨w3, hw3, hb3, hlt3, hc⟩ := box_new wr #[.string f.name, .int .i64 f.params, .int .i64 f.regs, .slice A1 f.blocks.length c1] 30
        obtain ⟨bx, hbx⟩ : ∃ bx, bx = wr.heap.size := ⟨_, rfl⟩
        rw [← hbx] at hc hlt3
        have hst : LSt wr f bx A1 c1 T w3 := ⟨hb3, blks_below hsub hb3, hc 0, hc 1, hc 2, hc 3, hlt3⟩
        clear hok hsub hfm hfe hc
        go_upto_region 6 with (fail)
        rw [← hw3, ← hbx]
        have ST := Lib.hid (hst.next (below_drew w3))
        obtain ⟨_, _, s0, s1, s2, s3, slt⟩ := hst
        clear hw3 hb3 hbx hlt3
        go_region_held3 (fun W => W.cell? ⟨bx, 0, none⟩ = some (.string f.name) ∧ W.cell? ⟨bx, 1, none⟩ = some (.int .i64 f.params) ∧ W.cell? ⟨bx, 2, none⟩ = some (.int .i64 f.regs) ∧ W.cell? ⟨bx, 3, none⟩ = some (.slice A1 f.blocks.length c1)) (first | exact ⟨s0, s1, s2, s3⟩ | go_keep)
          (first
          | (go_at_call 9; refine (Fn_any f HFV.out HFL.out A1 c1 _ ST.out.blks).mono ?_; rintro e wv ⟨va, rfl, hBv, Aa, ca, rfl, hra⟩; (try have VB := Lib.hid (vinss_below VB.out hBv)); have VA := Lib.hid (rd_true hra); have ST := Lib.hid (ST.out.next hBv); clear hBv hra; obtain ⟨_, _, s0, s1, s2, s3, slt⟩ := ST.out)
          | (go_at_call 10; refine (Fn15_any f HFV.out HFL.out A1 c1 _ ST.out.blks).mono ?_; rintro e wv ⟨vb, rfl, hBv, Ab, cb, rfl, hrb⟩; (try have VA := Lib.hid (vinss_below VA.out hBv)); have VB := Lib.hid (rd_true hrb); have ST := Lib.hid (ST.out.next hBv); clear hBv hrb; obtain ⟨_, _, s0, s1, s2, s3, slt⟩ := ST.out)
          | (go_at_call 8; refine (Same15_any f (codeS f.blocks) (Nat.le_trans (codeS_len HFL.out) (by decide)) (fun x hx => Nat.le_trans (codeS_args HFV.out x hx) (by decide)) Aa Ab ca cb _ VA.out VB.out).mono ?_; rintro e wv ⟨rfl, hBv⟩; have ST := Lib.hid (ST.out.next hBv); clear hBv; obtain ⟨_, _, s0, s1, s2, s3, slt⟩ := ST.out))
        all_goals
          go_wp2_with fail
          go_roundw
          case rel => exact ⟨k + 1, by omega, by go_num, HBK.out.trans (ST.out.below.mono HBK.out.size)⟩
          case measure => simp [intOf]; omega
      · obtain rfl : k = m.fns.length := by omega
        go_wp2_with fail
        refine (lives_any _).mono ?_
        rintro e w3 ⟨rfl, hB3⟩
        have HB3 : Hid (Below w.heap.size w w3) := Lib.hid (HBW.out.trans (hB3.mono HBW.out.size))
        clear hB3
        go_wp2_with fail
        go_ret
        exact ⟨rfl, HB3.out⟩
end Go.Proofs.Ytnfneinonkpmeaa
