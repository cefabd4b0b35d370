/- brazierref14: Uses, Pure, Ahead, Before. -/
import Derived.Deep.RegionHeld3
import Derived.Test.YtlniohgnkihefaaLk5
import Derived.Test.YtlniohgnkihefaaLk4
namespace Go.Proofs.Ytlniohgnkihefaa
open Go.RowKit

def usesL (x : Ins) : List Int := x.args.foldl putL (putL (putL [] x.a) x.b)
def aheadL (x : Ins) (l : List Int) : List Int := (usesL x).foldl putL (l.filter fun r => decide (r ≠ x.d))
def beforeL (k : Blk) (l : List Int) : List Int := if k.kind = 1 then l else putL l k.a
theorem putL_len (l : List Int) (n : Int) : (putL l n).length ≤ l.length + 1 := by
  unfold putL
  split
  · omega
  · rename_i h
    rw [List.length_append, List.length_append, List.length_singleton]
    have h1 : ∀ l : List Int, (l.filter fun x => decide (x < n)).length + (l.filter fun x => decide (n < x)).length ≤ l.length := by
      intro l
      induction l with
      | nil => simp
      | cons a l ih =>
        rcases Int.lt_trichotomy a n with c | c | c
        · rw [List.filter_cons_of_pos (by simpa using c), List.filter_cons_of_neg (by simp; omega)]; simp; omega
        · rw [List.filter_cons_of_neg (by simp; omega), List.filter_cons_of_neg (by simp; omega)]; simp; omega
        · rw [List.filter_cons_of_neg (by simp; omega), List.filter_cons_of_pos (by simpa using c)]; simp; omega
    have := h1 l
    omega
theorem foldl_put_len (zs : List Int) : ∀ l : List Int, (zs.foldl putL l).length ≤ l.length + zs.length := by
  induction zs with
  | nil => intro l; simp
  | cons z zs ih => intro l; rw [List.foldl_cons]; have h1 := ih (putL l z); have h2 := putL_len l z; simp; omega
theorem foldl_take_put (zs : List Int) (l : List Int) (k : Nat) (h : k < zs.length) (x : Int) (hx : x = zs[k]) : (zs.take (k + 1)).foldl putL l = putL ((zs.take k).foldl putL l) x := by
  rw [List.take_succ_eq_append_getElem h, List.foldl_append, hx]; rfl
/-- What stands between two rounds. -/
structure LoopO (w wr : World) (A : Option Addr) (m : List Int) : Prop where
  below : Below w.heap.size w wr
  row : ReadsAt wr A (ints m)
  new : ∀ g off, A = some ⟨g, off, none⟩ → w.heap.size ≤ g ∧ g < wr.heap.size
theorem LoopO.give {w wr w1 : World} {A A1 : Option Addr} {m m1 : List Int} (h : LoopO w wr A m) (hB : Below wr.heap.size wr w1) (hR : ReadsAt w1 A1 (ints m1))
    (hA : ∀ g off, A1 = some ⟨g, off, none⟩ → (wr.heap.size ≤ g ∧ g < w1.heap.size) ∨ A = some ⟨g, off, none⟩) : LoopO w w1 A1 m1 := by
  refine ⟨h.below.trans (hB.mono h.below.size), hR, fun g off e => ?_⟩
  have h1 := h.below.size
  have h2 := hB.size
  rcases hA g off e with h3 | h3
  · omega
  · have := h.new g off h3; omega
theorem reads_below {w w' : World} {A : Option Addr} {xs : List Value} (h : ReadsAt w A xs) (hb : Below w.heap.size w w') : ReadsAt w' A xs := h.kept (S := fun _ => False) (Chg.of_below hb _) fun _ _ _ _ h => h
theorem LoopO.reads {w wr : World} {A : Option Addr} {m : List Int} {B : Option Addr} {xs : List Value} (h : LoopO w wr A m) (hr : ReadsAt w B xs) : ReadsAt wr B xs := reads_below hr h.below

set_option maxRecDepth 100000 in
set_option maxHeartbeats 2000000 in
theorem uses_any (x : Ins) (hx : x.args.length ≤ 1000) (A : Option Addr) (c : Nat) (w : World) (hr : ReadsAt w A (ints x.args)) :
    Calls Try.prog 36 #[insAgg x A c] w (GiveL w none (usesL x)) := by
  obtain ⟨kind, op, d, a, b, num, name, args⟩ := x
  dsimp only [insAgg, usesL] at hx hr ⊢
  obtain ⟨W0, hW0⟩ : ∃ W0, W0 = w.alloc (.cells #[.int .i64 kind, .int .i64 op, .int .i64 d, .int .i64 a, .int .i64 b, .int .i32 num, .string name, .slice A args.length c] 48) := ⟨_, rfl⟩
  have hB0 : Below w.heap.size w W0 := by rw [hW0]; exact (Below.refl _ w).alloc (Nat.le_refl _) _
  have h3 : W0.cell? ⟨w.heap.size, 3, none⟩ = some (.int .i64 a) := by rw [hW0]; exact box_at w _ _ 3 _ rfl
  have h4 : W0.cell? ⟨w.heap.size, 4, none⟩ = some (.int .i64 b) := by rw [hW0]; exact box_at w _ _ 4 _ rfl
  have h7 : W0.cell? ⟨w.heap.size, 7, none⟩ = some (.slice A args.length c) := by rw [hW0]; exact box_at w _ _ 7 _ rfl
  have HR := Lib.hid hr
  have HB0 := Lib.hid hB0
  clear hr hB0
  go_enter Try.func36, Try.ntmps36
  go_wp2_with fail
  rw [← hW0]
  clear hW0
  obtain ⟨bx, hbx⟩ : ∃ bx, bx = w.heap.size := ⟨_, rfl⟩
  rw [← hbx] at h3 h4 h7 ⊢
  have HBX := Lib.hid hbx
  clear hbx
  have HP0 : Hid (Calls Try.prog 35 #[.slice none 0 0, .int .i64 a] W0.drew (GiveL W0.drew none (putL [] a))) := Lib.hid (put14_any [] none 0 a W0.drew (by simp) (fun h => by cases h))
  go_region_held3 (fun Y => Y.cell? ⟨bx, 3, none⟩ = some (.int .i64 a) ∧ Y.cell? ⟨bx, 4, none⟩ = some (.int .i64 b) ∧ Y.cell? ⟨bx, 7, none⟩ = some (.slice A args.length c)) (first | exact ⟨h3, h4, h7⟩ | go_keep) (first
    | (go_at_call 35; (with_reducible refine HP0.out.mono ?_); rintro e W1 ⟨A1, c1, rfl, hb1, hr1, hn1⟩; obtain ⟨l1, hl1⟩ : ∃ l1, l1 = (putL [] a).length := ⟨_, rfl⟩; rw [← hl1]; have h3 := (hb1.cell (p := ⟨bx, 3, none⟩) (World.block_lt_of_cell? W0 _ h3)).trans h3; have h4 := (hb1.cell (p := ⟨bx, 4, none⟩) (World.block_lt_of_cell? W0 _ h4)).trans h4; have h7 := (hb1.cell (p := ⟨bx, 7, none⟩) (World.block_lt_of_cell? W0 _ h7)).trans h7; have HL1 := Lib.hid hl1; have HB1 := Lib.hid hb1; have HR1 := Lib.hid hr1; have HN1 := Lib.hid hn1; clear hb1 hr1 hn1 hl1)
    | (go_at_call 35; have hP := put14_any (putL [] a) A1 c1 b W1 (by have := putL_len [] a; simp at this; omega) HR1.out; rw [← HL1.out] at hP; (with_reducible refine hP.mono ?_); clear hP; rintro e W2 ⟨A2, c2, rfl, hb2, hr2, hn2⟩; obtain ⟨l2, hl2⟩ : ∃ l2, l2 = (putL (putL [] a) b).length := ⟨_, rfl⟩; rw [← hl2]; have h3 := (hb2.cell (p := ⟨bx, 3, none⟩) (World.block_lt_of_cell? W1 _ h3)).trans h3; have h4 := (hb2.cell (p := ⟨bx, 4, none⟩) (World.block_lt_of_cell? W1 _ h4)).trans h4; have h7 := (hb2.cell (p := ⟨bx, 7, none⟩) (World.block_lt_of_cell? W1 _ h7)).trans h7; have HL2 := Lib.hid hl2; have HB2 := Lib.hid hb2; have HR2 := Lib.hid hr2; have HN2 := Lib.hid hn2; clear hb2 hr2 hn2 hl2))
  have hb01 : Below W0.heap.size W0 W1 := ((Below.refl _ W0).drew).trans HB1.out
  have hL1 : LoopO w W1 A1 (putL [] a) := ⟨HB0.out.trans (hb01.mono HB0.out.size), HR1.out, fun g off e => by
    have h1 := HB0.out.size
    rcases HN1.out g off e with h2 | h2
    · have h5 : W0.drew.heap.size = W0.heap.size := rfl
      omega
    · cases h2⟩
  have hL2 := hL1.give HB2.out HR2.out HN2.out
  obtain ⟨m0, hm0⟩ : ∃ m0, m0 = putL (putL [] a) b := ⟨_, rfl⟩
  have hm0l : m0.length ≤ 2 := by have e1 := putL_len [] a; have e2 := putL_len (putL [] a) b; rw [hm0]; simp at e1; omega
  rw [← hm0] at hL2 HL2
  have HM0 := Lib.hid hm0
  have HLL2 := Lib.hid hL2
  clear hm0 hL1 hL2 hb01 HB1 HR1 HN1 HB2 HR2 HN2 h3 h4
  go_wp2_with fail
  go_loopw [3, 15] (fun v i wr => ∃ (k : Nat) (Ax : Option Addr) (cx : Nat), k ≤ args.length ∧ i = .int .i64 (k : Nat) ∧ v = .slice Ax ((args.take k).foldl putL m0).length cx ∧ LoopO w wr Ax ((args.take k).foldl putL m0)) (fun _ i _ => args.length - (intOf i).toNat)
  case atStart => exact ⟨0, A2, c2, Nat.zero_le _, rfl, by rw [HL2.out]; rfl, HLL2.out⟩
  case round =>
    obtain ⟨k, Ax, cx, hk, rfl, rfl, hL⟩ := hrel
    have hlen := foldl_put_len (args.take k) m0
    rw [List.length_take] at hlen
    obtain ⟨lx, hlx⟩ : ∃ lx, lx = ((args.take k).foldl putL m0).length := ⟨_, rfl⟩
    rw [← hlx] at hlen ⊢
    have HLX := Lib.hid hlx
    have HL := Lib.hid hL
    clear hL hlx
    by_cases hlt : k < args.length
    · obtain ⟨z, hze⟩ : ∃ z, z = args[k] := ⟨_, rfl⟩
      obtain ⟨g, off, rfl, hg, hx1⟩ := reads_len0 (HL.out.reads HR.out) k hlt z hze
      have HT := Lib.hid (foldl_take_put args m0 k hlt z hze)
      have hq1 : (0 : Int) ≤ (k : Int) := by omega
      have hq2 : (k : Int) < (args.length : Int) := by omega
      clear hze
      go_wp2_with fail
      have hP := put14_any ((args.take k).foldl putL m0) Ax cx z wr (by have := HLX.out; omega) HL.out.row
      rw [← HLX.out, ← HT.out] at hP
      refine hP.mono ?_
      clear hP
      rintro e wp ⟨Ay, cy, rfl, hB, hRy, hA⟩
      have HL2 := Lib.hid (HL.out.give hB hRy hA)
      clear hB hRy hA
      go_wp2_with fail
      go_roundw
      case rel => exact ⟨k + 1, Ay, cy, by omega, by go_num, rfl, HL2.out⟩
      case measure => simp [intOf]; omega
    · obtain rfl : k = args.length := by omega
      go_wp2_with fail
      go_ret
      rw [HLX.out]
      rw [List.take_length] at HLX HL ⊢
      rw [HM0.out] at HL ⊢
      exact ⟨Ax, cx, rfl, HL.out.below, HL.out.row, fun g off e => .inl (HL.out.new g off e)⟩
theorem Gath.loop {w wr : World} {l : List Int} {A : Option Addr} {c : Nat} (h : Gath w l (.slice A l.length c) wr) : LoopO w wr A l := by
  obtain ⟨A', c', h1, h2, h3, h4⟩ := h.give (A0 := none)
  cases h1
  exact ⟨h2, h3, fun g off e => by rcases h4 g off e with h5 | h5; exact h5; cases h5⟩
theorem before_any (k : Blk) (A : Option Addr) (c : Nat) (l : List Int) (Al : Option Addr) (cl : Nat) (w : World) (hl : l.length ≤ 100000) (hr : ReadsAt w Al (ints l)) :
    Calls Try.prog 19 #[blkAgg k A c, .slice Al l.length cl] w (GiveL w Al (beforeL k l)) := by
  obtain ⟨ins, kind, a, to, els⟩ := k
  dsimp only [blkAgg, beforeL]
  have HB := Lib.hid ((Below.refl _ w).alloc (Nat.le_refl _) (.cells #[.slice A ins.length c, .int .i64 kind, .int .i64 a, .int .i64 to, .int .i64 els] 45))
  have HR := Lib.hid (reads_alloc hr (.cells #[.slice A ins.length c, .int .i64 kind, .int .i64 a, .int .i64 to, .int .i64 els] 45))
  clear hr
  by_cases k1 : kind = 1
  · subst k1
    rw [if_pos rfl]
    go_enter Try.func19, Try.ntmps19
    go_wp2_with fail
    go_ret
    exact ⟨Al, cl, rfl, HB.out, HR.out, fun _ _ h => .inr h⟩
  · have q1 : (kind == 1) = false := beq_eq_false_iff_ne.2 k1
    rw [if_neg k1]
    clear k1
    obtain ⟨ll, hll⟩ : ∃ ll, ll = l.length := ⟨_, rfl⟩
    have HP := Lib.hid (put14_any l Al cl a _ hl HR.out)
    rw [← hll] at HP ⊢
    clear hll
    go_enter Try.func19, Try.ntmps19
    go_wp2_with fail
    refine HP.out.mono ?_
    rintro e w1 ⟨A1, c1, rfl, hb, hr1, hn⟩
    have HB1 := Lib.hid (HB.out.trans (hb.mono HB.out.size))
    have HR1 := Lib.hid hr1
    have HN := Lib.hid hn
    obtain ⟨l1, hl1⟩ : ∃ l1, l1 = (putL l a).length := ⟨_, rfl⟩
    rw [← hl1]
    have HL1 := Lib.hid hl1
    clear hb hr1 hn hl1
    go_wp2_with fail
    go_ret
    refine ⟨A1, c1, by rw [HL1.out]; rfl, HB1.out, HR1.out, fun g off e => ?_⟩
    rcases HN.out g off e with h | h
    · rw [World.size_alloc] at h; exact .inl (by omega)
    · exact .inr h
set_option maxRecDepth 100000 in
set_option maxHeartbeats 2000000 in
theorem ahead14_any (x : Ins) (hx : x.args.length ≤ 1000) (A : Option Addr) (c : Nat) (l : List Int) (Al : Option Addr) (cl : Nat) (w : World) (hl : l.length ≤ 90000) (hr : ReadsAt w A (ints x.args)) (hrl : ReadsAt w Al (ints l)) :
    Calls Try.prog 22 #[insAgg x A c, .slice Al l.length cl] w (GiveL w none (aheadL x l)) := by
  have HU := Lib.hid fun W hW => uses_any x hx A c W hW
  have hul : (usesL x).length ≤ 2 + x.args.length := by
    unfold usesL
    have h1 := foldl_put_len x.args (putL (putL [] x.a) x.b)
    have h2 := putL_len [] x.a
    have h3 := putL_len (putL [] x.a) x.b
    simp at h2
    omega
  unfold aheadL
  obtain ⟨us, hus⟩ : ∃ us, us = usesL x := ⟨_, rfl⟩
  rw [← hus] at hul ⊢
  have HUS := Lib.hid hus
  clear hus
  obtain ⟨kind, op, d, a, b, num, name, args⟩ := x
  dsimp only [insAgg] at hx hr HU hul ⊢
  obtain ⟨W0, hW0⟩ : ∃ W0, W0 = w.alloc (.cells #[.int .i64 kind, .int .i64 op, .int .i64 d, .int .i64 a, .int .i64 b, .int .i32 num, .string name, .slice A args.length c] 48) := ⟨_, rfl⟩
  have hB0 : Below w.heap.size w W0 := by rw [hW0]; exact (Below.refl _ w).alloc (Nat.le_refl _) _
  have hbx : ∀ j v, (#[.int .i64 kind, .int .i64 op, .int .i64 d, .int .i64 a, .int .i64 b, .int .i32 num, .string name, .slice A args.length c] : Array Value)[j]? = some v → W0.cell? ⟨w.heap.size, j, none⟩ = some v := fun j v hv => by rw [hW0]; exact box_at w _ _ j v hv
  have hlt0 : w.heap.size < W0.heap.size := by rw [hW0]; simp
  have HR := Lib.hid (reads_below hr hB0)
  have HRL := Lib.hid (reads_below hrl hB0)
  have HB0 := Lib.hid hB0
  have HBX := Lib.hid hbx
  clear hr hrl hB0 hbx
  go_enter Try.func22, Try.ntmps22
  go_wp2_with fail
  rw [← hW0]
  clear hW0
  obtain ⟨bx, hbx⟩ : ∃ bx, bx = w.heap.size := ⟨_, rfl⟩
  rw [← hbx] at HBX hlt0 ⊢
  have HBE := Lib.hid hbx
  clear hbx
  go_loopw [5, 12] (fun v i wr => ∃ k : Nat, k ≤ l.length ∧ i = .int .i64 (k : Nat) ∧ Gath W0 ((l.take k).filter fun r => decide (r ≠ d)) v wr) (fun _ i _ => l.length - (intOf i).toNat)
  case atStart => exact ⟨0, by omega, rfl, Gath.nil W0⟩
  case round =>
    obtain ⟨k, hk, rfl, hG⟩ := hrel
    have hfl := filter_take_len (fun r => decide (r ≠ d)) l k
    obtain ⟨m, hme⟩ : ∃ m, m = (l.take k).filter fun r => decide (r ≠ d) := ⟨_, rfl⟩
    rw [← hme] at hG hfl
    obtain ⟨Av, cv, rfl⟩ := hG.shape
    obtain ⟨r, hrow, hrn⟩ := hG.row
    have hcd := (hG.below.cell (p := ⟨bx, 2, none⟩) hlt0).trans (HBX.out 2 _ rfl)
    have HME := Lib.hid hme
    have HG := Lib.hid hG
    have HROW := Lib.hid hrow
    have HRN := Lib.hid hrn
    clear hme hG hrow hrn
    by_cases hlt : k < l.length
    · obtain ⟨z, hze⟩ : ∃ z, z = l[k] := ⟨_, rfl⟩
      obtain ⟨g, off, rfl, hg, hx1⟩ := reads_len0 HRL.out k hlt z hze
      have hx2 := (HG.out.below.cell (p := ⟨g, off + k, none⟩) hg).trans hx1
      have HX := Lib.hid hze
      clear hze hx1
      by_cases q : z = d
      · have qf : (z != d) = false := by rw [q]; simp
        have HQ := Lib.hid q
        clear q
        go_wp2_with fail
        go_roundw
        case rel => exact ⟨k + 1, by omega, by go_num, by rw [take_skip (fun r => decide (r ≠ d)) l k hlt z HX.out (decide_eq_false (not_not_intro HQ.out)), ← HME.out]; exact HG.out⟩
        case measure => simp [intOf]; omega
      · have qf : (z != d) = true := bne_iff_ne.2 q
        have HQ := Lib.hid q
        clear q
        have HB1 : Hid ((m.length + 1) * 8 ≤ 140737488355328) := Lib.hid (bd8 (by omega))
        have HB2 : Hid (m.length < maxLen) := Lib.hid (bdm (by omega))
        go_wp2_with (at_builtin; refine wpList_append_one _ rfl _ _ 46 3 (.int .i64 0) 8 rfl Try.underlying46 ret_int3 rfl HROW.out _ rfl rfl rfl HB1.out HB2.out ?_; intro v' r' w' hR' hC hN; obtain ⟨A', c', rfl, _⟩ := hR'.shape; have HR' := Lib.hid hR'; have HC := Lib.hid hC; have HN := Lib.hid hN; clear hR' hC hN)
        go_roundw
        case rel => exact ⟨k + 1, by omega, by go_num, by rw [take_keep (fun r => decide (r ≠ d)) l k hlt z HX.out (decide_eq_true HQ.out), ← HME.out]; exact HG.out.add z HRN.out HR'.out HC.out HN.out⟩
        case measure => simp [intOf]; omega
    · obtain rfl : k = l.length := by omega
      have hm0 : m = l.filter fun r => decide (r ≠ d) := by rw [HME.out, List.take_length]
      have hL0 := HG.out.loop
      have hb := HG.out.below
      have e0 := (hb.cell (p := ⟨bx, 0, none⟩) hlt0).trans (HBX.out 0 _ rfl)
      have e1 := (hb.cell (p := ⟨bx, 1, none⟩) hlt0).trans (HBX.out 1 _ rfl)
      have e3 := (hb.cell (p := ⟨bx, 3, none⟩) hlt0).trans (HBX.out 3 _ rfl)
      have e4 := (hb.cell (p := ⟨bx, 4, none⟩) hlt0).trans (HBX.out 4 _ rfl)
      have e5 := (hb.cell (p := ⟨bx, 5, none⟩) hlt0).trans (HBX.out 5 _ rfl)
      have e6 := (hb.cell (p := ⟨bx, 6, none⟩) hlt0).trans (HBX.out 6 _ rfl)
      have e7 := (hb.cell (p := ⟨bx, 7, none⟩) hlt0).trans (HBX.out 7 _ rfl)
      have HM0 := Lib.hid hm0
      have HL0 := Lib.hid hL0
      obtain ⟨ml, hml⟩ : ∃ ml, ml = m.length := ⟨_, rfl⟩
      rw [← hml] at hfl ⊢
      have HML := Lib.hid hml
      clear hm0 hL0 hb hml HG HROW HRN
      go_wp2_with fail
      have hU := HU.out wr (HL0.out.reads HR.out)
      rw [← HUS.out] at hU
      refine hU.mono ?_
      clear hU e0 e1 e3 e4 e5 e6 e7 hcd
      rintro e wu ⟨Au, cu, rfl, hbu, hru, hnu⟩
      have HBU := Lib.hid hbu
      have HRU := Lib.hid hru
      have hL1 : LoopO W0 wu Av m := HL0.out.give hbu (reads_below HL0.out.row hbu) fun g off e => .inr e
      have HL1 := Lib.hid hL1
      obtain ⟨ul, hule⟩ : ∃ ul, ul = us.length := ⟨_, rfl⟩
      rw [← hule] at hul ⊢
      have HUL := Lib.hid hule
      clear hbu hru hnu hL1 hule
      go_wp2_with fail
      go_loopw [5, 28] (fun v i wr => ∃ (k : Nat) (Ax : Option Addr) (cx : Nat), k ≤ ul ∧ i = .int .i64 (k : Nat) ∧ v = .slice Ax ((us.take k).foldl putL m).length cx ∧ LoopO W0 wr Ax ((us.take k).foldl putL m) ∧ Below wu.heap.size wu wr) (fun _ i _ => ul - (intOf i).toNat)
      case atStart => exact ⟨0, Av, cv, Nat.zero_le _, rfl, by rw [HML.out]; rfl, HL1.out, Below.refl _ _⟩
      case round =>
        obtain ⟨k2, Ax, cx, hk2, rfl, rfl, hL, hbw⟩ := hrel
        have hlen := foldl_put_len (us.take k2) m
        rw [List.length_take] at hlen
        obtain ⟨lx, hlx⟩ : ∃ lx, lx = ((us.take k2).foldl putL m).length := ⟨_, rfl⟩
        rw [← hlx] at hlen ⊢
        have HLX := Lib.hid hlx
        have HL := Lib.hid hL
        have HBW := Lib.hid hbw
        clear hL hlx hbw
        by_cases hlt2 : k2 < ul
        · have hlu : k2 < us.length := by rw [← HUL.out]; exact hlt2
          obtain ⟨z, hze⟩ : ∃ z, z = us[k2] := ⟨_, rfl⟩
          obtain ⟨g, off, rfl, hg, hx1⟩ := reads_len0 (reads_below HRU.out HBW.out) k2 hlu z hze
          have HT := Lib.hid (foldl_take_put us m k2 hlu z hze)
          have hq1 : (0 : Int) ≤ (k2 : Int) := by omega
          have hq2 : (k2 : Int) < (ul : Int) := by omega
          clear hze hlu
          go_wp2_with fail
          have hP := put14_any ((us.take k2).foldl putL m) Ax cx z wr (by have := HLX.out; have := HML.out; omega) HL.out.row
          rw [← HLX.out, ← HT.out] at hP
          refine hP.mono ?_
          clear hP
          rintro e wp ⟨Ay, cy, rfl, hB, hRy, hA⟩
          have HL2 := Lib.hid (HL.out.give hB hRy hA)
          have HBW2 := Lib.hid (HBW.out.trans (hB.mono HBW.out.size))
          clear hB hRy hA
          go_wp2_with fail
          go_roundw
          case rel => exact ⟨k2 + 1, Ay, cy, by omega, by go_num, rfl, HL2.out, HBW2.out⟩
          case measure => simp [intOf]; omega
        · obtain rfl : k2 = ul := by omega
          go_wp2_with fail
          go_ret
          rw [HLX.out]
          have hL3 := HL.out
          rw [List.take_of_length_le (by rw [HUL.out]; exact Nat.le_refl _)] at HLX hL3 ⊢
          rw [HM0.out] at hL3 ⊢
          exact ⟨Ax, cx, rfl, HB0.out.trans (hL3.below.mono HB0.out.size), hL3.row, fun g off e => .inl (by have h1 := hL3.new g off e; have h2 := HB0.out.size; omega)⟩
end Go.Proofs.Ytlniohgnkihefaa
namespace Go.Proofs.Ytlniohgnkihefaa

abbrev St := Nat → Nat → Bool
def Sub (S T : Nat → Bool) : Prop := ∀ n, S n = true → T n = true
theorem Sub.refl (S : Nat → Bool) : Sub S S := fun _ h => h
theorem Sub.trans {S T U : Nat → Bool} (h : Sub S T) (k : Sub T U) : Sub S U := fun n hn => k n (h n hn)
theorem Sub.antisymm {S T : Nat → Bool} (h : Sub S T) (k : Sub T S) : S = T := by
  funext n
  rw [Bool.eq_iff_iff]
  exact ⟨h n, k n⟩
theorem endP_mono (k : Blk) {S T : Nat → Bool} (h : Sub S T) : Sub (endP k S) (endP k T) := by
  intro n hn
  unfold endP at hn ⊢
  rcases Bool.or_eq_true_iff.1 hn with h1 | h1
  · rw [h n h1]; rfl
  · rw [h1]; simp
theorem aheadP_mono (x : Ins) {S T : Nat → Bool} (h : Sub S T) : Sub (aheadP x S) (aheadP x T) := by
  intro n hn
  unfold aheadP at hn ⊢
  rcases Bool.or_eq_true_iff.1 hn with h1 | h1
  · obtain ⟨h2, h3⟩ := Bool.and_eq_true_iff.1 h1
    rw [h n h2, h3]; rfl
  · rw [h1]; simp
/-- What is live ahead of some of the last instructions. -/
def tailP (k : Blk) (xs : List Ins) (S : Nat → Bool) : Nat → Bool := xs.foldr aheadP (endP k S)
def blkP (k : Blk) (S : Nat → Bool) : Nat → Bool := tailP k k.ins S
theorem tailP_mono (k : Blk) (xs : List Ins) {S T : Nat → Bool} (h : Sub S T) : Sub (tailP k xs S) (tailP k xs T) := by
  induction xs with
  | nil => exact endP_mono k h
  | cons x xs ih => exact aheadP_mono x ih
theorem blkP_mono (k : Blk) {S T : Nat → Bool} (h : Sub S T) : Sub (blkP k S) (blkP k T) := tailP_mono k k.ins h
/-- What is live at the beginning of one of the blocks that a block goes on to. -/
def succP (k : Blk) (I : St) (n : Nat) : Bool := (nextP k).any fun t => I t.toNat n
theorem succP_mono (k : Blk) {I I' : St} (h : ∀ i, Sub (I i) (I' i)) : Sub (succP k I) (succP k I') := by
  intro n hn
  unfold succP at hn ⊢
  rw [List.any_eq_true] at hn ⊢
  obtain ⟨t, ht, h1⟩ := hn
  exact ⟨t, ht, h _ n h1⟩
/-- A solution of the equations. -/
def Sol (ks : List Blk) (I O : St) : Prop := ∀ i (h : i < ks.length), O i = succP ks[i] I ∧ I i = blkP ks[i] (O i)
def LiveIn (ks : List Blk) (i n : Nat) : Prop := ∀ I O, Sol ks I O → I i n = true
def LiveOut (ks : List Blk) (i n : Nat) : Prop := ∀ I O, Sol ks I O → O i n = true
/-- A state on the way. -/
structure Way (ks : List Blk) (I O : St) : Prop where
  least : ∀ I' O', Sol ks I' O' → ∀ i, i < ks.length → Sub (I i) (I' i) ∧ Sub (O i) (O' i)
  out : ∀ i, ks.length ≤ i → (∀ n, I i n = false) ∧ ∀ n, O i n = false
  inb : ∀ i (h : i < ks.length), Sub (I i) (blkP ks[i] (O i))
  ofs : ∀ i (h : i < ks.length), Sub (O i) (succP ks[i] I)
theorem Way.start (ks : List Blk) : Way ks (fun _ _ => false) (fun _ _ => false) :=
  ⟨fun _ _ _ _ _ => ⟨fun _ h => (Bool.noConfusion h), fun _ h => (Bool.noConfusion h)⟩, fun _ _ => ⟨fun _ => rfl, fun _ => rfl⟩, fun _ _ _ h => (Bool.noConfusion h), fun _ _ _ h => (Bool.noConfusion h)⟩
def setS (I : St) (i : Nat) (S : Nat → Bool) : St := fun j => if j = i then S else I j
theorem setS_same (I : St) (i : Nat) (S : Nat → Bool) : setS I i S i = S := by unfold setS; rw [if_pos rfl]
theorem setS_other (I : St) {i j : Nat} (S : Nat → Bool) (h : j ≠ i) : setS I i S j = I j := by unfold setS; rw [if_neg h]
/-- More behind a block: something of what its followers have. -/
theorem Way.growOut {ks : List Blk} {I O : St} (h : Way ks I O) {i : Nat} (hi : i < ks.length) {S : Nat → Bool} (h1 : Sub (O i) S) (h2 : Sub S (succP ks[i] I)) : Way ks I (setS O i S) := by
  refine ⟨fun I' O' hs j hj => ?_, fun j hj => ?_, fun j hj => ?_, fun j hj => ?_⟩
  · by_cases e : j = i
    · subst e
      refine ⟨(h.least I' O' hs j hj).1, ?_⟩
      rw [setS_same, (hs j hj).1]
      refine h2.trans (succP_mono _ fun m => ?_)
      by_cases hm : m < ks.length
      · exact (h.least I' O' hs m hm).1
      · intro n hn
        rw [(h.out m (by omega)).1 n] at hn; cases hn
    · rw [setS_other O S e]; exact h.least I' O' hs j hj
  · rw [setS_other O S (by omega)]; exact h.out j hj
  · by_cases e : j = i
    · subst e; rw [setS_same]; exact (h.inb j hj).trans (blkP_mono _ h1)
    · rw [setS_other O S e]; exact h.inb j hj
  · by_cases e : j = i
    · subst e; rw [setS_same]; exact h2
    · rw [setS_other O S e]; exact h.ofs j hj
/-- More at a block's beginning: something of what its end asks. -/
theorem Way.growIn {ks : List Blk} {I O : St} (h : Way ks I O) {i : Nat} (hi : i < ks.length) {S : Nat → Bool} (h1 : Sub (I i) S) (h2 : Sub S (blkP ks[i] (O i))) : Way ks (setS I i S) O := by
  have hup : ∀ m, Sub (I m) (setS I i S m) := fun m => by
    by_cases e : m = i
    · subst e; rw [setS_same]; exact h1
    · rw [setS_other I S e]; exact Sub.refl _
  refine ⟨fun I' O' hs j hj => ?_, fun j hj => ?_, fun j hj => ?_, fun j hj => ?_⟩
  · by_cases e : j = i
    · subst e
      refine ⟨?_, (h.least I' O' hs j hj).2⟩
      rw [setS_same, (hs j hj).2]
      exact h2.trans (blkP_mono _ (h.least I' O' hs j hj).2)
    · rw [setS_other I S e]; exact h.least I' O' hs j hj
  · rw [setS_other I S (by omega)]; exact h.out j hj
  · by_cases e : j = i
    · subst e; rw [setS_same]; exact h2
    · rw [setS_other I S e]; exact h.inb j hj
  · exact (h.ofs j hj).trans (succP_mono _ hup)
/-- Nothing more comes: it is the least solution. -/
theorem Way.done {ks : List Blk} {I O : St} (h : Way ks I O) (h1 : ∀ i (hi : i < ks.length), Sub (succP ks[i] I) (O i)) (h2 : ∀ i (hi : i < ks.length), Sub (blkP ks[i] (O i)) (I i)) :
    ∀ i, i < ks.length → (∀ n, I i n = true ↔ LiveIn ks i n) ∧ ∀ n, O i n = true ↔ LiveOut ks i n := by
  have hs : Sol ks I O := fun i hi => ⟨(h.ofs i hi).antisymm (h1 i hi), (h.inb i hi).antisymm (h2 i hi)⟩
  exact fun i hi => ⟨fun n => ⟨fun hn I' O' hs' => (h.least I' O' hs' i hi).1 n hn, fun hn => hn I O hs⟩, fun n => ⟨fun hn I' O' hs' => (h.least I' O' hs' i hi).2 n hn, fun hn => hn I O hs⟩⟩
end Go.Proofs.Ytlniohgnkihefaa
namespace Go.Proofs.Ytlniohgnkihefaa

/-- What is in a row of numbers. -/
def listP (l : List Int) (n : Nat) : Bool := hasL l (n : Int)
theorem listP_iff {l : List Int} {n : Nat} : listP l n = true ↔ (n : Int) ∈ l := by
  unfold listP hasL
  rw [List.any_eq_true]
  constructor
  · rintro ⟨x, hx, h⟩
    rw [← show x = (n : Int) from by simpa using h]; exact hx
  · intro h; exact ⟨_, h, by simp⟩
theorem mem_putL {l : List Int} {z y : Int} : y ∈ putL l z ↔ y ∈ l ∨ (0 ≤ z ∧ y = z) := by
  unfold putL
  split
  · rename_i h
    constructor
    · exact .inl
    · rintro (h1 | ⟨h1, rfl⟩)
      · exact h1
      · rcases h with h | h
        · omega
        · unfold hasL at h
          obtain ⟨x, hx, h2⟩ := List.any_eq_true.1 h
          rw [← show x = y from by simpa using h2]; exact hx
  · rename_i h
    have h0 : 0 ≤ z := by omega
    simp only [List.mem_append, List.mem_filter, List.mem_singleton, decide_eq_true_eq]
    constructor
    · rintro ((h1 | h1) | h1)
      · exact .inl h1.1
      · exact .inr ⟨h0, h1⟩
      · exact .inl h1.1
    · rintro (h1 | ⟨_, h1⟩)
      · rcases Int.lt_trichotomy y z with c | c | c
        · exact .inl (.inl ⟨h1, c⟩)
        · exact .inl (.inr c)
        · exact .inr ⟨h1, c⟩
      · exact .inl (.inr h1)
theorem mem_foldl_put {zs : List Int} {y : Int} : ∀ {l : List Int}, y ∈ zs.foldl putL l ↔ y ∈ l ∨ (0 ≤ y ∧ y ∈ zs) := by
  induction zs with
  | nil => intro l; simp
  | cons z zs ih =>
    intro l
    rw [List.foldl_cons, ih, mem_putL]
    constructor
    · rintro ((h | ⟨h1, rfl⟩) | ⟨h1, h2⟩)
      · exact .inl h
      · exact .inr ⟨h1, by simp⟩
      · exact .inr ⟨h1, by simp [h2]⟩
    · rintro (h | ⟨h1, h2⟩)
      · exact .inl (.inl h)
      · rcases List.mem_cons.1 h2 with rfl | h2
        · exact .inl (.inr ⟨h1, rfl⟩)
        · exact .inr ⟨h1, h2⟩
/-- A row that rises, of numbers from 0 on. -/
def RiseL (l : List Int) : Prop := l.Pairwise (· < ·) ∧ ∀ z ∈ l, 0 ≤ z
theorem RiseL.nil : RiseL [] := ⟨List.Pairwise.nil, fun _ h => by cases h⟩
theorem RiseL.filter {l : List Int} (h : RiseL l) (p : Int → Bool) : RiseL (l.filter p) := ⟨h.1.filter _, fun z hz => h.2 z (List.mem_filter.1 hz).1⟩
theorem RiseL.put {l : List Int} (h : RiseL l) (z : Int) : RiseL (putL l z) := by
  refine ⟨?_, fun y hy => ?_⟩
  · unfold putL
    split
    · exact h.1
    · rw [List.pairwise_append, List.pairwise_append]
      refine ⟨⟨h.1.filter _, List.pairwise_singleton _ _, ?_⟩, h.1.filter _, ?_⟩
      · intro a ha b hb
        rw [List.mem_filter] at ha
        rw [List.mem_singleton] at hb
        subst hb
        simpa using ha.2
      · intro a ha b hb
        rw [List.mem_filter] at hb
        rw [List.mem_append, List.mem_filter, List.mem_singleton] at ha
        have h2 : z < b := by simpa using hb.2
        rcases ha with ha | rfl
        · have h1 : a < z := by simpa using ha.2
          omega
        · exact h2
  · rcases mem_putL.1 hy with h1 | ⟨h1, rfl⟩
    · exact h.2 y h1
    · exact h1
theorem RiseL.foldl {zs : List Int} : ∀ {l : List Int}, RiseL l → RiseL (zs.foldl putL l) := by
  induction zs with
  | nil => intro l h; exact h
  | cons z zs ih => intro l h; exact ih (h.put z)
theorem RiseL.ahead {l : List Int} (h : RiseL l) (x : Ins) : RiseL (aheadL x l) := RiseL.foldl (h.filter _)
theorem RiseL.before {l : List Int} (h : RiseL l) (k : Blk) : RiseL (beforeL k l) := by
  unfold beforeL
  split
  · exact h
  · exact h.put _
theorem rise_listP {a b : List Int} (ha : RiseL a) (hb : RiseL b) (h : ∀ n, listP a n = listP b n) : a = b := by
  have hab : ∀ y, y ∈ a ↔ y ∈ b := fun y => by
    by_cases hy : 0 ≤ y
    · have h1 := h y.toNat
      have e : ((y.toNat : Nat) : Int) = y := by omega
      rw [← e, ← listP_iff, ← listP_iff, h1]
    · exact ⟨fun h1 => absurd (ha.2 y h1) hy, fun h1 => absurd (hb.2 y h1) hy⟩
  have hp : a.Perm b := (List.perm_ext_iff_of_nodup (ha.1.imp fun h => by omega) (hb.1.imp fun h => by omega)).2 hab
  exact hp.eq_of_pairwise (fun x y _ _ h1 h2 => by omega) ha.1 hb.1
/-- Within another one: as long, or shorter. -/
theorem rise_len {a b : List Int} (ha : RiseL a) (hb : RiseL b) (h : Sub (listP a) (listP b)) : a.length ≤ b.length ∧ (b.length ≤ a.length → a = b) := by
  have hsub : ∀ y, y ∈ a → y ∈ b := fun y hy => by
    have e : ((y.toNat : Nat) : Int) = y := by have := ha.2 y hy; omega
    rw [← e, ← listP_iff]
    refine h _ ?_
    rw [listP_iff, e]; exact hy
  have he : a = b.filter (fun y => decide (y ∈ a)) := rise_listP ha (hb.filter _) fun n => by
    rw [Bool.eq_iff_iff, listP_iff, listP_iff, List.mem_filter, decide_eq_true_eq]
    exact ⟨fun h1 => ⟨hsub _ h1, h1⟩, fun h1 => h1.2⟩
  have hl := List.length_filter_le (fun y => decide (y ∈ a)) b
  rw [← he] at hl
  refine ⟨hl, fun hle => ?_⟩
  have h2 : (b.filter (fun y => decide (y ∈ a))).length = b.length := by rw [← he]; omega
  rw [List.length_filter_eq_length_iff] at h2
  rw [he, List.filter_eq_self]
  exact h2
/-- Registers as they may be. -/
def RegsOk (x : Ins) : Prop := x.a < 65536 ∧ x.b < 65536 ∧ ∀ r ∈ x.args, r < 65536
theorem listP_uses (x : Ins) (h : RegsOk x) (n : Nat) : listP (usesL x) n = askP x n := by
  rw [Bool.eq_iff_iff, listP_iff]
  unfold usesL askP
  rw [mem_foldl_put, mem_putL, mem_putL]
  unfold ofSet inR
  simp only [Bool.or_eq_true, List.any_eq_true, Bool.and_eq_true, decide_eq_true_eq, beq_iff_eq]
  constructor
  · rintro (((h1 | ⟨h1, h2⟩) | ⟨h1, h2⟩) | ⟨h1, h2⟩)
    · cases h1
    · exact .inl (.inr ⟨⟨h1, h.1⟩, by omega⟩)
    · exact .inr ⟨⟨h1, h.2.1⟩, by omega⟩
    · exact .inl (.inl ⟨_, h2, ⟨by omega, h.2.2 _ h2⟩, by omega⟩)
  · rintro ((⟨z, hz, ⟨h1, _⟩, h2⟩ | ⟨⟨h1, _⟩, h2⟩) | ⟨⟨h1, _⟩, h2⟩)
    · have e : (n : Int) = z := by omega
      exact .inr ⟨by omega, by rw [e]; exact hz⟩
    · exact .inl (.inl (.inr ⟨h1, by omega⟩))
    · exact .inl (.inr ⟨h1, by omega⟩)
theorem listP_ahead (x : Ins) (h : RegsOk x) (l : List Int) (n : Nat) : listP (aheadL x l) n = aheadP x (listP l) n := by
  have hu := listP_uses x h n
  unfold aheadP
  rw [← hu, Bool.eq_iff_iff, listP_iff]
  unfold aheadL
  rw [mem_foldl_put, List.mem_filter]
  simp only [Bool.or_eq_true, Bool.and_eq_true, decide_eq_true_eq, Bool.not_eq_true', listP_iff, Bool.and_eq_false_iff, beq_eq_false_iff_ne, decide_eq_false_iff_not, ne_eq]
  constructor
  · rintro (⟨h1, h2⟩ | ⟨_, h1⟩)
    · refine .inl ⟨h1, ?_⟩
      by_cases hd : 0 ≤ x.d
      · left; omega
      · right; exact hd
    · exact .inr h1
  · rintro (⟨h1, h2⟩ | h1)
    · refine .inl ⟨h1, ?_⟩
      rcases h2 with h2 | h2 <;> omega
    · exact .inr ⟨by omega, h1⟩
theorem listP_before (k : Blk) (hk : k.a < 65536) (l : List Int) (n : Nat) : listP (beforeL k l) n = endP k (listP l) n := by
  unfold beforeL endP
  by_cases h1 : k.kind = 1
  · rw [if_pos h1]; simp [h1]
  · rw [if_neg h1, Bool.eq_iff_iff, listP_iff, mem_putL]
    unfold inR
    simp only [Bool.or_eq_true, Bool.and_eq_true, decide_eq_true_eq, listP_iff, beq_iff_eq]
    constructor
    · rintro (h2 | ⟨h2, h3⟩)
      · exact .inl h2
      · exact .inr ⟨h1, ⟨h2, hk⟩, by omega⟩
    · rintro (h2 | ⟨_, ⟨h2, _⟩, h3⟩)
      · exact .inl h2
      · exact .inr ⟨h2, by omega⟩
theorem listP_nil (n : Nat) : listP [] n = false := rfl
end Go.Proofs.Ytlniohgnkihefaa
namespace Go.Proofs.Ytlniohgnkihefaa
open Go.RowKit

/-- Instructions, blocks in memory, at any depth. -/
def InsMem (w : World) (A : Option Addr) (l : List Ins) : Prop := ∃ xs : List InsQ, xs.map (·.k) = l ∧ InsRow w A xs ∧ ∀ x ∈ xs, ReadsAt w x.A (ints x.k.args)
def BlkMem (w : World) (A : Option Addr) (l : List Blk) : Prop := ∃ bs : List BlkQ, bs.map (·.k) = l ∧ BlkRow w A bs ∧ ∀ b ∈ bs, InsMem w b.A b.k.ins
theorem InsRow.below {w w' : World} {A : Option Addr} {xs : List InsQ} (h : InsRow w A xs) (hb : Below w.heap.size w w') : InsRow w' A xs := by
  intro hp
  obtain ⟨g, off, hA, hg, hc⟩ := h hp
  exact ⟨g, off, hA, Nat.lt_of_lt_of_le hg hb.size, fun i hi j v hv => (hb.cell (p := ⟨g, off + i * 8 + j, none⟩) hg).trans (hc i hi j v hv)⟩
theorem BlkRow.below {w w' : World} {A : Option Addr} {xs : List BlkQ} (h : BlkRow w A xs) (hb : Below w.heap.size w w') : BlkRow w' A xs := by
  intro hp
  obtain ⟨g, off, hA, hg, hc⟩ := h hp
  exact ⟨g, off, hA, Nat.lt_of_lt_of_le hg hb.size, fun i hi j v hv => (hb.cell (p := ⟨g, off + i * 5 + j, none⟩) hg).trans (hc i hi j v hv)⟩
theorem readsBelow {w w' : World} {A : Option Addr} {xs : List Value} (h : ReadsAt w A xs) (hb : Below w.heap.size w w') : ReadsAt w' A xs := h.kept (S := fun _ => False) (Chg.of_below hb _) fun _ _ _ _ h => h
theorem InsMem.below {w w' : World} {A : Option Addr} {l : List Ins} (h : InsMem w A l) (hb : Below w.heap.size w w') : InsMem w' A l := by
  obtain ⟨xs, h1, h2, h3⟩ := h
  exact ⟨xs, h1, h2.below hb, fun x hx => readsBelow (h3 x hx) hb⟩
theorem BlkMem.below {w w' : World} {A : Option Addr} {l : List Blk} (h : BlkMem w A l) (hb : Below w.heap.size w w') : BlkMem w' A l := by
  obtain ⟨xs, h1, h2, h3⟩ := h
  exact ⟨xs, h1, h2.below hb, fun x hx => (h3 x hx).below hb⟩
def fnAgg (f : Fn) (A : Option Addr) (c : Nat) : Value := .agg #[.string f.name, .int .i64 f.params, .int .i64 f.regs, .slice A f.blocks.length c]
/-- A function as the passes take it. -/
structure BlkF (n : Nat) (k : Blk) : Prop where
  nins : k.ins.length ≤ 1000
  kind : k.kind = 1 ∨ k.kind = 2 ∨ k.kind = 3
  a : k.a < 65536
  to : k.kind ≠ 3 → 0 ≤ k.to ∧ k.to < (n : Int)
  els : k.kind = 2 → 0 ≤ k.els ∧ k.els < (n : Int)
  regs : ∀ x ∈ k.ins, RegsOk x ∧ x.args.length ≤ 1000
structure FlowF (ks : List Blk) : Prop where
  nb : ks.length ≤ 1000
  blk : ∀ k ∈ ks, BlkF ks.length k

/-- Rows of numbers as they lie. -/
structure LM where
  l : List Int
  A : Option Addr
  c : Nat
def LM.enc (m : LM) : Value := .slice m.A m.l.length m.c
/-- A row of rows; none of these lies in a block that 'no' names. -/
structure LL (w : World) (g : Nat) (no : Nat → Prop) (ms : List LM) : Prop where
  row : RowAt w 46 1 (.slice (some ⟨g, 0, none⟩) ms.length ms.length) (some g) ms.length (ms.map LM.enc)
  reads : ∀ m ∈ ms, ReadsAt w m.A (ints m.l)
  apart : ∀ m ∈ ms, ∀ h off, m.A = some ⟨h, off, none⟩ → ¬ no h
theorem LL.lt {w : World} {g : Nat} {no : Nat → Prop} {ms : List LM} (h : LL w g no ms) : g < w.heap.size := h.row.lt g rfl
theorem LL.cell {w : World} {g : Nat} {no : Nat → Prop} {ms : List LM} (h : LL w g no ms) (j : Nat) (hj : j < ms.length) : w.cell? ⟨g, j, none⟩ = some (ms[j].enc) ∧ w.frozen? ⟨g, j, none⟩ = false := by
  obtain ⟨g', off, cap, hv, hr, _, _, _, hc, hf⟩ := h.row.form (by omega)
  cases hr
  injection hv with ha _ _
  injection ha with ha
  injection ha with _ ho
  subst ho
  have := hc j ms[j].enc (by simp [hj])
  rw [Nat.zero_add] at this
  exact ⟨this, hf j⟩
theorem LL.kept {w w' : World} {g : Nat} {no : Nat → Prop} {ms : List LM} (h : LL w g no ms) {S : Nat → Prop} (hc : Chg S w w') (hg : ¬ S g) (hS : ∀ k, S k → no k) : LL w' g no ms :=
  ⟨h.row.kept hc fun k e => by cases e; exact hg, fun m hm => (h.reads m hm).kept hc fun g off e _ hs => h.apart m hm g off e (hS g hs), h.apart⟩
theorem LL.below {w w' : World} {g : Nat} {no : Nat → Prop} {ms : List LM} (h : LL w g no ms) (hb : Below w.heap.size w w') : LL w' g no ms := h.kept (S := fun _ => False) (Chg.of_below hb _) (fun h => h) fun _ h => h.elim
theorem LL.set {w : World} {g : Nat} {no : Nat → Prop} {ms : List LM} (h : LL w g no ms) (j : Nat) (hj : j < ms.length) (m : LM) (hr : ReadsAt w m.A (ints m.l)) (ha : ∀ h off, m.A = some ⟨h, off, none⟩ → ¬ no h) (hg : no g) :
    LL (w.setCell ⟨g, j, none⟩ m.enc) g no (ms.set j m) := by
  have hS := Chg.store w g j m.enc
  have hall : ∀ x ∈ ms.set j m, ReadsAt w x.A (ints x.l) ∧ ∀ h off, x.A = some ⟨h, off, none⟩ → ¬ no h := fun x hx => by
    rcases List.mem_or_eq_of_mem_set hx with hx | rfl
    · exact ⟨h.reads x hx, h.apart x hx⟩
    · exact ⟨hr, ha⟩
  refine ⟨?_, fun x hx => (hall x hx).1.kept hS fun k off e _ hk => by
    have hk' : k = g := hk
    exact (hall x hx).2 k off e (hk' ▸ hg), fun x hx => (hall x hx).2⟩
  rw [List.length_set, List.map_set]
  have := h.row.stored j m.enc (by omega)
  rw [Nat.zero_add] at this
  exact this
theorem LL.other {w : World} {g : Nat} {no : Nat → Prop} {ms : List LM} (h : LL w g no ms) {g2 : Nat} (j : Nat) (u : Value) (hne : g2 ≠ g) (hg : no g2) : LL (w.setCell ⟨g2, j, none⟩ u) g no ms :=
  h.kept (Chg.store w g2 j u) (fun e => hne e.symm) fun k e => by rw [e]; exact hg
/-- The sets of a row of rows. -/
def stOf (ms : List LM) : St := fun i => match ms[i]? with
  | some m => listP m.l
  | none => fun _ => false
theorem stOf_at (ms : List LM) (i : Nat) (h : i < ms.length) : stOf ms i = listP ms[i].l := by unfold stOf; rw [List.getElem?_eq_getElem h]
theorem stOf_out (ms : List LM) (i : Nat) (h : ms.length ≤ i) : stOf ms i = fun _ => false := by unfold stOf; rw [List.getElem?_eq_none h]
theorem stOf_set (ms : List LM) (i : Nat) (h : i < ms.length) (m : LM) : stOf (ms.set i m) = setS (stOf ms) i (listP m.l) := by
  funext j
  by_cases e : j = i
  · subst e
    rw [setS_same]
    unfold stOf
    rw [List.getElem?_set_self h]
  · rw [setS_other _ _ e]
    unfold stOf
    rw [List.getElem?_set_ne (fun h => e h.symm)]
theorem setS_eq (I : St) (i : Nat) : setS I i (I i) = I := by
  funext j
  by_cases e : j = i
  · subst e; rw [setS_same]
  · rw [setS_other _ _ e]
/-- Rising, below 65536. -/
def Bnd (l : List Int) : Prop := RiseL l ∧ ∀ z ∈ l, z < 65536
theorem len_of_bnd (N : Nat) : ∀ l : List Int, l.Pairwise (· < ·) → (∀ z ∈ l, 0 ≤ z ∧ z < (N : Int)) → l.length ≤ N := by
  induction N with
  | zero =>
    intro l _ h
    cases l with
    | nil => simp
    | cons a l => have := h a (by simp); omega
  | succ N ih =>
    intro l hp h
    have h1 := ih (l.filter fun z => decide (z < (N : Int))) (hp.filter _) fun z hz => by
      rw [List.mem_filter] at hz
      exact ⟨(h z hz.1).1, by simpa using hz.2⟩
    have h2 : ∀ l : List Int, l.Pairwise (· < ·) → (∀ z ∈ l, z ≤ (N : Int)) → l.length ≤ (l.filter fun z => decide (z < (N : Int))).length + 1 := by
      intro l
      induction l with
      | nil => simp
      | cons a l ih2 =>
        intro hp hz
        rw [List.pairwise_cons] at hp
        by_cases c : a < (N : Int)
        · rw [List.filter_cons_of_pos (by simpa using c)]
          have := ih2 hp.2 fun z h => hz z (by simp [h])
          simp; omega
        · have ha := hz a (by simp)
          cases l with
          | nil => simp
          | cons b l =>
            have h3 := hp.1 b (by simp)
            have h4 := hz b (by simp)
            omega
    have := h2 l hp fun z hz => by have := h z hz; omega
    omega
theorem Bnd.len {l : List Int} (h : Bnd l) : l.length ≤ 65536 := len_of_bnd 65536 l h.1.1 fun z hz => ⟨h.1.2 z hz, h.2 z hz⟩
theorem Bnd.nil : Bnd [] := ⟨RiseL.nil, fun _ h => by cases h⟩
theorem Bnd.put {l : List Int} (h : Bnd l) {z : Int} (hz : z < 65536) : Bnd (putL l z) := ⟨h.1.put z, fun y hy => by
  rcases mem_putL.1 hy with h1 | ⟨_, rfl⟩
  · exact h.2 y h1
  · exact hz⟩
theorem Bnd.foldl {l zs : List Int} (h : Bnd l) (hz : ∀ z ∈ zs, z < 65536) : Bnd (zs.foldl putL l) := ⟨h.1.foldl, fun y hy => by
  rcases mem_foldl_put.1 hy with h1 | ⟨_, h1⟩
  · exact h.2 y h1
  · exact hz y h1⟩
theorem uses_lt {x : Ins} (h : RegsOk x) : ∀ z ∈ usesL x, z < 65536 := by
  intro z hz
  unfold usesL at hz
  rw [mem_foldl_put, mem_putL, mem_putL] at hz
  rcases hz with ((h1 | ⟨_, rfl⟩) | ⟨_, rfl⟩) | ⟨_, h1⟩
  · cases h1
  · exact h.1
  · exact h.2.1
  · exact h.2.2 z h1
theorem Bnd.ahead {l : List Int} (h : Bnd l) {x : Ins} (hx : RegsOk x) : Bnd (aheadL x l) := by
  unfold aheadL
  refine Bnd.foldl ⟨h.1.filter _, fun z hz => h.2 z (List.mem_filter.1 hz).1⟩ (uses_lt hx)
theorem Bnd.before {l : List Int} (h : Bnd l) {k : Blk} (hk : k.a < 65536) : Bnd (beforeL k l) := by
  unfold beforeL
  split
  · exact h
  · exact h.put hk
theorem Bnd.tail {l : List Int} (h : Bnd l) : ∀ {xs : List Ins}, (∀ x ∈ xs, RegsOk x) → Bnd (xs.foldr aheadL l) := by
  intro xs
  induction xs with
  | nil => intro _; exact h
  | cons x xs ih => intro hx; exact (ih fun y hy => hx y (by simp [hy])).ahead (hx x (by simp))
theorem listP_tail (k : Blk) (hk : k.a < 65536) (l : List Int) : ∀ (xs : List Ins), (∀ x ∈ xs, RegsOk x) → listP (xs.foldr aheadL (beforeL k l)) = tailP k xs (listP l) := by
  intro xs
  induction xs with
  | nil => intro _; funext n; exact listP_before k hk l n
  | cons x xs ih =>
    intro hx
    funext n
    rw [List.foldr_cons, listP_ahead x (hx x (by simp)), ih fun y hy => hx y (by simp [hy])]
    rfl
/-- Lengths together. -/
def totL (ms : List LM) : Nat := (ms.map fun m => m.l.length).sum
theorem totL_set : ∀ (ms : List LM) (i : Nat) (h : i < ms.length) (m : LM), totL (ms.set i m) + ms[i].l.length = totL ms + m.l.length := by
  intro ms
  induction ms with
  | nil => intro i h; simp at h
  | cons a ms ih =>
    intro i h m
    cases i with
    | zero => simp [totL]; omega
    | succ i =>
      have := ih i (by simpa using h) m
      simp [totL] at this ⊢; omega
theorem totL_le (ms : List LM) (h : ∀ m ∈ ms, Bnd m.l) : totL ms ≤ ms.length * 65536 := by
  unfold totL
  induction ms with
  | nil => simp
  | cons a ms ih =>
    have h1 := (h a (by simp)).len
    have h2 := ih fun m hm => h m (by simp [hm])
    rw [List.map_cons, List.sum_cons, List.length_cons, Nat.add_mul]; omega
/-- .. as a world tells them. -/
def lenOf (w : World) (g n : Nat) : Nat := ((List.range n).map fun j => match w.cell? ⟨g, j, none⟩ with
  | some (.slice _ m _) => m
  | _ => 0).sum
theorem LL.len {w : World} {g : Nat} {no : Nat → Prop} {ms : List LM} (h : LL w g no ms) {n : Nat} (hn : ms.length = n) : lenOf w g n = totL ms := by
  subst hn
  unfold lenOf totL
  congr 1
  apply List.ext_getElem (by simp)
  intro j h1 h2
  simp only [List.getElem_map, List.getElem_range]
  rw [(h.cell j (by simpa using h1)).1]
  rfl
end Go.Proofs.Ytlniohgnkihefaa
