/- brazierref14: Uses, Pure, Ahead, Before. -/
import Derived.Test.YtlniohgnkihefaaRef14
import Derived.Test.YtlniohgnkihefaaDeadA
import Derived.Deep.RegionHeld3
namespace Go.Proofs.Ytlniohgnkihefaa
open Go.RowKit

def usesL (x : Ins) : List Int := x.args.foldl putL (putL (putL [] x.a) x.b)
def aheadL (x : Ins) (l : List Int) : List Int := (usesL x).foldl putL (l.filter fun r => decide (r ≠ x.d))
def beforeL (k : Blk) (l : List Int) : List Int := if k.kind = 1 then l else putL l k.a
theorem putL_len (l : List Int) (n : Int) : (putL l n).length ≤ l.length + 1 := by
  unfold putL
  split
  · omega
  · rename_i h
    rw [List.length_append, List.length_append, List.length_singleton]
    have h1 : ∀ l : List Int, (l.filter fun x => decide (x < n)).length + (l.filter fun x => decide (n < x)).length ≤ l.length := by
      intro l
      induction l with
      | nil => simp
      | cons a l ih =>
        rcases Int.lt_trichotomy a n with c | c | c
        · rw [List.filter_cons_of_pos (by simpa using c), List.filter_cons_of_neg (by simp; omega)]; simp; omega
        · rw [List.filter_cons_of_neg (by simp; omega), List.filter_cons_of_neg (by simp; omega)]; simp; omega
        · rw [List.filter_cons_of_neg (by simp; omega), List.filter_cons_of_pos (by simpa using c)]; simp; omega
    have := h1 l
    omega
theorem foldl_put_len (zs : List Int) : ∀ l : List Int, (zs.foldl putL l).length ≤ l.length + zs.length := by
  induction zs with
  | nil => intro l; simp
  | cons z zs ih => intro l; rw [List.foldl_cons]; have h1 := ih (putL l z); have h2 := putL_len l z; simp; omega
theorem foldl_take_put (zs : List Int) (l : List Int) (k : Nat) (h : k < zs.length) (x : Int) (hx : x = zs[k]) : (zs.take (k + 1)).foldl putL l = putL ((zs.take k).foldl putL l) x := by
  rw [List.take_succ_eq_append_getElem h, List.foldl_append, hx]; rfl
/-- What stands between two rounds. -/
structure LoopO (w wr : World) (A : Option Addr) (m : List Int) : Prop where
  below : Below w.heap.size w wr
  row : ReadsAt wr A (ints m)
  new : ∀ g off, A = some ⟨g, off, none⟩ → w.heap.size ≤ g ∧ g < wr.heap.size
theorem LoopO.give {w wr w1 : World} {A A1 : Option Addr} {m m1 : List Int} (h : LoopO w wr A m) (hB : Below wr.heap.size wr w1) (hR : ReadsAt w1 A1 (ints m1))
    (hA : ∀ g off, A1 = some ⟨g, off, none⟩ → (wr.heap.size ≤ g ∧ g < w1.heap.size) ∨ A = some ⟨g, off, none⟩) : LoopO w w1 A1 m1 := by
  refine ⟨h.below.trans (hB.mono h.below.size), hR, fun g off e => ?_⟩
  have h1 := h.below.size
  have h2 := hB.size
  rcases hA g off e with h3 | h3
  · omega
  · have := h.new g off h3; omega
theorem reads_below {w w' : World} {A : Option Addr} {xs : List Value} (h : ReadsAt w A xs) (hb : Below w.heap.size w w') : ReadsAt w' A xs := h.kept (S := fun _ => False) (Chg.of_below hb _) fun _ _ _ _ h => h
theorem LoopO.reads {w wr : World} {A : Option Addr} {m : List Int} {B : Option Addr} {xs : List Value} (h : LoopO w wr A m) (hr : ReadsAt w B xs) : ReadsAt wr B xs := reads_below hr h.below

set_option maxRecDepth 100000 in
set_option maxHeartbeats 2000000 in
theorem uses_any (x : Ins) (hx : x.args.length ≤ 1000) (A : Option Addr) (c : Nat) (w : World) (hr : ReadsAt w A (ints x.args)) :
    Calls Try.prog 36 #[insAgg x A c] w (GiveL w none (usesL x)) := by
  obtain ⟨kind, op, d, a, b, num, name, args⟩ := x
  dsimp only [insAgg, usesL] at hx hr ⊢
  obtain ⟨W0, hW0⟩ : ∃ W0, W0 = w.alloc (.cells #[.int .i64 kind, .int .i64 op, .int .i64 d, .int .i64 a, .int .i64 b, .int .i32 num, .string name, .slice A args.length c] 48) := ⟨_, rfl⟩
  have hB0 : Below w.heap.size w W0 := by rw [hW0]; exact (Below.refl _ w).alloc (Nat.le_refl _) _
  have h3 : W0.cell? ⟨w.heap.size, 3, none⟩ = some (.int .i64 a) := by rw [hW0]; exact box_at w _ _ 3 _ rfl
  have h4 : W0.cell? ⟨w.heap.size, 4, none⟩ = some (.int .i64 b) := by rw [hW0]; exact box_at w _ _ 4 _ rfl
  have h7 : W0.cell? ⟨w.heap.size, 7, none⟩ = some (.slice A args.length c) := by rw [hW0]; exact box_at w _ _ 7 _ rfl
  have HR := Lib.hid hr
  have HB0 := Lib.hid hB0
  clear hr hB0
  go_enter Try.func36, Try.ntmps36
  go_wp2_with fail
  rw [← hW0]
  clear hW0
  obtain ⟨bx, hbx⟩ : ∃ bx, bx = w.heap.size := ⟨_, rfl⟩
  rw [← hbx] at h3 h4 h7 ⊢
  have HBX := Lib.hid hbx
  clear hbx
  have HP0 : Hid (Calls Try.prog 35 #[.slice none 0 0, .int .i64 a] W0.drew (GiveL W0.drew none (putL [] a))) := Lib.hid (put14_any [] none 0 a W0.drew (by simp) (fun h => by cases h))
  go_region_held3 (fun Y => Y.cell? ⟨bx, 3, none⟩ = some (.int .i64 a) ∧ Y.cell? ⟨bx, 4, none⟩ = some (.int .i64 b) ∧ Y.cell? ⟨bx, 7, none⟩ = some (.slice A args.length c)) (first | exact ⟨h3, h4, h7⟩ | go_keep) (first
    | (go_at_call 35; (with_reducible refine HP0.out.mono ?_); rintro e W1 ⟨A1, c1, rfl, hb1, hr1, hn1⟩; obtain ⟨l1, hl1⟩ : ∃ l1, l1 = (putL [] a).length := ⟨_, rfl⟩; rw [← hl1]; have h3 := (hb1.cell (p := ⟨bx, 3, none⟩) (World.block_lt_of_cell? W0 _ h3)).trans h3; have h4 := (hb1.cell (p := ⟨bx, 4, none⟩) (World.block_lt_of_cell? W0 _ h4)).trans h4; have h7 := (hb1.cell (p := ⟨bx, 7, none⟩) (World.block_lt_of_cell? W0 _ h7)).trans h7; have HL1 := Lib.hid hl1; have HB1 := Lib.hid hb1; have HR1 := Lib.hid hr1; have HN1 := Lib.hid hn1; clear hb1 hr1 hn1 hl1)
    | (go_at_call 35; have hP := put14_any (putL [] a) A1 c1 b W1 (by have := putL_len [] a; simp at this; omega) HR1.out; rw [← HL1.out] at hP; (with_reducible refine hP.mono ?_); clear hP; rintro e W2 ⟨A2, c2, rfl, hb2, hr2, hn2⟩; obtain ⟨l2, hl2⟩ : ∃ l2, l2 = (putL (putL [] a) b).length := ⟨_, rfl⟩; rw [← hl2]; have h3 := (hb2.cell (p := ⟨bx, 3, none⟩) (World.block_lt_of_cell? W1 _ h3)).trans h3; have h4 := (hb2.cell (p := ⟨bx, 4, none⟩) (World.block_lt_of_cell? W1 _ h4)).trans h4; have h7 := (hb2.cell (p := ⟨bx, 7, none⟩) (World.block_lt_of_cell? W1 _ h7)).trans h7; have HL2 := Lib.hid hl2; have HB2 := Lib.hid hb2; have HR2 := Lib.hid hr2; have HN2 := Lib.hid hn2; clear hb2 hr2 hn2 hl2))
  have hb01 : Below W0.heap.size W0 W1 := ((Below.refl _ W0).drew).trans HB1.out
  have hL1 : LoopO w W1 A1 (putL [] a) := ⟨HB0.out.trans (hb01.mono HB0.out.size), HR1.out, fun g off e => by
    have h1 := HB0.out.size
    rcases HN1.out g off e with h2 | h2
    · have h5 : W0.drew.heap.size = W0.heap.size := rfl
      omega
    · cases h2⟩
  have hL2 := hL1.give HB2.out HR2.out HN2.out
  obtain ⟨m0, hm0⟩ : ∃ m0, m0 = putL (putL [] a) b := ⟨_, rfl⟩
  have hm0l : m0.length ≤ 2 := by have e1 := putL_len [] a; have e2 := putL_len (putL [] a) b; rw [hm0]; simp at e1; omega
  rw [← hm0] at hL2 HL2
  have HM0 := Lib.hid hm0
  have HLL2 := Lib.hid hL2
  clear hm0 hL1 hL2 hb01 HB1 HR1 HN1 HB2 HR2 HN2 h3 h4
  go_wp2_with fail
  go_loopw [3, 15] (fun v i wr => ∃ (k : Nat) (Ax : Option Addr) (cx : Nat), k ≤ args.length ∧ i = .int .i64 (k : Nat) ∧ v = .slice Ax ((args.take k).foldl putL m0).length cx ∧ LoopO w wr Ax ((args.take k).foldl putL m0)) (fun _ i _ => args.length - (intOf i).toNat)
  case atStart => exact ⟨0, A2, c2, Nat.zero_le _, rfl, by rw [HL2.out]; rfl, HLL2.out⟩
  case round =>
    obtain ⟨k, Ax, cx, hk, rfl, rfl, hL⟩ := hrel
    have hlen := foldl_put_len (args.take k) m0
    rw [List.length_take] at hlen
    obtain ⟨lx, hlx⟩ : ∃ lx, lx = ((args.take k).foldl putL m0).length := ⟨_, rfl⟩
    rw [← hlx] at hlen ⊢
    have HLX := Lib.hid hlx
    have HL := Lib.hid hL
    clear hL hlx
    by_cases hlt : k < args.length
    · obtain ⟨z, hze⟩ : ∃ z, z = args[k] := ⟨_, rfl⟩
      obtain ⟨g, off, rfl, hg, hx1⟩ := reads_len0 (HL.out.reads HR.out) k hlt z hze
      have HT := Lib.hid (foldl_take_put args m0 k hlt z hze)
      have hq1 : (0 : Int) ≤ (k : Int) := by omega
      have hq2 : (k : Int) < (args.length : Int) := by omega
      clear hze
      go_wp2_with fail
      have hP := put14_any ((args.take k).foldl putL m0) Ax cx z wr (by have := HLX.out; omega) HL.out.row
      rw [← HLX.out, ← HT.out] at hP
      refine hP.mono ?_
      clear hP
      rintro e wp ⟨Ay, cy, rfl, hB, hRy, hA⟩
      have HL2 := Lib.hid (HL.out.give hB hRy hA)
      clear hB hRy hA
      go_wp2_with fail
      go_roundw
      case rel => exact ⟨k + 1, Ay, cy, by omega, by go_num, rfl, HL2.out⟩
      case measure => simp [intOf]; omega
    · obtain rfl : k = args.length := by omega
      go_wp2_with fail
      go_ret
      rw [HLX.out]
      rw [List.take_length] at HLX HL ⊢
      rw [HM0.out] at HL ⊢
      exact ⟨Ax, cx, rfl, HL.out.below, HL.out.row, fun g off e => .inl (HL.out.new g off e)⟩
theorem Gath.loop {w wr : World} {l : List Int} {A : Option Addr} {c : Nat} (h : Gath w l (.slice A l.length c) wr) : LoopO w wr A l := by
  obtain ⟨A', c', h1, h2, h3, h4⟩ := h.give (A0 := none)
  cases h1
  exact ⟨h2, h3, fun g off e => by rcases h4 g off e with h5 | h5; exact h5; cases h5⟩
theorem before_any (k : Blk) (A : Option Addr) (c : Nat) (l : List Int) (Al : Option Addr) (cl : Nat) (w : World) (hl : l.length ≤ 100000) (hr : ReadsAt w Al (ints l)) :
    Calls Try.prog 19 #[blkAgg k A c, .slice Al l.length cl] w (GiveL w Al (beforeL k l)) := by
  obtain ⟨ins, kind, a, to, els⟩ := k
  dsimp only [blkAgg, beforeL]
  have HB := Lib.hid ((Below.refl _ w).alloc (Nat.le_refl _) (.cells #[.slice A ins.length c, .int .i64 kind, .int .i64 a, .int .i64 to, .int .i64 els] 45))
  have HR := Lib.hid (reads_alloc hr (.cells #[.slice A ins.length c, .int .i64 kind, .int .i64 a, .int .i64 to, .int .i64 els] 45))
  clear hr
  by_cases k1 : kind = 1
  · subst k1
    rw [if_pos rfl]
    go_enter Try.func19, Try.ntmps19
    go_wp2_with fail
    go_ret
    exact ⟨Al, cl, rfl, HB.out, HR.out, fun _ _ h => .inr h⟩
  · have q1 : (kind == 1) = false := beq_eq_false_iff_ne.2 k1
    rw [if_neg k1]
    clear k1
    obtain ⟨ll, hll⟩ : ∃ ll, ll = l.length := ⟨_, rfl⟩
    have HP := Lib.hid (put14_any l Al cl a _ hl HR.out)
    rw [← hll] at HP ⊢
    clear hll
    go_enter Try.func19, Try.ntmps19
    go_wp2_with fail
    refine HP.out.mono ?_
    rintro e w1 ⟨A1, c1, rfl, hb, hr1, hn⟩
    have HB1 := Lib.hid (HB.out.trans (hb.mono HB.out.size))
    have HR1 := Lib.hid hr1
    have HN := Lib.hid hn
    obtain ⟨l1, hl1⟩ : ∃ l1, l1 = (putL l a).length := ⟨_, rfl⟩
    rw [← hl1]
    have HL1 := Lib.hid hl1
    clear hb hr1 hn hl1
    go_wp2_with fail
    go_ret
    refine ⟨A1, c1, by rw [HL1.out]; rfl, HB1.out, HR1.out, fun g off e => ?_⟩
    rcases HN.out g off e with h | h
    · rw [World.size_alloc] at h; exact .inl (by omega)
    · exact .inr h
set_option maxRecDepth 100000 in
set_option maxHeartbeats 2000000 in
theorem ahead14_any (x : Ins) (hx : x.args.length ≤ 1000) (A : Option Addr) (c : Nat) (l : List Int) (Al : Option Addr) (cl : Nat) (w : World) (hl : l.length ≤ 90000) (hr : ReadsAt w A (ints x.args)) (hrl : ReadsAt w Al (ints l)) :
    Calls Try.prog 22 #[insAgg x A c, .slice Al l.length cl] w (GiveL w none (aheadL x l)) := by
  have HU := Lib.hid fun W hW => uses_any x hx A c W hW
  have hul : (usesL x).length ≤ 2 + x.args.length := by
    unfold usesL
    have h1 := foldl_put_len x.args (putL (putL [] x.a) x.b)
    have h2 := putL_len [] x.a
    have h3 := putL_len (putL [] x.a) x.b
    simp at h2
    omega
  unfold aheadL
  obtain ⟨us, hus⟩ : ∃ us, us = usesL x := ⟨_, rfl⟩
  rw [← hus] at hul ⊢
  have HUS := Lib.hid hus
  clear hus
  obtain ⟨kind, op, d, a, b, num, name, args⟩ := x
  dsimp only [insAgg] at hx hr HU hul ⊢
  obtain ⟨W0, hW0⟩ : ∃ W0, W0 = w.alloc (.cells #[.int .i64 kind, .int .i64 op, .int .i64 d, .int .i64 a, .int .i64 b, .int .i32 num, .string name, .slice A args.length c] 48) := ⟨_, rfl⟩
  have hB0 : Below w.heap.size w W0 := by rw [hW0]; exact (Below.refl _ w).alloc (Nat.le_refl _) _
  have hbx : ∀ j v, (#[.int .i64 kind, .int .i64 op, .int .i64 d, .int .i64 a, .int .i64 b, .int .i32 num, .string name, .slice A args.length c] : Array Value)[j]? = some v → W0.cell? ⟨w.heap.size, j, none⟩ = some v := fun j v hv => by rw [hW0]; exact box_at w _ _ j v hv
  have hlt0 : w.heap.size < W0.heap.size := by rw [hW0]; simp
  have HR := Lib.hid (reads_below hr hB0)
  have HRL := Lib.hid (reads_below hrl hB0)
  have HB0 := Lib.hid hB0
  have HBX := Lib.hid hbx
  clear hr hrl hB0 hbx
  go_enter Try.func22, Try.ntmps22
  go_wp2_with fail
  rw [← hW0]
  clear hW0
  obtain ⟨bx, hbx⟩ : ∃ bx, bx = w.heap.size := ⟨_, rfl⟩
  rw [← hbx] at HBX hlt0 ⊢
  have HBE := Lib.hid hbx
  clear hbx
  go_loopw [5, 12] (fun v i wr => ∃ k : Nat, k ≤ l.length ∧ i = .int .i64 (k : Nat) ∧ Gath W0 ((l.take k).filter fun r => decide (r ≠ d)) v wr) (fun _ i _ => l.length - (intOf i).toNat)
  case atStart => exact ⟨0, by omega, rfl, Gath.nil W0⟩
  case round =>
    obtain ⟨k, hk, rfl, hG⟩ := hrel
    have hfl := filter_take_len (fun r => decide (r ≠ d)) l k
    obtain ⟨m, hme⟩ : ∃ m, m = (l.take k).filter fun r => decide (r ≠ d) := ⟨_, rfl⟩
    rw [← hme] at hG hfl
    obtain ⟨Av, cv, rfl⟩ := hG.shape
    obtain ⟨r, hrow, hrn⟩ := hG.row
    have hcd := (hG.below.cell (p := ⟨bx, 2, none⟩) hlt0).trans (HBX.out 2 _ rfl)
    have HME := Lib.hid hme
    have HG := Lib.hid hG
    have HROW := Lib.hid hrow
    have HRN := Lib.hid hrn
    clear hme hG hrow hrn
    by_cases hlt : k < l.length
    · obtain ⟨z, hze⟩ : ∃ z, z = l[k] := ⟨_, rfl⟩
      obtain ⟨g, off, rfl, hg, hx1⟩ := reads_len0 HRL.out k hlt z hze
      have hx2 := (HG.out.below.cell (p := ⟨g, off + k, none⟩) hg).trans hx1
      have HX := Lib.hid hze
      clear hze hx1
      by_cases q : z = d
      · have qf : (z != d) = false := by rw [q]; simp
        have HQ := Lib.hid q
        clear q
        go_wp2_with fail
        go_roundw
        case rel => exact ⟨k + 1, by omega, by go_num, by rw [take_skip (fun r => decide (r ≠ d)) l k hlt z HX.out (decide_eq_false (not_not_intro HQ.out)), ← HME.out]; exact HG.out⟩
        case measure => simp [intOf]; omega
      · have qf : (z != d) = true := bne_iff_ne.2 q
        have HQ := Lib.hid q
        clear q
        have HB1 : Hid ((m.length + 1) * 8 ≤ 140737488355328) := Lib.hid (bd8 (by omega))
        have HB2 : Hid (m.length < maxLen) := Lib.hid (bdm (by omega))
        go_wp2_with (at_builtin; refine wpList_append_one _ rfl _ _ 46 3 (.int .i64 0) 8 rfl Try.underlying46 ret_int3 rfl HROW.out _ rfl rfl rfl HB1.out HB2.out ?_; intro v' r' w' hR' hC hN; obtain ⟨A', c', rfl, _⟩ := hR'.shape; have HR' := Lib.hid hR'; have HC := Lib.hid hC; have HN := Lib.hid hN; clear hR' hC hN)
        go_roundw
        case rel => exact ⟨k + 1, by omega, by go_num, by rw [take_keep (fun r => decide (r ≠ d)) l k hlt z HX.out (decide_eq_true HQ.out), ← HME.out]; exact HG.out.add z HRN.out HR'.out HC.out HN.out⟩
        case measure => simp [intOf]; omega
    · obtain rfl : k = l.length := by omega
      have hm0 : m = l.filter fun r => decide (r ≠ d) := by rw [HME.out, List.take_length]
      have hL0 := HG.out.loop
      have hb := HG.out.below
      have e0 := (hb.cell (p := ⟨bx, 0, none⟩) hlt0).trans (HBX.out 0 _ rfl)
      have e1 := (hb.cell (p := ⟨bx, 1, none⟩) hlt0).trans (HBX.out 1 _ rfl)
      have e3 := (hb.cell (p := ⟨bx, 3, none⟩) hlt0).trans (HBX.out 3 _ rfl)
      have e4 := (hb.cell (p := ⟨bx, 4, none⟩) hlt0).trans (HBX.out 4 _ rfl)
      have e5 := (hb.cell (p := ⟨bx, 5, none⟩) hlt0).trans (HBX.out 5 _ rfl)
      have e6 := (hb.cell (p := ⟨bx, 6, none⟩) hlt0).trans (HBX.out 6 _ rfl)
      have e7 := (hb.cell (p := ⟨bx, 7, none⟩) hlt0).trans (HBX.out 7 _ rfl)
      have HM0 := Lib.hid hm0
      have HL0 := Lib.hid hL0
      obtain ⟨ml, hml⟩ : ∃ ml, ml = m.length := ⟨_, rfl⟩
      rw [← hml] at hfl ⊢
      have HML := Lib.hid hml
      clear hm0 hL0 hb hml HG HROW HRN
      go_wp2_with fail
      have hU := HU.out wr (HL0.out.reads HR.out)
      rw [← HUS.out] at hU
      refine hU.mono ?_
      clear hU e0 e1 e3 e4 e5 e6 e7 hcd
      rintro e wu ⟨Au, cu, rfl, hbu, hru, hnu⟩
      have HBU := Lib.hid hbu
      have HRU := Lib.hid hru
      have hL1 : LoopO W0 wu Av m := HL0.out.give hbu (reads_below HL0.out.row hbu) fun g off e => .inr e
      have HL1 := Lib.hid hL1
      obtain ⟨ul, hule⟩ : ∃ ul, ul = us.length := ⟨_, rfl⟩
      rw [← hule] at hul ⊢
      have HUL := Lib.hid hule
      clear hbu hru hnu hL1 hule
      go_wp2_with fail
      go_loopw [5, 28] (fun v i wr => ∃ (k : Nat) (Ax : Option Addr) (cx : Nat), k ≤ ul ∧ i = .int .i64 (k : Nat) ∧ v = .slice Ax ((us.take k).foldl putL m).length cx ∧ LoopO W0 wr Ax ((us.take k).foldl putL m) ∧ Below wu.heap.size wu wr) (fun _ i _ => ul - (intOf i).toNat)
      case atStart => exact ⟨0, Av, cv, Nat.zero_le _, rfl, by rw [HML.out]; rfl, HL1.out, Below.refl _ _⟩
      case round =>
        obtain ⟨k2, Ax, cx, hk2, rfl, rfl, hL, hbw⟩ := hrel
        have hlen := foldl_put_len (us.take k2) m
        rw [List.length_take] at hlen
        obtain ⟨lx, hlx⟩ : ∃ lx, lx = ((us.take k2).foldl putL m).length := ⟨_, rfl⟩
        rw [← hlx] at hlen ⊢
        have HLX := Lib.hid hlx
        have HL := Lib.hid hL
        have HBW := Lib.hid hbw
        clear hL hlx hbw
        by_cases hlt2 : k2 < ul
        · have hlu : k2 < us.length := by rw [← HUL.out]; exact hlt2
          obtain ⟨z, hze⟩ : ∃ z, z = us[k2] := ⟨_, rfl⟩
          obtain ⟨g, off, rfl, hg, hx1⟩ := reads_len0 (reads_below HRU.out HBW.out) k2 hlu z hze
          have HT := Lib.hid (foldl_take_put us m k2 hlu z hze)
          have hq1 : (0 : Int) ≤ (k2 : Int) := by omega
          have hq2 : (k2 : Int) < (ul : Int) := by omega
          clear hze hlu
          go_wp2_with fail
          have hP := put14_any ((us.take k2).foldl putL m) Ax cx z wr (by have := HLX.out; have := HML.out; omega) HL.out.row
          rw [← HLX.out, ← HT.out] at hP
          refine hP.mono ?_
          clear hP
          rintro e wp ⟨Ay, cy, rfl, hB, hRy, hA⟩
          have HL2 := Lib.hid (HL.out.give hB hRy hA)
          have HBW2 := Lib.hid (HBW.out.trans (hB.mono HBW.out.size))
          clear hB hRy hA
          go_wp2_with fail
          go_roundw
          case rel => exact ⟨k2 + 1, Ay, cy, by omega, by go_num, rfl, HL2.out, HBW2.out⟩
          case measure => simp [intOf]; omega
        · obtain rfl : k2 = ul := by omega
          go_wp2_with fail
          go_ret
          rw [HLX.out]
          have hL3 := HL.out
          rw [List.take_of_length_le (by rw [HUL.out]; exact Nat.le_refl _)] at HLX hL3 ⊢
          rw [HM0.out] at hL3 ⊢
          exact ⟨Ax, cx, rfl, HB0.out.trans (hL3.below.mono HB0.out.size), hL3.row, fun g off e => .inl (by have h1 := hL3.new g off e; have h2 := HB0.out.size; omega)⟩
theorem pure14_any (x : Ins) (A : Option Addr) (c : Nat) (w : World) :
    Calls Try.prog 20 #[insAgg x A c] w fun e w' => e = .returned (.bool (pureP x)) ∧ Below w.heap.size w w' := by
  obtain ⟨kind, op, d, a, b, num, name, args⟩ := x
  dsimp only [insAgg, pureP]
  have HB := Lib.hid ((Below.refl _ w).alloc (Nat.le_refl _) (.cells #[.int .i64 kind, .int .i64 op, .int .i64 d, .int .i64 a, .int .i64 b, .int .i32 num, .string name, .slice A args.length c] 48))
  by_cases k1 : kind = 1
  · subst k1
    go_enter Try.func20, Try.ntmps20
    go_wp2
    go_ret
    exact ⟨by simp, HB.out⟩
  by_cases k2 : kind = 2
  · subst k2
    go_enter Try.func20, Try.ntmps20
    go_wp2
    go_ret
    exact ⟨by simp, HB.out⟩
  by_cases k3 : kind = 3
  · subst k3
    go_enter Try.func20, Try.ntmps20
    go_wp2
    go_ret
    exact ⟨by simp, HB.out⟩
  by_cases k4 : kind = 4
  · subst k4
    by_cases o4 : op = 4
    · subst o4
      go_enter Try.func20, Try.ntmps20
      go_wp2
      go_ret
      exact ⟨by simp, HB.out⟩
    · have p4 : (op != 4) = true := bne_iff_ne.2 o4
      by_cases o5 : op = 5
      · subst o5
        go_enter Try.func20, Try.ntmps20
        go_wp2
        go_ret
        exact ⟨by simp, HB.out⟩
      · have p5 : (op != 5) = true := bne_iff_ne.2 o5
        go_enter Try.func20, Try.ntmps20
        go_wp2
        go_ret
        exact ⟨by simp [o4, o5], HB.out⟩
  by_cases k5 : kind = 5
  · subst k5
    by_cases ha : a < 0
    · go_enter Try.func20, Try.ntmps20
      go_wp2
      go_ret
      exact ⟨by simp; omega, HB.out⟩
    · have pa : decide (a < 0) = false := decide_eq_false ha
      go_enter Try.func20, Try.ntmps20
      go_wp2
      go_ret
      exact ⟨by simp, HB.out⟩
  have q4 : (kind == 4) = false := beq_eq_false_iff_ne.2 k4
  have q5 : (kind == 5) = false := beq_eq_false_iff_ne.2 k5
  rcases Int.lt_or_le kind 1 with hk | hk
  · have g1 : ¬ 1 ≤ kind := by omega
    go_enter Try.func20, Try.ntmps20
    go_wp2
    go_ret
    exact ⟨by simp, HB.out⟩
  · have g1 : ¬ kind ≤ 3 := by omega
    go_enter Try.func20, Try.ntmps20
    go_wp2
    go_ret
    exact ⟨by simp, HB.out⟩
end Go.Proofs.Ytlniohgnkihefaa
