/- dead.sweep: the walk. -/
import Derived.Deep.DeepCutAuto
import Derived.Deep.RegionHeld3
import Derived.Sort.CutIn
import Derived.Test.YtlniohgnkihefaaLk10
import Derived.Test.YtlniohgnkihefaaLk2
namespace Go.Proofs.Ytlniohgnkihefaa
open Go.RowKit
attribute [local go_sem] Oper.semAt_some
theorem info_ins : (Try.prog.info? 48).map (fun i => (i.zero, i.size, i.bytes)) = some (some (.agg #[.int .i64 0, .int .i64 0, .int .i64 0, .int .i64 0, .int .i64 0, .int .i32 0, .string ⟨#[]⟩, .slice none 0 0]), 8, 88) := by kernel_rfl
def SweepD (w : World) (x : BlkQ) (O : Nat → Bool) (e : Ending) (w' : World) : Prop := ∃ A' c', e = .returned (.tuple #[.agg #[.slice A' (swBlk x.k O).ins.length c', .int .i64 x.k.kind, .int .i64 x.k.a, .int .i64 x.k.to, .int .i64 x.k.els], .bool (swT x.k O)]) ∧ Below w.heap.size w w' ∧ InsIn w' 0 A' (swBlk x.k O).ins
set_option maxRecDepth 100000 in
set_option maxHeartbeats 4000000 in
theorem sweep_any (x : BlkQ) (hk : BlkOk x.k) (hni : x.k.ins.length ≤ 1000) (hI : ∀ y ∈ x.k.ins, InsOk y ∧ y.args.length ≤ 1000) (w : World) {b : Nat} {r : Option Nat} {ws : List Nat} (hb : BitsAt w b r ws) (hm : InsMem w x.A x.k.ins) :
    Calls Try.prog 24 #[blkAgg x.k x.A x.c, .pointer (some ⟨b, 0, none⟩)] w (SweepD w x (memW ws)) := by
  obtain ⟨⟨ins, kind, ka, tgt, els⟩, Ax, cx⟩ := x
  dsimp only at hk hni hI hm ⊢
  obtain ⟨xs, hxs, hxr, hxa⟩ := hm
  have hxl : xs.length = ins.length := by rw [← hxs, List.length_map]
  have HK := Lib.hid hk
  have HI := Lib.hid hI
  have HB := Lib.hid hb
  have HXS := Lib.hid hxs
  have HXL := Lib.hid hxl
  have hblt := hb.blt
  clear hk hI hb hxs hxl
  dsimp only [blkAgg]
  refine (callsIn_wide (n := 8)).1 ?_
  refine callsIn_of_wp_marks Try.func24 rfl trivial ?_ rfl
  simp only [Try.ntmps24, List.size_toArray, List.length_cons, List.length_nil, Nat.reduceAdd, Nat.reduceSub, Array.replicate_succ, Array.replicate_zero, List.push_toArray, List.append_toArray, List.nil_append, List.cons_append]
  gi_wp2_with fail
  obtain ⟨W0, hW0⟩ : ∃ W0, W0 = (w.alloc (.cells #[.slice Ax ins.length cx, .int .i64 kind, .int .i64 ka, .int .i64 tgt, .int .i64 els] 45)).alloc (.cells #[.slice none 0 0, .int .i64 0, .int .i64 0, .int .i64 0, .int .i64 0] 45) := ⟨_, rfl⟩
  rw [← hW0]
  obtain ⟨q2, hq2⟩ : ∃ q2, q2 = w.heap.size := ⟨_, rfl⟩
  rw [← hq2]
  have hb0 : Below w.heap.size w W0 := by rw [hW0]; exact ((Below.refl _ w).alloc (Nat.le_refl _) _).alloc (by simp) _
  have g2 : BlkBox W0 q2 ⟨⟨ins, kind, ka, tgt, els⟩, Ax, cx⟩ := by rw [hW0, hq2]; exact (heap_alloc_old _ _ (by simp)).trans (heap_alloc_new w _)
  have g4 : BlkBox W0 (q2 + 1) zeroQ := by
    rw [hW0, hq2]
    have h := heap_alloc_new (w.alloc (.cells #[.slice Ax ins.length cx, .int .i64 kind, .int .i64 ka, .int .i64 tgt, .int .i64 els] 45)) (.cells #[.slice none 0 0, .int .i64 0, .int .i64 0, .int .i64 0, .int .i64 0] 45)
    rw [World.size_alloc] at h
    exact h
  have hs0 : W0.heap.size = q2 + 2 := by rw [hW0, hq2]; simp
  have HEN := Lib.hid (ending_any ⟨ins, kind, ka, tgt, els⟩ HK.out Ax cx (bits_below HB.out hb0))
  have HG := Lib.hid (And.intro g2 g4)
  have HB0 := Lib.hid hb0
  have HQ2 := Lib.hid (And.intro hq2 hs0)
  clear hW0 hq2 hb0 g2 g4 hs0
  refine ⟨trivial, (callsIn_wide.2 HEN.out).mono ?_⟩
  rintro e We ⟨s, rs, wsE, rfl, hNB, hmE⟩
  have hbe := hNB.below
  obtain ⟨q6, hq6⟩ : ∃ q6, q6 = We.heap.size := ⟨_, rfl⟩
  obtain ⟨q7, hq7⟩ : ∃ q7, q7 = q6 + 1 := ⟨_, rfl⟩
  obtain ⟨q8, hq8⟩ : ∃ q8, q8 = q7 + 1 := ⟨_, rfl⟩
  obtain ⟨Bn, hBn⟩ : ∃ Bn, Bn = q8 + 1 := ⟨_, rfl⟩
  have HQ6 := Lib.hid (And.intro hq6 (And.intro hq7 (And.intro hq8 hBn)))
  have g2c := (HG.out.1.kt (KT.of_below hbe)).cells.1
  dsimp only at g2c
  have HNB := Lib.hid hNB
  have HME := Lib.hid (show memW wsE = endP ⟨ins, kind, ka, tgt, els⟩ (memW ws) from funext hmE)
  have HBE := Lib.hid hbe
  have hlt2 : q2 < We.heap.size := by have := hbe.size; have := HQ2.out.2; omega
  have hb3 : Below We.heap.size We (((We.alloc (.cells #[.pointer (some ⟨s, 0, none⟩)] 65)).alloc (.cells #[.slice none 0 0] 43)).alloc (.cells #[.bool false] 4)) := (((Below.refl _ We).alloc (Nat.le_refl _) _).alloc (by simp) _).alloc (by simp <;> omega) _
  have g2d := (hb3.cell (p := ⟨q2, 0, none⟩) hlt2).trans g2c
  clear hNB hmE hbe HEN hq6 hq7 hq8 hBn hb3 g2c
  gi_wp2_with fail
  refine ⟨trivial, (callsIn_wide.2 (backI_fn _ _ _ _)).mono ?_⟩
  rintro e V ⟨rfl, hV⟩
  simp only [World.size_alloc]
  rw [← HQ6.out.1, ← HQ6.out.2.1, ← HQ6.out.2.2.1, ← HQ6.out.2.2.2]
  have hq6 := HQ6.out.1
  have hq7 : q7 = q6 + 1 := HQ6.out.2.1
  have hq8 : q8 = q6 + 2 := by have := HQ6.out.2.2.1; omega
  have hBn : Bn = q6 + 3 := by have := HQ6.out.2.2.2; omega
  have hbV : Below We.heap.size We V := by rw [hV]; exact ((((Below.refl _ We).alloc (Nat.le_refl _) _).alloc (by simp) _).alloc (by simp <;> omega) _).alloc (by simp <;> omega) _
  have hsz : V.heap.size = q6 + 4 := by rw [hV, hq6]; simp
  have k6 : Boxed V q6 65 (.pointer (some ⟨s, 0, none⟩)) := by
    rw [hV, hq6]
    exact (heap_alloc_old _ _ (by simp <;> omega)).trans ((heap_alloc_old _ _ (by simp <;> omega)).trans ((heap_alloc_old _ _ (by simp)).trans (heap_alloc_new We _)))
  have k7 : Boxed V q7 43 (.slice none 0 0) := by
    rw [hV, hq7, hq6]
    have h := heap_alloc_new (We.alloc (.cells #[.pointer (some ⟨s, 0, none⟩)] 65)) (.cells #[.slice none 0 0] 43)
    rw [World.size_alloc] at h
    exact (heap_alloc_old _ _ (by simp <;> omega)).trans ((heap_alloc_old _ _ (by simp)).trans h)
  have k8 : Boxed V q8 4 (.bool false) := by
    rw [hV, hq8, hq6]
    have h := heap_alloc_new ((We.alloc (.cells #[.pointer (some ⟨s, 0, none⟩)] 65)).alloc (.cells #[.slice none 0 0] 43)) (.cells #[.bool false] 4)
    simp only [World.size_alloc] at h
    exact (heap_alloc_old _ _ (by simp)).trans h
  have kB : Boxed V Bn 43 (.slice Ax ins.length cx) := by
    rw [hV, hBn, hq6]
    have h := heap_alloc_new (((We.alloc (.cells #[.pointer (some ⟨s, 0, none⟩)] 65)).alloc (.cells #[.slice none 0 0] 43)).alloc (.cells #[.bool false] 4)) (.cells #[.slice Ax ins.length cx] 43)
    simp only [World.size_alloc] at h
    exact h
  have hw0 := HB0.out.size
  have hwe := HBE.out.size
  have hsw := HQ2.out
  have hS0 : SwI w q2 q6 q7 q8 s ⟨⟨ins, kind, ka, tgt, els⟩, Ax, cx⟩ (swRun ⟨ins, kind, ka, tgt, els⟩ (memW ws) []) (.slice none 0 0) rs none V := by
    have hb1 : Below w.heap.size w We := HB0.out.trans (HBE.out.mono HB0.out.size)
    have hbb := hbV.mono (Nat.le_refl _)
    refine ⟨hb1.trans (hbV.mono hb1.size), (HG.out.1.kt (KT.of_below HBE.out)).kt (KT.of_below hbV), (HG.out.2.kt (KT.of_below HBE.out)).kt (KT.of_below hbV), k6, k7, k8, ⟨wsE, bits_below HNB.out.at_ hbV, HME.out⟩, ⟨[], rfl, RowAt.nil _ _ _, fun _ h => by cases h⟩, ⟨by omega, by omega, by omega, by omega, ?_⟩, fun k hk => ?_, fun _ h => by cases h⟩
    · have := HNB.out.nb; omega
    · have := HNB.out.nr k hk; omega
  have hni2 : xs.length ≤ 9223372036854775807 := by rw [HXL.out]; omega
  have hBnV : Bn < V.heap.size := by omega
  have hwV : w.heap.size ≤ V.heap.size := by omega
  have h7B : q7 ≠ Bn := by omega
  have hseq := stops_guard (backI_stops (8 - 1) (by omega) Bn Ax cx xs hni2 V (by rw [HXL.out]; exact Boxed.cell kB) (hxr.below hS0.below))
  have HS0 := Lib.hid hS0
  clear hV hbV hsz k6 k7 k8 hw0 hwe hsw hS0 hq6 hq7 hq8 hBn g2d hlt2
  gi_wp2_with fail
  refine wpIn_rangeFunc_ownH rfl (by omega) (gf := 58) (lb := #[.pointer (some ⟨Bn, 0, none⟩)]) rfl trivial (enters_of Try.func58 (by kernel_rfl) rfl)
    hseq KpG.trans (fun W l o o' hl _ _ _ hbp => KpW.put hBnV (fun g off e => Nat.lt_of_lt_of_le (insRow_lt hxr hbp g off e) hwV) W l o' hl) (Below.refl _ _) (fun _ => rfl)
    (fun (pre : List (ElR xs)) Z => ∃ v r rr, SwI w q2 q6 q7 q8 s ⟨⟨ins, kind, ka, tgt, els⟩, Ax, cx⟩ (swRun ⟨ins, kind, ka, tgt, els⟩ (memW ws) (keysR pre)) v r rr Z ∧ Boxed Z Bn 43 (.slice Ax ins.length cx))
    (fun _ _ _ => False)
    (fun pre X Y row ⟨v, r, rr, h, hb⟩ hg hr => ⟨v, r, rr, h.own hg fun r e => ⟨Nat.le_trans hwV (hr r e).1, (hr r e).2⟩, Boxed.own1 hb hg fun r e => (hr r e).2⟩) (fun _ _ _ _ _ h _ _ => h) ⟨_, _, _, HS0.out, kB⟩
    (fun (x : ElR xs) a' Y => ∃ q10, a' = { tmps := #[.agg #[.slice Ax ins.length cx, .int .i64 kind, .int .i64 ka, .int .i64 tgt, .int .i64 els], .pointer (some ⟨b, 0, none⟩), .pointer (some ⟨q2, 0, none⟩), undef, .pointer (some ⟨q2 + 1, 0, none⟩), .bool false, .pointer (some ⟨q6, 0, none⟩), .pointer (some ⟨q7, 0, none⟩), .pointer (some ⟨q8, 0, none⟩), undef, .pointer (some ⟨q10, 0, none⟩), undef, .agg #[.slice Ax ins.length cx, .int .i64 kind, .int .i64 ka, .int .i64 tgt, .int .i64 els], .pointer (some ⟨b, 0, none⟩), .pointer (some ⟨s, 0, none⟩), .pointer (some ⟨q2, 0, none⟩), .slice Ax ins.length cx, .func (.func 58) #[] #[.pointer (some ⟨Bn, 0, none⟩)], .int .i64 (x.1.1 : Nat), insAgg x.1.2.k x.1.2.A x.1.2.c, undef, undef, undef, undef, undef, undef, undef, undef, undef, undef, undef, undef, undef, undef, undef, undef, undef, undef, undef, undef, undef, undef, undef, undef, undef, undef, undef, undef, undef, undef, undef, undef, undef, undef, undef, undef, undef, undef, undef, undef, undef, undef, undef, undef, undef, undef, undef, undef, undef, undef, undef], defers := [] } ∧ InsBox Y q10 x.1.2 ∧ w.heap.size ≤ q10 ∧ ∃ v, Boxed Y q7 43 v ∧ v.ownBlock ≠ some q10)
    (fun x a' _ X Y row ⟨q10, e, h, h2, v, h3, h4⟩ hg hr => ⟨q10, e, h.own hg (fun r e => (hr r e).2), h2, v, Boxed.own1 h3 hg (fun r e => (hr r e).2), h4⟩) ?hassign ?hbody ?hdone ?hstop
  case hassign =>
    rintro l2 pre ⟨⟨i2, ⟨⟨kd, op, d, a2, b2, num, nm, args⟩, Aa, ca⟩⟩, hx2⟩ Y K ⟨v, rz, rr, hS, hbB⟩ hK
    have hal : Below Y.heap.size Y (Y.alloc (.cells #[.int .i64 kd, .int .i64 op, .int .i64 d, .int .i64 a2, .int .i64 b2, .int .i32 num, .string nm, .slice Aa args.length ca] 48)) := (Below.refl _ _).alloc (Nat.le_refl _) _
    have hown : v.ownBlock ≠ some Y.heap.size := fun e => by
      obtain ⟨xr, _, hr, _⟩ := hS.row
      have := hr.lt Y.heap.size (by rw [row_block hr]; exact e)
      omega
    have hks := KS.of_below (w := w) (Bn := Bn) hal hS.below
    have HK := Lib.hid (fun a' h => hK a' _ (hks.from _) (fun hbp => hks.kpw hbB (insRow_lt hxr hbp)) ⟨v, rz, rr, hS.below_ hal, hks.box _ hbB⟩ h)
    have HV := Lib.hid (And.intro hS.below.size (And.intro (Boxed.kt hS.b7 (KT.of_below hal) (by decide)) hown))
    clear hK hal hseq hS hbB hown hks
    dsimp only [encI, insAgg]
    gi_wp2_with fail
    exact HK.out _ ⟨Y.heap.size, rfl, heap_alloc_new Y _, HV.out.1, v, HV.out.2.1, HV.out.2.2⟩
  case hbody =>
    rintro l pre x2 a' Z hl hrec ⟨v, rz, rr, hS, hbB⟩ ⟨q10, rfl, hq10, hN10, v2, hv2, hne⟩ hlt
    have hvv : v = v2 := by
      have h1 := hS.b7
      unfold Boxed at h1 hv2
      rw [h1] at hv2; cases hv2; rfl
    subst hvv
    have hrr : rr ≠ some q10 := by
      obtain ⟨xr, _, hr, _⟩ := hS.row
      rw [row_block hr]; exact hne
    obtain ⟨hin2, hbi2⟩ := revI_mem x2.2
    have hmem : x2.1.2 ∈ xs := by rw [← hbi2]; exact List.getElem_mem _
    clear hin2 hbi2 hv2 hne
    obtain ⟨st, hst⟩ : ∃ st, st = swRun ⟨ins, kind, ka, tgt, els⟩ (memW ws) (keysR pre) := ⟨_, rfl⟩
    rw [← hst] at hS
    have HLN : Hid (st.left.length ≤ 1000) := Lib.hid (by
      have h1 := (sw_cost ⟨ins, kind, ka, tgt, els⟩ (memW ws) (keysR pre)).2.2.2.1
      have h2 : (keysR pre).length = pre.length := by simp [keysR, valsR]
      have h3 := HXL.out
      rw [← hst] at h1
      omega)
    have HNEXT := Lib.hid (show swRun ⟨ins, kind, ka, tgt, els⟩ (memW ws) (keysR (pre ++ [x2])) = swStep st x2.1.2.k from by rw [keysR_snoc, swRun_snoc, hst])
    obtain ⟨y, hy⟩ : ∃ y, y = x2.1 := ⟨_, rfl⟩
    simp only [← hy] at hmem hq10 HNEXT ⊢
    clear hy hst
    obtain ⟨i2, ⟨⟨kd, op, d, a2, b2, num, nm, args⟩, Aa, ca⟩⟩ := y
    dsimp only at hmem hq10 HNEXT
    have hrd : ReadsAt Z Aa (ints args) := readsBelow (hxa _ hmem) hS.below
    have hix : (⟨kd, op, d, a2, b2, num, nm, args⟩ : Ins) ∈ ins := by rw [← HXS.out]; exact List.mem_map.2 ⟨_, hmem, rfl⟩
    obtain ⟨hiok, hal⟩ := HI.out _ hix
    dsimp only at hal
    obtain ⟨wsS, hbs, hmS⟩ := hS.set
    have hhw : hasW wsS d = hasP st.S d := by unfold hasW hasP; rw [hmS]
    have HHAS := has_any hbs d hiok.d.2
    rw [hhw] at HHAS
    have HPURE := fun W => pure_any ⟨kd, op, d, a2, b2, num, nm, args⟩ Aa ca W
    have hcs := sw_cases ⟨kd, op, d, a2, b2, num, nm, args⟩ st.S
    dsimp only at hcs
    obtain ⟨bh, hbh⟩ : ∃ bh, bh = hasP st.S d := ⟨_, rfl⟩
    obtain ⟨bp, hbp⟩ : ∃ bp, bp = pureP ⟨kd, op, d, a2, b2, num, nm, args⟩ := ⟨_, rfl⟩
    rw [← hbh] at HHAS hcs
    simp only [← hbp] at HPURE hcs
    obtain ⟨e0, e1, e2, e3, e4, e5, e6, e7⟩ := hq10.cells
    dsimp only at e0 e1 e2 e3 e4 e5 e6 e7
    have c6 := Boxed.cell hS.b6
    have HHAS := Lib.hid HHAS
    have HPURE := Lib.hid HPURE
    have HCS := Lib.hid hcs
    have HBB := Lib.hid (And.intro hbh hbp)
    have HS := Lib.hid hS
    have HQ := Lib.hid (And.intro hq10 (And.intro hN10 (And.intro hrr hbB)))
    have HA := Lib.hid (And.intro hrd (And.intro hiok hal))
    have HRD := Lib.hid (hxa _ hmem)
    clear hS hq10 hN10 hrr hbB hrd hiok hal hmem hix hbs hmS hhw hrec hseq hcs hbh hbp
    dsimp only [insAgg]
    gi_wp2_with fail
    refine ⟨trivial, (CallsIn.inRound l (callsIn_wide.2 HHAS.out)).mono ?_⟩
    rintro e w' ⟨rfl, rfl⟩
    gi_wp2_with fail
    refine ⟨trivial, (CallsIn.inRound l (callsIn_wide.2 (HPURE.out _))).mono ?_⟩
    rintro e W1 ⟨rfl, hB1⟩
    have hk1 := KS.of_below (w := w) (Bn := Bn) hB1 HS.out.below
    have HS1 := Lib.hid (HS.out.below_ hB1)
    have hq1 : InsBox W1 q10 ⟨⟨kd, op, d, a2, b2, num, nm, args⟩, Aa, ca⟩ := (hB1.block _ (lt_of_heap HQ.out.1)).trans HQ.out.1
    have HQ1 := Lib.hid (And.intro hq1 (And.intro (hk1.box _ HQ.out.2.2.2) (readsBelow HA.out.1 hB1)))
    have HK1 := Lib.hid hk1
    clear e0 e1 e2 e3 e4 e5 e6 e7 c6 hB1 hk1
    obtain ⟨e0, e1, e2, e3, e4, e5, e6, e7⟩ := hq1.cells
    dsimp only at e0 e1 e2 e3 e4 e5 e6 e7
    have f10 := fun j => frozen_of_row W1 q10 j _ _ hq1
    have c8 := Boxed.cell HS1.out.b8
    have f8 := frozen_of_row W1 q8 0 _ _ HS1.out.b8
    clear hq1
    rcases HCS.out with ⟨hp, hh⟩ | ⟨hp, hh, k2, ha⟩ | ⟨hp, hh, k2, ha⟩ | ⟨hp, hh, k2, k7⟩ | ⟨hp, k7, hd, hh⟩ | ⟨hp, k7, hd, hh⟩ | ⟨hp, k7, hd, hh⟩ | ⟨hp, k7⟩
    case inl =>
      subst hp hh
      gi_wp2_with fail
      have hgo : goesP ⟨kd, op, d, a2, b2, num, nm, args⟩ st.S = true := by unfold goesP; rw [← HBB.out.1, ← HBB.out.2]; rfl
      have hk2 := HK1.out.trans (HS1.out.ks_turned HQ1.out.2.1 (.bool true))
      refine ⟨hk2.from _, fun hbp => hk2.kpw HQ.out.2.2.2 (insRow_lt hxr hbp), v, rz, rr, ?_, (HS1.out.ks_turned HQ1.out.2.1 (.bool true)).box _ HQ1.out.2.1⟩
      rw [HNEXT.out, sw_goes hgo]
      exact HS1.out.turned true
    case inr.inl =>
      subst hp hh k2 ha
      gi_wp2_with fail
      have hgo : goesP ⟨2, op, a2, a2, b2, num, nm, args⟩ st.S = true := by unfold goesP; rw [← HBB.out.1, ← HBB.out.2]; simp
      have hk2 := HK1.out.trans (HS1.out.ks_turned HQ1.out.2.1 (.bool true))
      refine ⟨hk2.from _, fun hbp => hk2.kpw HQ.out.2.2.2 (insRow_lt hxr hbp), v, rz, rr, ?_, (HS1.out.ks_turned HQ1.out.2.1 (.bool true)).box _ HQ1.out.2.1⟩
      rw [HNEXT.out, sw_goes hgo]
      exact HS1.out.turned true
    case inr.inr.inl =>
      subst hp hh
      have hgo : goesP ⟨kd, op, d, a2, b2, num, nm, args⟩ st.S = false := by unfold goesP; rw [← HBB.out.1, ← HBB.out.2]; simp [ha]
      have hle : lessP ⟨kd, op, d, a2, b2, num, nm, args⟩ st.S = false := by unfold lessP; simp [k2]
      have z1 : (a2 == d) = false := beq_eq_false_iff_ne.2 ha
      have z2 : (kd == 2) = true := by rw [k2]; rfl
      have z3 : (kd == 7) = false := by rw [k2]; rfl
      have HT := Lib.hid (sw_stays hgo hle)
      obtain ⟨tc, htc⟩ : ∃ tc, tc = st.t := ⟨_, rfl⟩
      obtain ⟨d', hd'⟩ : ∃ d' : Int, d' = d := ⟨_, rfl⟩
      obtain ⟨Wc, hWc⟩ : ∃ Wc, Wc = W1 := ⟨_, rfl⟩
      have HSc : Hid (SwI w q2 q6 q7 q8 s ⟨⟨ins, kind, ka, tgt, els⟩, Ax, cx⟩ { st with t := tc } v rz rr Wc) := Lib.hid (by rw [htc, hWc]; exact HS1.out)
      have HQc : Hid (InsBox Wc q10 ⟨⟨kd, op, d', a2, b2, num, nm, args⟩, Aa, ca⟩ ∧ Boxed Wc Bn 43 (.slice Ax ins.length cx) ∧ ReadsAt Wc Aa (ints args)) := Lib.hid (by rw [hd', hWc]; exact HQ1.out)
      have HKc : Hid (KS w Bn Z Wc) := Lib.hid (by rw [hWc]; exact HK1.out)
      have HTc : Hid (swStep st ⟨kd, op, d, a2, b2, num, nm, args⟩ = ⟨aheadP ⟨kd, op, d', a2, b2, num, nm, args⟩ st.S, st.left ++ [⟨kd, op, d', a2, b2, num, nm, args⟩], tc⟩) := Lib.hid (by rw [hd', htc]; exact HT.out)
      have HOKc : Hid (InsOk ⟨kd, op, d', a2, b2, num, nm, args⟩) := Lib.hid (by rw [hd']; exact HA.out.2.1)
      clear hgo hle ha k2 htc hd' HT
      gi_wp2_with fail
      rw [← hWc]
      clear hWc
      -- TAIL
      refine ⟨trivial, (CallsIn.inRound l (callsIn_wide.2 (clone14_any Aa ca args Wc HA.out.2.2 HQc.out.2.2))).mono ?_⟩
      rintro e W2 ⟨A', c', rfl, hB2, hI2⟩
      have hq2 : InsBox W2 q10 ⟨⟨kd, op, d', a2, b2, num, nm, args⟩, Aa, ca⟩ := (hB2.block _ (lt_of_heap HQc.out.1)).trans HQc.out.1
      have hS2 := HSc.out.below_ hB2
      have hk2 := KS.of_below (w := w) (Bn := Bn) hB2 HSc.out.below
      have e7 := hq2.cells.2.2.2.2.2.2.2
      dsimp only at e7
      have f7 := frozen_of_row W2 q10 7 _ _ hq2
      have hq3 : (W2.setCell ⟨q10, 7, none⟩ (.slice A' args.length c')).heap[q10]? = some (.cells #[.int .i64 kd, .int .i64 op, .int .i64 d', .int .i64 a2, .int .i64 b2, .int .i32 num, .string nm, .slice A' args.length c'] 48 (0, 0)) := heap_setCell_same W2 q10 7 _ 48 (.slice A' args.length c') hq2
      have hS3 := hS2.inbox hq2 HQ.out.2.1 HQ.out.2.2.1 7 (.slice A' args.length c')
      have hk3 := hk2.trans (hS2.ks_inbox hq2 HQ.out.2.1 (hk2.box _ HQc.out.2.1) 7 (.slice A' args.length c'))
      obtain ⟨W3, hW3⟩ : ∃ W3, W3 = W2.setCell ⟨q10, 7, none⟩ (.slice A' args.length c') := ⟨_, rfl⟩
      have hI3 : IntsIn W3 A' args := by
        rw [hW3]
        refine hI2.ki (KI.of_chg (Chg.store W2 q10 7 _) fun k hk c f e => ?_)
        rw [hk, show W2.heap[q10]? = _ from hq2] at e; cases e
      rw [← hW3] at hq3 hS3 hk3
      have hb3 : InsBox W3 q10 ⟨⟨kd, op, d', a2, b2, num, nm, args⟩, A', c'⟩ := hq3
      obtain ⟨g0, g1, g2, g3, g4, g5, g6, g7⟩ := hb3.cells
      dsimp only at g0 g1 g2 g3 g4 g5 g6 g7
      have c6 := Boxed.cell hS3.b6
      obtain ⟨wsS, hbs, hmS⟩ := hS3.set
      have hnf : 0 < args.length → ∀ g off, A' = some ⟨g, off, none⟩ → ¬ FootB s rz g := fun hp g off e => by
        obtain ⟨g', off', c1, f1, hA, hg, _⟩ := hI3 hp
        rw [e] at hA; cases hA
        exact hS3.bits hg (by decide) (by decide)
      have HAH := Lib.hid (ahead_any ⟨kd, op, d', a2, b2, num, nm, args⟩ HOKc.out A' c' hbs hI3.reads hnf)
      have HS3 := Lib.hid hS3
      have HK3 := Lib.hid hk3
      have HI3 := Lib.hid (And.intro hI3 (And.intro hb3 hmS))
      have HW3 := Lib.hid hW3
      rw [hW3] at g0 g1 g2 g3 g4 g5 g6 g7 c6
      clear hB2 hI2 hq2 hS2 hk2 hq3 hS3 hk3 hI3 hb3 hbs hmS hnf hW3 e0 e1 e2 e3 e4 e5 e6 f10 c8 f8
      gi_wp2_with fail
      rw [← HW3.out]
      refine ⟨trivial, (CallsIn.inRound l (callsIn_wide.2 HAH.out)).mono ?_⟩
      rintro e W4 ⟨⟨u4, rfl⟩, r4, ws4, hg4, hm4⟩
      have hS4 := HS3.out.grow hg4 (S := aheadP ⟨kd, op, d', a2, b2, num, nm, args⟩ st.S) (by rw [show st.S = _ from HI3.out.2.2.symm]; exact funext hm4)
      have hk4 := HS3.out.ks_grow hg4 (HK3.out.box _ HQc.out.2.1)
      have hq4 : InsBox W4 q10 ⟨⟨kd, op, d', a2, b2, num, nm, args⟩, A', c'⟩ := hg4.chg.heap HI3.out.2.1 (HS3.out.bits HI3.out.2.1 (by decide) (by decide))
      have hI4 : IntsIn W4 A' args := HI3.out.1.ki (KI.of_chg hg4.chg fun k hk c f e => HS3.out.bits e (by decide) (by decide) hk)
      have hal4 : Below W4.heap.size W4 (W4.alloc (.cells #[.int .i64 kd, .int .i64 op, .int .i64 d', .int .i64 a2, .int .i64 b2, .int .i32 num, .string nm, .slice A' args.length c'] 48)) := (Below.refl _ _).alloc (Nat.le_refl _) _
      have hS5 := hS4.below_ hal4
      have hk5 := hk4.trans (KS.of_below (w := w) (Bn := Bn) hal4 hS4.below)
      obtain ⟨xr, hx1, hrow, hints⟩ := hS5.row
      have hxl : xr.length ≤ 1000 := by have h1 := congrArg List.length hx1; rw [List.length_map] at h1; have := HLN.out; dsimp only at h1; omega
      have hnew : ∀ j u, (insQ ⟨⟨kd, op, d', a2, b2, num, nm, args⟩, A', c'⟩)[j]? = some u → (W4.alloc (.cells #[.int .i64 kd, .int .i64 op, .int .i64 d', .int .i64 a2, .int .i64 b2, .int .i32 num, .string nm, .slice A' args.length c'] 48)).cell? ((⟨W4.heap.size, 0, none⟩ : Addr).add j) = some u := fun j u hu => by
        rw [show ((⟨W4.heap.size, 0, none⟩ : Addr).add j) = ⟨W4.heap.size, j, none⟩ from by by_cases e : j = 0 <;> simp [Addr.add, e], cell_of_row _ _ _ _ _ _ (heap_alloc_new W4 _), ← Array.getElem?_toList]
        exact hu
      obtain ⟨g0, g1, g2, g3, g4, g5, g6, g7⟩ := hq4.cells
      dsimp only at g0 g1 g2 g3 g4 g5 g6 g7
      have c7 := Boxed.cell hS4.b7
      have HS5 := Lib.hid hS5
      have HK5 := Lib.hid hk5
      have HI5 := Lib.hid (And.intro (hI4.ki (KI.of_below hal4)) (And.intro hx1 hints))
      have HROW := Lib.hid hrow
      have HNW := Lib.hid hnew
      clear hg4 hm4 hS4 hk4 hq4 hI4 hal4 hS5 hk5 hx1 hrow hints hnew
      gi_wp2_with (gi_at_builtin; refine wpListIn_append_row _ rfl _ _ 43 48 _ 8 88 rfl Try.underlying43 info_ins rfl HROW.out ⟨W4.heap.size, 0, none⟩ 1 1 (insQ ⟨⟨kd, op, d', a2, b2, num, nm, args⟩, A', c'⟩) rfl HNW.out (insQ_plain _) rfl rfl (by omega) (by unfold maxLen; omega) (by omega) ?_; intro v' rr' W5 hR hC hN; obtain ⟨A5, c5, rfl, _⟩ := hR.shape; have hb7 := hC.heap HS5.out.b7 (fun e => HS5.out.rowne HS5.out.b7 (by decide) e.symm); have c75 := Boxed.cell hb7; have f75 := frozen_of_row W5 q7 0 _ _ hb7; have HR := Lib.hid hR; have HC := Lib.hid hC; have HN := Lib.hid hN; clear hR hC hN hb7 c7 g0 g1 g2 g3 g4 g5 g6 g7)
      have hfin := HS5.out.push HI5.out.2.1 HI5.out.2.2 (y := ⟨⟨kd, op, d', a2, b2, num, nm, args⟩, A', c'⟩) HI5.out.1 HR.out HC.out HN.out
      have hkf := ((HKc.out.trans HK3.out).trans HK5.out).trans (HS5.out.ks_push (v' := .slice A5 (xr.length + 1) c5) HC.out (HK5.out.box _ (HK3.out.box _ HQc.out.2.1)) h7B)
      refine ⟨hkf.from _, fun hbp => hkf.kpw HQ.out.2.2.2 (insRow_lt hxr hbp), .slice A5 (xr.length + 1) c5, r4, rr', ?_, hkf.box _ HQ.out.2.2.2⟩
      rw [HNEXT.out, HTc.out]
      exact hfin
      -- /TAIL
    case inr.inr.inr.inl =>
      subst hp hh
      have hgo : goesP ⟨kd, op, d, a2, b2, num, nm, args⟩ st.S = false := by unfold goesP; rw [← HBB.out.1, ← HBB.out.2]; simp [k2]
      have hle : lessP ⟨kd, op, d, a2, b2, num, nm, args⟩ st.S = false := by unfold lessP; simp [k7]
      have z1 : (kd == 2) = false := beq_eq_false_iff_ne.2 k2
      have z2 : (kd == 7) = false := beq_eq_false_iff_ne.2 k7
      have HT := Lib.hid (sw_stays hgo hle)
      obtain ⟨tc, htc⟩ : ∃ tc, tc = st.t := ⟨_, rfl⟩
      obtain ⟨d', hd'⟩ : ∃ d' : Int, d' = d := ⟨_, rfl⟩
      obtain ⟨Wc, hWc⟩ : ∃ Wc, Wc = W1 := ⟨_, rfl⟩
      have HSc : Hid (SwI w q2 q6 q7 q8 s ⟨⟨ins, kind, ka, tgt, els⟩, Ax, cx⟩ { st with t := tc } v rz rr Wc) := Lib.hid (by rw [htc, hWc]; exact HS1.out)
      have HQc : Hid (InsBox Wc q10 ⟨⟨kd, op, d', a2, b2, num, nm, args⟩, Aa, ca⟩ ∧ Boxed Wc Bn 43 (.slice Ax ins.length cx) ∧ ReadsAt Wc Aa (ints args)) := Lib.hid (by rw [hd', hWc]; exact HQ1.out)
      have HKc : Hid (KS w Bn Z Wc) := Lib.hid (by rw [hWc]; exact HK1.out)
      have HTc : Hid (swStep st ⟨kd, op, d, a2, b2, num, nm, args⟩ = ⟨aheadP ⟨kd, op, d', a2, b2, num, nm, args⟩ st.S, st.left ++ [⟨kd, op, d', a2, b2, num, nm, args⟩], tc⟩) := Lib.hid (by rw [hd', htc]; exact HT.out)
      have HOKc : Hid (InsOk ⟨kd, op, d', a2, b2, num, nm, args⟩) := Lib.hid (by rw [hd']; exact HA.out.2.1)
      clear hgo hle k2 k7 htc hd' HT
      gi_wp2_with fail
      rw [← hWc]
      clear hWc
      -- TAIL
      refine ⟨trivial, (CallsIn.inRound l (callsIn_wide.2 (clone14_any Aa ca args Wc HA.out.2.2 HQc.out.2.2))).mono ?_⟩
      rintro e W2 ⟨A', c', rfl, hB2, hI2⟩
      have hq2 : InsBox W2 q10 ⟨⟨kd, op, d', a2, b2, num, nm, args⟩, Aa, ca⟩ := (hB2.block _ (lt_of_heap HQc.out.1)).trans HQc.out.1
      have hS2 := HSc.out.below_ hB2
      have hk2 := KS.of_below (w := w) (Bn := Bn) hB2 HSc.out.below
      have e7 := hq2.cells.2.2.2.2.2.2.2
      dsimp only at e7
      have f7 := frozen_of_row W2 q10 7 _ _ hq2
      have hq3 : (W2.setCell ⟨q10, 7, none⟩ (.slice A' args.length c')).heap[q10]? = some (.cells #[.int .i64 kd, .int .i64 op, .int .i64 d', .int .i64 a2, .int .i64 b2, .int .i32 num, .string nm, .slice A' args.length c'] 48 (0, 0)) := heap_setCell_same W2 q10 7 _ 48 (.slice A' args.length c') hq2
      have hS3 := hS2.inbox hq2 HQ.out.2.1 HQ.out.2.2.1 7 (.slice A' args.length c')
      have hk3 := hk2.trans (hS2.ks_inbox hq2 HQ.out.2.1 (hk2.box _ HQc.out.2.1) 7 (.slice A' args.length c'))
      obtain ⟨W3, hW3⟩ : ∃ W3, W3 = W2.setCell ⟨q10, 7, none⟩ (.slice A' args.length c') := ⟨_, rfl⟩
      have hI3 : IntsIn W3 A' args := by
        rw [hW3]
        refine hI2.ki (KI.of_chg (Chg.store W2 q10 7 _) fun k hk c f e => ?_)
        rw [hk, show W2.heap[q10]? = _ from hq2] at e; cases e
      rw [← hW3] at hq3 hS3 hk3
      have hb3 : InsBox W3 q10 ⟨⟨kd, op, d', a2, b2, num, nm, args⟩, A', c'⟩ := hq3
      obtain ⟨g0, g1, g2, g3, g4, g5, g6, g7⟩ := hb3.cells
      dsimp only at g0 g1 g2 g3 g4 g5 g6 g7
      have c6 := Boxed.cell hS3.b6
      obtain ⟨wsS, hbs, hmS⟩ := hS3.set
      have hnf : 0 < args.length → ∀ g off, A' = some ⟨g, off, none⟩ → ¬ FootB s rz g := fun hp g off e => by
        obtain ⟨g', off', c1, f1, hA, hg, _⟩ := hI3 hp
        rw [e] at hA; cases hA
        exact hS3.bits hg (by decide) (by decide)
      have HAH := Lib.hid (ahead_any ⟨kd, op, d', a2, b2, num, nm, args⟩ HOKc.out A' c' hbs hI3.reads hnf)
      have HS3 := Lib.hid hS3
      have HK3 := Lib.hid hk3
      have HI3 := Lib.hid (And.intro hI3 (And.intro hb3 hmS))
      have HW3 := Lib.hid hW3
      rw [hW3] at g0 g1 g2 g3 g4 g5 g6 g7 c6
      clear hB2 hI2 hq2 hS2 hk2 hq3 hS3 hk3 hI3 hb3 hbs hmS hnf hW3 e0 e1 e2 e3 e4 e5 e6 f10 c8 f8
      gi_wp2_with fail
      rw [← HW3.out]
      refine ⟨trivial, (CallsIn.inRound l (callsIn_wide.2 HAH.out)).mono ?_⟩
      rintro e W4 ⟨⟨u4, rfl⟩, r4, ws4, hg4, hm4⟩
      have hS4 := HS3.out.grow hg4 (S := aheadP ⟨kd, op, d', a2, b2, num, nm, args⟩ st.S) (by rw [show st.S = _ from HI3.out.2.2.symm]; exact funext hm4)
      have hk4 := HS3.out.ks_grow hg4 (HK3.out.box _ HQc.out.2.1)
      have hq4 : InsBox W4 q10 ⟨⟨kd, op, d', a2, b2, num, nm, args⟩, A', c'⟩ := hg4.chg.heap HI3.out.2.1 (HS3.out.bits HI3.out.2.1 (by decide) (by decide))
      have hI4 : IntsIn W4 A' args := HI3.out.1.ki (KI.of_chg hg4.chg fun k hk c f e => HS3.out.bits e (by decide) (by decide) hk)
      have hal4 : Below W4.heap.size W4 (W4.alloc (.cells #[.int .i64 kd, .int .i64 op, .int .i64 d', .int .i64 a2, .int .i64 b2, .int .i32 num, .string nm, .slice A' args.length c'] 48)) := (Below.refl _ _).alloc (Nat.le_refl _) _
      have hS5 := hS4.below_ hal4
      have hk5 := hk4.trans (KS.of_below (w := w) (Bn := Bn) hal4 hS4.below)
      obtain ⟨xr, hx1, hrow, hints⟩ := hS5.row
      have hxl : xr.length ≤ 1000 := by have h1 := congrArg List.length hx1; rw [List.length_map] at h1; have := HLN.out; dsimp only at h1; omega
      have hnew : ∀ j u, (insQ ⟨⟨kd, op, d', a2, b2, num, nm, args⟩, A', c'⟩)[j]? = some u → (W4.alloc (.cells #[.int .i64 kd, .int .i64 op, .int .i64 d', .int .i64 a2, .int .i64 b2, .int .i32 num, .string nm, .slice A' args.length c'] 48)).cell? ((⟨W4.heap.size, 0, none⟩ : Addr).add j) = some u := fun j u hu => by
        rw [show ((⟨W4.heap.size, 0, none⟩ : Addr).add j) = ⟨W4.heap.size, j, none⟩ from by by_cases e : j = 0 <;> simp [Addr.add, e], cell_of_row _ _ _ _ _ _ (heap_alloc_new W4 _), ← Array.getElem?_toList]
        exact hu
      obtain ⟨g0, g1, g2, g3, g4, g5, g6, g7⟩ := hq4.cells
      dsimp only at g0 g1 g2 g3 g4 g5 g6 g7
      have c7 := Boxed.cell hS4.b7
      have HS5 := Lib.hid hS5
      have HK5 := Lib.hid hk5
      have HI5 := Lib.hid (And.intro (hI4.ki (KI.of_below hal4)) (And.intro hx1 hints))
      have HROW := Lib.hid hrow
      have HNW := Lib.hid hnew
      clear hg4 hm4 hS4 hk4 hq4 hI4 hal4 hS5 hk5 hx1 hrow hints hnew
      gi_wp2_with (gi_at_builtin; refine wpListIn_append_row _ rfl _ _ 43 48 _ 8 88 rfl Try.underlying43 info_ins rfl HROW.out ⟨W4.heap.size, 0, none⟩ 1 1 (insQ ⟨⟨kd, op, d', a2, b2, num, nm, args⟩, A', c'⟩) rfl HNW.out (insQ_plain _) rfl rfl (by omega) (by unfold maxLen; omega) (by omega) ?_; intro v' rr' W5 hR hC hN; obtain ⟨A5, c5, rfl, _⟩ := hR.shape; have hb7 := hC.heap HS5.out.b7 (fun e => HS5.out.rowne HS5.out.b7 (by decide) e.symm); have c75 := Boxed.cell hb7; have f75 := frozen_of_row W5 q7 0 _ _ hb7; have HR := Lib.hid hR; have HC := Lib.hid hC; have HN := Lib.hid hN; clear hR hC hN hb7 c7 g0 g1 g2 g3 g4 g5 g6 g7)
      have hfin := HS5.out.push HI5.out.2.1 HI5.out.2.2 (y := ⟨⟨kd, op, d', a2, b2, num, nm, args⟩, A', c'⟩) HI5.out.1 HR.out HC.out HN.out
      have hkf := ((HKc.out.trans HK3.out).trans HK5.out).trans (HS5.out.ks_push (v' := .slice A5 (xr.length + 1) c5) HC.out (HK5.out.box _ (HK3.out.box _ HQc.out.2.1)) h7B)
      refine ⟨hkf.from _, fun hbp => hkf.kpw HQ.out.2.2.2 (insRow_lt hxr hbp), .slice A5 (xr.length + 1) c5, r4, rr', ?_, hkf.box _ HQ.out.2.2.2⟩
      rw [HNEXT.out, HTc.out]
      exact hfin
      -- /TAIL
    case inr.inr.inr.inr.inl =>
      subst hp hh
      have hgo : goesP ⟨kd, op, d, a2, b2, num, nm, args⟩ st.S = false := by unfold goesP; rw [← HBB.out.2]; rfl
      have hle : lessP ⟨kd, op, d, a2, b2, num, nm, args⟩ st.S = true := by unfold lessP; rw [← HBB.out.1]; simp [hd, k7]
      have z1 : (kd == 7) = true := by rw [k7]; rfl
      have HT := Lib.hid (sw_less hgo hle)
      obtain ⟨tc, htc⟩ : ∃ tc, tc = true := ⟨_, rfl⟩
      obtain ⟨d', hd'⟩ : ∃ d' : Int, d' = -1 := ⟨_, rfl⟩
      have hi1 := HS1.out.inbox HQ1.out.1 HQ.out.2.1 HQ.out.2.2.1 2 (.int .i64 (-1))
      have hk2 := HS1.out.ks_inbox HQ1.out.1 HQ.out.2.1 HQ1.out.2.1 2 (.int .i64 (-1))
      have hk3 := hi1.ks_turned (hk2.box _ HQ1.out.2.1) (.bool true)
      have hq2' := heap_setCell_same W1 q10 2 _ 48 (.int .i64 (-1)) HQ1.out.1
      have hrd2 : ReadsAt W1 Aa (ints args) := HQ1.out.2.2
      obtain ⟨Wc, hWc⟩ : ∃ Wc, Wc = (W1.setCell ⟨q10, 2, none⟩ (.int .i64 (-1))).setCell ⟨q8, 0, none⟩ (.bool true) := ⟨_, rfl⟩
      have hne8 : q10 ≠ q8 := fun e => by
        have h8 := HS1.out.b8
        unfold Boxed at h8
        rw [← e, show W1.heap[q10]? = _ from HQ1.out.1] at h8; cases h8
      have hki := hk2.trans hk3
      have HSc : Hid (SwI w q2 q6 q7 q8 s ⟨⟨ins, kind, ka, tgt, els⟩, Ax, cx⟩ { st with t := tc } v rz rr Wc) := Lib.hid (by rw [htc, hWc]; exact hi1.turned true)
      have HQc : Hid (InsBox Wc q10 ⟨⟨kd, op, d', a2, b2, num, nm, args⟩, Aa, ca⟩ ∧ Boxed Wc Bn 43 (.slice Ax ins.length cx) ∧ ReadsAt Wc Aa (ints args)) := Lib.hid (by
        rw [hd', hWc]
        exact ⟨(Chg.store _ q8 0 (.bool true)).heap hq2' hne8, hki.box _ HQ1.out.2.1, readsBelow HRD.out (hi1.turned true).below⟩)
      have HKc : Hid (KS w Bn Z Wc) := Lib.hid (by rw [hWc]; exact HK1.out.trans hki)
      have HTc : Hid (swStep st ⟨kd, op, d, a2, b2, num, nm, args⟩ = ⟨aheadP ⟨kd, op, d', a2, b2, num, nm, args⟩ st.S, st.left ++ [⟨kd, op, d', a2, b2, num, nm, args⟩], tc⟩) := Lib.hid (by rw [hd', htc]; exact HT.out)
      have HOKc : Hid (InsOk ⟨kd, op, d', a2, b2, num, nm, args⟩) := Lib.hid (by rw [hd']; exact ⟨HA.out.2.1.kind, HA.out.2.1.op, by unfold I64; simp, HA.out.2.1.a, HA.out.2.1.b, HA.out.2.1.num, HA.out.2.1.name, HA.out.2.1.nargs, HA.out.2.1.args⟩)
      clear hgo hle k7 hi1 hk2 hk3 hq2' hrd2 hne8 hki htc hd' HT
      gi_wp2_with fail
      rw [← hWc]
      clear hWc
      -- TAIL
      refine ⟨trivial, (CallsIn.inRound l (callsIn_wide.2 (clone14_any Aa ca args Wc HA.out.2.2 HQc.out.2.2))).mono ?_⟩
      rintro e W2 ⟨A', c', rfl, hB2, hI2⟩
      have hq2 : InsBox W2 q10 ⟨⟨kd, op, d', a2, b2, num, nm, args⟩, Aa, ca⟩ := (hB2.block _ (lt_of_heap HQc.out.1)).trans HQc.out.1
      have hS2 := HSc.out.below_ hB2
      have hk2 := KS.of_below (w := w) (Bn := Bn) hB2 HSc.out.below
      have e7 := hq2.cells.2.2.2.2.2.2.2
      dsimp only at e7
      have f7 := frozen_of_row W2 q10 7 _ _ hq2
      have hq3 : (W2.setCell ⟨q10, 7, none⟩ (.slice A' args.length c')).heap[q10]? = some (.cells #[.int .i64 kd, .int .i64 op, .int .i64 d', .int .i64 a2, .int .i64 b2, .int .i32 num, .string nm, .slice A' args.length c'] 48 (0, 0)) := heap_setCell_same W2 q10 7 _ 48 (.slice A' args.length c') hq2
      have hS3 := hS2.inbox hq2 HQ.out.2.1 HQ.out.2.2.1 7 (.slice A' args.length c')
      have hk3 := hk2.trans (hS2.ks_inbox hq2 HQ.out.2.1 (hk2.box _ HQc.out.2.1) 7 (.slice A' args.length c'))
      obtain ⟨W3, hW3⟩ : ∃ W3, W3 = W2.setCell ⟨q10, 7, none⟩ (.slice A' args.length c') := ⟨_, rfl⟩
      have hI3 : IntsIn W3 A' args := by
        rw [hW3]
        refine hI2.ki (KI.of_chg (Chg.store W2 q10 7 _) fun k hk c f e => ?_)
        rw [hk, show W2.heap[q10]? = _ from hq2] at e; cases e
      rw [← hW3] at hq3 hS3 hk3
      have hb3 : InsBox W3 q10 ⟨⟨kd, op, d', a2, b2, num, nm, args⟩, A', c'⟩ := hq3
      obtain ⟨g0, g1, g2, g3, g4, g5, g6, g7⟩ := hb3.cells
      dsimp only at g0 g1 g2 g3 g4 g5 g6 g7
      have c6 := Boxed.cell hS3.b6
      obtain ⟨wsS, hbs, hmS⟩ := hS3.set
      have hnf : 0 < args.length → ∀ g off, A' = some ⟨g, off, none⟩ → ¬ FootB s rz g := fun hp g off e => by
        obtain ⟨g', off', c1, f1, hA, hg, _⟩ := hI3 hp
        rw [e] at hA; cases hA
        exact hS3.bits hg (by decide) (by decide)
      have HAH := Lib.hid (ahead_any ⟨kd, op, d', a2, b2, num, nm, args⟩ HOKc.out A' c' hbs hI3.reads hnf)
      have HS3 := Lib.hid hS3
      have HK3 := Lib.hid hk3
      have HI3 := Lib.hid (And.intro hI3 (And.intro hb3 hmS))
      have HW3 := Lib.hid hW3
      rw [hW3] at g0 g1 g2 g3 g4 g5 g6 g7 c6
      clear hB2 hI2 hq2 hS2 hk2 hq3 hS3 hk3 hI3 hb3 hbs hmS hnf hW3 e0 e1 e2 e3 e4 e5 e6 f10 c8 f8
      gi_wp2_with fail
      rw [← HW3.out]
      refine ⟨trivial, (CallsIn.inRound l (callsIn_wide.2 HAH.out)).mono ?_⟩
      rintro e W4 ⟨⟨u4, rfl⟩, r4, ws4, hg4, hm4⟩
      have hS4 := HS3.out.grow hg4 (S := aheadP ⟨kd, op, d', a2, b2, num, nm, args⟩ st.S) (by rw [show st.S = _ from HI3.out.2.2.symm]; exact funext hm4)
      have hk4 := HS3.out.ks_grow hg4 (HK3.out.box _ HQc.out.2.1)
      have hq4 : InsBox W4 q10 ⟨⟨kd, op, d', a2, b2, num, nm, args⟩, A', c'⟩ := hg4.chg.heap HI3.out.2.1 (HS3.out.bits HI3.out.2.1 (by decide) (by decide))
      have hI4 : IntsIn W4 A' args := HI3.out.1.ki (KI.of_chg hg4.chg fun k hk c f e => HS3.out.bits e (by decide) (by decide) hk)
      have hal4 : Below W4.heap.size W4 (W4.alloc (.cells #[.int .i64 kd, .int .i64 op, .int .i64 d', .int .i64 a2, .int .i64 b2, .int .i32 num, .string nm, .slice A' args.length c'] 48)) := (Below.refl _ _).alloc (Nat.le_refl _) _
      have hS5 := hS4.below_ hal4
      have hk5 := hk4.trans (KS.of_below (w := w) (Bn := Bn) hal4 hS4.below)
      obtain ⟨xr, hx1, hrow, hints⟩ := hS5.row
      have hxl : xr.length ≤ 1000 := by have h1 := congrArg List.length hx1; rw [List.length_map] at h1; have := HLN.out; dsimp only at h1; omega
      have hnew : ∀ j u, (insQ ⟨⟨kd, op, d', a2, b2, num, nm, args⟩, A', c'⟩)[j]? = some u → (W4.alloc (.cells #[.int .i64 kd, .int .i64 op, .int .i64 d', .int .i64 a2, .int .i64 b2, .int .i32 num, .string nm, .slice A' args.length c'] 48)).cell? ((⟨W4.heap.size, 0, none⟩ : Addr).add j) = some u := fun j u hu => by
        rw [show ((⟨W4.heap.size, 0, none⟩ : Addr).add j) = ⟨W4.heap.size, j, none⟩ from by by_cases e : j = 0 <;> simp [Addr.add, e], cell_of_row _ _ _ _ _ _ (heap_alloc_new W4 _), ← Array.getElem?_toList]
        exact hu
      obtain ⟨g0, g1, g2, g3, g4, g5, g6, g7⟩ := hq4.cells
      dsimp only at g0 g1 g2 g3 g4 g5 g6 g7
      have c7 := Boxed.cell hS4.b7
      have HS5 := Lib.hid hS5
      have HK5 := Lib.hid hk5
      have HI5 := Lib.hid (And.intro (hI4.ki (KI.of_below hal4)) (And.intro hx1 hints))
      have HROW := Lib.hid hrow
      have HNW := Lib.hid hnew
      clear hg4 hm4 hS4 hk4 hq4 hI4 hal4 hS5 hk5 hx1 hrow hints hnew
      gi_wp2_with (gi_at_builtin; refine wpListIn_append_row _ rfl _ _ 43 48 _ 8 88 rfl Try.underlying43 info_ins rfl HROW.out ⟨W4.heap.size, 0, none⟩ 1 1 (insQ ⟨⟨kd, op, d', a2, b2, num, nm, args⟩, A', c'⟩) rfl HNW.out (insQ_plain _) rfl rfl (by omega) (by unfold maxLen; omega) (by omega) ?_; intro v' rr' W5 hR hC hN; obtain ⟨A5, c5, rfl, _⟩ := hR.shape; have hb7 := hC.heap HS5.out.b7 (fun e => HS5.out.rowne HS5.out.b7 (by decide) e.symm); have c75 := Boxed.cell hb7; have f75 := frozen_of_row W5 q7 0 _ _ hb7; have HR := Lib.hid hR; have HC := Lib.hid hC; have HN := Lib.hid hN; clear hR hC hN hb7 c7 g0 g1 g2 g3 g4 g5 g6 g7)
      have hfin := HS5.out.push HI5.out.2.1 HI5.out.2.2 (y := ⟨⟨kd, op, d', a2, b2, num, nm, args⟩, A', c'⟩) HI5.out.1 HR.out HC.out HN.out
      have hkf := ((HKc.out.trans HK3.out).trans HK5.out).trans (HS5.out.ks_push (v' := .slice A5 (xr.length + 1) c5) HC.out (HK5.out.box _ (HK3.out.box _ HQc.out.2.1)) h7B)
      refine ⟨hkf.from _, fun hbp => hkf.kpw HQ.out.2.2.2 (insRow_lt hxr hbp), .slice A5 (xr.length + 1) c5, r4, rr', ?_, hkf.box _ HQ.out.2.2.2⟩
      rw [HNEXT.out, HTc.out]
      exact hfin
      -- /TAIL
    case inr.inr.inr.inr.inr.inl =>
      subst hp hh
      have hgo : goesP ⟨kd, op, d, a2, b2, num, nm, args⟩ st.S = false := by unfold goesP; rw [← HBB.out.2]; rfl
      have hle : lessP ⟨kd, op, d, a2, b2, num, nm, args⟩ st.S = false := by unfold lessP; rw [← HBB.out.1]; simp
      have z1 : (kd == 7) = true := by rw [k7]; rfl
      have HT := Lib.hid (sw_stays hgo hle)
      obtain ⟨tc, htc⟩ : ∃ tc, tc = st.t := ⟨_, rfl⟩
      obtain ⟨d', hd'⟩ : ∃ d' : Int, d' = d := ⟨_, rfl⟩
      obtain ⟨Wc, hWc⟩ : ∃ Wc, Wc = W1 := ⟨_, rfl⟩
      have HSc : Hid (SwI w q2 q6 q7 q8 s ⟨⟨ins, kind, ka, tgt, els⟩, Ax, cx⟩ { st with t := tc } v rz rr Wc) := Lib.hid (by rw [htc, hWc]; exact HS1.out)
      have HQc : Hid (InsBox Wc q10 ⟨⟨kd, op, d', a2, b2, num, nm, args⟩, Aa, ca⟩ ∧ Boxed Wc Bn 43 (.slice Ax ins.length cx) ∧ ReadsAt Wc Aa (ints args)) := Lib.hid (by rw [hd', hWc]; exact HQ1.out)
      have HKc : Hid (KS w Bn Z Wc) := Lib.hid (by rw [hWc]; exact HK1.out)
      have HTc : Hid (swStep st ⟨kd, op, d, a2, b2, num, nm, args⟩ = ⟨aheadP ⟨kd, op, d', a2, b2, num, nm, args⟩ st.S, st.left ++ [⟨kd, op, d', a2, b2, num, nm, args⟩], tc⟩) := Lib.hid (by rw [hd', htc]; exact HT.out)
      have HOKc : Hid (InsOk ⟨kd, op, d', a2, b2, num, nm, args⟩) := Lib.hid (by rw [hd']; exact HA.out.2.1)
      clear hgo hle k7 htc hd' HT
      gi_wp2_with fail
      rw [← hWc]
      clear hWc
      -- TAIL
      refine ⟨trivial, (CallsIn.inRound l (callsIn_wide.2 (clone14_any Aa ca args Wc HA.out.2.2 HQc.out.2.2))).mono ?_⟩
      rintro e W2 ⟨A', c', rfl, hB2, hI2⟩
      have hq2 : InsBox W2 q10 ⟨⟨kd, op, d', a2, b2, num, nm, args⟩, Aa, ca⟩ := (hB2.block _ (lt_of_heap HQc.out.1)).trans HQc.out.1
      have hS2 := HSc.out.below_ hB2
      have hk2 := KS.of_below (w := w) (Bn := Bn) hB2 HSc.out.below
      have e7 := hq2.cells.2.2.2.2.2.2.2
      dsimp only at e7
      have f7 := frozen_of_row W2 q10 7 _ _ hq2
      have hq3 : (W2.setCell ⟨q10, 7, none⟩ (.slice A' args.length c')).heap[q10]? = some (.cells #[.int .i64 kd, .int .i64 op, .int .i64 d', .int .i64 a2, .int .i64 b2, .int .i32 num, .string nm, .slice A' args.length c'] 48 (0, 0)) := heap_setCell_same W2 q10 7 _ 48 (.slice A' args.length c') hq2
      have hS3 := hS2.inbox hq2 HQ.out.2.1 HQ.out.2.2.1 7 (.slice A' args.length c')
      have hk3 := hk2.trans (hS2.ks_inbox hq2 HQ.out.2.1 (hk2.box _ HQc.out.2.1) 7 (.slice A' args.length c'))
      obtain ⟨W3, hW3⟩ : ∃ W3, W3 = W2.setCell ⟨q10, 7, none⟩ (.slice A' args.length c') := ⟨_, rfl⟩
      have hI3 : IntsIn W3 A' args := by
        rw [hW3]
        refine hI2.ki (KI.of_chg (Chg.store W2 q10 7 _) fun k hk c f e => ?_)
        rw [hk, show W2.heap[q10]? = _ from hq2] at e; cases e
      rw [← hW3] at hq3 hS3 hk3
      have hb3 : InsBox W3 q10 ⟨⟨kd, op, d', a2, b2, num, nm, args⟩, A', c'⟩ := hq3
      obtain ⟨g0, g1, g2, g3, g4, g5, g6, g7⟩ := hb3.cells
      dsimp only at g0 g1 g2 g3 g4 g5 g6 g7
      have c6 := Boxed.cell hS3.b6
      obtain ⟨wsS, hbs, hmS⟩ := hS3.set
      have hnf : 0 < args.length → ∀ g off, A' = some ⟨g, off, none⟩ → ¬ FootB s rz g := fun hp g off e => by
        obtain ⟨g', off', c1, f1, hA, hg, _⟩ := hI3 hp
        rw [e] at hA; cases hA
        exact hS3.bits hg (by decide) (by decide)
      have HAH := Lib.hid (ahead_any ⟨kd, op, d', a2, b2, num, nm, args⟩ HOKc.out A' c' hbs hI3.reads hnf)
      have HS3 := Lib.hid hS3
      have HK3 := Lib.hid hk3
      have HI3 := Lib.hid (And.intro hI3 (And.intro hb3 hmS))
      have HW3 := Lib.hid hW3
      rw [hW3] at g0 g1 g2 g3 g4 g5 g6 g7 c6
      clear hB2 hI2 hq2 hS2 hk2 hq3 hS3 hk3 hI3 hb3 hbs hmS hnf hW3 e0 e1 e2 e3 e4 e5 e6 f10 c8 f8
      gi_wp2_with fail
      rw [← HW3.out]
      refine ⟨trivial, (CallsIn.inRound l (callsIn_wide.2 HAH.out)).mono ?_⟩
      rintro e W4 ⟨⟨u4, rfl⟩, r4, ws4, hg4, hm4⟩
      have hS4 := HS3.out.grow hg4 (S := aheadP ⟨kd, op, d', a2, b2, num, nm, args⟩ st.S) (by rw [show st.S = _ from HI3.out.2.2.symm]; exact funext hm4)
      have hk4 := HS3.out.ks_grow hg4 (HK3.out.box _ HQc.out.2.1)
      have hq4 : InsBox W4 q10 ⟨⟨kd, op, d', a2, b2, num, nm, args⟩, A', c'⟩ := hg4.chg.heap HI3.out.2.1 (HS3.out.bits HI3.out.2.1 (by decide) (by decide))
      have hI4 : IntsIn W4 A' args := HI3.out.1.ki (KI.of_chg hg4.chg fun k hk c f e => HS3.out.bits e (by decide) (by decide) hk)
      have hal4 : Below W4.heap.size W4 (W4.alloc (.cells #[.int .i64 kd, .int .i64 op, .int .i64 d', .int .i64 a2, .int .i64 b2, .int .i32 num, .string nm, .slice A' args.length c'] 48)) := (Below.refl _ _).alloc (Nat.le_refl _) _
      have hS5 := hS4.below_ hal4
      have hk5 := hk4.trans (KS.of_below (w := w) (Bn := Bn) hal4 hS4.below)
      obtain ⟨xr, hx1, hrow, hints⟩ := hS5.row
      have hxl : xr.length ≤ 1000 := by have h1 := congrArg List.length hx1; rw [List.length_map] at h1; have := HLN.out; dsimp only at h1; omega
      have hnew : ∀ j u, (insQ ⟨⟨kd, op, d', a2, b2, num, nm, args⟩, A', c'⟩)[j]? = some u → (W4.alloc (.cells #[.int .i64 kd, .int .i64 op, .int .i64 d', .int .i64 a2, .int .i64 b2, .int .i32 num, .string nm, .slice A' args.length c'] 48)).cell? ((⟨W4.heap.size, 0, none⟩ : Addr).add j) = some u := fun j u hu => by
        rw [show ((⟨W4.heap.size, 0, none⟩ : Addr).add j) = ⟨W4.heap.size, j, none⟩ from by by_cases e : j = 0 <;> simp [Addr.add, e], cell_of_row _ _ _ _ _ _ (heap_alloc_new W4 _), ← Array.getElem?_toList]
        exact hu
      obtain ⟨g0, g1, g2, g3, g4, g5, g6, g7⟩ := hq4.cells
      dsimp only at g0 g1 g2 g3 g4 g5 g6 g7
      have c7 := Boxed.cell hS4.b7
      have HS5 := Lib.hid hS5
      have HK5 := Lib.hid hk5
      have HI5 := Lib.hid (And.intro (hI4.ki (KI.of_below hal4)) (And.intro hx1 hints))
      have HROW := Lib.hid hrow
      have HNW := Lib.hid hnew
      clear hg4 hm4 hS4 hk4 hq4 hI4 hal4 hS5 hk5 hx1 hrow hints hnew
      gi_wp2_with (gi_at_builtin; refine wpListIn_append_row _ rfl _ _ 43 48 _ 8 88 rfl Try.underlying43 info_ins rfl HROW.out ⟨W4.heap.size, 0, none⟩ 1 1 (insQ ⟨⟨kd, op, d', a2, b2, num, nm, args⟩, A', c'⟩) rfl HNW.out (insQ_plain _) rfl rfl (by omega) (by unfold maxLen; omega) (by omega) ?_; intro v' rr' W5 hR hC hN; obtain ⟨A5, c5, rfl, _⟩ := hR.shape; have hb7 := hC.heap HS5.out.b7 (fun e => HS5.out.rowne HS5.out.b7 (by decide) e.symm); have c75 := Boxed.cell hb7; have f75 := frozen_of_row W5 q7 0 _ _ hb7; have HR := Lib.hid hR; have HC := Lib.hid hC; have HN := Lib.hid hN; clear hR hC hN hb7 c7 g0 g1 g2 g3 g4 g5 g6 g7)
      have hfin := HS5.out.push HI5.out.2.1 HI5.out.2.2 (y := ⟨⟨kd, op, d', a2, b2, num, nm, args⟩, A', c'⟩) HI5.out.1 HR.out HC.out HN.out
      have hkf := ((HKc.out.trans HK3.out).trans HK5.out).trans (HS5.out.ks_push (v' := .slice A5 (xr.length + 1) c5) HC.out (HK5.out.box _ (HK3.out.box _ HQc.out.2.1)) h7B)
      refine ⟨hkf.from _, fun hbp => hkf.kpw HQ.out.2.2.2 (insRow_lt hxr hbp), .slice A5 (xr.length + 1) c5, r4, rr', ?_, hkf.box _ HQ.out.2.2.2⟩
      rw [HNEXT.out, HTc.out]
      exact hfin
      -- /TAIL
    case inr.inr.inr.inr.inr.inr.inl =>
      subst hp hh
      have hgo : goesP ⟨kd, op, d, a2, b2, num, nm, args⟩ st.S = false := by unfold goesP; rw [← HBB.out.2]; rfl
      have hle : lessP ⟨kd, op, d, a2, b2, num, nm, args⟩ st.S = false := by unfold lessP; rw [decide_eq_false (show ¬ (0 : Int) ≤ d by omega)]; simp
      have z1 : (kd == 7) = true := by rw [k7]; rfl
      have z2 : decide ((0 : Int) ≤ d) = false := decide_eq_false (by omega)
      have HT := Lib.hid (sw_stays hgo hle)
      obtain ⟨tc, htc⟩ : ∃ tc, tc = st.t := ⟨_, rfl⟩
      obtain ⟨d', hd'⟩ : ∃ d' : Int, d' = d := ⟨_, rfl⟩
      obtain ⟨Wc, hWc⟩ : ∃ Wc, Wc = W1 := ⟨_, rfl⟩
      have HSc : Hid (SwI w q2 q6 q7 q8 s ⟨⟨ins, kind, ka, tgt, els⟩, Ax, cx⟩ { st with t := tc } v rz rr Wc) := Lib.hid (by rw [htc, hWc]; exact HS1.out)
      have HQc : Hid (InsBox Wc q10 ⟨⟨kd, op, d', a2, b2, num, nm, args⟩, Aa, ca⟩ ∧ Boxed Wc Bn 43 (.slice Ax ins.length cx) ∧ ReadsAt Wc Aa (ints args)) := Lib.hid (by rw [hd', hWc]; exact HQ1.out)
      have HKc : Hid (KS w Bn Z Wc) := Lib.hid (by rw [hWc]; exact HK1.out)
      have HTc : Hid (swStep st ⟨kd, op, d, a2, b2, num, nm, args⟩ = ⟨aheadP ⟨kd, op, d', a2, b2, num, nm, args⟩ st.S, st.left ++ [⟨kd, op, d', a2, b2, num, nm, args⟩], tc⟩) := Lib.hid (by rw [hd', htc]; exact HT.out)
      have HOKc : Hid (InsOk ⟨kd, op, d', a2, b2, num, nm, args⟩) := Lib.hid (by rw [hd']; exact HA.out.2.1)
      clear hgo hle k7 htc hd' HT
      gi_wp2_with fail
      rw [← hWc]
      clear hWc
      -- TAIL
      refine ⟨trivial, (CallsIn.inRound l (callsIn_wide.2 (clone14_any Aa ca args Wc HA.out.2.2 HQc.out.2.2))).mono ?_⟩
      rintro e W2 ⟨A', c', rfl, hB2, hI2⟩
      have hq2 : InsBox W2 q10 ⟨⟨kd, op, d', a2, b2, num, nm, args⟩, Aa, ca⟩ := (hB2.block _ (lt_of_heap HQc.out.1)).trans HQc.out.1
      have hS2 := HSc.out.below_ hB2
      have hk2 := KS.of_below (w := w) (Bn := Bn) hB2 HSc.out.below
      have e7 := hq2.cells.2.2.2.2.2.2.2
      dsimp only at e7
      have f7 := frozen_of_row W2 q10 7 _ _ hq2
      have hq3 : (W2.setCell ⟨q10, 7, none⟩ (.slice A' args.length c')).heap[q10]? = some (.cells #[.int .i64 kd, .int .i64 op, .int .i64 d', .int .i64 a2, .int .i64 b2, .int .i32 num, .string nm, .slice A' args.length c'] 48 (0, 0)) := heap_setCell_same W2 q10 7 _ 48 (.slice A' args.length c') hq2
      have hS3 := hS2.inbox hq2 HQ.out.2.1 HQ.out.2.2.1 7 (.slice A' args.length c')
      have hk3 := hk2.trans (hS2.ks_inbox hq2 HQ.out.2.1 (hk2.box _ HQc.out.2.1) 7 (.slice A' args.length c'))
      obtain ⟨W3, hW3⟩ : ∃ W3, W3 = W2.setCell ⟨q10, 7, none⟩ (.slice A' args.length c') := ⟨_, rfl⟩
      have hI3 : IntsIn W3 A' args := by
        rw [hW3]
        refine hI2.ki (KI.of_chg (Chg.store W2 q10 7 _) fun k hk c f e => ?_)
        rw [hk, show W2.heap[q10]? = _ from hq2] at e; cases e
      rw [← hW3] at hq3 hS3 hk3
      have hb3 : InsBox W3 q10 ⟨⟨kd, op, d', a2, b2, num, nm, args⟩, A', c'⟩ := hq3
      obtain ⟨g0, g1, g2, g3, g4, g5, g6, g7⟩ := hb3.cells
      dsimp only at g0 g1 g2 g3 g4 g5 g6 g7
      have c6 := Boxed.cell hS3.b6
      obtain ⟨wsS, hbs, hmS⟩ := hS3.set
      have hnf : 0 < args.length → ∀ g off, A' = some ⟨g, off, none⟩ → ¬ FootB s rz g := fun hp g off e => by
        obtain ⟨g', off', c1, f1, hA, hg, _⟩ := hI3 hp
        rw [e] at hA; cases hA
        exact hS3.bits hg (by decide) (by decide)
      have HAH := Lib.hid (ahead_any ⟨kd, op, d', a2, b2, num, nm, args⟩ HOKc.out A' c' hbs hI3.reads hnf)
      have HS3 := Lib.hid hS3
      have HK3 := Lib.hid hk3
      have HI3 := Lib.hid (And.intro hI3 (And.intro hb3 hmS))
      have HW3 := Lib.hid hW3
      rw [hW3] at g0 g1 g2 g3 g4 g5 g6 g7 c6
      clear hB2 hI2 hq2 hS2 hk2 hq3 hS3 hk3 hI3 hb3 hbs hmS hnf hW3 e0 e1 e2 e3 e4 e5 e6 f10 c8 f8
      gi_wp2_with fail
      rw [← HW3.out]
      refine ⟨trivial, (CallsIn.inRound l (callsIn_wide.2 HAH.out)).mono ?_⟩
      rintro e W4 ⟨⟨u4, rfl⟩, r4, ws4, hg4, hm4⟩
      have hS4 := HS3.out.grow hg4 (S := aheadP ⟨kd, op, d', a2, b2, num, nm, args⟩ st.S) (by rw [show st.S = _ from HI3.out.2.2.symm]; exact funext hm4)
      have hk4 := HS3.out.ks_grow hg4 (HK3.out.box _ HQc.out.2.1)
      have hq4 : InsBox W4 q10 ⟨⟨kd, op, d', a2, b2, num, nm, args⟩, A', c'⟩ := hg4.chg.heap HI3.out.2.1 (HS3.out.bits HI3.out.2.1 (by decide) (by decide))
      have hI4 : IntsIn W4 A' args := HI3.out.1.ki (KI.of_chg hg4.chg fun k hk c f e => HS3.out.bits e (by decide) (by decide) hk)
      have hal4 : Below W4.heap.size W4 (W4.alloc (.cells #[.int .i64 kd, .int .i64 op, .int .i64 d', .int .i64 a2, .int .i64 b2, .int .i32 num, .string nm, .slice A' args.length c'] 48)) := (Below.refl _ _).alloc (Nat.le_refl _) _
      have hS5 := hS4.below_ hal4
      have hk5 := hk4.trans (KS.of_below (w := w) (Bn := Bn) hal4 hS4.below)
      obtain ⟨xr, hx1, hrow, hints⟩ := hS5.row
      have hxl : xr.length ≤ 1000 := by have h1 := congrArg List.length hx1; rw [List.length_map] at h1; have := HLN.out; dsimp only at h1; omega
      have hnew : ∀ j u, (insQ ⟨⟨kd, op, d', a2, b2, num, nm, args⟩, A', c'⟩)[j]? = some u → (W4.alloc (.cells #[.int .i64 kd, .int .i64 op, .int .i64 d', .int .i64 a2, .int .i64 b2, .int .i32 num, .string nm, .slice A' args.length c'] 48)).cell? ((⟨W4.heap.size, 0, none⟩ : Addr).add j) = some u := fun j u hu => by
        rw [show ((⟨W4.heap.size, 0, none⟩ : Addr).add j) = ⟨W4.heap.size, j, none⟩ from by by_cases e : j = 0 <;> simp [Addr.add, e], cell_of_row _ _ _ _ _ _ (heap_alloc_new W4 _), ← Array.getElem?_toList]
        exact hu
      obtain ⟨g0, g1, g2, g3, g4, g5, g6, g7⟩ := hq4.cells
      dsimp only at g0 g1 g2 g3 g4 g5 g6 g7
      have c7 := Boxed.cell hS4.b7
      have HS5 := Lib.hid hS5
      have HK5 := Lib.hid hk5
      have HI5 := Lib.hid (And.intro (hI4.ki (KI.of_below hal4)) (And.intro hx1 hints))
      have HROW := Lib.hid hrow
      have HNW := Lib.hid hnew
      clear hg4 hm4 hS4 hk4 hq4 hI4 hal4 hS5 hk5 hx1 hrow hints hnew
      gi_wp2_with (gi_at_builtin; refine wpListIn_append_row _ rfl _ _ 43 48 _ 8 88 rfl Try.underlying43 info_ins rfl HROW.out ⟨W4.heap.size, 0, none⟩ 1 1 (insQ ⟨⟨kd, op, d', a2, b2, num, nm, args⟩, A', c'⟩) rfl HNW.out (insQ_plain _) rfl rfl (by omega) (by unfold maxLen; omega) (by omega) ?_; intro v' rr' W5 hR hC hN; obtain ⟨A5, c5, rfl, _⟩ := hR.shape; have hb7 := hC.heap HS5.out.b7 (fun e => HS5.out.rowne HS5.out.b7 (by decide) e.symm); have c75 := Boxed.cell hb7; have f75 := frozen_of_row W5 q7 0 _ _ hb7; have HR := Lib.hid hR; have HC := Lib.hid hC; have HN := Lib.hid hN; clear hR hC hN hb7 c7 g0 g1 g2 g3 g4 g5 g6 g7)
      have hfin := HS5.out.push HI5.out.2.1 HI5.out.2.2 (y := ⟨⟨kd, op, d', a2, b2, num, nm, args⟩, A', c'⟩) HI5.out.1 HR.out HC.out HN.out
      have hkf := ((HKc.out.trans HK3.out).trans HK5.out).trans (HS5.out.ks_push (v' := .slice A5 (xr.length + 1) c5) HC.out (HK5.out.box _ (HK3.out.box _ HQc.out.2.1)) h7B)
      refine ⟨hkf.from _, fun hbp => hkf.kpw HQ.out.2.2.2 (insRow_lt hxr hbp), .slice A5 (xr.length + 1) c5, r4, rr', ?_, hkf.box _ HQ.out.2.2.2⟩
      rw [HNEXT.out, HTc.out]
      exact hfin
      -- /TAIL
    case inr.inr.inr.inr.inr.inr.inr =>
      subst hp
      have hgo : goesP ⟨kd, op, d, a2, b2, num, nm, args⟩ st.S = false := by unfold goesP; rw [← HBB.out.2]; rfl
      have hle : lessP ⟨kd, op, d, a2, b2, num, nm, args⟩ st.S = false := by unfold lessP; simp [k7]
      have z1 : (kd == 7) = false := beq_eq_false_iff_ne.2 k7
      have HT := Lib.hid (sw_stays hgo hle)
      obtain ⟨tc, htc⟩ : ∃ tc, tc = st.t := ⟨_, rfl⟩
      obtain ⟨d', hd'⟩ : ∃ d' : Int, d' = d := ⟨_, rfl⟩
      obtain ⟨Wc, hWc⟩ : ∃ Wc, Wc = W1 := ⟨_, rfl⟩
      have HSc : Hid (SwI w q2 q6 q7 q8 s ⟨⟨ins, kind, ka, tgt, els⟩, Ax, cx⟩ { st with t := tc } v rz rr Wc) := Lib.hid (by rw [htc, hWc]; exact HS1.out)
      have HQc : Hid (InsBox Wc q10 ⟨⟨kd, op, d', a2, b2, num, nm, args⟩, Aa, ca⟩ ∧ Boxed Wc Bn 43 (.slice Ax ins.length cx) ∧ ReadsAt Wc Aa (ints args)) := Lib.hid (by rw [hd', hWc]; exact HQ1.out)
      have HKc : Hid (KS w Bn Z Wc) := Lib.hid (by rw [hWc]; exact HK1.out)
      have HTc : Hid (swStep st ⟨kd, op, d, a2, b2, num, nm, args⟩ = ⟨aheadP ⟨kd, op, d', a2, b2, num, nm, args⟩ st.S, st.left ++ [⟨kd, op, d', a2, b2, num, nm, args⟩], tc⟩) := Lib.hid (by rw [hd', htc]; exact HT.out)
      have HOKc : Hid (InsOk ⟨kd, op, d', a2, b2, num, nm, args⟩) := Lib.hid (by rw [hd']; exact HA.out.2.1)
      clear hgo hle k7 htc hd' HT
      cases bh
      all_goals
        gi_wp2_with fail
        rw [← hWc]
        clear hWc
        -- TAIL
        refine ⟨trivial, (CallsIn.inRound l (callsIn_wide.2 (clone14_any Aa ca args Wc HA.out.2.2 HQc.out.2.2))).mono ?_⟩
        rintro e W2 ⟨A', c', rfl, hB2, hI2⟩
        have hq2 : InsBox W2 q10 ⟨⟨kd, op, d', a2, b2, num, nm, args⟩, Aa, ca⟩ := (hB2.block _ (lt_of_heap HQc.out.1)).trans HQc.out.1
        have hS2 := HSc.out.below_ hB2
        have hk2 := KS.of_below (w := w) (Bn := Bn) hB2 HSc.out.below
        have e7 := hq2.cells.2.2.2.2.2.2.2
        dsimp only at e7
        have f7 := frozen_of_row W2 q10 7 _ _ hq2
        have hq3 : (W2.setCell ⟨q10, 7, none⟩ (.slice A' args.length c')).heap[q10]? = some (.cells #[.int .i64 kd, .int .i64 op, .int .i64 d', .int .i64 a2, .int .i64 b2, .int .i32 num, .string nm, .slice A' args.length c'] 48 (0, 0)) := heap_setCell_same W2 q10 7 _ 48 (.slice A' args.length c') hq2
        have hS3 := hS2.inbox hq2 HQ.out.2.1 HQ.out.2.2.1 7 (.slice A' args.length c')
        have hk3 := hk2.trans (hS2.ks_inbox hq2 HQ.out.2.1 (hk2.box _ HQc.out.2.1) 7 (.slice A' args.length c'))
        obtain ⟨W3, hW3⟩ : ∃ W3, W3 = W2.setCell ⟨q10, 7, none⟩ (.slice A' args.length c') := ⟨_, rfl⟩
        have hI3 : IntsIn W3 A' args := by
          rw [hW3]
          refine hI2.ki (KI.of_chg (Chg.store W2 q10 7 _) fun k hk c f e => ?_)
          rw [hk, show W2.heap[q10]? = _ from hq2] at e; cases e
        rw [← hW3] at hq3 hS3 hk3
        have hb3 : InsBox W3 q10 ⟨⟨kd, op, d', a2, b2, num, nm, args⟩, A', c'⟩ := hq3
        obtain ⟨g0, g1, g2, g3, g4, g5, g6, g7⟩ := hb3.cells
        dsimp only at g0 g1 g2 g3 g4 g5 g6 g7
        have c6 := Boxed.cell hS3.b6
        obtain ⟨wsS, hbs, hmS⟩ := hS3.set
        have hnf : 0 < args.length → ∀ g off, A' = some ⟨g, off, none⟩ → ¬ FootB s rz g := fun hp g off e => by
          obtain ⟨g', off', c1, f1, hA, hg, _⟩ := hI3 hp
          rw [e] at hA; cases hA
          exact hS3.bits hg (by decide) (by decide)
        have HAH := Lib.hid (ahead_any ⟨kd, op, d', a2, b2, num, nm, args⟩ HOKc.out A' c' hbs hI3.reads hnf)
        have HS3 := Lib.hid hS3
        have HK3 := Lib.hid hk3
        have HI3 := Lib.hid (And.intro hI3 (And.intro hb3 hmS))
        have HW3 := Lib.hid hW3
        rw [hW3] at g0 g1 g2 g3 g4 g5 g6 g7 c6
        clear hB2 hI2 hq2 hS2 hk2 hq3 hS3 hk3 hI3 hb3 hbs hmS hnf hW3 e0 e1 e2 e3 e4 e5 e6 f10 c8 f8
        gi_wp2_with fail
        rw [← HW3.out]
        refine ⟨trivial, (CallsIn.inRound l (callsIn_wide.2 HAH.out)).mono ?_⟩
        rintro e W4 ⟨⟨u4, rfl⟩, r4, ws4, hg4, hm4⟩
        have hS4 := HS3.out.grow hg4 (S := aheadP ⟨kd, op, d', a2, b2, num, nm, args⟩ st.S) (by rw [show st.S = _ from HI3.out.2.2.symm]; exact funext hm4)
        have hk4 := HS3.out.ks_grow hg4 (HK3.out.box _ HQc.out.2.1)
        have hq4 : InsBox W4 q10 ⟨⟨kd, op, d', a2, b2, num, nm, args⟩, A', c'⟩ := hg4.chg.heap HI3.out.2.1 (HS3.out.bits HI3.out.2.1 (by decide) (by decide))
        have hI4 : IntsIn W4 A' args := HI3.out.1.ki (KI.of_chg hg4.chg fun k hk c f e => HS3.out.bits e (by decide) (by decide) hk)
        have hal4 : Below W4.heap.size W4 (W4.alloc (.cells #[.int .i64 kd, .int .i64 op, .int .i64 d', .int .i64 a2, .int .i64 b2, .int .i32 num, .string nm, .slice A' args.length c'] 48)) := (Below.refl _ _).alloc (Nat.le_refl _) _
        have hS5 := hS4.below_ hal4
        have hk5 := hk4.trans (KS.of_below (w := w) (Bn := Bn) hal4 hS4.below)
        obtain ⟨xr, hx1, hrow, hints⟩ := hS5.row
        have hxl : xr.length ≤ 1000 := by have h1 := congrArg List.length hx1; rw [List.length_map] at h1; have := HLN.out; dsimp only at h1; omega
        have hnew : ∀ j u, (insQ ⟨⟨kd, op, d', a2, b2, num, nm, args⟩, A', c'⟩)[j]? = some u → (W4.alloc (.cells #[.int .i64 kd, .int .i64 op, .int .i64 d', .int .i64 a2, .int .i64 b2, .int .i32 num, .string nm, .slice A' args.length c'] 48)).cell? ((⟨W4.heap.size, 0, none⟩ : Addr).add j) = some u := fun j u hu => by
          rw [show ((⟨W4.heap.size, 0, none⟩ : Addr).add j) = ⟨W4.heap.size, j, none⟩ from by by_cases e : j = 0 <;> simp [Addr.add, e], cell_of_row _ _ _ _ _ _ (heap_alloc_new W4 _), ← Array.getElem?_toList]
          exact hu
        obtain ⟨g0, g1, g2, g3, g4, g5, g6, g7⟩ := hq4.cells
        dsimp only at g0 g1 g2 g3 g4 g5 g6 g7
        have c7 := Boxed.cell hS4.b7
        have HS5 := Lib.hid hS5
        have HK5 := Lib.hid hk5
        have HI5 := Lib.hid (And.intro (hI4.ki (KI.of_below hal4)) (And.intro hx1 hints))
        have HROW := Lib.hid hrow
        have HNW := Lib.hid hnew
        clear hg4 hm4 hS4 hk4 hq4 hI4 hal4 hS5 hk5 hx1 hrow hints hnew
        gi_wp2_with (gi_at_builtin; refine wpListIn_append_row _ rfl _ _ 43 48 _ 8 88 rfl Try.underlying43 info_ins rfl HROW.out ⟨W4.heap.size, 0, none⟩ 1 1 (insQ ⟨⟨kd, op, d', a2, b2, num, nm, args⟩, A', c'⟩) rfl HNW.out (insQ_plain _) rfl rfl (by omega) (by unfold maxLen; omega) (by omega) ?_; intro v' rr' W5 hR hC hN; obtain ⟨A5, c5, rfl, _⟩ := hR.shape; have hb7 := hC.heap HS5.out.b7 (fun e => HS5.out.rowne HS5.out.b7 (by decide) e.symm); have c75 := Boxed.cell hb7; have f75 := frozen_of_row W5 q7 0 _ _ hb7; have HR := Lib.hid hR; have HC := Lib.hid hC; have HN := Lib.hid hN; clear hR hC hN hb7 c7 g0 g1 g2 g3 g4 g5 g6 g7)
        have hfin := HS5.out.push HI5.out.2.1 HI5.out.2.2 (y := ⟨⟨kd, op, d', a2, b2, num, nm, args⟩, A', c'⟩) HI5.out.1 HR.out HC.out HN.out
        have hkf := ((HKc.out.trans HK3.out).trans HK5.out).trans (HS5.out.ks_push (v' := .slice A5 (xr.length + 1) c5) HC.out (HK5.out.box _ (HK3.out.box _ HQc.out.2.1)) h7B)
        refine ⟨hkf.from _, fun hbp => hkf.kpw HQ.out.2.2.2 (insRow_lt hxr hbp), .slice A5 (xr.length + 1) c5, r4, rr', ?_, hkf.box _ HQ.out.2.2.2⟩
        rw [HNEXT.out, HTc.out]
        exact hfin
        -- /TAIL
  case hdone =>
    rintro D ys Z hD hS2 ⟨v, rz, rr, hS, hbB⟩ hDe
    have hkeys : keysR ys = ins.reverse := by unfold keysR; rw [hS2, revI_keys, HXS.out]
    rw [hkeys] at hS
    obtain ⟨xr, hx1, hrow, hints⟩ := hS.row
    obtain ⟨A, c, rfl, _⟩ := hrow.shape
    have hxl : xr.length ≤ 1000 := by
      have h1 := congrArg List.length hx1
      rw [List.length_map] at h1
      have h2 := (sw_cost ⟨ins, kind, ka, tgt, els⟩ (memW ws) ins.reverse).2.2.2.1
      rw [List.length_reverse] at h2
      omega
    have HREV := Lib.hid (rev14_any hrow hxl)
    have c7 := Boxed.cell hS.b7
    have HS := Lib.hid hS
    have HX := Lib.hid (And.intro hx1 (And.intro hints (And.intro hDe hD)))
    obtain ⟨n, hn⟩ : ∃ n, n = xr.length := ⟨_, rfl⟩
    rw [← hn] at c7 HREV
    have HN := Lib.hid hn
    clear hkeys hS hx1 hrow hints hDe hS2 hseq hbB hn hD hxl
    gi_wp2_with fail
    refine ⟨trivial, (callsIn_wide.2 HREV.out).mono ?_⟩
    rintro e W2 ⟨⟨u, rfl⟩, hrow, hC⟩
    have hnr : ∀ {c t k f}, Z.heap[k]? = some (.cells c t f) → t ≠ 48 → ¬ some k = rr := fun hk ht e => HS.out.rowne hk ht e.symm
    have b2 : BlkBox W2 q2 ⟨⟨ins, kind, ka, tgt, els⟩, Ax, cx⟩ := hC.heap HS.out.b2 (hnr HS.out.b2 (by decide))
    have b4 : BlkBox W2 (q2 + 1) zeroQ := hC.heap HS.out.b4 (hnr HS.out.b4 (by decide))
    have b7 : Boxed W2 q7 43 (.slice A n c) := by rw [HN.out]; exact hC.heap HS.out.b7 (hnr HS.out.b7 (by decide))
    have b8 : Boxed W2 q8 4 _ := hC.heap HS.out.b8 (hnr HS.out.b8 (by decide))
    obtain ⟨st, hst⟩ : ∃ st, st = swRun ⟨ins, kind, ka, tgt, els⟩ (memW ws) ins.reverse := ⟨_, rfl⟩
    rw [← hst] at b8 HX HS
    have hbW2 : Below w.heap.size w W2 := HS.out.below.trans (hC.below HS.out.below.size fun k hk => HS.out.low.2.2 k hk.symm)
    have hDe : W2.heap[D]? = some (.deferred (some [])) := hC.heap HX.out.2.2.1 fun e => by
      rcases HS.out.row with ⟨y1, _, hr, _⟩
      rcases hr.2 with ⟨_, e2, _⟩ | ⟨g', off, cap, cur, _, e2, hg', _⟩
      · rw [e2] at e; cases e
      · rw [e2] at e; cases e; have := HX.out.2.2.1; rw [hg'] at this; cases this
    have hki : ∀ y ∈ xr, IntsIn W2 y.A y.k.args := fun y hy => (HX.out.2.1 y hy).ki (KI.of_chg hC fun k hk c f e => hnr e (by decide) hk)
    have c7 := Boxed.cell b7
    have c20 : W2.cell? ⟨q2, 0, none⟩ = some (.slice Ax ins.length cx) := b2.cells.1
    have f20 := frozen_of_row W2 q2 0 _ _ b2
    have hb2' := heap_setCell_same W2 q2 0 _ 45 (.slice A n c) b2
    have hq24 : q2 + 1 ≠ q2 := by omega
    have hc1 := Chg.store W2 q2 0 (.slice A n c)
    have b4' : BlkBox (W2.setCell ⟨q2, 0, none⟩ (.slice A n c)) (q2 + 1) zeroQ := hc1.heap b4 fun e => hq24 e
    have b8' : Boxed (W2.setCell ⟨q2, 0, none⟩ (.slice A n c)) q8 4 (.bool st.t) := hc1.heap b8 fun e => by
      have h8 := b8
      unfold Boxed at h8
      have h2 := b2
      unfold BlkBox at h2
      rw [e, h2] at h8; cases h8
    obtain ⟨wd, hwd⟩ : ∃ wd, wd = (W2.setCell ⟨q2, 0, none⟩ (.slice A n c)).drew := ⟨_, rfl⟩
    have hsel : SelS q2 q8 (.slice A n c) kind ka tgt els st.t wd := by
      rw [hwd]
      refine ⟨⟨?_, ?_, ?_, ?_, ?_⟩, Boxed.cell (W := (W2.setCell ⟨q2, 0, none⟩ (.slice A n c)).drew) b8'⟩ <;> (rw [cell_of_row _ _ _ _ _ _ (show (W2.setCell ⟨q2, 0, none⟩ (.slice A n c)).drew.heap[q2]? = _ from hb2')]; rfl)
    have HWD := Lib.hid hwd
    have hq84 : q8 ≠ q2 + 1 := fun e => by
      have h8 := b8
      unfold Boxed at h8
      have h4 := b4
      unfold BlkBox at h4
      rw [e, h4] at h8; cases h8
    have b4d : wd.heap[q2 + 1]? = some (.cells #[.slice none 0 0, .int .i64 0, .int .i64 0, .int .i64 0, .int .i64 0] 45 (0, 0)) := by rw [hwd]; exact b4'
    have mf := fun j => frozen_of_row wd (q2 + 1) j _ _ b4d
    obtain ⟨m0, m1, m2, m3, m4⟩ := BlkBox.cells (x := zeroQ) b4d
    simp only [zeroQ, List.length_nil] at m0 m1 m2 m3 m4
    have hcd : Chg (fun k => k = q2 ∨ k = q2 + 1) W2 (((((wd.setCell ⟨q2 + 1, 0, none⟩ (.slice A n c)).setCell ⟨q2 + 1, 1, none⟩ (.int .i64 kind)).setCell ⟨q2 + 1, 2, none⟩ (.int .i64 ka)).setCell ⟨q2 + 1, 3, none⟩ (.int .i64 tgt)).setCell ⟨q2 + 1, 4, none⟩ (.int .i64 els)) := by
      rw [hwd]
      exact ((hc1.mono fun _ _ e => .inl e).drew).trans chg5 fun _ _ e => .inr e
    have HD := Lib.hid (And.intro hbW2 (And.intro hDe (And.intro hki (And.intro hrow (And.intro b4d (And.intro hst (And.intro hcd (And.intro b2 b4))))))))
    clear hbW2 hDe hki hrow b4' b4d hst hcd b2 b4 b7 b8 hb2' b8' hc1 hC hwd hnr
    gi_wp2_with fail
    -- GENERATED: region 17
    refine wpIn_wide.2 ?_
    refine wp_region_noPanic ?_
    refine wp_region_T (SelS q2 q8 (.slice A n c) kind ka tgt els st.t) [] (by kernel_rfl) (by rw [← HWD.out]; exact hsel) (fun _ => ?_)
    rw [← HWD.out]
    refine wpAnyT_load (i := 0) (v := ?va1) rfl (by kernel_rfl) (by kernel_rfl) (by kernel_rfl) rfl (by kernel_rfl) (by kernel_rfl) (fun _ _ _ h => h) (Or.inl ⟨by rfl, ?hya1⟩) (DL.of hsel) ?resta1
    case hya1 => (intro w hSw; obtain ⟨⟨s0, s1, s2, s3, s4⟩, s5⟩ := hSw rfl; go_simp; try rfl)
    try simp only [Act.put, List.setIfInBounds_toArray, List.set_cons_zero, List.set_cons_succ, List.getElem_toArray, List.getElem_cons_zero]
    refine wpAnyT_load (i := 1) (v := ?va2) rfl (by kernel_rfl) (by kernel_rfl) (by kernel_rfl) rfl (by kernel_rfl) (by kernel_rfl) (fun _ _ _ h => h) (Or.inl ⟨by rfl, ?hya2⟩) (DL.of hsel) ?resta2
    case hya2 => (intro w hSw; obtain ⟨⟨s0, s1, s2, s3, s4⟩, s5⟩ := hSw rfl; go_simp; try rfl)
    try simp only [Act.put, List.setIfInBounds_toArray, List.set_cons_zero, List.set_cons_succ, List.getElem_toArray, List.getElem_cons_zero, List.getElem_cons_succ]
    refine wpAnyT_ready (rs := [2]) (by kernel_rfl) (by simp) ?_
    refine AllReadyT.cons rfl (fun K hK => ?_) AllReadyT.nil
    try simp only [Act.put, List.getElem_toArray, List.getElem_cons_zero, List.getElem_cons_succ]
    go_simp
    refine hK.out _ _ (DL.of (selS_chg hsel chg5 hq24.symm hq84)) (fun _ => ?_)
    clear hK K
    try simp only [Act.put, List.setIfInBounds_toArray, List.set_cons_zero, List.set_cons_succ, List.getElem_toArray, List.getElem_cons_zero, List.getElem_cons_succ]
    refine wpAnyT_take (i := 3) (v := ?va3) rfl (by kernel_rfl) (by kernel_rfl) (by kernel_rfl) rfl (fun _ _ _ h => h) (Or.inl ⟨by rfl, ?hya3⟩) (DL.of (selS_chg hsel chg5 hq24.symm hq84)) ?resta3
    case hya3 => (intro w hSw; go_simp; try rfl)
    try simp only [Act.put, List.setIfInBounds_toArray, List.set_cons_zero, List.set_cons_succ, List.getElem_toArray, List.getElem_cons_zero, List.getElem_cons_succ]
    refine wpAnyT_done (by kernel_rfl) (NoPanic.normal ?_) _
    -- END region 17
    clear m0 m1 m2 m3 m4 mf hsel c7 c20 f20
    obtain ⟨W5, hW5⟩ : ∃ W5, W5 = ((((wd.setCell ⟨q2 + 1, 0, none⟩ (.slice A n c)).setCell ⟨q2 + 1, 1, none⟩ (.int .i64 kind)).setCell ⟨q2 + 1, 2, none⟩ (.int .i64 ka)).setCell ⟨q2 + 1, 3, none⟩ (.int .i64 tgt)).setCell ⟨q2 + 1, 4, none⟩ (.int .i64 els) := ⟨_, rfl⟩
    rw [← hW5]
    have HW5 := Lib.hid hW5
    clear hW5
    gi_wp2_with fail
    obtain ⟨hbW2, hDe, hki, hrow, b4d, hst, hcd, b2, b4⟩ := HD.out
    rw [← HW5.out] at hcd
    have hn24 : ∀ {k : Nat} {o : Obj}, W2.heap[k]? = some o → (∀ c f, o ≠ .cells c 45 f) → ¬ (k = q2 ∨ k = q2 + 1) := fun hk ho e => by
      rcases e with rfl | rfl
      · rw [show W2.heap[_]? = _ from b2] at hk; cases hk; exact ho _ _ rfl
      · rw [show W2.heap[_]? = _ from b4] at hk; cases hk; exact ho _ _ rfl
    have hD5 : W5.heap[D]? = some (.deferred (some [])) := hcd.heap hDe (hn24 hDe fun c f e => by cases e)
    have hq5 : W5.heap[q2 + 1]? = some (.cells #[.slice A n c, .int .i64 kind, .int .i64 ka, .int .i64 tgt, .int .i64 els] 45 (0, 0)) := by rw [HW5.out]; exact box5 b4d
    refine ⟨by simp, .inl ⟨_, _, rfl, run_takeDeferred hD5, ?_⟩⟩
    have hq6 : (W5.putObj D (.deferred none)).heap[q2 + 1]? = some (.cells #[.slice A n c, .int .i64 kind, .int .i64 ka, .int .i64 tgt, .int .i64 els] 45 (0, 0)) := (World.putObj_heap_other fun e => by rw [e, hD5] at hq5; cases hq5).trans hq5
    have hc6 := chg_put W5 D (.deferred none)
    obtain ⟨p0, p1, p2, p3, p4⟩ := BlkBox.cells (x := ⟨⟨List.replicate n ⟨0, 0, 0, 0, 0, 0, ⟨#[]⟩, []⟩, kind, ka, tgt, els⟩, A, c⟩) (by unfold BlkBox; simp only [List.length_replicate]; exact hq6)
    simp only [List.length_replicate] at p0 p1 p2 p3 p4
    refine ⟨.tuple #[.agg #[.slice A n c, .int .i64 kind, .int .i64 ka, .int .i64 tgt, .int .i64 els], .bool st.t], by simp [results, Try.results24, go_sem, p0, p1, p2, p3, p4], A, c, ?_, ?_, ?_⟩
    · have hlen : n = (swBlk ⟨ins, kind, ka, tgt, els⟩ (memW ws)).ins.length := by
        show n = (List.reverse (swRun ⟨ins, kind, ka, tgt, els⟩ (memW ws) ins.reverse).left).length
        rw [List.length_reverse, ← hst, ← HX.out.1, List.length_map, HN.out]
      have ht : swT ⟨ins, kind, ka, tgt, els⟩ (memW ws) = st.t := by rw [hst]; rfl
      rw [ht, ← hlen]
    · have h1 := hbW2.size
      have h2 := HX.out.2.2.2
      have h3 := HQ2.out.1
      exact (hbW2.trans (hcd.below h1 fun k e => by omega)).trans (hc6.below (Nat.le_trans h1 hcd.size) fun k e => by omega)
    · have hr6 : RowAt (W5.putObj D (.deferred none)) 48 8 (.slice A n c) rr xr.length (insRowC xr.reverse) := by
        rw [HN.out]
        have hrk : ∀ k, rr = some k → ∃ c f, W2.heap[k]? = some (.cells c 48 f) := fun k e => by
          rcases hrow.2 with ⟨_, e2, _⟩ | ⟨g', off, cap, cur, _, e2, hg', _⟩
          · rw [e2] at e; cases e
          · rw [e2] at e; cases e; exact ⟨_, _, hg'⟩
        rw [HN.out] at hrow
        refine (hrow.kept hcd fun k hk => ?_).kept hc6 fun k hk e => ?_
        · obtain ⟨c', f', e⟩ := hrk k hk
          exact hn24 e fun _ _ e => by cases e
        · obtain ⟨c', f', e2⟩ := hrk k hk
          rw [e, hDe] at e2; cases e2
      have hall : ∀ y ∈ xr.reverse, ArgM (W5.putObj D (.deferred none)) 0 y.A y.k.args := fun y hy => by
        refine .inl (((hki y (by simpa using hy)).ki (KI.of_chg hcd fun k hk c f e => hn24 e (fun _ _ e => by cases e) hk)).ki (KI.of_chg hc6 fun k hk c f e => ?_))
        rw [hk, hD5] at e; cases e
      rw [HN.out] at hr6
      have hfin := insIn_of_row hr6 hall
      rw [List.map_reverse, HX.out.1, hst] at hfin
      exact hfin
  case hstop => rintro _ _ _ _ _ _ h _; exact h.elim
end Go.Proofs.Ytlniohgnkihefaa
