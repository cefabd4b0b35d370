/- DeadLives: the walk of the law. -/
import Derived.Deep.RegionHeld3
import Derived.Test.YtlniohgnkihefaaDoorLj16
import Derived.Test.YtlniohgnkihefaaDoorLj24
import Derived.Test.YtlniohgnkihefaaDoorLj23
namespace Go.Proofs.YtlniohgnkihefaaDoor
open Go.RowKit Go.Maps
variable {T : Nat → Prop} {w w' : World}
theorem RowsI.at {B : Nat} {F : Nat → List Int} {n : Nat} {v : Value} {rr : Option Nat} {W : World} (h : RowsI B F n v rr W) (k : Nat) (hk : k < n) : ∃ g off cap A c, v = .slice (some ⟨g, off, none⟩) n cap ∧ W.cell? ⟨g, off + k, none⟩ = some (.slice A (F k).length c) ∧ ReadsAt W A (ints (F k)) := by
  obtain ⟨ms, e, hr, hm⟩ := h.row
  obtain ⟨g, off, cap, hv, _, _, _, _, hc, _⟩ := hr.form (by omega)
  have hl : ms.length = n := by have := congrArg List.length e; simpa using this
  have hk' : k < ms.length := by omega
  have e2 : ms[k].l = F k := by
    have : (ms.map LM.l)[k]? = ((List.range n).map F)[k]? := by rw [e]
    simpa [hk, hk'] using this
  have h1 := hc k ms[k].enc (by simp [hk'])
  have h2 := (hm _ (List.getElem_mem hk')).reads
  unfold LM.enc at h1
  rw [e2] at h1 h2
  exact ⟨g, off, cap, ms[k].A, ms[k].c, hv, h1, h2⟩
theorem RowsI.shape {B : Nat} {F : Nat → List Int} {n : Nat} {v : Value} {rr : Option Nat} {W : World} (h : RowsI B F n v rr W) : ∃ A c, v = .slice A n c := by
  obtain ⟨ms, _, hr, _⟩ := h.row
  obtain ⟨A, c, e, _⟩ := hr.shape
  exact ⟨A, c, e⟩
theorem row_same {l : List Int} {P : Nat → Prop} {ms : List LM} {i : Nat} (hi : i < ms.length) (hb : Bnd ms[i].l) (h1 : l.Pairwise (· < ·)) (h2 : ∀ z, z ∈ l ↔ ∃ x : Nat, z = x ∧ P x) (h3 : ∀ n, stOf ms i n = true ↔ P n) : l = ms[i].l := by
  refine rise_eq h1 hb.1.1 fun z => ?_
  rw [h2]
  constructor
  · rintro ⟨x, rfl, hx⟩
    have := (h3 x).2 hx
    rw [stOf_at _ _ hi] at this
    exact listP_iff.1 this
  · intro hz
    have h0 := hb.1.2 z hz
    refine ⟨z.toNat, by omega, (h3 _).1 ?_⟩
    rw [stOf_at _ _ hi]
    refine listP_iff.2 ?_
    rw [Int.toNat_of_nonneg h0]; exact hz
/-- Within a round of the inner loop. -/
structure LivS (W0 : World) (a1 a2 a3 a4 : Addr) (v1 v2 v3 v4 : Value) (W : World) : Prop where
  below : Below W0.heap.size W0 W
  c1 : W.cell? a1 = some v1
  c2 : W.cell? a2 = some v2
  c3 : W.cell? a3 = some v3
  c4 : W.cell? a4 = some v4
theorem LivS.next {W0 : World} {a1 a2 a3 a4 : Addr} {v1 v2 v3 v4 : Value} {W W' : World} (h : LivS W0 a1 a2 a3 a4 v1 v2 v3 v4 W) (hb : Below W.heap.size W W') : LivS W0 a1 a2 a3 a4 v1 v2 v3 v4 W' :=
  ⟨h.below.trans (hb.mono h.below.size), cellB' hb h.c1, cellB' hb h.c2, cellB' hb h.c3, cellB' hb h.c4⟩
theorem same14_self (l m : List Int) (e : l = m) (A B : Option Addr) (c d : Nat) (w : World) (hl : l.length ≤ 100000) (ha : ReadsAt w A (ints l)) (hb : ReadsAt w B (ints m)) :
    Calls Tryd.prog 9 #[.slice A l.length c, .slice B m.length d] w fun e w' => e = .returned (.bool true) ∧ Below w.heap.size w w' := by
  subst e
  have h := same14_any l l A B c d w hl hl ha hb
  rw [show sameL l l = true from decide_eq_true rfl] at h
  exact h
set_option maxHeartbeats 8000000 in
set_option maxRecDepth 100000 in
theorem deadLives_any (m : Mid) (A B : Option Addr) (c d : Nat) (w : World) (h : RdMid w T m A c B d) (hT : TabAt w) :
    Calls Tryd.prog 3 #[.agg #[.slice A m.globals.length c, .slice B m.fns.length d]] w fun e w' => e = .returned (.bool true) ∧ Below w.heap.size w w' := by
  have hlf : m.fns.length ≤ 9223372036854775807 := by have := h.nfns; unfold maxLen at this; omega
  obtain ⟨w1, hw1, hb1, hlt1, hc⟩ := box_new w #[.slice A m.globals.length c, .slice B m.fns.length d] 25
  have hc0 := hc 0
  have hc1 := hc 1
  simp only [List.getElem?_toArray, List.getElem?_cons_succ, List.getElem?_cons_zero] at hc0 hc1
  have HM := Lib.hid (mid_below h hb1)
  have HB1 := Lib.hid hb1
  have HW := Lib.hid hw1
  have HT := Lib.hid hT
  clear h hb1 hc hw1 hT
  go_enter Tryd.func3, Tryd.ntmps3
  go_wp2_with fail
  rw [← HW.out]
  refine (Small_any m A B c d _ HM.out).mono ?_
  rintro e w2 ⟨t, rfl, hB2, hv⟩
  have d0 := (hB2.cell (p := ⟨w.heap.size, 0, none⟩) hlt1).trans hc0
  have d1 := (hB2.cell (p := ⟨w.heap.size, 1, none⟩) hlt1).trans hc1
  have HB2 : Hid (Below w.heap.size w w2) := Lib.hid (HB1.out.trans (hB2.mono HB1.out.size))
  have HM2 := Lib.hid (mid_below HM.out hB2)
  have HV := Lib.hid hv
  have hlt2 : w.heap.size < w2.heap.size := Nat.lt_of_lt_of_le hlt1 hB2.size
  clear hB2 hv hc0 hc1
  cases t with
  | false =>
    go_wp2_with fail
    refine (lives14_any _).mono ?_
    rintro e w3 ⟨rfl, hB3⟩
    have HB3 : Hid (Below w.heap.size w w3) := Lib.hid (HB2.out.trans (hB3.mono HB2.out.size))
    clear hB3
    go_wp2_with fail
    go_ret
    exact ⟨rfl, HB3.out⟩
  | true =>
    have HSM : Hid (SmallV m) := Lib.hid (HV.out rfl)
    go_wp2_with fail
    go_loopw [17] (fun i wr => ∃ (k : Nat), k ≤ m.fns.length ∧ i = .int .i64 (k : Nat) ∧ Below w2.heap.size w2 wr) (fun i _ => m.fns.length - (intOf i).toNat)
    case atStart => exact ⟨0, by omega, rfl, Below.refl _ _⟩
    case round =>
      obtain ⟨k, hk, rfl, hB⟩ := hrel
      have HBK := Lib.hid hB
      have HBW : Hid (Below w.heap.size w wr) := Lib.hid (HB2.out.trans (hB.mono HB2.out.size))
      clear hB
      by_cases hlt : k < m.fns.length
      · obtain ⟨f, hfe⟩ : ∃ f, f = m.fns[k] := ⟨_, rfl⟩
        obtain ⟨g, off, A1, c1, rfl, hg, hok, hsub, g0, g1, g2, g3⟩ := fn_at (fns_below HM2.out.fns HBK.out) k hlt f hfe
        have hfm : f ∈ m.fns := by rw [hfe]; exact List.getElem_mem hlt
        have HF := Lib.hid (flow_of (by rw [hfe]; exact (HSM.out.may.fns k hlt).fn) (HSM.out.light.fns f hfm))
        have HD := Lib.hid (data_of hsub)
        obtain ⟨n, hn⟩ : ∃ n, n = f.blocks.length := ⟨_, rfl⟩
        have hnb : n ≤ 1000 := by rw [hn]; exact HF.out.nb
        obtain ⟨q4, hq4⟩ : ∃ q4, q4 = wr.heap.size := ⟨_, rfl⟩
        obtain ⟨W5, hW5⟩ : ∃ W5, W5 = wr.alloc (.cells #[.string f.name, .int .i64 f.params, .int .i64 f.regs, .slice A1 f.blocks.length c1] 30) := ⟨_, rfl⟩
        have h5 : Below wr.heap.size wr W5 := by rw [hW5]; exact (Below.refl _ _).alloc (Nat.le_refl _) _
        have hx5 : FnBox W5 q4 f.name f.params f.regs (.slice A1 f.blocks.length c1) := by rw [hW5, hq4]; exact heap_alloc_new wr _
        obtain ⟨a0, a1, a2, a3⟩ := hx5.cells
        have HM5 := Lib.hid ((blkMem_of_rd hsub).below h5)
        have HX5 := Lib.hid hx5
        have H5 := Lib.hid h5
        have HW5 := Lib.hid hW5
        have HQ4 := Lib.hid hq4
        have HN := Lib.hid hn
        have HT5 : Hid (TabAt W5) := Lib.hid ((HT.out.below HBW.out).below h5)
        clear hok hsub hfm hfe hq4 hW5 h5 hx5 hn
        go_upto_region 6 with (fail)
        rw [← HW5.out, ← HQ4.out]
        clear g0 g1 g2 g3 hg
        go_wp2_with fail
        refine (deadLive_any f HF.out HD.out A1 c1 W5 HM5.out HT5.out).mono ?_
        rintro e W6 ⟨F1, F2, v1, v2, r1, r2, rfl, hb6, hR1, hR2, hLi⟩
        have hx6 := HX5.out.below hb6
        obtain ⟨a0, a1, a2, a3⟩ := hx6.cells
        have HM6 := Lib.hid (HM5.out.below hb6)
        have H6 := Lib.hid (H5.out.trans (hb6.mono H5.out.size))
        rw [← HN.out] at hR1 hR2 hLi
        have HR1 := Lib.hid hR1
        have HR2 := Lib.hid hR2
        have HLI := Lib.hid hLi
        clear hb6 hR1 hR2 hLi hx6
        obtain ⟨Av1, cv1, rfl⟩ := HR1.out.shape
        obtain ⟨Av2, cv2, rfl⟩ := HR2.out.shape
        go_upto_region 7 with (fail)
        go_wp2_with fail
        refine (live14_any f HF.out A1 c1 W6 HM6.out).mono ?_
        rintro e W7 ⟨gi, go, is, os, rfl, hL, hS⟩
        rw [← HN.out] at hS ⊢
        have HL := Lib.hid hL
        have HS := Lib.hid hS
        have HR1' := Lib.hid (HR1.out.below_ hL.below)
        have HR2' := Lib.hid (HR2.out.below_ hL.below)
        have H7 := Lib.hid (H6.out.trans (hL.below.mono H6.out.size))
        have hil : is.length = n := by rw [HN.out]; exact hL.il
        have hol : os.length = n := by rw [HN.out]; exact hL.ol
        have HIL := Lib.hid hil
        have HOL := Lib.hid hol
        clear hL hS a0 a1 a2 a3 HX5 HM5 HM6 H6 HR1 HR2 hil hol
        have hnn : ((n : Int) != (n : Int)) = false := by simp
        go_upto_region 8 with (fail)
        go_wp2_with fail
        go_loopw [45] (fun i wr2 => ∃ (j : Nat), j ≤ n ∧ i = .int .i64 (j : Nat) ∧ Below W7.heap.size W7 wr2) (fun i _ => n - (intOf i).toNat)
        case atStart => exact ⟨0, by omega, rfl, Below.refl _ _⟩
        case round =>
          obtain ⟨j, hj, rfl, hB8⟩ := hrel
          have HB8 := Lib.hid hB8
          clear hB8
          by_cases hlj : j < n
          · obtain ⟨g1, o1, p1, A3, c3, hv1, x1, rd1⟩ := (HR1'.out.below_ HB8.out).at j hlj
            obtain ⟨g2, o2, p2, A4, c4, hv2, x2, rd2⟩ := (HR2'.out.below_ HB8.out).at j hlj
            injection hv1 with hv1 _ hp1
            subst hv1
            injection hv2 with hv2 _ hp2
            subst hv2
            have hji : j < is.length := by have := HIL.out; omega
            have hjo : j < os.length := by have := HOL.out; omega
            have e1 := row_same hji (HL.out.bi _ (List.getElem_mem hji)) (HLI.out j hlj).1.1 (HLI.out j hlj).1.2 (HS.out j hlj).1
            have e2 := row_same hjo (HL.out.bo _ (List.getElem_mem hjo)) (HLI.out j hlj).2.1 (HLI.out j hlj).2.2 (HS.out j hlj).2
            have n1 : (F1 j).length ≤ 100000 := by rw [e1]; have := (HL.out.bi _ (List.getElem_mem hji)).len; omega
            have n2 : (F2 j).length ≤ 100000 := by rw [e2]; have := (HL.out.bo _ (List.getElem_mem hjo)).len; omega
            have y1 := ((HL.out.I.below HB8.out).cell j hji).1
            have y2 := ((HL.out.O.below HB8.out).cell j hjo).1
            have rd3 := (HL.out.I.below HB8.out).reads _ (List.getElem_mem hji)
            have rd4 := (HL.out.O.below HB8.out).reads _ (List.getElem_mem hjo)
            obtain ⟨v3, hv3⟩ : ∃ v, v = is[j].enc := ⟨_, rfl⟩
            obtain ⟨v4, hv4⟩ : ∃ v, v = os[j].enc := ⟨_, rfl⟩
            rw [← hv3] at y1
            rw [← hv4] at y2
            have HS1 : Hid (∀ W, Below wr.heap.size wr W → Calls Tryd.prog 9 #[.slice A3 (F1 j).length c3, v3] W fun e w' => e = .returned (.bool true) ∧ Below W.heap.size W w') := Lib.hid fun W hb => by
              rw [hv3]
              exact same14_self _ _ e1 _ _ _ _ W n1 (readsBelow rd1 hb) (readsBelow rd3 hb)
            have HS2 : Hid (∀ W, Below wr.heap.size wr W → Calls Tryd.prog 9 #[.slice A4 (F2 j).length c4, v4] W fun e w' => e = .returned (.bool true) ∧ Below W.heap.size W w') := Lib.hid fun W hb => by
              rw [hv4]
              exact same14_self _ _ e2 _ _ _ _ W n2 (readsBelow rd2 hb) (readsBelow rd4 hb)
            have ST : Hid (LivS wr ⟨g1, o1 + j, none⟩ ⟨gi, j, none⟩ ⟨g2, o2 + j, none⟩ ⟨go, j, none⟩ (.slice A3 (F1 j).length c3) v3 (.slice A4 (F2 j).length c4) v4 wr) := Lib.hid ⟨Below.refl _ _, x1, y1, x2, y2⟩
            clear rd1 rd2 rd3 rd4 e1 e2 n1 n2 hv3 hv4 hp1 hp2 x1 x2 y1 y2
            go_upto_region 13 with (fail)
            have ST := Lib.hid (ST.out.next (W' := wr.drew) ⟨rfl, rfl, rfl, Nat.le_refl _, fun _ _ => rfl⟩)
            obtain ⟨_, x1, y1, x2, y2⟩ := ST.out
            go_region_held3 (fun W => W.cell? ⟨g1, o1 + j, none⟩ = some (.slice A3 (F1 j).length c3) ∧ W.cell? ⟨gi, j, none⟩ = some v3 ∧ W.cell? ⟨g2, o2 + j, none⟩ = some (.slice A4 (F2 j).length c4) ∧ W.cell? ⟨go, j, none⟩ = some v4) (first | exact ⟨x1, y1, x2, y2⟩ | go_keep)
              (first
              | (go_at_call 9; (with_reducible refine (HS1.out _ ST.out.below).mono ?_); rintro e wv ⟨rfl, hBv⟩; have ST := Lib.hid (ST.out.next hBv); clear hBv; obtain ⟨_, x1, y1, x2, y2⟩ := ST.out)
              | (go_at_call 9; (with_reducible refine (HS2.out _ ST.out.below).mono ?_); rintro e wv ⟨rfl, hBv⟩; have ST := Lib.hid (ST.out.next hBv); clear hBv; obtain ⟨_, x1, y1, x2, y2⟩ := ST.out))
            all_goals
              clear x1 y1 x2 y2
              go_wp2_with fail
              go_roundw
              case rel => exact ⟨j + 1, by omega, by go_num, HB8.out.trans (ST.out.below.mono HB8.out.size)⟩
              case measure => simp [intOf]; omega
          · obtain rfl : j = n := by omega
            go_wp2_with fail
            go_roundw
            case rel => exact ⟨k + 1, by omega, by go_num, HBK.out.trans ((H7.out.trans (HB8.out.mono H7.out.size)).mono HBK.out.size)⟩
            case measure => simp [intOf]; omega
      · obtain rfl : k = m.fns.length := by omega
        go_wp2_with fail
        refine (lives14_any _).mono ?_
        rintro e w3 ⟨rfl, hB3⟩
        have HB3 : Hid (Below w.heap.size w w3) := Lib.hid (HBW.out.trans (hB3.mono HBW.out.size))
        clear hB3
        go_wp2_with fail
        go_ret
        exact ⟨rfl, HB3.out⟩
end Go.Proofs.YtlniohgnkihefaaDoor
