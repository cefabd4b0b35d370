/- brazierref14.Live. -/
import Derived.Deep.DeepCutAuto
import Derived.Test.YtlniohgnkihefaaDoorLj7
import Derived.Test.YtlniohgnkihefaaDoorLj6
namespace Go.Proofs.YtlniohgnkihefaaDoor
open Go.RowKit

set_option maxRecDepth 100000 in
set_option maxHeartbeats 4000000 in
theorem live14_any (f : Fn) (hF : FlowF f.blocks) (A : Option Addr) (c : Nat) (w : World) (hr : BlkMem w A f.blocks) :
    Calls Tryd.prog 8 #[fnAgg f A c] w fun e w' => ∃ gi go is os, e = .returned (.tuple #[.slice (some ⟨gi, 0, none⟩) f.blocks.length f.blocks.length, .slice (some ⟨go, 0, none⟩) f.blocks.length f.blocks.length]) ∧
      Live1 w f.blocks gi go is os w' ∧ (∀ i, i < f.blocks.length → (∀ n, stOf is i n = true ↔ LiveIn f.blocks i n) ∧ ∀ n, stOf os i n = true ↔ LiveOut f.blocks i n) := by
  obtain ⟨name, params, regs, ks⟩ := f
  dsimp only [fnAgg] at hF hr ⊢
  obtain ⟨W0, hW0⟩ : ∃ W0, W0 = w.alloc (.cells #[.string name, .int .i64 params, .int .i64 regs, .slice A ks.length c] 30) := ⟨_, rfl⟩
  have hB0 : Below w.heap.size w W0 := by rw [hW0]; exact (Below.refl _ w).alloc (Nat.le_refl _) _
  have h3 : W0.cell? ⟨w.heap.size, 3, none⟩ = some (.slice A ks.length c) := by rw [hW0]; exact box_at w _ _ 3 _ rfl
  have hlt0 : w.heap.size < W0.heap.size := by rw [hW0]; simp
  obtain ⟨n, hn⟩ : ∃ n, n = ks.length := ⟨_, rfl⟩
  have hnb : n ≤ 1000 := by rw [hn]; exact hF.nb
  rw [← hn] at h3 hW0 ⊢
  have HR := Lib.hid (hr.below hB0)
  have HB0 := Lib.hid hB0
  have HF := Lib.hid hF
  have HN := Lib.hid hn
  clear hr hB0 hF hn
  obtain ⟨ti, hti, hz0, hz1, hz2⟩ := info_parts ret_ints0
  have HTI := Lib.hid (And.intro hti (And.intro hz0 (And.intro hz1 hz2)))
  clear hti hz0 hz1 hz2
  go_enter Tryd.func8, Tryd.ntmps8
  go_wp2_with (at_make; refine wpList_make_full _ rfl _ _ 31 rfl 0 35 ti (.slice none 0 0) 1 Tryd.underlying31 HTI.out.1 HTI.out.2.1 HTI.out.2.2.1 _ _ _ _ n rfl rfl rfl rfl (by rw [HTI.out.2.2.2]; omega) (by unfold maxLen; omega) (Nat.zero_le _) ?_)
  intro w1 hown1 hgrow1
  rw [← hW0] at hgrow1
  have hz1 : W0.heap.size = w.heap.size + 1 := by rw [hW0]; simp
  have hb1 := below_grown hgrow1
  have hll1 := fun no => LL.made (no := no) hown1
  have H3 := Lib.hid h3
  have h3 := (hb1.cell (p := ⟨w.heap.size, 3, none⟩) hlt0).trans H3.out
  have HB1 := Lib.hid hb1
  have HL1 := Lib.hid hll1
  rw [show (w.heap.size + 1) = W0.heap.size from hz1.symm] at HL1 ⊢
  clear hW0 hown1 hgrow1 hb1 hll1
  obtain ⟨bx, hbx⟩ : ∃ bx, bx = w.heap.size := ⟨_, rfl⟩
  rw [← hbx] at h3 hlt0 ⊢
  obtain ⟨gi, hgi⟩ : ∃ gi, gi = W0.heap.size := ⟨_, rfl⟩
  rw [← hgi] at HL1 hlt0 ⊢
  have HBX := Lib.hid hbx
  have HGI := Lib.hid hgi
  have HZ1 := Lib.hid hz1
  clear hbx hgi hz1
  go_wp2_with (at_make; refine wpList_make_full _ rfl _ _ 31 rfl 0 35 ti (.slice none 0 0) 1 Tryd.underlying31 HTI.out.1 HTI.out.2.1 HTI.out.2.2.1 _ _ _ _ n rfl rfl rfl rfl (by rw [HTI.out.2.2.2]; omega) (by unfold maxLen; omega) (Nat.zero_le _) ?_)
  intro w2 hown2 hgrow2
  have hb2 := below_grown hgrow2
  have hll2 := fun no => LL.made (no := no) hown2
  obtain ⟨go, hgo⟩ : ∃ go, go = w1.heap.size := ⟨_, rfl⟩
  rw [← hgo] at hll2 ⊢
  have hlt1 := (HL1.out fun _ => True).lt
  have hgg : gi < go := by rw [hgo]; exact hlt1
  have hB2 : Below W0.heap.size W0 w2 := HB1.out.trans (hb2.mono HB1.out.size)
  have hL0 := Live1.start (ks := ks) HN.out hB2 ((HL1.out _).below hb2) (hll2 _)
  have HL0 := Lib.hid hL0
  have hbb : ∃ BB, BB = 2 * n * 65536 := ⟨_, rfl⟩
  obtain ⟨BB, hbb⟩ := hbb
  have HBB := Lib.hid hbb
  clear hll2 hown2 hgrow2 hb2 hgo hL0 hB2 hbb HL1 HB1 h3 hlt1 w1
  go_wp2_with fail
  go_loopw [6] (fun a wr => ∃ (b : Bool) (is os : List LM), a = .bool b ∧ Live1 W0 ks gi go is os wr ∧ (b = false → ∀ j, Closed ks is os j)) (fun a wr => 2 * (BB - (lenOf wr gi n + lenOf wr go n)) + boolN a)
  case atStart => exact ⟨true, _, _, rfl, HL0.out, fun h => by cases h⟩
  case round =>
    obtain ⟨b, is, os, rfl, hL, hc⟩ := hrel
    have HL := Lib.hid hL
    have HC := Lib.hid hc
    have h3 := (HL.out.below.cell (p := ⟨bx, 3, none⟩) (by have := HBX.out; have := HZ1.out; show bx < W0.heap.size; omega)).trans (show W0.cell? ⟨bx, 3, none⟩ = some (.slice A n c) from by rw [HBX.out]; exact H3.out)
    clear hL hc HL0
    cases b with
    | false =>
      go_wp2_with fail
      go_ret2
      refine ⟨gi, go, rfl, is, os, HL.out.lift HB0.out, ?_⟩
      have hd := HL.out.way.done (fun i hi => (HC.out trivial i hi).1) (fun i hi => (HC.out trivial i hi).2)
      intro i hi
      exact hd i (by rw [← HN.out]; exact hi)
    | true =>
      obtain ⟨T0, hT0⟩ : ∃ T0, T0 = totL is + totL os := ⟨_, rfl⟩
      have HT0 := Lib.hid hT0
      have HLW := Lib.hid (And.intro (HL.out.I.len (n := n) (by rw [HL.out.il, ← HN.out])) (HL.out.O.len (n := n) (by rw [HL.out.ol, ← HN.out])))
      clear hT0 HC
      go_wp2_with fail
      go_loopw [6, 26] (fun a i wr => ∃ (k : Nat) (b : Bool) (is os : List LM), k ≤ n ∧ i = .int .i64 (k : Nat) ∧ a = .bool b ∧ Live1 W0 ks gi go is os wr ∧ Pass ks is os T0 k b) (fun _ i _ => n - (intOf i).toNat)
      case atStart => exact ⟨0, false, is, os, Nat.zero_le _, rfl, rfl, HL.out, ⟨by rw [HT0.out]; exact Nat.le_refl _, (fun h => by cases h), fun _ j hj => by omega⟩⟩
      case round =>
        clear HL h3
        obtain ⟨k, b, is, os, hk, rfl, rfl, hL, hP⟩ := hrel
        have HL := Lib.hid hL
        have HP := Lib.hid hP
        have h3 := (HL.out.below.cell (p := ⟨bx, 3, none⟩) (by have := HBX.out; have := HZ1.out; show bx < W0.heap.size; omega)).trans (show W0.cell? ⟨bx, 3, none⟩ = some (.slice A n c) from by rw [HBX.out]; exact H3.out)
        clear hL hP
        by_cases hlt : k < n
        · obtain ⟨bs, hbs, hrow, hins⟩ := HR.out
          have hlen : bs.length = n := by rw [HN.out, ← hbs, List.length_map]
          obtain ⟨g, off, rfl, hg, hcell⟩ := hrow (by omega)
          obtain ⟨x, hx⟩ : ∃ x, x = bs[k] := ⟨_, rfl⟩
          have hkk : k < ks.length := by rw [← HN.out]; exact hlt
          have hxk : ks[k] = x.k := by simp only [← hbs, List.getElem_map]; rw [hx]
          have hxi : InsMem W0 x.A x.k.ins := hins x (by rw [hx]; exact List.getElem_mem _)
          have hxF : BlkF ks.length x.k := by rw [← hxk]; exact HF.out.blk _ (List.getElem_mem hkk)
          have hcx : ∀ j v, (blkCells x.k (.slice x.A x.k.ins.length x.c))[j]? = some v → wr.cell? ⟨g, off + k * 5 + j, none⟩ = some v := fun j v hv => (HL.out.below.cell (p := ⟨g, off + k * 5 + j, none⟩) hg).trans (hcell k (by omega) j v (by rw [← hx]; exact hv))
          obtain ⟨⟨ins, kind, ka, tgt, els⟩, Ax, cx⟩ := x
          obtain ⟨ni, hni⟩ : ∃ ni, ni = ins.length := ⟨_, rfl⟩
          dsimp only at hcx hxi hxF hxk
          rw [← hni] at hcx
          have hc0 : wr.cell? ⟨g, off + k * 5, none⟩ = some (.slice Ax ni cx) := hcx 0 _ rfl
          have hc1 : wr.cell? ⟨g, off + k * 5 + 1, none⟩ = some (.int .i64 kind) := hcx 1 _ rfl
          have hc2 : wr.cell? ⟨g, off + k * 5 + 2, none⟩ = some (.int .i64 ka) := hcx 2 _ rfl
          have hc3 : wr.cell? ⟨g, off + k * 5 + 3, none⟩ = some (.int .i64 tgt) := hcx 3 _ rfl
          have hc4 : wr.cell? ⟨g, off + k * 5 + 4, none⟩ = some (.int .i64 els) := hcx 4 _ rfl
          have HXK := Lib.hid hxk
          have HXI := Lib.hid hxi
          have HXF := Lib.hid hxF
          have HNI := Lib.hid hni
          clear hcx hx hcell hins hrow hbs hlen hxk hxi hxF hni
          go_upto_region 9 with (fail)
          have hbw := (Below.refl _ wr).alloc (Nat.le_refl _) (.cells #[.slice Ax ni cx, .int .i64 kind, .int .i64 ka, .int .i64 tgt, .int .i64 els] 43)
          have hboxb : ∀ j v, (#[.slice Ax ni cx, .int .i64 kind, .int .i64 ka, .int .i64 tgt, .int .i64 els] : Array Value)[j]? = some v → (wr.alloc (.cells #[.slice Ax ni cx, .int .i64 kind, .int .i64 ka, .int .i64 tgt, .int .i64 els] 43)).cell? ⟨wr.heap.size, j, none⟩ = some v := fun j v hv => box_at wr _ _ j v hv
          have hbl : wr.heap.size < (wr.alloc (.cells #[.slice Ax ni cx, .int .i64 kind, .int .i64 ka, .int .i64 tgt, .int .i64 els] 43)).heap.size := by simp
          have hLb := HL.out.below1 hbw
          have h3 := (hbw.cell (p := ⟨bx, 3, none⟩) (World.block_lt_of_cell? wr ⟨bx, 3, none⟩ h3)).trans h3
          have hbig : gi < wr.heap.size ∧ go < wr.heap.size := ⟨HL.out.I.lt, HL.out.O.lt⟩
          generalize wr.alloc (.cells #[.slice Ax ni cx, .int .i64 kind, .int .i64 ka, .int .i64 tgt, .int .i64 els] 43) = wb at hbw hboxb hbl hLb h3 ⊢
          obtain ⟨bb, hbb⟩ : ∃ bb, bb = wr.heap.size := ⟨_, rfl⟩
          rw [← hbb] at hboxb hbl hbig ⊢
          have HLb := Lib.hid hLb
          have HBOX := Lib.hid hboxb
          have HBL := Lib.hid (And.intro hbl hbig)
          clear hc0 hc1 hc2 hc3 hc4 HL hbw hboxb hbl hLb hbb hbig
          have hko : k < os.length := by rw [HLb.out.ol]; exact hkk
          obtain ⟨mo, hmo⟩ : ∃ mo, mo = os[k] := ⟨_, rfl⟩
          have hco := HLb.out.O.cell k hko
          rw [← hmo] at hco
          obtain ⟨hco, hfo⟩ := hco
          have hmr : ReadsAt wb mo.A (ints mo.l) := HLb.out.O.reads mo (by rw [hmo]; exact List.getElem_mem _)
          have hma := HLb.out.O.apart mo (by rw [hmo]; exact List.getElem_mem _)
          have hmb := HLb.out.bo mo (by rw [hmo]; exact List.getElem_mem _)
          have hmP : stOf os k = listP mo.l := by rw [hmo]; exact stOf_at os k hko
          obtain ⟨lo, Ao, co⟩ := mo
          unfold LM.enc at hco
          dsimp only at hco hmr hma hmb hmP
          obtain ⟨no, hno⟩ : ∃ no, no = lo.length := ⟨_, rfl⟩
          rw [← hno] at hco
          have HMO := Lib.hid hmo
          have HNO := Lib.hid hno
          have HMR := Lib.hid hmr
          have HMA := Lib.hid hma
          have HMB := Lib.hid hmb
          have HMP := Lib.hid hmP
          clear hmo hno hmr hma hmb hmP
          go_wp2_with fail
          go_loopw [9, 38] (fun v i w3 => ∃ (q : Nat) (l : List Int) (Al : Option Addr) (cl : Nat), q ≤ n ∧ i = .int .i64 (q : Nat) ∧ v = .slice Al l.length cl ∧ LoopT gi go wb w3 Al l ∧ (∀ x, listP l x = true ↔ behK ⟨ins, kind, ka, tgt, els⟩ (listP lo) (stOf is) q x)) (fun _ i _ => n - (intOf i).toNat)
          case atStart => exact ⟨0, lo, Ao, co, Nat.zero_le _, rfl, by rw [HNO.out], ⟨Below.refl _ _, HMR.out, HMA.out, HMB.out⟩, fun x => behK_zero.symm⟩
          case round =>
            obtain ⟨q, l, Al, cl, hq, rfl, rfl, hT, hS⟩ := hrel
            obtain ⟨nl, hnl⟩ : ∃ nl, nl = l.length := ⟨_, rfl⟩
            rw [← hnl]
            have HT := Lib.hid hT
            have HS := Lib.hid hS
            have HNL := Lib.hid hnl
            have h3 := (HT.out.below.cell (p := ⟨bx, 3, none⟩) (World.block_lt_of_cell? wb ⟨bx, 3, none⟩ h3)).trans h3
            have hd1 := (HT.out.below.cell (p := ⟨bb, 1, none⟩) HBL.out.1).trans (HBOX.out 1 _ rfl)
            have hd3 := (HT.out.below.cell (p := ⟨bb, 3, none⟩) HBL.out.1).trans (HBOX.out 3 _ rfl)
            have hd4 := (HT.out.below.cell (p := ⟨bb, 4, none⟩) HBL.out.1).trans (HBOX.out 4 _ rfl)
            clear hT hS hnl
            by_cases hlq : q < n
            · go_upto_region 13 with (fail)
              go_cut [60] (fun s wx => wx = wr ∧ s = .bool (goesB ⟨ins, kind, ka, tgt, els⟩ q))
              case first =>
                -- <done>
                have hkd : kind = 1 ∨ kind = 2 ∨ kind = 3 := HXF.out.kind
                rcases hkd with rfl | rfl | rfl
                · by_cases e : (q : Int) = tgt
                  · have e1 : ((q : Int) == tgt) = true := by rw [e]; simp
                    have E := Lib.hid e
                    clear e
                    go_wp2_with fail
                    go_meet
                    exact ⟨rfl, by have := E.out; simp [goesB, this]⟩
                  · have e1 : ((q : Int) == tgt) = false := beq_eq_false_iff_ne.2 e
                    have E := Lib.hid e
                    clear e
                    go_wp2_with fail
                    go_meet
                    exact ⟨rfl, by have := E.out; simp [goesB, this]⟩
                · by_cases e : (q : Int) = tgt
                  · have e1 : ((q : Int) == tgt) = true := by rw [e]; simp
                    have E := Lib.hid e
                    clear e
                    go_wp2_with fail
                    go_meet
                    exact ⟨rfl, by have := E.out; simp [goesB, this]⟩
                  · have e1 : ((q : Int) == tgt) = false := beq_eq_false_iff_ne.2 e
                    have E := Lib.hid e
                    clear e
                    by_cases e : (q : Int) = els
                    · have e2 : ((q : Int) == els) = true := by rw [e]; simp
                      have E2 := Lib.hid e
                      clear e
                      go_wp2_with fail
                      go_meet
                      exact ⟨rfl, by have h2 := E2.out; simp [goesB, h2]⟩
                    · have e2 : ((q : Int) == els) = false := beq_eq_false_iff_ne.2 e
                      have E2 := Lib.hid e
                      clear e
                      go_wp2_with fail
                      go_meet
                      exact ⟨rfl, by have := E.out; have h2 := E2.out; simp [goesB, this, h2]⟩
                · go_wp2_with fail
                  go_meet
                  exact ⟨rfl, by simp [goesB]⟩
                -- </done>
              case rest =>
                -- <done>
                obtain ⟨rfl, rfl⟩ := hcut
                obtain ⟨gb, hgb⟩ : ∃ gb, gb = goesB ⟨ins, kind, ka, tgt, els⟩ q := ⟨_, rfl⟩
                rw [← hgb]
                have HGB := Lib.hid hgb
                clear hgb
                cases gb with
                | false =>
                  go_wp2_with fail
                  go_roundw
                  case rel => exact ⟨q + 1, l, Al, cl, by omega, by go_num, by rw [HNL.out], HT.out, fun x => by rw [HS.out x, behK_skip HXF.out HGB.out.symm]⟩
                  case measure => simp [intOf]; omega
                | true =>
                  have hqi : q < is.length := by rw [HLb.out.il, ← HN.out]; exact hlq
                  have hLI := HLb.out.I.below HT.out.below
                  obtain ⟨mi, hmi⟩ : ∃ mi, mi = is[q] := ⟨_, rfl⟩
                  have hci := hLI.cell q hqi
                  rw [← hmi] at hci
                  obtain ⟨hci, hfi⟩ := hci
                  have hmr : ReadsAt wc mi.A (ints mi.l) := hLI.reads mi (by rw [hmi]; exact List.getElem_mem _)
                  have hmb := HLb.out.bi mi (by rw [hmi]; exact List.getElem_mem _)
                  have hmP : stOf is q = listP mi.l := by rw [hmi]; exact stOf_at is q hqi
                  obtain ⟨li, Ai, ci⟩ := mi
                  unfold LM.enc at hci
                  dsimp only at hci hmr hmb hmP
                  obtain ⟨si, hsi⟩ : ∃ si, si = li.length := ⟨_, rfl⟩
                  rw [← hsi] at hci
                  have HSI := Lib.hid hsi
                  have HMIR := Lib.hid hmr
                  have HMIB := Lib.hid hmb
                  have HMIP := Lib.hid hmP
                  have hsb : si ≤ 65536 := by rw [hsi]; exact hmb.len
                  clear hsi hmi hmr hmb hmP hLI hfi hd1 hd3 hd4
                  go_wp2_with fail
                  go_loopw [9, 66] (fun v i w4 => ∃ (p : Nat) (Ap : Option Addr) (cp : Nat), p ≤ si ∧ i = .int .i64 (p : Nat) ∧ v = .slice Ap ((li.take p).foldl putL l).length cp ∧ LoopT gi go wb w4 Ap ((li.take p).foldl putL l) ∧ Below wc.heap.size wc w4) (fun _ i _ => si - (intOf i).toNat)
                  case atStart => exact ⟨0, Al, cl, Nat.zero_le _, rfl, by rw [HNL.out]; rfl, HT.out, Below.refl _ _⟩
                  case round =>
                    obtain ⟨p, Ap, cp, hp, rfl, rfl, hT4, hB4⟩ := hrel
                    obtain ⟨l4, hl4⟩ : ∃ l4, l4 = (li.take p).foldl putL l := ⟨_, rfl⟩
                    rw [← hl4] at hT4 ⊢
                    obtain ⟨n4, hn4⟩ : ∃ n4, n4 = l4.length := ⟨_, rfl⟩
                    have hn4b : n4 ≤ 65536 := by rw [hn4]; exact hT4.bnd.len
                    rw [← hn4]
                    have HT4 := Lib.hid hT4
                    have HB4 := Lib.hid hB4
                    have HL4 := Lib.hid hl4
                    have HN4 := Lib.hid hn4
                    clear hT4 hB4 hl4 hn4
                    by_cases hlp : p < si
                    · have hlpl : p < li.length := by rw [← HSI.out]; exact hlp
                      obtain ⟨z, hze⟩ : ∃ z, z = li[p] := ⟨_, rfl⟩
                      obtain ⟨gz, oz, rfl, hgz, hx1⟩ := reads_len0 (readsBelow HMIR.out HB4.out) p hlpl z hze
                      have hzb : z < 65536 := HMIB.out.2 z (by rw [hze]; exact List.getElem_mem _)
                      have HTZ := Lib.hid (foldl_take_put li l p hlpl z hze)
                      have hq1 : (0 : Int) ≤ (p : Int) := by omega
                      have hq2 : (p : Int) < (si : Int) := by omega
                      clear hze
                      go_wp2_with fail
                      have hP := put14_any l4 Ap cp z wr (by have := HN4.out; omega) HT4.out.row
                      rw [← HN4.out] at hP
                      refine hP.mono ?_
                      clear hP
                      rintro e wp ⟨Ay, cy, rfl, hB, hRy, hA⟩
                      have HT5 := Lib.hid (HT4.out.give (Nat.lt_trans HBL.out.2.1 HBL.out.1) (Nat.lt_trans HBL.out.2.2 HBL.out.1) hB hRy hA (HT4.out.bnd.put hzb))
                      have HB5 := Lib.hid (HB4.out.trans (hB.mono HB4.out.size))
                      clear hB hRy hA
                      go_wp2_with fail
                      go_roundw
                      case rel =>
                        have e5 : (li.take (p + 1)).foldl putL l = putL l4 z := by rw [HTZ.out, HL4.out]
                        exact ⟨p + 1, Ay, cy, by omega, by go_num, by rw [e5], by rw [e5]; exact HT5.out, HB5.out⟩
                      case measure => simp [intOf]; omega
                    · obtain rfl : p = si := by omega
                      go_wp2_with fail
                      go_roundw
                      case rel =>
                        refine ⟨q + 1, l4, Ap, cp, by omega, by go_num, by rw [HN4.out], HT4.out, fun x => ?_⟩
                        rw [behK_take HXF.out HGB.out.symm, ← HS.out x, HMIP.out, HL4.out, HSI.out, List.take_length, listP_iff, mem_foldl_put, listP_iff, listP_iff]
                        exact ⟨fun h => h.elim .inl fun h => .inr h.2, fun h => h.elim .inl fun h => .inr ⟨by omega, h⟩⟩
                      case measure => simp [intOf]; omega
                -- </done>
            · obtain rfl : n = q := by omega
              go_upto_region 20 with (fail)
              have hLw := HLb.out.below1 HT.out.below
              have hco := (HT.out.below.cell (p := ⟨go, k, none⟩) (Nat.lt_trans HBL.out.2.2 HBL.out.1)).trans hco
              have hfo := (hLw.O.cell k hko).2
              have hlS : ∀ x, listP l x = true ↔ stOf os k x = true ∨ succP ks[k] (stOf is) x = true := fun x => by rw [HS.out x, HXK.out, HMP.out, HN.out]; exact behK_all HXF.out
              have HLW2 := Lib.hid hLw
              have HLS := Lib.hid hlS
              clear hLw hlS
              go_cut [6] (fun s wx => wx = wr ∧ s = .bool (b || decide (no < nl)))
              case first =>
                cases b with
                | true =>
                  go_wp2_with fail
                  go_meet
                  exact ⟨rfl, rfl⟩
                | false =>
                  go_wp2_with fail
                  go_meet
                  exact ⟨rfl, by simp⟩
              case rest =>
                obtain ⟨rfl, rfl⟩ := hcut
                obtain ⟨b5, hb5⟩ : ∃ b5, b5 = (b || decide (no < nl)) := ⟨_, rfl⟩
                rw [← hb5]
                have HB5 := Lib.hid hb5
                clear hb5
                go_upto_region 22 with (fail)
                have hst := Chg.store wc go k (.slice Al nl cl)
                have hL5 := HLW2.out.setO hkk (Nat.le_of_lt (by have := HGI.out; omega)) (by omega) ⟨l, Al, cl⟩ HT.out.bnd HLS.out HT.out.row HT.out.apart
                have hr5 : ReadsAt (wc.setCell ⟨go, k, none⟩ (.slice Al nl cl)) Al (ints l) := HT.out.row.kept hst fun h off e _ hs => HT.out.apart h off e (.inr hs)
                unfold LM.enc at hL5
                dsimp only at hL5
                rw [← HNL.out] at hL5
                have hbx5 : ∀ j v, (#[.slice Ax ni cx, .int .i64 kind, .int .i64 ka, .int .i64 tgt, .int .i64 els] : Array Value)[j]? = some v → (wc.setCell ⟨go, k, none⟩ (.slice Al nl cl)).cell? ⟨bb, j, none⟩ = some v := fun j v hv =>
                  hst.cell (p := ⟨bb, j, none⟩) ((HT.out.below.cell (p := ⟨bb, j, none⟩) HBL.out.1).trans (HBOX.out j v hv)) (fun e => by have := HBL.out.2.2; have e' : bb = go := e; omega)
                have hs5 : wc.heap.size = (wc.setCell ⟨go, k, none⟩ (.slice Al nl cl)).heap.size := by simp
                have hbl5 : bb < wc.heap.size := Nat.lt_of_lt_of_le HBL.out.1 HT.out.below.size
                rw [hs5] at hbl5
                generalize wc.setCell ⟨go, k, none⟩ (.slice Al nl cl) = w5 at hst hL5 hr5 hbx5 hs5 hbl5 ⊢
                have hc0 := hbx5 0 _ rfl
                have hc1 := hbx5 1 _ rfl
                have hc2 := hbx5 2 _ rfl
                have hc3 := hbx5 3 _ rfl
                have hc4 := hbx5 4 _ rfl
                have HL5 := Lib.hid hL5
                have HR5 := Lib.hid hr5
                have HBX5 := Lib.hid hbx5
                have HBL5 := Lib.hid hbl5
                clear hst hL5 hr5 hbx5 hs5 hbl5 hco hfo h3 hd1 hd3 hd4
                go_wp2_with fail
                have hlb := HT.out.bnd.len
                have hP := before_any ⟨ins, kind, ka, tgt, els⟩ Ax cx l Al cl w5 (by omega) HR5.out
                unfold blkAgg at hP
                dsimp only at hP
                rw [← HNI.out, ← HNL.out] at hP
                refine hP.mono ?_
                clear hP hlb hc0 hc1 hc2 hc3 hc4
                rintro e w6 ⟨A6, c6, rfl, hb6, hr6, hn6⟩
                obtain ⟨l6, hl6⟩ : ∃ l6, l6 = beforeL ⟨ins, kind, ka, tgt, els⟩ l := ⟨_, rfl⟩
                rw [← hl6] at hr6 ⊢
                have hka : ka < 65536 := HXF.out.a
                have hT6 : LoopT gi go w5 w6 A6 l6 := (LoopT.mk (Below.refl _ w5) HR5.out HT.out.apart HT.out.bnd).give HL5.out.I.lt HL5.out.O.lt hb6 hr6 hn6 (by rw [hl6]; exact HT.out.bnd.before hka)
                obtain ⟨n6, hn6'⟩ : ∃ n6, n6 = l6.length := ⟨_, rfl⟩
                rw [← hn6']
                have HN6 := Lib.hid hn6'
                have HL6 := Lib.hid hl6
                have HT6 := Lib.hid hT6
                have hc0 := (hb6.cell (p := ⟨bb, 0, none⟩) HBL5.out).trans (HBX5.out 0 _ rfl)
                have hnib : ni ≤ 1000 := by rw [HNI.out]; exact HXF.out.nins
                clear hb6 hr6 hn6 hn6' hl6 hT6 hka
                go_wp2_with fail
                go_loopw [9, 13] (fun v i w7 => ∃ (p : Nat) (l7 : List Int) (A7 : Option Addr) (c7 : Nat), p ≤ ni ∧ i = .int .i64 ((p : Int) - 1) ∧ v = .slice A7 l7.length c7 ∧ LoopT gi go w5 w7 A7 l7 ∧ l7 = (ins.drop p).foldr aheadL l6) (fun _ i _ => (intOf i + 1).toNat)
                case atStart => exact ⟨ni, l6, A6, c6, Nat.le_refl _, rfl, by rw [HN6.out], HT6.out, by rw [HNI.out, List.drop_length]; rfl⟩
                case round =>
                  obtain ⟨p, l7, A7, c7, hp, rfl, rfl, hT7, he7⟩ := hrel
                  obtain ⟨n7, hn7⟩ : ∃ n7, n7 = l7.length := ⟨_, rfl⟩
                  have hn7b : n7 ≤ 65536 := by rw [hn7]; exact hT7.bnd.len
                  rw [← hn7]
                  have HT7 := Lib.hid hT7
                  have HE7 := Lib.hid he7
                  have HN7 := Lib.hid hn7
                  have hc0 := (HT7.out.below.cell (p := ⟨bb, 0, none⟩) HBL5.out).trans (HBX5.out 0 _ rfl)
                  clear hT7 he7 hn7
                  by_cases hp0 : 0 < p
                  · obtain ⟨j, hj⟩ : ∃ j, j = p - 1 := ⟨_, rfl⟩
                    rw [int_back p hp0, ← hj]
                    have hjp : p = j + 1 := by omega
                    obtain ⟨xs, hxs, hrow, hrd⟩ := HXI.out
                    have hxl : xs.length = ni := by rw [HNI.out, ← hxs, List.length_map]
                    obtain ⟨gx, ox, rfl, hgx, hcell⟩ := hrow (by omega)
                    have hjx : j < xs.length := by omega
                    have hji : j < ins.length := by rw [← HNI.out]; omega
                    obtain ⟨y, hy⟩ : ∃ y, y = xs[j] := ⟨_, rfl⟩
                    have hyk : ins[j] = y.k := by simp only [← hxs, List.getElem_map]; rw [hy]
                    have hB07 := HL5.out.below.trans (HT7.out.below.mono HL5.out.below.size)
                    have hyr : ReadsAt wr y.A (ints y.k.args) := readsBelow (hrd y (by rw [hy]; exact List.getElem_mem _)) hB07
                    have hyF : RegsOk y.k ∧ y.k.args.length ≤ 1000 := by rw [← hyk]; exact HXF.out.regs _ (List.getElem_mem hji)
                    have hcx : ∀ i v, (insCells y.k (.slice y.A y.k.args.length y.c))[i]? = some v → wr.cell? ⟨gx, ox + j * 8 + i, none⟩ = some v := fun i v hv => (hB07.cell (p := ⟨gx, ox + j * 8 + i, none⟩) hgx).trans (hcell j hjx i v (by rw [← hy]; exact hv))
                    have htl : (ins.drop j).foldr aheadL l6 = aheadL y.k ((ins.drop p).foldr aheadL l6) := by rw [List.drop_eq_getElem_cons hji, hyk, hjp]; rfl
                    obtain ⟨⟨ykd, yop, yd, ya, yb, ynum, yname, yargs⟩, Ay, cy⟩ := y
                    dsimp only at hyr hyF hcx htl
                    obtain ⟨na, hna⟩ : ∃ na, na = yargs.length := ⟨_, rfl⟩
                    rw [← hna] at hcx
                    have hi0 : wr.cell? ⟨gx, ox + j * 8, none⟩ = some (.int .i64 ykd) := hcx 0 _ rfl
                    have hi1 : wr.cell? ⟨gx, ox + j * 8 + 1, none⟩ = some (.int .i64 yop) := hcx 1 _ rfl
                    have hi2 : wr.cell? ⟨gx, ox + j * 8 + 2, none⟩ = some (.int .i64 yd) := hcx 2 _ rfl
                    have hi3 : wr.cell? ⟨gx, ox + j * 8 + 3, none⟩ = some (.int .i64 ya) := hcx 3 _ rfl
                    have hi4 : wr.cell? ⟨gx, ox + j * 8 + 4, none⟩ = some (.int .i64 yb) := hcx 4 _ rfl
                    have hi5 : wr.cell? ⟨gx, ox + j * 8 + 5, none⟩ = some (.int .i32 ynum) := hcx 5 _ rfl
                    have hi6 : wr.cell? ⟨gx, ox + j * 8 + 6, none⟩ = some (.string yname) := hcx 6 _ rfl
                    have hi7 : wr.cell? ⟨gx, ox + j * 8 + 7, none⟩ = some (.slice Ay na cy) := hcx 7 _ rfl
                    have HYR := Lib.hid hyr
                    have HYF := Lib.hid hyF
                    have HTL := Lib.hid htl
                    have HNA := Lib.hid hna
                    have hq1 : (0 : Int) ≤ (j : Int) := by omega
                    have hq2 : (j : Int) < (ni : Int) := by omega
                    have HJP := Lib.hid hjp
                    have hjn : j < ni := by omega
                    clear hj hjp hxs hrow hrd hxl hcell hjx hji hy hyk hB07 hyr hyF hcx htl hna hp0
                    go_wp2_with fail
                    have hP := ahead14_any ⟨ykd, yop, yd, ya, yb, ynum, yname, yargs⟩ HYF.out.2 Ay cy l7 A7 c7 wr (by have := HN7.out; omega) HYR.out HT7.out.row
                    unfold insAgg at hP
                    dsimp only at hP
                    rw [← HNA.out, ← HN7.out] at hP
                    refine hP.mono ?_
                    clear hP hi0 hi1 hi2 hi3 hi4 hi5 hi6 hi7
                    rintro e w8 ⟨A8, c8, rfl, hb8, hr8, hn8⟩
                    have e8 : (ins.drop j).foldr aheadL l6 = aheadL ⟨ykd, yop, yd, ya, yb, ynum, yname, yargs⟩ l7 := by rw [HTL.out, HE7.out]
                    rw [← e8] at hr8 ⊢
                    obtain ⟨l8, hl8⟩ : ∃ l8, l8 = (ins.drop j).foldr aheadL l6 := ⟨_, rfl⟩
                    have hbd8 : Bnd l8 := by rw [hl8, e8]; exact HT7.out.bnd.ahead HYF.out.1
                    rw [← hl8] at hr8 ⊢
                    have HT8 := Lib.hid (HT7.out.give HL5.out.I.lt HL5.out.O.lt hb8 hr8 (fun g off e => (hn8 g off e).elim .inl fun h => by cases h) hbd8)
                    obtain ⟨n8, hn8'⟩ : ∃ n8, n8 = l8.length := ⟨_, rfl⟩
                    rw [← hn8']
                    have HN8 := Lib.hid hn8'
                    have HL8 := Lib.hid hl8
                    clear hb8 hr8 hn8 e8 hbd8 hn8' hl8 hc0
                    go_wp2_with fail
                    go_roundw
                    case rel => exact ⟨j, l8, A8, c8, by omega, by first | rfl | rw [IntWalk.i64_in ((j : Int) - 1) (by omega)], by rw [HN8.out], HT8.out, HL8.out⟩
                    case measure => (try rw [IntWalk.i64_in ((j : Int) - 1) (by omega)]); simp only [intOf]; omega
                  · obtain rfl : p = 0 := by omega
                    have hL7 := HL5.out.below1 HT7.out.below
                    have hki : k < is.length := by rw [hL7.il]; exact hkk
                    obtain ⟨mi, hmi⟩ : ∃ mi, mi = is[k] := ⟨_, rfl⟩
                    have hci := hL7.I.cell k hki
                    rw [← hmi] at hci
                    obtain ⟨hci, hfi⟩ := hci
                    obtain ⟨li, Ai, ci⟩ := mi
                    unfold LM.enc at hci
                    dsimp only at hci
                    obtain ⟨si, hsi⟩ : ∃ si, si = li.length := ⟨_, rfl⟩
                    rw [← hsi] at hci
                    have HL7 := Lib.hid hL7
                    have HSI := Lib.hid hsi
                    have HMI := Lib.hid hmi
                    clear hL7 hsi hmi hc0
                    go_upto_region 27 with (fail)
                    go_cut [6] (fun s wx => wx = wr ∧ s = .bool (b5 || decide (si < n7)))
                    case first =>
                      cases b5 with
                      | true =>
                        go_wp2_with fail
                        go_meet
                        exact ⟨rfl, rfl⟩
                      | false =>
                        go_wp2_with fail
                        go_meet
                        exact ⟨rfl, by simp⟩
                    case rest =>
                      obtain ⟨rfl, rfl⟩ := hcut
                      obtain ⟨b7, hb7⟩ : ∃ b7, b7 = (b5 || decide (si < n7)) := ⟨_, rfl⟩
                      rw [← hb7]
                      have HB7 := Lib.hid hb7
                      clear hb7
                      go_wp2_with fail
                      go_roundw
                      case rel =>
                        have hs7 : listP l7 = blkP ks[k] (listP l) := by
                          rw [HE7.out, HL6.out, HXK.out, List.drop_zero]
                          exact listP_tail _ HXF.out.a l ins fun x hx => (HXF.out.regs x hx).1
                        have hko : k < os.length := by rw [HLW2.out.ol]; exact hkk
                        have hs7' : listP l7 = blkP ks[k] (stOf (os.set k ⟨l, Al, cl⟩) k) := by rw [hs7, stOf_set _ _ hko, setS_same]
                        have hL8 := HL7.out.setI hkk (Nat.le_of_eq HGI.out.symm) (by omega) ⟨l7, A7, c7⟩ HT7.out.bnd hs7' HT7.out.row HT7.out.apart
                        unfold LM.enc at hL8
                        dsimp only at hL8
                        rw [← HN7.out] at hL8
                        have hP8 := HP.out.step HLW2.out hkk hki hko ⟨l, Al, cl⟩ ⟨l7, A7, c7⟩ HT.out.bnd HT7.out.bnd HLS.out hs7
                        rw [← HMO.out, ← HMI.out] at hP8
                        dsimp only at hP8
                        rw [← HNO.out, ← HNL.out, ← HSI.out, ← HN7.out, ← HB5.out, ← HB7.out] at hP8
                        exact ⟨k + 1, b7, _, _, by omega, by go_num, rfl, hL8, hP8⟩
                      case measure => simp [intOf]; omega
        · obtain rfl : n = k := by omega
          go_wp2_with fail
          go_roundw
          case rel => exact ⟨b, is, os, rfl, HL.out, fun hb j hj => HP.out.cl hb j (by rw [HN.out]; exact hj) hj⟩
          case measure =>
            have t1 := HL.out.I.len (n := n) (by rw [HL.out.il, ← HN.out])
            have t2 := HL.out.O.len (n := n) (by rw [HL.out.ol, ← HN.out])
            have t3 := totL_le is HL.out.bi
            have t4 := totL_le os HL.out.bo
            rw [HL.out.il, ← HN.out] at t3
            rw [HL.out.ol, ← HN.out] at t4
            have t5 := HLW.out
            have t6 := HT0.out
            have t7 := HBB.out
            have t8 := HP.out.ge
            simp only [boolN]
            rw [t1, t2, t5.1, t5.2]
            cases b with
            | true => have := HP.out.gt rfl; simp only; omega
            | false => simp only; omega
end Go.Proofs.YtlniohgnkihefaaDoor
