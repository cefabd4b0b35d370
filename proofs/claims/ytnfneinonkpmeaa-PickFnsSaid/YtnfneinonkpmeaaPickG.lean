/- pick.Fn: the walk. -/
import Derived.Test.YtnfneinonkpmeaaPickF
namespace Go.Proofs.Ytnfneinonkpmeaa
open Go.RowKit Go.Maps
variable {T : Nat → Prop}

theorem heap4 (w : World) (f : Fn) (A : Value) :
    ∃ w1 pb, pb = w.heap.size + 1 + 1 ∧ w1 = ((w.alloc (.cells #[.string f.name, .int .i64 f.params, .int .i64 f.regs, A] 30)).alloc (.cells #[.string ⟨#[]⟩, .int .i64 0, .int .i64 0, .slice none 0 0] 34)).alloc (.cells #[.string f.name, .int .i64 f.params, .int .i64 f.regs, .slice none 0 0, .map none] 65)
      ∧ Below w.heap.size w w1 ∧ w1.heap.size = w.heap.size + 3
      ∧ w1.heap[w.heap.size]? = some (.cells #[.string f.name, .int .i64 f.params, .int .i64 f.regs, A] 30 (0, 0))
      ∧ w1.heap[w.heap.size + 1]? = some (.cells #[.string ⟨#[]⟩, .int .i64 0, .int .i64 0, .slice none 0 0] 34 (0, 0))
      ∧ HeadP w1 w1 pb f [] := by
  have hb1 : Below w.heap.size w (w.alloc (.cells #[.string f.name, .int .i64 f.params, .int .i64 f.regs, A] 30)) := (Below.refl _ _).alloc (Nat.le_refl _) _
  refine ⟨_, _, rfl, rfl, (hb1.alloc hb1.size _).alloc (hb1.alloc hb1.size _).size _, by simp, ?_, ?_, ⟨⟨.slice none 0 0, none, .map none, [], ?_, by simp, .nil _ _ _, .nil⟩, .refl _ _⟩⟩
  · rw [Below.heap_alloc _ _ _ (by simp; omega), Below.heap_alloc _ _ _ (by simp)]; exact heap_alloc_new w _
  · rw [Below.heap_alloc _ _ _ (by simp)]
    have := heap_alloc_new (w.alloc (.cells #[.string f.name, .int .i64 f.params, .int .i64 f.regs, A] 30)) (.cells #[.string ⟨#[]⟩, .int .i64 0, .int .i64 0, .slice none 0 0] 34)
    simpa using this
  · have := heap_alloc_new ((w.alloc (.cells #[.string f.name, .int .i64 f.params, .int .i64 f.regs, A] 30)).alloc (.cells #[.string ⟨#[]⟩, .int .i64 0, .int .i64 0, .slice none 0 0] 34)) (.cells #[.string f.name, .int .i64 f.params, .int .i64 f.regs, .slice none 0 0, .map none] 65)
    simpa using this
/-- Behind a block: between two blocks again. -/
theorem HeadP.of {w1 wr W wq : World} {pb mb : Nat} {r0 : Option Nat} {f : Fn} {l : List Vins} {n : Nat} {kn : Lit → Option Lit} (h1 : Chg (fun q => q = pb) w1 wr) (h2 : Chg (fun q => q = pb) wr W) (hmb : w1.heap.size ≤ mb) (hr0 : ∀ q, r0 = some q → w1.heap.size ≤ q)
    (hP : Picked W pb mb r0 f l n kn wq) : HeadP w1 wq pb f l := by
  obtain ⟨v, r, hp, hs⟩ := hP
  obtain ⟨xs, hR, hX⟩ := hp.code
  have hlt := hs.chg.size
  have h12 := (h1.trans h2 fun _ _ h => h)
  refine ⟨⟨v, r, _, xs, hp.heap, hs.nr.ge h12.size hr0, hR, hX.mono fun k hk _ => ⟨fun hf => hk.1 ?_, hk.2⟩⟩, h12.trans hs.chg fun i hi hf => ?_⟩
  · rcases hf with h | h
    · exact .inl h
    · exact .inr (.inr h)
  · rcases hf with h | h | h
    · exact h
    · omega
    · have := hr0 i h.symm; omega
theorem blkI32 {nb regs : Int} {b : Blk} (h : BlkV nb regs b) (hn : nb ≤ 80) : BlkI32 b ∧ 1 ≤ b.kind ∧ b.kind ≤ 3 ∧ ∀ x ∈ b.ins, InsV regs x := by
  cases h with
  | jump ins to hi ht => exact ⟨⟨by show I32 to; unfold I32; omega, by show I32 0; unfold I32; omega⟩, by simp, by simp, hi⟩
  | branch ins a to els hi ha ht he => exact ⟨⟨by show I32 to; unfold I32; omega, by show I32 els; unfold I32; omega⟩, by simp, by simp, hi⟩
  | leave ins a hi ha => exact ⟨⟨by show I32 0; unfold I32; omega, by show I32 0; unfold I32; omega⟩, by simp, by simp, hi⟩
/-- Four cells stored, one behind the other. -/
theorem stored4 {w : World} {b e : Nat} {a0 a1 a2 a3 : Value} (h : w.heap[b]? = some (.cells #[a0, a1, a2, a3] e (0, 0))) (v0 v1 v2 v3 : Value) :
    ∃ W, ((((w.setCell ⟨b, 0, none⟩ v0).setCell ⟨b, 1, none⟩ v1).setCell ⟨b, 2, none⟩ v2).setCell ⟨b, 3, none⟩ v3) = W ∧ (∀ j, W.cell? ⟨b, j, none⟩ = #[v0, v1, v2, v3][j]?) ∧ Chg (fun k => k = b) w W := by
  have h0 := heap_setCell_same w b 0 _ e v0 h
  have h1 := heap_setCell_same _ b 1 _ e v1 h0
  have h2 := heap_setCell_same _ b 2 _ e v2 h1
  have h3 := heap_setCell_same _ b 3 _ e v3 h2
  have hf : ((((w.setCell ⟨b, 0, none⟩ v0).setCell ⟨b, 1, none⟩ v1).setCell ⟨b, 2, none⟩ v2).setCell ⟨b, 3, none⟩ v3).heap[b]? = some (.cells #[v0, v1, v2, v3] e (0, 0)) := h3.trans (by simp)
  refine ⟨_, rfl, fun j => cell_of_row _ _ _ _ _ _ hf, ?_⟩
  have t : ∀ {a b' c : World}, Chg (fun k => k = b) a b' → Chg (fun k => k = b) b' c → Chg (fun k => k = b) a c := fun h k => h.trans k fun _ _ e => e
  exact t (t (t (Chg.store _ _ _ _) (Chg.store _ _ _ _)) (Chg.store _ _ _ _)) (Chg.store _ _ _ _)

theorem below_step {w wr W wq : World} {pb mb : Nat} {r r4 : Option Nat} (h : Below w.heap.size w wr) (hC : Chg (fun q => q = pb) wr W) (hpb : w.heap.size ≤ pb) (hmb : w.heap.size ≤ mb) (hr : ∀ q, r = some q → w.heap.size ≤ q) (hs : PStep W pb mb r wq r4) : Below w.heap.size w wq := by
  have h1 : Below w.heap.size w W := h.trans (hC.below h.size fun i e => by omega)
  refine h1.trans (hs.chg.below h1.size fun i hf => ?_)
  rcases hf with h | h | h
  · omega
  · omega
  · exact hr i h.symm
theorem len_ok (bs : List Blk) (k : Nat) (xs : List Ins) (j : Nat) (h1 : (codeTo bs k).length ≤ 16240) (h2 : xs.length ≤ 100) : (codeTo bs k ++ (labelS k :: insL K0 (xs.take j))).length + 2 ≤ 1000000000 := by
  have h3 := insL_len K0 (xs.take j)
  have h4 : (xs.take j).length ≤ xs.length := by rw [List.length_take]; omega
  simp only [List.length_append, List.length_cons]; omega
theorem codeTo_ins (bs : List Blk) (k : Nat) (xs : List Ins) (j : Nat) (h : j < xs.length) (x : Ins) (hx : x = xs[j]) :
    codeTo bs k ++ (labelS k :: insL K0 (xs.take j)) ++ insS (knownAfter K0 (xs.take j)) x = codeTo bs k ++ (labelS k :: insL K0 (xs.take (j + 1))) := by
  subst hx
  rw [List.take_succ_eq_append_getElem h, insL_snoc]; simp
theorem codeTo_end (bs : List Blk) (k : Nat) (h : k < bs.length) (b : Blk) (hb : b = bs[k]) :
    codeTo bs k ++ (labelS k :: insL K0 (b.ins.take b.ins.length)) ++ endS b ((k : Int) + 1) = codeTo bs (k + 1) := by
  rw [codeTo_succ bs k h b hb, List.take_length]; simp [blkS]
theorem known_succ (K : Int → Option Int) (xs : List Ins) (j : Nat) (h : j < xs.length) (x : Ins) (hx : x = xs[j]) : knownAfter K (xs.take (j + 1)) = nextK (knownAfter K (xs.take j)) x := by
  subst hx
  rw [List.take_succ_eq_append_getElem h, knownAfter_snoc]

set_option maxHeartbeats 8000000 in
set_option maxRecDepth 100000 in
theorem Fn_any (f : Fn) (hV : FnV f) (hL : LightFn f) (A : Option Addr) (c : Nat) (w : World) (hr : RdSl 5 (RdBlk w T) w T A f.blocks) :
    Calls Try.prog 9 #[.agg #[.string f.name, .int .i64 f.params, .int .i64 f.regs, .slice A f.blocks.length c]] w (VfnMade w f (codeS f.blocks)) := by
  have hnb := hL.nb
  have hni := hL.ni
  have hlen : ∀ k, (codeTo f.blocks k).length ≤ 16240 := fun k => codeTo_len f.blocks k hni hnb
  have HLEN := Lib.hid hlen
  have HNI := Lib.hid hni
  have HV := Lib.hid hV
  have HR := Lib.hid hr
  obtain ⟨w1, pb, hpb, hw1, hb1, hs1, hx0, hx1, hH⟩ := heap4 w f (.slice A f.blocks.length c)
  have HPB := Lib.hid hpb
  have HW := Lib.hid hw1
  have HB1 := Lib.hid hb1
  have HS1 := Lib.hid hs1
  have HX0 := Lib.hid hx0
  have HX1 := Lib.hid hx1
  have HH := Lib.hid hH
  have hmm := @run_makeMap Try.prog
  clear hlen hni hV hr hpb hw1 hb1 hs1 hx0 hx1 hH hL
  go_enter Try.func9, Try.ntmps9
  go_wp2_with fail
  rw [← HW.out, ← HPB.out]
  go_loopw [20] (fun i wr => ∃ k : Nat, k ≤ f.blocks.length ∧ i = .int .i64 (k : Nat) ∧ HeadP w1 wr pb f (codeTo f.blocks k)) (fun i _ => f.blocks.length - (intOf i).toNat)
  case atStart => exact ⟨0, Nat.zero_le _, rfl, HH.out⟩
  case round =>
    obtain ⟨k, hk, rfl, ⟨⟨v, r, mv, xs, hp, hrq, hRow, hX⟩, hC⟩⟩ := hrel
    have hpl := lt_of_heap hp
    have HP := Lib.hid hp
    have HRQ := Lib.hid hrq
    have HROW := Lib.hid hRow
    have HXX := Lib.hid hX
    have HC := Lib.hid hC
    have HBW : Hid (Below w.heap.size w wr) := Lib.hid (HB1.out.trans (hC.below (by have := HS1.out; omega) fun i e => by have := HPB.out; omega))
    clear hp hrq hRow hX hC
    by_cases hlt : k < f.blocks.length
    · obtain ⟨b, hbe⟩ : ∃ b, b = f.blocks[k] := ⟨_, rfl⟩
      obtain ⟨g, off, A1, c1, rfl, hg, hok, hsub, g0, g1, g2, g3, g4⟩ := blk_at HR.out k hlt b hbe
      have g0 := (HBW.out.cell (p := ⟨g, off + k * 5, none⟩) hg).trans g0
      have g1 := (HBW.out.cell (p := ⟨g, off + k * 5 + 1, none⟩) hg).trans g1
      have g2 := (HBW.out.cell (p := ⟨g, off + k * 5 + 2, none⟩) hg).trans g2
      have g3 := (HBW.out.cell (p := ⟨g, off + k * 5 + 3, none⟩) hg).trans g3
      have g4 := (HBW.out.cell (p := ⟨g, off + k * 5 + 4, none⟩) hg).trans g4
      have hg : g < wr.heap.size := Nat.lt_of_lt_of_le hg HBW.out.size
      have hbm : b ∈ f.blocks := by rw [hbe]; exact List.getElem_mem hlt
      obtain ⟨hi32, hk1, hk3, hinsv⟩ := blkI32 (HV.out.blocks b hbm) (by omega)
      have hnins := HNI.out b hbm
      have HI32 := Lib.hid hi32
      have HINS := Lib.hid hinsv
      have HSUB := Lib.hid hsub
      have HBE := Lib.hid hbe
      have hL0 := HLEN.out k
      have HLOK := Lib.hid fun j => len_ok f.blocks k b.ins j hL0 hnins
      obtain ⟨W, hW, hPk, hCW, hcb, hltW, hnf⟩ := head_start HP.out HROW.out HXX.out #[.slice A1 b.ins.length c1, .int .i64 b.kind, .int .i64 b.a, .int .i64 b.to, .int .i64 b.els] 58
      have hp4 : wr.cell? ⟨pb, 4, none⟩ = some mv := cell_of_row _ _ _ _ _ _ HP.out
      have hf4 : wr.frozen? ⟨pb, 4, none⟩ = false := by simp [World.frozen?, HP.out]
      have b0 := hcb 0
      have b1 := hcb 1
      have b2 := hcb 2
      have b3 := hcb 3
      have b4 := hcb 4
      simp only [List.getElem?_toArray, List.getElem?_cons_succ, List.getElem?_cons_zero] at b0 b1 b2 b3 b4
      have HB0 := Lib.hid b0
      have HB1' := Lib.hid b1
      have HB2' := Lib.hid b2
      have HB3' := Lib.hid b3
      have HB4' := Lib.hid b4
      have HWW := Lib.hid hW
      have HPK := Lib.hid hPk
      have HCW := Lib.hid hCW
      have HNF := Lib.hid hnf
      clear hok hsub hbe hbm hi32 hinsv hW hPk hCW hcb hnf hL0 b1 b2 b3 b4
      go_wp2_with fail
      rw [← HWW.out]
      refine (to_any 50 (-1) k (by unfold I32; omega) _).mono ?_
      rintro e w2 ⟨rfl, hB2⟩
      have HB2 := Lib.hid hB2
      clear hB2
      go_wp2_with fail
      refine (put_one HPK.out HB2.out 50 (-1) (-1) (-1) k ⟨#[]⟩ (by have := HLEN.out k; omega)).mono ?_
      rintro e w3 ⟨rfl, v3, r3, hp3, hs3⟩
      have b0 := hs3.chg.cell HB0.out HNF.out
      have HP3 := Lib.hid hp3
      have HS3 := Lib.hid hs3
      clear hp3 hs3 g0 g1 g2 g3 g4 hp4 hf4
      go_wp2_with fail
      obtain ⟨w4, hw4⟩ : ∃ w4 : World, w4 = wr := ⟨_, rfl⟩
      rw [← hw4] at HP HROW HXX HC HBW HWW HPK HCW HNF HB0 HB1' HB2' HB3' HB4' HP3 HS3 hg hltW hpl b0
      rw [← hw4]
      clear hw4 b0
      go_loopw [37] (fun i wq => ∃ (j n : Nat) (v : Value) (r4 : Option Nat), j ≤ b.ins.length ∧ i = .int .i64 (j : Nat) ∧ n ≤ j ∧ PickAt wq pb (w4.heap.size + 1) v r4 f (codeTo f.blocks k ++ (labelS k :: insL K0 (b.ins.take j))) n (kl (knownAfter K0 (b.ins.take j))) ∧ KOk (knownAfter K0 (b.ins.take j)) ∧ PStep W pb (w4.heap.size + 1) r wq r4) (fun i _ => b.ins.length - (intOf i).toNat)
      case atStart => exact ⟨0, 0, v3, r3, Nat.zero_le _, rfl, Nat.le_refl _, HP3.out, kok0, HS3.out⟩
      case round =>
        obtain ⟨j, n, vq, rq, hj, rfl, hn, hpq, hkq, hsq⟩ := hrel
        have HPQ := Lib.hid hpq
        have HKQ := Lib.hid hkq
        have HSQ := Lib.hid hsq
        have HBQ : Hid (Below w.heap.size w wr) := Lib.hid (below_step HBW.out HCW.out (by have := HPB.out; omega) (by have := HBW.out.size; omega) (fun q hq => by have := HRQ.out q hq; have := HS1.out; omega) hsq)
        clear hpq hkq hsq
        by_cases hjt : j < b.ins.length
        · obtain ⟨x, hxe⟩ : ∃ x, x = b.ins[j] := ⟨_, rfl⟩
          obtain ⟨gi, oi, Ai, ci, rfl, hgi, hoi, hrdi, i0, i1, i2, i3, i4, i5, i6, i7⟩ := ins_at (inss_below HSUB.out HBQ.out) j hjt x hxe
          have HOI := Lib.hid hoi
          have HRDI := Lib.hid hrdi
          have HXV := Lib.hid (HINS.out x (by rw [hxe]; exact List.getElem_mem hjt))
          have HXE := Lib.hid hxe
          clear hoi hrdi hxe
          go_wp2_with fail
          have hal : Below wr.heap.size wr (wr.alloc (.cells #[.int .i64 x.kind, .int .i64 x.op, .int .i64 x.d, .int .i64 x.a, .int .i64 x.b, .int .i32 x.num, .string x.name, .slice Ai x.args.length ci] 54)) := (Below.refl _ _).alloc (Nat.le_refl _) _
          refine (ins_any (HPQ.out.kept hal) HKQ.out (HLOK.out j) (by omega) x f.regs HXV.out HOI.out Ai ci (ints_below HRDI.out hal)).mono ?_
          rintro e wz ⟨rfl, n', hn', v5, r5, hp5, hs5⟩
          have HP5 := Lib.hid hp5
          have HS5 := Lib.hid (HSQ.out.trans ((PStep.ofBelow hal).trans hs5))
          clear hp5 hs5 hal i0 i1 i2 i3 i4 i5 i6 i7
          go_wp2_with fail
          go_roundw
          case rel => exact ⟨j + 1, n', v5, r5, by omega, by go_num, by omega, by have := HP5.out; rw [codeTo_ins _ _ _ _ hjt x HXE.out, ← known_succ _ _ _ hjt x HXE.out] at this; exact this, by rw [known_succ _ _ _ hjt x HXE.out]; exact kok_next HKQ.out x _ HXV.out HOI.out, HS5.out⟩
          case measure => simp [intOf]; omega
        · obtain rfl : j = b.ins.length := by omega
          have e0 := HSQ.out.chg.cell HB0.out HNF.out
          have e1 := HSQ.out.chg.cell HB1'.out HNF.out
          have e2 := HSQ.out.chg.cell HB2'.out HNF.out
          have e3 := HSQ.out.chg.cell HB3'.out HNF.out
          have e4 := HSQ.out.chg.cell HB4'.out HNF.out
          go_wp2_with fail
          refine (end_any HPQ.out (HLOK.out _) b ((k : Int) + 1) ⟨hk1, hk3⟩ HI32.out _).mono ?_
          rintro e wz ⟨rfl, v5, r5, hp5, hs5⟩
          have HP5 := Lib.hid (show Picked W pb (w4.heap.size + 1) r f _ n _ wz from ⟨v5, r5, hp5, HSQ.out.trans hs5⟩)
          clear hp5 hs5 e0 e1 e2 e3 e4
          go_wp2_with fail
          go_roundw
          case rel => exact ⟨k + 1, by omega, by go_num, by have := HeadP.of HC.out HCW.out (by have := HC.out.size; omega) HRQ.out HP5.out; rw [codeTo_end _ _ hlt b HBE.out] at this; exact this⟩
          case measure => simp [intOf]; omega
    · obtain rfl : k = f.blocks.length := by omega
      obtain ⟨Av, cv, rfl, _⟩ := HROW.out.shape
      have p0 : wr.cell? ⟨pb, 0, none⟩ = some (.string f.name) := cell_of_row _ _ _ _ _ _ HP.out
      have p1 : wr.cell? ⟨pb, 1, none⟩ = some (.int .i64 f.params) := cell_of_row _ _ _ _ _ _ HP.out
      have p2 : wr.cell? ⟨pb, 2, none⟩ = some (.int .i64 f.regs) := cell_of_row _ _ _ _ _ _ HP.out
      have p3 : wr.cell? ⟨pb, 3, none⟩ = some (.slice Av (codeTo f.blocks f.blocks.length).length cv) := cell_of_row _ _ _ _ _ _ HP.out
      have hx := HC.out.heap HX1.out (by have := HPB.out; omega)
      have q0 : wr.cell? ⟨w.heap.size + 1, 0, none⟩ = some (.string ⟨#[]⟩) := cell_of_row _ _ _ _ _ _ hx
      have q1 : wr.cell? ⟨w.heap.size + 1, 1, none⟩ = some (.int .i64 0) := cell_of_row _ _ _ _ _ _ hx
      have q2 : wr.cell? ⟨w.heap.size + 1, 2, none⟩ = some (.int .i64 0) := cell_of_row _ _ _ _ _ _ hx
      have q3 : wr.cell? ⟨w.heap.size + 1, 3, none⟩ = some (.slice none 0 0) := cell_of_row _ _ _ _ _ _ hx
      have f0 : wr.frozen? ⟨w.heap.size + 1, 0, none⟩ = false := by simp [World.frozen?, hx]
      have f1 : wr.frozen? ⟨w.heap.size + 1, 1, none⟩ = false := by simp [World.frozen?, hx]
      have f2 : wr.frozen? ⟨w.heap.size + 1, 2, none⟩ = false := by simp [World.frozen?, hx]
      have f3 : wr.frozen? ⟨w.heap.size + 1, 3, none⟩ = false := by simp [World.frozen?, hx]
      have HX := Lib.hid hx
      clear hx hmm
      go_wp2_with fail
      obtain ⟨W4, hW4, hcell, hch⟩ := stored4 HX.out (.string f.name) (.int .i64 f.params) (.int .i64 f.regs) (.slice Av (codeTo f.blocks f.blocks.length).length cv)
      rw [hW4]
      have d0 := hcell 0
      have d1 := hcell 1
      have d2 := hcell 2
      have d3 := hcell 3
      simp only [List.getElem?_toArray, List.getElem?_cons_succ, List.getElem?_cons_zero] at d0 d1 d2 d3
      clear hW4
      refine bodyPost_ret (by simp [results, Try.results9, go_sem, d0, d1, d2, d3]; try rfl) rfl ?_
      have hno : ∀ q, r = some q → ¬ q = w.heap.size + 1 := fun q hq e => by have := HRQ.out q hq; have := HS1.out; omega
      have hR4 := HROW.out.kept hch hno
      have hX4 := HXX.out.kept hch fun k hk _ e => by have := HPB.out; omega
      obtain ⟨A4, c4, hv4, hrd4⟩ := row_code hR4 hX4 w.heap.size (fun q hq => by have := HRQ.out q hq; have := HS1.out; omega)
      refine ⟨_, rfl, HBW.out.trans (hch.below HBW.out.size fun i e => by omega), A4, c4, ?_, ?_⟩
      · rw [hv4, codeTo_all]
      · rw [← codeTo_all]; exact hrd4
end Go.Proofs.Ytnfneinonkpmeaa
