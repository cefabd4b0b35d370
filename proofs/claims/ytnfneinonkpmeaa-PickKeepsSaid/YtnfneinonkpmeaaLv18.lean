/- pick.Fn: the walk. -/
import Derived.Test.YtnfneinonkpmeaaLv17
import Derived.BigQuiet
import Derived.Deep.QuietTactic
import Derived.Test.YtnfneinonkpmeaaLv3
namespace Go.Proofs.Ytnfneinonkpmeaa
open Go.RowKit Go.Maps
variable {T : Nat → Prop}

theorem heap4 (w : World) (f : Fn) (A : Value) :
    ∃ w1 pb, pb = w.heap.size + 1 + 1 ∧ w1 = ((w.alloc (.cells #[.string f.name, .int .i64 f.params, .int .i64 f.regs, A] 30)).alloc (.cells #[.string ⟨#[]⟩, .int .i64 0, .int .i64 0, .slice none 0 0] 34)).alloc (.cells #[.string f.name, .int .i64 f.params, .int .i64 f.regs, .slice none 0 0, .map none] 65)
      ∧ Below w.heap.size w w1 ∧ w1.heap.size = w.heap.size + 3
      ∧ w1.heap[w.heap.size]? = some (.cells #[.string f.name, .int .i64 f.params, .int .i64 f.regs, A] 30 (0, 0))
      ∧ w1.heap[w.heap.size + 1]? = some (.cells #[.string ⟨#[]⟩, .int .i64 0, .int .i64 0, .slice none 0 0] 34 (0, 0))
      ∧ HeadP w1 w1 pb f [] := by
  have hb1 : Below w.heap.size w (w.alloc (.cells #[.string f.name, .int .i64 f.params, .int .i64 f.regs, A] 30)) := (Below.refl _ _).alloc (Nat.le_refl _) _
  refine ⟨_, _, rfl, rfl, (hb1.alloc hb1.size _).alloc (hb1.alloc hb1.size _).size _, by simp, ?_, ?_, ⟨⟨.slice none 0 0, none, .map none, [], ?_, by simp, .nil _ _ _, .nil⟩, .refl _ _⟩⟩
  · rw [Below.heap_alloc _ _ _ (by simp; omega), Below.heap_alloc _ _ _ (by simp)]; exact heap_alloc_new w _
  · rw [Below.heap_alloc _ _ _ (by simp)]
    have := heap_alloc_new (w.alloc (.cells #[.string f.name, .int .i64 f.params, .int .i64 f.regs, A] 30)) (.cells #[.string ⟨#[]⟩, .int .i64 0, .int .i64 0, .slice none 0 0] 34)
    simpa using this
  · have := heap_alloc_new ((w.alloc (.cells #[.string f.name, .int .i64 f.params, .int .i64 f.regs, A] 30)).alloc (.cells #[.string ⟨#[]⟩, .int .i64 0, .int .i64 0, .slice none 0 0] 34)) (.cells #[.string f.name, .int .i64 f.params, .int .i64 f.regs, .slice none 0 0, .map none] 65)
    simpa using this
/-- Behind a block: between two blocks again. -/
theorem HeadP.of {w1 wr W wq : World} {pb mb : Nat} {r0 : Option Nat} {f : Fn} {l : List Vins} {n : Nat} {kn : Lit → Option Lit} (h1 : Chg (fun q => q = pb) w1 wr) (h2 : Chg (fun q => q = pb) wr W) (hmb : w1.heap.size ≤ mb) (hr0 : ∀ q, r0 = some q → w1.heap.size ≤ q)
    (hP : Picked W pb mb r0 f l n kn wq) : HeadP w1 wq pb f l := by
  obtain ⟨v, r, hp, hs⟩ := hP
  obtain ⟨xs, hR, hX⟩ := hp.code
  have hlt := hs.chg.size
  have h12 := (h1.trans h2 fun _ _ h => h)
  refine ⟨⟨v, r, _, xs, hp.heap, hs.nr.ge h12.size hr0, hR, hX.mono fun k hk _ => ⟨fun hf => hk.1 ?_, hk.2⟩⟩, h12.trans hs.chg fun i hi hf => ?_⟩
  · rcases hf with h | h
    · exact .inl h
    · exact .inr (.inr h)
  · rcases hf with h | h | h
    · exact h
    · omega
    · have := hr0 i h.symm; omega
theorem blkI32 {nb regs : Int} {b : Blk} (h : BlkV nb regs b) (hn : nb ≤ 80) : BlkI32 b ∧ 1 ≤ b.kind ∧ b.kind ≤ 3 ∧ ∀ x ∈ b.ins, InsV regs x := by
  cases h with
  | jump ins «to» hi ht => exact ⟨⟨by show I32 «to»; unfold I32; omega, by show I32 0; unfold I32; omega⟩, by simp, by simp, hi⟩
  | branch ins a «to» els hi ha ht he => exact ⟨⟨by show I32 «to»; unfold I32; omega, by show I32 els; unfold I32; omega⟩, by simp, by simp, hi⟩
  | leave ins a hi ha => exact ⟨⟨by show I32 0; unfold I32; omega, by show I32 0; unfold I32; omega⟩, by simp, by simp, hi⟩
/-- Four cells stored, one behind the other. -/
theorem stored4 {w : World} {b e : Nat} {a0 a1 a2 a3 : Value} (h : w.heap[b]? = some (.cells #[a0, a1, a2, a3] e (0, 0))) (v0 v1 v2 v3 : Value) :
    ∃ W, ((((w.setCell ⟨b, 0, none⟩ v0).setCell ⟨b, 1, none⟩ v1).setCell ⟨b, 2, none⟩ v2).setCell ⟨b, 3, none⟩ v3) = W ∧ (∀ j, W.cell? ⟨b, j, none⟩ = #[v0, v1, v2, v3][j]?) ∧ Chg (fun k => k = b) w W := by
  have h0 := heap_setCell_same w b 0 _ e v0 h
  have h1 := heap_setCell_same _ b 1 _ e v1 h0
  have h2 := heap_setCell_same _ b 2 _ e v2 h1
  have h3 := heap_setCell_same _ b 3 _ e v3 h2
  have hf : ((((w.setCell ⟨b, 0, none⟩ v0).setCell ⟨b, 1, none⟩ v1).setCell ⟨b, 2, none⟩ v2).setCell ⟨b, 3, none⟩ v3).heap[b]? = some (.cells #[v0, v1, v2, v3] e (0, 0)) := h3.trans (by simp)
  refine ⟨_, rfl, fun j => cell_of_row _ _ _ _ _ _ hf, ?_⟩
  have t : ∀ {a b' c : World}, Chg (fun k => k = b) a b' → Chg (fun k => k = b) b' c → Chg (fun k => k = b) a c := fun h k => h.trans k fun _ _ e => e
  exact t (t (t (Chg.store _ _ _ _) (Chg.store _ _ _ _)) (Chg.store _ _ _ _)) (Chg.store _ _ _ _)

theorem below_step {w wr W wq : World} {pb mb : Nat} {r r4 : Option Nat} (h : Below w.heap.size w wr) (hC : Chg (fun q => q = pb) wr W) (hpb : w.heap.size ≤ pb) (hmb : w.heap.size ≤ mb) (hr : ∀ q, r = some q → w.heap.size ≤ q) (hs : PStep W pb mb r wq r4) : Below w.heap.size w wq := by
  have h1 : Below w.heap.size w W := h.trans (hC.below h.size fun i e => by omega)
  refine h1.trans (hs.chg.below h1.size fun i hf => ?_)
  rcases hf with h | h | h
  · omega
  · omega
  · exact hr i h.symm
theorem len_ok (bs : List Blk) (k : Nat) (xs : List Ins) (j : Nat) (h1 : (codeTo bs k).length ≤ 16240) (h2 : xs.length ≤ 100) : (codeTo bs k ++ (labelS k :: insL K0 (xs.take j))).length + 2 ≤ 1000000000 := by
  have h3 := insL_len K0 (xs.take j)
  have h4 : (xs.take j).length ≤ xs.length := by rw [List.length_take]; omega
  simp only [List.length_append, List.length_cons]; omega
theorem codeTo_ins (bs : List Blk) (k : Nat) (xs : List Ins) (j : Nat) (h : j < xs.length) (x : Ins) (hx : x = xs[j]) :
    codeTo bs k ++ (labelS k :: insL K0 (xs.take j)) ++ insS (knownAfter K0 (xs.take j)) x = codeTo bs k ++ (labelS k :: insL K0 (xs.take (j + 1))) := by
  subst hx
  rw [List.take_succ_eq_append_getElem h, insL_snoc]; simp
theorem codeTo_end (bs : List Blk) (k : Nat) (h : k < bs.length) (b : Blk) (hb : b = bs[k]) :
    codeTo bs k ++ (labelS k :: insL K0 (b.ins.take b.ins.length)) ++ endS b ((k : Int) + 1) = codeTo bs (k + 1) := by
  rw [codeTo_succ bs k h b hb, List.take_length]; simp [blkS]
theorem known_succ (K : Int → Option Int) (xs : List Ins) (j : Nat) (h : j < xs.length) (x : Ins) (hx : x = xs[j]) : knownAfter K (xs.take (j + 1)) = nextK (knownAfter K (xs.take j)) x := by
  subst hx
  rw [List.take_succ_eq_append_getElem h, knownAfter_snoc]

set_option maxHeartbeats 8000000 in
set_option maxRecDepth 100000 in
theorem Fn_anyN (f : Fn) (hV : FnV f) (hL : LightFn f) (A : Option Addr) (c : Nat) (w : World) (hr : RdSl 5 (RdBlk w T) w T A f.blocks) :
    Calls Try.prog 9 #[.agg #[.string f.name, .int .i64 f.params, .int .i64 f.regs, .slice A f.blocks.length c]] w (VfnMadeN w f (codeS f.blocks)) := by
  have hnb := hL.nb
  have hni := hL.ni
  have hlen : ∀ k, (codeTo f.blocks k).length ≤ 16240 := fun k => codeTo_len f.blocks k hni hnb
  have HLEN := Lib.hid hlen
  have HNI := Lib.hid hni
  have HV := Lib.hid hV
  have HR := Lib.hid hr
  obtain ⟨w1, pb, hpb, hw1, hb1, hs1, hx0, hx1, hH⟩ := heap4 w f (.slice A f.blocks.length c)
  have HPB := Lib.hid hpb
  have HW := Lib.hid hw1
  have HB1 := Lib.hid hb1
  have HS1 := Lib.hid hs1
  have HX0 := Lib.hid hx0
  have HX1 := Lib.hid hx1
  have HH := Lib.hid hH
  have hmm := @run_makeMap Try.prog
  clear hlen hni hV hr hpb hw1 hb1 hs1 hx0 hx1 hH hL
  go_enter Try.func9, Try.ntmps9
  go_wp2_with fail
  rw [← HW.out, ← HPB.out]
  go_loopw [20] (fun i wr => ∃ k : Nat, k ≤ f.blocks.length ∧ i = .int .i64 (k : Nat) ∧ HeadP w1 wr pb f (codeTo f.blocks k)) (fun i _ => f.blocks.length - (intOf i).toNat)
  case atStart => exact ⟨0, Nat.zero_le _, rfl, HH.out⟩
  case round =>
    obtain ⟨k, hk, rfl, ⟨⟨v, r, mv, xs, hp, hrq, hRow, hX⟩, hC⟩⟩ := hrel
    have hpl := lt_of_heap hp
    have HP := Lib.hid hp
    have HRQ := Lib.hid hrq
    have HROW := Lib.hid hRow
    have HXX := Lib.hid hX
    have HC := Lib.hid hC
    have HBW : Hid (Below w.heap.size w wr) := Lib.hid (HB1.out.trans (hC.below (by have := HS1.out; omega) fun i e => by have := HPB.out; omega))
    clear hp hrq hRow hX hC
    by_cases hlt : k < f.blocks.length
    · obtain ⟨b, hbe⟩ : ∃ b, b = f.blocks[k] := ⟨_, rfl⟩
      obtain ⟨g, off, A1, c1, rfl, hg, hok, hsub, g0, g1, g2, g3, g4⟩ := blk_at HR.out k hlt b hbe
      have g0 := (HBW.out.cell (p := ⟨g, off + k * 5, none⟩) hg).trans g0
      have g1 := (HBW.out.cell (p := ⟨g, off + k * 5 + 1, none⟩) hg).trans g1
      have g2 := (HBW.out.cell (p := ⟨g, off + k * 5 + 2, none⟩) hg).trans g2
      have g3 := (HBW.out.cell (p := ⟨g, off + k * 5 + 3, none⟩) hg).trans g3
      have g4 := (HBW.out.cell (p := ⟨g, off + k * 5 + 4, none⟩) hg).trans g4
      have hg : g < wr.heap.size := Nat.lt_of_lt_of_le hg HBW.out.size
      have hbm : b ∈ f.blocks := by rw [hbe]; exact List.getElem_mem hlt
      obtain ⟨hi32, hk1, hk3, hinsv⟩ := blkI32 (HV.out.blocks b hbm) (by omega)
      have hnins := HNI.out b hbm
      have HI32 := Lib.hid hi32
      have HINS := Lib.hid hinsv
      have HSUB := Lib.hid hsub
      have HBE := Lib.hid hbe
      have hL0 := HLEN.out k
      have HLOK := Lib.hid fun j => len_ok f.blocks k b.ins j hL0 hnins
      obtain ⟨W, hW, hPk, hCW, hcb, hltW, hnf⟩ := head_start HP.out HROW.out HXX.out #[.slice A1 b.ins.length c1, .int .i64 b.kind, .int .i64 b.a, .int .i64 b.to, .int .i64 b.els] 58
      have hp4 : wr.cell? ⟨pb, 4, none⟩ = some mv := cell_of_row _ _ _ _ _ _ HP.out
      have hf4 : wr.frozen? ⟨pb, 4, none⟩ = false := by simp [World.frozen?, HP.out]
      have b0 := hcb 0
      have b1 := hcb 1
      have b2 := hcb 2
      have b3 := hcb 3
      have b4 := hcb 4
      simp only [List.getElem?_toArray, List.getElem?_cons_succ, List.getElem?_cons_zero] at b0 b1 b2 b3 b4
      have HB0 := Lib.hid b0
      have HB1' := Lib.hid b1
      have HB2' := Lib.hid b2
      have HB3' := Lib.hid b3
      have HB4' := Lib.hid b4
      have HWW := Lib.hid hW
      have HPK := Lib.hid hPk
      have HCW := Lib.hid hCW
      have HNF := Lib.hid hnf
      clear hok hsub hbe hbm hi32 hinsv hW hPk hCW hcb hnf hL0 b1 b2 b3 b4
      go_wp2_with fail
      rw [← HWW.out]
      refine (to_any 50 (-1) k (by unfold I32; omega) _).mono ?_
      rintro e w2 ⟨rfl, hB2⟩
      have HB2 := Lib.hid hB2
      clear hB2
      go_wp2_with fail
      refine (put_one HPK.out HB2.out 50 (-1) (-1) (-1) k ⟨#[]⟩ (by have := HLEN.out k; omega)).mono ?_
      rintro e w3 ⟨rfl, v3, r3, hp3, hs3⟩
      have b0 := hs3.chg.cell HB0.out HNF.out
      have HP3 := Lib.hid hp3
      have HS3 := Lib.hid hs3
      clear hp3 hs3 g0 g1 g2 g3 g4 hp4 hf4
      go_wp2_with fail
      obtain ⟨w4, hw4⟩ : ∃ w4 : World, w4 = wr := ⟨_, rfl⟩
      rw [← hw4] at HP HROW HXX HC HBW HWW HPK HCW HNF HB0 HB1' HB2' HB3' HB4' HP3 HS3 hg hltW hpl b0
      rw [← hw4]
      clear hw4 b0
      go_loopw [37] (fun i wq => ∃ (j n : Nat) (v : Value) (r4 : Option Nat), j ≤ b.ins.length ∧ i = .int .i64 (j : Nat) ∧ n ≤ j ∧ PickAt wq pb (w4.heap.size + 1) v r4 f (codeTo f.blocks k ++ (labelS k :: insL K0 (b.ins.take j))) n (kl (knownAfter K0 (b.ins.take j))) ∧ KOk (knownAfter K0 (b.ins.take j)) ∧ PStep W pb (w4.heap.size + 1) r wq r4) (fun i _ => b.ins.length - (intOf i).toNat)
      case atStart => exact ⟨0, 0, v3, r3, Nat.zero_le _, rfl, Nat.le_refl _, HP3.out, kok0, HS3.out⟩
      case round =>
        obtain ⟨j, n, vq, rq, hj, rfl, hn, hpq, hkq, hsq⟩ := hrel
        have HPQ := Lib.hid hpq
        have HKQ := Lib.hid hkq
        have HSQ := Lib.hid hsq
        have HBQ : Hid (Below w.heap.size w wr) := Lib.hid (below_step HBW.out HCW.out (by have := HPB.out; omega) (by have := HBW.out.size; omega) (fun q hq => by have := HRQ.out q hq; have := HS1.out; omega) hsq)
        clear hpq hkq hsq
        by_cases hjt : j < b.ins.length
        · obtain ⟨x, hxe⟩ : ∃ x, x = b.ins[j] := ⟨_, rfl⟩
          obtain ⟨gi, oi, Ai, ci, rfl, hgi, hoi, hrdi, i0, i1, i2, i3, i4, i5, i6, i7⟩ := ins_at (inss_below HSUB.out HBQ.out) j hjt x hxe
          have HOI := Lib.hid hoi
          have HRDI := Lib.hid hrdi
          have HXV := Lib.hid (HINS.out x (by rw [hxe]; exact List.getElem_mem hjt))
          have HXE := Lib.hid hxe
          clear hoi hrdi hxe
          go_wp2_with fail
          have hal : Below wr.heap.size wr (wr.alloc (.cells #[.int .i64 x.kind, .int .i64 x.op, .int .i64 x.d, .int .i64 x.a, .int .i64 x.b, .int .i32 x.num, .string x.name, .slice Ai x.args.length ci] 54)) := (Below.refl _ _).alloc (Nat.le_refl _) _
          refine (ins_any (HPQ.out.kept hal) HKQ.out (HLOK.out j) (by omega) x f.regs HXV.out HOI.out Ai ci (ints_below HRDI.out hal)).mono ?_
          rintro e wz ⟨rfl, n', hn', v5, r5, hp5, hs5⟩
          have HP5 := Lib.hid hp5
          have HS5 := Lib.hid (HSQ.out.trans ((PStep.ofBelow hal).trans hs5))
          clear hp5 hs5 hal i0 i1 i2 i3 i4 i5 i6 i7
          go_wp2_with fail
          go_roundw
          case rel => exact ⟨j + 1, n', v5, r5, by omega, by go_num, by omega, by have := HP5.out; rw [codeTo_ins _ _ _ _ hjt x HXE.out, ← known_succ _ _ _ hjt x HXE.out] at this; exact this, by rw [known_succ _ _ _ hjt x HXE.out]; exact kok_next HKQ.out x _ HXV.out HOI.out, HS5.out⟩
          case measure => simp [intOf]; omega
        · obtain rfl : j = b.ins.length := by omega
          have e0 := HSQ.out.chg.cell HB0.out HNF.out
          have e1 := HSQ.out.chg.cell HB1'.out HNF.out
          have e2 := HSQ.out.chg.cell HB2'.out HNF.out
          have e3 := HSQ.out.chg.cell HB3'.out HNF.out
          have e4 := HSQ.out.chg.cell HB4'.out HNF.out
          go_wp2_with fail
          refine (end_any HPQ.out (HLOK.out _) b ((k : Int) + 1) ⟨hk1, hk3⟩ HI32.out _).mono ?_
          rintro e wz ⟨rfl, v5, r5, hp5, hs5⟩
          have HP5 := Lib.hid (show Picked W pb (w4.heap.size + 1) r f _ n _ wz from ⟨v5, r5, hp5, HSQ.out.trans hs5⟩)
          clear hp5 hs5 e0 e1 e2 e3 e4
          go_wp2_with fail
          go_roundw
          case rel => exact ⟨k + 1, by omega, by go_num, by have := HeadP.of HC.out HCW.out (by have := HC.out.size; omega) HRQ.out HP5.out; rw [codeTo_end _ _ hlt b HBE.out] at this; exact this⟩
          case measure => simp [intOf]; omega
    · obtain rfl : k = f.blocks.length := by omega
      obtain ⟨Av, cv, rfl, _⟩ := HROW.out.shape
      have p0 : wr.cell? ⟨pb, 0, none⟩ = some (.string f.name) := cell_of_row _ _ _ _ _ _ HP.out
      have p1 : wr.cell? ⟨pb, 1, none⟩ = some (.int .i64 f.params) := cell_of_row _ _ _ _ _ _ HP.out
      have p2 : wr.cell? ⟨pb, 2, none⟩ = some (.int .i64 f.regs) := cell_of_row _ _ _ _ _ _ HP.out
      have p3 : wr.cell? ⟨pb, 3, none⟩ = some (.slice Av (codeTo f.blocks f.blocks.length).length cv) := cell_of_row _ _ _ _ _ _ HP.out
      have hx := HC.out.heap HX1.out (by have := HPB.out; omega)
      have q0 : wr.cell? ⟨w.heap.size + 1, 0, none⟩ = some (.string ⟨#[]⟩) := cell_of_row _ _ _ _ _ _ hx
      have q1 : wr.cell? ⟨w.heap.size + 1, 1, none⟩ = some (.int .i64 0) := cell_of_row _ _ _ _ _ _ hx
      have q2 : wr.cell? ⟨w.heap.size + 1, 2, none⟩ = some (.int .i64 0) := cell_of_row _ _ _ _ _ _ hx
      have q3 : wr.cell? ⟨w.heap.size + 1, 3, none⟩ = some (.slice none 0 0) := cell_of_row _ _ _ _ _ _ hx
      have f0 : wr.frozen? ⟨w.heap.size + 1, 0, none⟩ = false := by simp [World.frozen?, hx]
      have f1 : wr.frozen? ⟨w.heap.size + 1, 1, none⟩ = false := by simp [World.frozen?, hx]
      have f2 : wr.frozen? ⟨w.heap.size + 1, 2, none⟩ = false := by simp [World.frozen?, hx]
      have f3 : wr.frozen? ⟨w.heap.size + 1, 3, none⟩ = false := by simp [World.frozen?, hx]
      have HX := Lib.hid hx
      clear hx hmm
      go_wp2_with fail
      obtain ⟨W4, hW4, hcell, hch⟩ := stored4 HX.out (.string f.name) (.int .i64 f.params) (.int .i64 f.regs) (.slice Av (codeTo f.blocks f.blocks.length).length cv)
      rw [hW4]
      have d0 := hcell 0
      have d1 := hcell 1
      have d2 := hcell 2
      have d3 := hcell 3
      simp only [List.getElem?_toArray, List.getElem?_cons_succ, List.getElem?_cons_zero] at d0 d1 d2 d3
      clear hW4
      refine bodyPost_ret (by simp [results, Try.results9, go_sem, d0, d1, d2, d3]; try rfl) rfl ?_
      have hno : ∀ q, r = some q → ¬ q = w.heap.size + 1 := fun q hq e => by have := HRQ.out q hq; have := HS1.out; omega
      have hR4 := HROW.out.kept hch hno
      have hX4 := HXX.out.kept hch fun k hk _ e => by have := HPB.out; omega
      obtain ⟨A4, c4, hv4, hrd4⟩ := row_codeN hR4 hX4 w.heap.size (fun q hq => by have := HRQ.out q hq; have := HS1.out; omega) (fun k hk => by have := hk.2; have := HPB.out; omega)
      refine ⟨_, rfl, HBW.out.trans (hch.below HBW.out.size fun i e => by omega), A4, c4, ?_, ?_⟩
      · rw [hv4, codeTo_all]
      · rw [← codeTo_all]; exact hrd4
theorem Fn_any (f : Fn) (hV : FnV f) (hL : LightFn f) (A : Option Addr) (c : Nat) (w : World) (hr : RdSl 5 (RdBlk w T) w T A f.blocks) :
    Calls Try.prog 9 #[.agg #[.string f.name, .int .i64 f.params, .int .i64 f.regs, .slice A f.blocks.length c]] w (VfnMade w f (codeS f.blocks)) := (Fn_anyN f hV hL A c w hr).mono fun _ _ h => h.weak
end Go.Proofs.Ytnfneinonkpmeaa
namespace Go.Proofs.Ytnfneinonkpmeaa
open Go.RowKit Go.Maps
variable {T T' : Nat → Prop} {w w' : World}

theorem vins_at {B : Option Addr} {l : List Vins} (h : RdSl 7 (RdVins w T) w T' B l) (k : Nat) (hk : k < l.length) (x : Vins) (hx : x = l[k]) :
    ∃ g off A c, B = some ⟨g, off, none⟩ ∧ T' g ∧ g < w.heap.size ∧ RdT w T A (ints x.args) ∧ w.cell? ⟨g, off + k * 7, none⟩ = some (.int .i64 x.op) ∧ w.cell? ⟨g, off + k * 7 + 1, none⟩ = some (.int .i64 x.d)
      ∧ w.cell? ⟨g, off + k * 7 + 2, none⟩ = some (.int .i64 x.a) ∧ w.cell? ⟨g, off + k * 7 + 3, none⟩ = some (.int .i64 x.b) ∧ w.cell? ⟨g, off + k * 7 + 4, none⟩ = some (.int .i32 x.num)
      ∧ w.cell? ⟨g, off + k * 7 + 5, none⟩ = some (.string x.name) ∧ w.cell? ⟨g, off + k * 7 + 6, none⟩ = some (.slice A x.args.length c) := by
  subst hx
  obtain ⟨g, off, rfl, ht, hg, hcl⟩ := h (by omega)
  obtain ⟨cs, hcs, ⟨A1, c1, rfl, hsub⟩, hat⟩ := hcl k _ (List.getElem?_eq_getElem hk)
  exact ⟨g, off, A1, c1, rfl, ht, hg, hsub, hat 0 _ rfl, hat 1 _ rfl, hat 2 _ rfl, hat 3 _ rfl, hat 4 _ rfl, hat 5 _ rfl, hat 6 _ rfl⟩
theorem vinss_below {B : Option Addr} {l : List Vins} (h : RdSl 7 (RdVins w T) w T' B l) (hb : Below w.heap.size w w') : RdSl 7 (RdVins w' T) w' T' B l := h.kept (chg_of_below hb) old_ne fun _ _ h => h.kept (chg_of_below hb) old_ne
theorem VfnAt.below {N : Nat} {v : Value} {f : Fn} {l : List Vins} (h : VfnAt w N v f l) (hb : Below w.heap.size w w') : VfnAt w' N v f l := by
  obtain ⟨A, c, h1, h2⟩ := h
  exact ⟨A, c, h1, vinss_below h2 hb⟩

set_option maxHeartbeats 8000000 in
set_option maxRecDepth 100000 in
theorem Same15_any (f : Fn) (l : List Vins) (hl : l.length ≤ 100000) (ha : ∀ x ∈ l, x.args.length ≤ 1000) (A B : Option Addr) (c d : Nat) (w : World) (hA : RdSl 7 (RdVins w T) w T' A l) (hB : RdSl 7 (RdVins w T) w T' B l) :
    Calls Try.prog 8 #[.agg #[.string f.name, .int .i64 f.params, .int .i64 f.regs, .slice A l.length c], .agg #[.string f.name, .int .i64 f.params, .int .i64 f.regs, .slice B l.length d]] w
      fun e w' => e = .returned (.bool true) ∧ Below w.heap.size w w' := by
  have HA := Lib.hid hA
  have HB := Lib.hid hB
  have HARG := Lib.hid ha
  clear hA hB ha
  go_enter Try.func8, Try.ntmps8
  go_wp2_with fail
  obtain ⟨w1, hw1⟩ : ∃ w1, w1 = (w.alloc (.cells #[.string f.name, .int .i64 f.params, .int .i64 f.regs, .slice A l.length c] 34)).alloc (.cells #[.string f.name, .int .i64 f.params, .int .i64 f.regs, .slice B l.length d] 34) := ⟨_, rfl⟩
  have hb1 : Below w.heap.size w w1 := by rw [hw1]; exact ((Below.refl _ _).alloc (Nat.le_refl _) _).alloc (by simp) _
  have hc3 : w1.cell? ⟨w.heap.size + 1, 3, none⟩ = some (.slice B l.length d) := by
    rw [hw1]
    have := heap_alloc_new (w.alloc (.cells #[.string f.name, .int .i64 f.params, .int .i64 f.regs, .slice A l.length c] 34)) (.cells #[.string f.name, .int .i64 f.params, .int .i64 f.regs, .slice B l.length d] 34)
    simp only [World.size_alloc] at this
    exact cell_of_row _ _ _ _ _ _ this
  have hlt1 : w.heap.size + 1 < w1.heap.size := by rw [hw1]; simp
  rw [← hw1]
  have HB1 := Lib.hid hb1
  clear hw1 hb1
  go_loopw [40] (fun i wr => ∃ (k : Nat), k ≤ l.length ∧ i = .int .i64 (k : Nat) ∧ Below w1.heap.size w1 wr) (fun i _ => l.length - (intOf i).toNat)
  case atStart => exact ⟨0, by omega, rfl, Below.refl _ _⟩
  case round =>
    obtain ⟨k, hk, rfl, hB⟩ := hrel
    have HBK := Lib.hid hB
    have HBW : Hid (Below w.heap.size w wr) := Lib.hid (HB1.out.trans (hB.mono HB1.out.size))
    have hd3 := (hB.cell (p := ⟨w.heap.size + 1, 3, none⟩) hlt1).trans hc3
    have hlt2 : w.heap.size + 1 < wr.heap.size := Nat.lt_of_lt_of_le hlt1 hB.size
    clear hB
    by_cases hlt : k < l.length
    · obtain ⟨x, hxe⟩ : ∃ x, x = l[k] := ⟨_, rfl⟩
      have hxa := HARG.out x (by rw [hxe]; exact List.getElem_mem hlt)
      obtain ⟨g, off, Ax, cx, rfl, _, hg, hra, a0, a1, a2, a3, a4, a5, a6⟩ := vins_at (vinss_below HA.out HBW.out) k hlt x hxe
      obtain ⟨g', off', Bx, dx, rfl, _, hg', hrb, b0, b1, b2, b3, b4, b5, b6⟩ := vins_at (vinss_below HB.out HBW.out) k hlt x hxe
      have HRA := Lib.hid hra
      have HRB := Lib.hid hrb
      clear hra hrb hxe hc3
      go_wp2_with fail
      obtain ⟨w2, hw2⟩ : ∃ w2, w2 = (wr.alloc (.cells #[.int .i64 x.op, .int .i64 x.d, .int .i64 x.a, .int .i64 x.b, .int .i32 x.num, .string x.name, .slice Ax x.args.length cx] 61)).alloc (.cells #[.int .i64 x.op, .int .i64 x.d, .int .i64 x.a, .int .i64 x.b, .int .i32 x.num, .string x.name, .slice Bx x.args.length dx] 61) := ⟨_, rfl⟩
      have hb2 : Below wr.heap.size wr w2 := by rw [hw2]; exact ((Below.refl _ _).alloc (Nat.le_refl _) _).alloc (by simp) _
      have y6 : w2.cell? ⟨wr.heap.size + 1, 6, none⟩ = some (.slice Bx x.args.length dx) := by
        rw [hw2]
        have := heap_alloc_new (wr.alloc (.cells #[.int .i64 x.op, .int .i64 x.d, .int .i64 x.a, .int .i64 x.b, .int .i32 x.num, .string x.name, .slice Ax x.args.length cx] 61)) (.cells #[.int .i64 x.op, .int .i64 x.d, .int .i64 x.a, .int .i64 x.b, .int .i32 x.num, .string x.name, .slice Bx x.args.length dx] 61)
        simp only [World.size_alloc] at this
        exact cell_of_row _ _ _ _ _ _ this
      have x6 : w2.cell? ⟨wr.heap.size, 6, none⟩ = some (.slice Ax x.args.length cx) := by
        have h5 : w2.heap[wr.heap.size]? = some (.cells #[.int .i64 x.op, .int .i64 x.d, .int .i64 x.a, .int .i64 x.b, .int .i32 x.num, .string x.name, .slice Ax x.args.length cx] 61 (0, 0)) := by
          rw [hw2, Below.heap_alloc _ _ _ (by simp)]; exact heap_alloc_new wr _
        exact cell_of_row _ _ _ _ _ _ h5
      have hl2 : wr.heap.size + 1 < w2.heap.size := by rw [hw2]; simp
      rw [← hw2]
      have HB2 := Lib.hid hb2
      have HW2 : Hid (Below w1.heap.size w1 w2) := Lib.hid (HBK.out.trans (hb2.mono HBK.out.size))
      have HRA2 := Lib.hid (ints_below HRA.out hb2)
      have HRB2 := Lib.hid (ints_below HRB.out hb2)
      clear hw2 hb2 a0 a1 a2 a3 a4 a5 a6 b0 b1 b2 b3 b4 b5 b6 hd3
      obtain ⟨w3, hw3⟩ : ∃ w3 : World, w3 = wr := ⟨_, rfl⟩
      rw [← hw3] at HBK HBW hlt2 hg hg' HRA HRB y6 x6 hl2 HB2
      rw [← hw3]
      clear hw3 HRA HRB
      go_loopw [102] (fun i wz => ∃ (q : Nat), q ≤ x.args.length ∧ i = .int .i64 (q : Nat) ∧ Below w2.heap.size w2 wz) (fun i _ => x.args.length - (intOf i).toNat)
      case atStart => exact ⟨0, by omega, rfl, Below.refl _ _⟩
      case round =>
        obtain ⟨q, hq, rfl, hBz⟩ := hrel
        have HBZ := Lib.hid hBz
        have z6 := (hBz.cell (p := ⟨w3.heap.size, 6, none⟩) (Nat.lt_of_succ_lt hl2)).trans x6
        have v6 := (hBz.cell (p := ⟨w3.heap.size + 1, 6, none⟩) hl2).trans y6
        have hlz : w3.heap.size + 1 < wr.heap.size := Nat.lt_of_lt_of_le hl2 hBz.size
        clear hBz
        by_cases hqt : q < x.args.length
        · obtain ⟨ga, oa, rfl, _, hga, hxa⟩ := ints_below HRA2.out HBZ.out (by rw [ints_length]; omega)
          obtain ⟨gb, ob, rfl, _, hgb, hxb⟩ := ints_below HRB2.out HBZ.out (by rw [ints_length]; omega)
          have ea := hxa q _ (ints_at x.args q hqt)
          have eb := hxb q _ (ints_at x.args q hqt)
          have hqi : (q : Int) < (x.args.length : Int) := by omega
          have hqj : (0 : Int) ≤ (q : Int) := by omega
          generalize x.args.getD q 0 = z at ea eb
          clear hxa hxb x6 y6
          go_wp2_with fail
          go_quiet (fail)
          go_wp2_with fail
          go_roundw
          case rel => exact ⟨q + 1, by omega, by go_num, HBZ.out.trans ((below_drewN (Below.refl _ _) nq).mono HBZ.out.size)⟩
          case measure => simp [intOf]; omega
        · obtain rfl : q = x.args.length := by omega
          clear x6 y6
          go_wp2_with fail
          go_roundw
          case rel => exact ⟨k + 1, by omega, by go_num, HW2.out.trans (HBZ.out.mono HW2.out.size)⟩
          case measure => simp [intOf]; omega
    · obtain rfl : k = l.length := by omega
      go_wp2_with fail
      go_ret
      exact ⟨rfl, HBW.out⟩
end Go.Proofs.Ytnfneinonkpmeaa
namespace Go.Proofs.Ytnfneinonkpmeaa

structure VFn where
  name : ByteArray
  params : Int
  regs : Int
  code : List Vins
structure VProg where
  globals : List Glob
  fns : List VFn
/-- A call that goes on: the place in the code, the registers; dst: where the caller wants the value. -/
structure VFr where
  v : VFn
  at_ : Nat
  regs : List Int
  dst : Int
abbrev VCfg := MS × List VFr
def noVFn : VFn := ⟨⟨#[]⟩, 0, 0, []⟩
def noVins : Vins := ⟨0, -1, -1, -1, 0, ⟨#[]⟩, []⟩
def vfnAt (l : List VFn) (name : ByteArray) : Int := match l.findIdx? (fun f => f.name.toList == name.toList) with | some i => (i : Int) | none => -1
def vNamed (p : VProg) (name : ByteArray) : VFn := p.fns.getD (vfnAt p.fns name).toNat noVFn
def vRegs (v : VFn) (args : List Int) : List Int := args ++ List.replicate (v.regs.toNat - args.length) 0
def vEntry (v : VFn) (args : List Int) (dst : Int) : VFr := ⟨v, 0, vRegs v args, dst⟩
def rg (regs : List Int) (r : Int) : Int := if 0 ≤ r then getR regs r else 0
def isLabel (n : Int) (x : Vins) : Bool := decide (x.op = 50) && decide (x.num = n)
def place (code : List Vins) (n : Int) : Nat := (code.findIdx? (isLabel n)).getD 0
def VFr.putIf (fr : VFr) (d v : Int) : VFr := if 0 ≤ d then { fr with regs := setR fr.regs d v } else fr
def vIdx (p : VProg) (x : Vins) : Nat := (globAt p.globals x.name).toNat
def vOk (p : VProg) (x : Vins) (a : Int) (s : MS) : Bool := decide (0 ≤ a) && decide (a < ((dataRow s (vIdx p x)).length : Int))
def vIns (p : VProg) (inp : List Int) (x : Vins) (a b : Int) (s : MS) (fr : VFr) (K : List VFr) : VCfg :=
  if 2 ≤ x.op ∧ x.op ≤ 23 then (match valO x.op a (if x.op ≤ 10 then x.num else b) with
    | some v => (s, fr.putIf x.d v :: K)
    | none => (s.ended 2, fr :: K))
  else if x.op = 40 then (s, fr.putIf x.d x.num :: K)
  else if x.op = 41 then (s, fr.putIf x.d a :: K)
  else if x.op = 42 then (s, fr.putIf x.d (getR (dataRow s (vIdx p x)) 0) :: K)
  else if x.op = 43 then ({ s with data := s.data.set (vIdx p x) (setR (dataRow s (vIdx p x)) 0 b) }, fr.putIf x.d 0 :: K)
  else if x.op = 44 then (if vOk p x a s = true then (s, fr.putIf x.d (getR (dataRow s (vIdx p x)) a) :: K) else (s.ended 3, fr :: K))
  else if x.op = 45 then (if vOk p x a s = true then ({ s with data := s.data.set (vIdx p x) (setR (dataRow s (vIdx p x)) a b) }, fr.putIf x.d 0 :: K) else (s.ended 3, fr :: K))
  else if x.op = 46 then (if K.length + 1 = 32 then (s.ended 4, fr :: K) else (s, vEntry (vNamed p x.name) (x.args.map (getR fr.regs)) x.d :: fr :: K))
  else if x.op = 47 then (if s.reads < inp.length then ({ s with reads := s.reads + 1 }, fr.putIf x.d (inp.getD s.reads 0) :: K) else (s, fr.putIf x.d 0 :: K))
  else if x.op = 48 then ({ s with trace := s.trace ++ [a] }, fr.putIf x.d 0 :: K)
  else (s, fr.putIf x.d 0 :: K)
def retV (dst v : Int) (s : MS) : List VFr → VCfg
  | [] => ({ s with fin := 1, value := v }, [])
  | fr :: K => (s, fr.putIf dst v :: K)
def vOp (p : VProg) (inp : List Int) (x : Vins) (s : MS) (fr : VFr) (K : List VFr) : VCfg :=
  if x.op = 49 then retV fr.dst (rg fr.regs x.a) s K
  else if x.op = 51 ∨ (x.op = 52 ∧ rg fr.regs x.a ≠ 0) ∨ (x.op = 53 ∧ rg fr.regs x.a = 0) then (s, { fr with at_ := place fr.v.code x.num } :: K)
  else vIns p inp x (rg fr.regs x.a) (rg fr.regs x.b) s fr K
def VFr.ins (fr : VFr) : Vins := fr.v.code.getD fr.at_ noVins
def VFr.next (fr : VFr) : VFr := { fr with at_ := fr.at_ + 1 }
def stepV (p : VProg) (inp : List Int) (fuel : Int) : VCfg → VCfg
  | (s, []) => (s, [])
  | (s, fr :: K) =>
    if s.fin ≠ 0 then (s, fr :: K)
    else if fr.ins.op = 50 then (s, fr.next :: K)
    else if fuel ≤ (s.steps : Int) then (s.ended 5, fr :: K)
    else vOp p inp fr.ins s.step fr.next K
def iterV (p : VProg) (inp : List Int) (fuel : Int) : Nat → VCfg → VCfg
  | 0, c => c
  | n + 1, c => iterV p inp fuel n (stepV p inp fuel c)
def ReachV (p : VProg) (inp : List Int) (fuel : Int) (a b : VCfg) : Prop := ∃ n, iterV p inp fuel n a = b
def data0V (p : VProg) : List (List Int) := p.globals.map fun g => List.replicate (max 1 g.size).toNat 0
def startV (p : VProg) : VCfg := (⟨data0V p, 0, 0, [], 0, 0⟩, [vEntry (vNamed p mainN) [] (-1)])
def RunsToV (p : VProg) (inp : List Int) (fuel : Int) (r : MS) : Prop := r.fin ≠ 0 ∧ ∃ K, ReachV p inp fuel (startV p) (r, K)
section
variable {p : VProg} {inp : List Int} {fuel : Int} {a b c : VCfg}
theorem iterV_add : ∀ (n k : Nat) (a : VCfg), iterV p inp fuel (n + k) a = iterV p inp fuel k (iterV p inp fuel n a)
  | 0, k, a => by rw [Nat.zero_add]; rfl
  | n + 1, k, a => by rw [Nat.add_right_comm]; exact iterV_add n k _
theorem ReachV.refl (a : VCfg) : ReachV p inp fuel a a := ⟨0, rfl⟩
theorem ReachV.trans (h : ReachV p inp fuel a b) (k : ReachV p inp fuel b c) : ReachV p inp fuel a c := by
  obtain ⟨n, rfl⟩ := h
  obtain ⟨q, rfl⟩ := k
  exact ⟨n + q, iterV_add n q a⟩
theorem ReachV.one (a : VCfg) : ReachV p inp fuel a (stepV p inp fuel a) := ⟨1, rfl⟩
theorem ReachV.step (e : stepV p inp fuel a = b) (h : ReachV p inp fuel b c) : ReachV p inp fuel a c := (e ▸ ReachV.one a : ReachV p inp fuel a b).trans h
theorem stepV_end {a : VCfg} (h : a.1.fin ≠ 0) : stepV p inp fuel a = a := by
  obtain ⟨s, K⟩ := a
  cases K with
  | nil => rfl
  | cons fr K => show (if s.fin ≠ 0 then _ else _) = _; rw [if_pos h]
theorem iterV_end {a : VCfg} (h : a.1.fin ≠ 0) : ∀ n, iterV p inp fuel n a = a
  | 0 => rfl
  | n + 1 => by
    show iterV p inp fuel n (stepV p inp fuel a) = a
    rw [stepV_end h]; exact iterV_end h n
theorem ReachV.end_unique (h : ReachV p inp fuel a b) (k : ReachV p inp fuel a c) (hb : b.1.fin ≠ 0) (hc : c.1.fin ≠ 0) : b = c := by
  obtain ⟨n, rfl⟩ := h
  obtain ⟨q, rfl⟩ := k
  rcases Nat.le_total n q with hl | hl
  · obtain ⟨t, rfl⟩ : ∃ t, q = n + t := ⟨q - n, by omega⟩
    rw [iterV_add, iterV_end hb]
  · obtain ⟨t, rfl⟩ : ∃ t, n = q + t := ⟨n - q, by omega⟩
    rw [iterV_add, iterV_end hc]
/-- What is reached lies on the way to every end. -/
theorem ReachV.on (h : ReachV p inp fuel a b) (k : ReachV p inp fuel a c) (hc : c.1.fin ≠ 0) : ReachV p inp fuel b c := by
  obtain ⟨n, rfl⟩ := h
  obtain ⟨q, rfl⟩ := k
  rcases Nat.le_total n q with hl | hl
  · obtain ⟨t, rfl⟩ : ∃ t, q = n + t := ⟨q - n, by omega⟩
    exact ⟨t, (iterV_add n t a).symm⟩
  · obtain ⟨t, rfl⟩ : ∃ t, n = q + t := ⟨n - q, by omega⟩
    rw [iterV_add, iterV_end hc]
    exact ReachV.refl _
theorem RunsToV.unique {r r' : MS} (h : RunsToV p inp fuel r) (k : RunsToV p inp fuel r') : r = r' := by
  obtain ⟨h1, K, h2⟩ := h
  obtain ⟨k1, K', k2⟩ := k
  exact congrArg Prod.fst (h2.end_unique k2 h1 k1)
theorem stepV_label {s : MS} {fr : VFr} {K : List VFr} (h : s.fin = 0) (hl : fr.ins.op = 50) : stepV p inp fuel (s, fr :: K) = (s, fr.next :: K) := by
  show (if s.fin ≠ 0 then _ else if _ then _ else _) = _
  rw [if_neg (by simp [h]), if_pos hl]
theorem stepV_open {s : MS} {fr : VFr} {K : List VFr} (h : s.fin = 0) (hl : fr.ins.op ≠ 50) (hf : fuel ≤ (s.steps : Int)) : stepV p inp fuel (s, fr :: K) = (s.ended 5, fr :: K) := by
  show (if s.fin ≠ 0 then _ else if _ then _ else if _ then _ else _) = _
  rw [if_neg (by simp [h]), if_neg hl, if_pos hf]
theorem stepV_go {s : MS} {fr : VFr} {K : List VFr} (h : s.fin = 0) (hl : fr.ins.op ≠ 50) (hf : ¬ fuel ≤ (s.steps : Int)) : stepV p inp fuel (s, fr :: K) = vOp p inp fr.ins s.step fr.next K := by
  show (if s.fin ≠ 0 then _ else if _ then _ else if _ then _ else _) = _
  rw [if_neg (by simp [h]), if_neg hl, if_neg hf]
end
end Go.Proofs.Ytnfneinonkpmeaa
namespace Go.Proofs.Ytnfneinonkpmeaa

theorem plainS_bd (op : Int) : 0 ≤ plainS op ∧ plainS op ≤ 23 := by unfold plainS; (repeat' split) <;> omega
theorem shortS_op {op d a n : Int} {y : Vins} (h : shortS op d a n = some y) : 2 ≤ y.op ∧ y.op ≤ 23 := by
  unfold shortS at h
  repeat' split at h
  all_goals first
    | (cases h; done)
    | (injection h with h; subst h; simp [withS, threeS])
theorem binRest_op (op d a b : Int) (h : 1 ≤ op ∧ op ≤ 16) : ∀ y ∈ binRest op d a b, 2 ≤ y.op ∧ y.op ≤ 23 := by
  have hp : op ≤ 11 → 2 ≤ plainS op ∧ plainS op ≤ 23 := fun h' => by unfold plainS; (repeat' split) <;> omega
  unfold binRest
  repeat' split
  all_goals
    intro y hy
    simp [threeS, withS] at hy
  all_goals first
    | (subst hy; exact hp (by omega))
    | (rcases hy with rfl | rfl <;> simp; done)
theorem firstOf_op {P : Vins → Prop} {o : Option Vins} {l : List Vins} (ho : ∀ y, o = some y → P y) (hl : ∀ y ∈ l, P y) : ∀ y ∈ firstOf o l, P y := by
  cases o with
  | none => exact hl
  | some z => intro y hy; rw [List.mem_singleton.1 hy]; exact ho z rfl
theorem binS_op (K : Int → Option Int) (op d a b : Int) (h : 1 ≤ op ∧ op ≤ 16) : ∀ y ∈ binS K op d a b, 2 ≤ y.op ∧ y.op ≤ 23 := by
  refine firstOf_op (fun y hy => ?_) (firstOf_op (fun y hy => ?_) (binRest_op op d a b h))
  · obtain ⟨n, _, hn⟩ := Option.bind_eq_some_iff.1 hy
    exact shortS_op hn
  · obtain ⟨n, _, hn⟩ := Option.bind_eq_some_iff.1 hy
    exact shortS_op hn
/-- Operators one behind the other: the registers behind them. -/
def exL : List Vins → List Int → Option (List Int)
  | [], regs => some regs
  | y :: ys, regs => (valO y.op (rg regs y.a) (if y.op ≤ 10 then y.num else rg regs y.b)).bind fun v => exL ys (setR regs y.d v)
def AllI (l : List Int) : Prop := ∀ z ∈ l, I32 z
theorem getA_i32 {l : List Int} (h : AllI l) (r : Int) : I32 (getR l r) := by
  unfold getR
  by_cases hr : r.toNat < l.length
  · rw [List.getD_eq_getElem?_getD, List.getElem?_eq_getElem hr]; exact h _ (List.getElem_mem hr)
  · rw [List.getD_eq_getElem?_getD, List.getElem?_eq_none (by omega)]; unfold I32; simp
theorem setR_i32 {l : List Int} (h : AllI l) {r v : Int} (hv : I32 v) : AllI (setR l r v) := by
  intro z hz
  rcases List.mem_or_eq_of_mem_set hz with hz | rfl
  · exact h z hz
  · exact hv
theorem getR_set {l : List Int} {d : Int} (h1 : d.toNat < l.length) (v : Int) : getR (setR l d v) d = v := by
  simp [getR, setR, List.getD, h1]
theorem setR_twice (l : List Int) (d u v : Int) : setR (setR l d u) d v = setR l d v := by simp [setR]
theorem rg_nn {l : List Int} {r : Int} (h : 0 ≤ r) : rg l r = getR l r := by simp [rg, h]
theorem rg_m1 (l : List Int) : rg l (-1) = 0 := by simp [rg]
section
variable {regs : List Int} {d a b n : Int}
theorem ex_one (y : Vins) : exL [y] regs = (valO y.op (rg regs y.a) (if y.op ≤ 10 then y.num else rg regs y.b)).map (setR regs y.d) := by
  show (valO y.op _ _).bind (fun v => exL [] (setR regs y.d v)) = _
  cases valO y.op (rg regs y.a) (if y.op ≤ 10 then y.num else rg regs y.b) <;> rfl
/-- Of which operators there is a short one. -/
theorem short_cases {op : Int} {y : Vins} (h : shortS op d a n = some y) : (op = 6 ∧ y = withS 8 d a (low5 n)) ∨ (op = 7 ∧ y = withS 10 d a (low5 n)) ∨ (op = 15 ∧ n = 0 ∧ y = withS 4 d a 1) ∨ (op = 16 ∧ n = 0 ∧ y = threeS 15 d (-1) a) ∨
    (op = 1 ∧ y = withS 2 d a n) ∨ (op = 2 ∧ y = withS 2 d a (-n)) ∨ (op = 8 ∧ y = withS 7 d a n) ∨ (op = 9 ∧ y = withS 6 d a n) ∨ (op = 10 ∧ y = withS 5 d a n) ∨ (op = 11 ∧ y = withS 3 d a n) := by
  have I := fun (c : Prop) [Decidable c] (z : Vins) (h : (if c then some z else none) = some y) => show c ∧ y = z from by
    by_cases hc : c
    · rw [if_pos hc] at h; injection h with h; exact ⟨hc, h.symm⟩
    · rw [if_neg hc] at h; cases h
  unfold shortS at h
  by_cases h6 : op = 6
  · rw [if_pos h6] at h; injection h with h; exact .inl ⟨h6, h.symm⟩
  rw [if_neg h6] at h
  by_cases h7 : op = 7
  · rw [if_pos h7] at h; injection h with h; exact .inr (.inl ⟨h7, h.symm⟩)
  rw [if_neg h7] at h
  by_cases h15 : op = 15
  · rw [if_pos h15] at h; exact .inr (.inr (.inl ⟨h15, I _ _ h⟩))
  rw [if_neg h15] at h
  by_cases h16 : op = 16
  · rw [if_pos h16] at h; exact .inr (.inr (.inr (.inl ⟨h16, I _ _ h⟩)))
  rw [if_neg h16] at h
  by_cases h1 : op = 1
  · rw [if_pos h1] at h; exact .inr (.inr (.inr (.inr (.inl ⟨h1, (I _ _ h).2⟩))))
  rw [if_neg h1] at h
  by_cases h2 : op = 2
  · rw [if_pos h2] at h; exact .inr (.inr (.inr (.inr (.inr (.inl ⟨h2, (I _ _ h).2⟩)))))
  rw [if_neg h2] at h
  by_cases h8 : op = 8
  · rw [if_pos h8] at h; exact .inr (.inr (.inr (.inr (.inr (.inr (.inl ⟨h8, (I _ _ h).2⟩))))))
  rw [if_neg h8] at h
  by_cases h9 : op = 9
  · rw [if_pos h9] at h; exact .inr (.inr (.inr (.inr (.inr (.inr (.inr (.inl ⟨h9, (I _ _ h).2⟩)))))))
  rw [if_neg h9] at h
  by_cases h10 : op = 10
  · rw [if_pos h10] at h; exact .inr (.inr (.inr (.inr (.inr (.inr (.inr (.inr (.inl ⟨h10, (I _ _ h).2⟩))))))))
  rw [if_neg h10] at h
  by_cases h11 : op = 11
  · rw [if_pos h11] at h; exact .inr (.inr (.inr (.inr (.inr (.inr (.inr (.inr (.inr ⟨h11, (I _ _ h).2⟩))))))))
  rw [if_neg h11] at h
  cases h
/-- An operator of a register and a known number. -/
theorem ex_short {op : Int} {y : Vins} (hI : AllI regs) (ha : 0 ≤ a) (hn : I32 n) (h : shortS op d a n = some y) : exL [y] regs = (binO op (getR regs a) n).map (setR regs d) := by
  have hA := getA_i32 hI a
  rw [ex_one]
  have hr : rg regs a = getR regs a := rg_nn ha
  have W : ∀ k m : Int, k ≤ 10 → valO (withS k d a m).op (rg regs (withS k d a m).a) (if (withS k d a m).op ≤ 10 then (withS k d a m).num else rg regs (withS k d a m).b) = valO k (getR regs a) m := fun k m hk => by
    show valO k (rg regs a) (if k ≤ 10 then m else _) = _
    rw [if_pos hk, hr]
  generalize getR regs a = x at hA W hr ⊢
  rcases short_cases h with ⟨rfl, rfl⟩ | ⟨rfl, rfl⟩ | ⟨rfl, rfl, rfl⟩ | ⟨rfl, rfl, rfl⟩ | ⟨rfl, rfl⟩ | ⟨rfl, rfl⟩ | ⟨rfl, rfl⟩ | ⟨rfl, rfl⟩ | ⟨rfl, rfl⟩ | ⟨rfl, rfl⟩
  · rw [W _ _ (by decide), show valO 8 x (low5 n) = binO 6 x n from by simp [valO, opsT, binO, low5, low_sh hn]]; rfl
  · rw [W _ _ (by decide), show valO 10 x (low5 n) = binO 7 x n from by simp [valO, opsT, binO, low5, low_sh hn]]; rfl
  · rw [W _ _ (by decide), low_one hA]; simp [binO, withS]
  · show (valO 15 (rg regs (-1)) (rg regs a)).map _ = _
    rw [rg_m1, hr, zero_low hA]; simp [binO, threeS]
  · rw [W _ _ (by decide)]; simp [valO, opsT, withS]
  · rw [W _ _ (by decide), show valO 2 x (-n) = binO 2 x n from by simp [valO, opsT, sub_neg]]; rfl
  all_goals (rw [W _ _ (by decide)]; simp [valO, opsT, withS])
end
end Go.Proofs.Ytnfneinonkpmeaa
namespace Go.Proofs.Ytnfneinonkpmeaa
section
variable {regs : List Int} {d a b n op : Int}
theorem ex_three (k : Int) (hk : 10 < k) (h0 : 0 ≤ a) (h1 : 0 ≤ b) : exL [threeS k d a b] regs = (valO k (getR regs a) (getR regs b)).map (setR regs d) := by
  rw [ex_one]
  show (valO k (rg regs a) (if k ≤ 10 then 0 else rg regs b)).map _ = _
  rw [if_neg (by omega), rg_nn h0, rg_nn h1]
  rfl
/-- A truth turned over. -/
theorem ex_not (k : Int) (hk : 10 < k) (ha : 0 ≤ a) (hb : 0 ≤ b) (hd : 0 ≤ d) (hl : d.toNat < regs.length) {c : Bool} (hv : valO k (getR regs a) (getR regs b) = some (truth c)) : exL [threeS k d a b, withS 5 d d 1] regs = some (setR regs d (truth (!c))) := by
  show (valO k (rg regs a) (if k ≤ 10 then 0 else rg regs b)).bind (fun v => exL [withS 5 d d 1] (setR regs d v)) = _
  rw [if_neg (by omega), rg_nn ha, rg_nn hb, hv]
  show exL [withS 5 d d 1] (setR regs d (truth c)) = _
  rw [ex_one]
  show (valO 5 (rg (setR regs d (truth c)) d) (if (5 : Int) ≤ 10 then 1 else _)).map (setR (setR regs d (truth c)) d) = _
  rw [if_pos (by decide), rg_nn hd, getR_set hl, xor_one]
  simp [setR_twice]
theorem lt_val (x y : Int) : valO 14 x y = some (truth (decide (x < y))) := by simp [valO, opsT, binO]
theorem sub_val (x y : Int) : valO 12 x y = some (rnd (x - y)) := by simp [valO, opsT, binO]
theorem plain_val {op : Int} (h : 1 ≤ op ∧ op ≤ 11) (x y : Int) : 10 < plainS op ∧ valO (plainS op) x y = binO op x y := by
  have : op = 1 ∨ op = 2 ∨ op = 3 ∨ op = 4 ∨ op = 5 ∨ op = 6 ∨ op = 7 ∨ op = 8 ∨ op = 9 ∨ op = 10 ∨ op = 11 := by omega
  rcases this with rfl | rfl | rfl | rfl | rfl | rfl | rfl | rfl | rfl | rfl | rfl <;> exact ⟨by decide, rfl⟩
theorem ex_rest (hI : AllI regs) (hop : 1 ≤ op ∧ op ≤ 16) (ha : 0 ≤ a) (hb : 0 ≤ b) (hd : 0 ≤ d) (hl : d.toNat < regs.length) : exL (binRest op d a b) regs = (binO op (getR regs a) (getR regs b)).map (setR regs d) := by
  have hA := getA_i32 hI a
  have hB := getA_i32 hI b
  unfold binRest
  by_cases h13 : op = 13
  · subst h13
    rw [if_pos rfl, ex_three 14 (by decide) hb ha, lt_val]
    simp [binO]
  rw [if_neg h13]
  by_cases h12 : op = 12
  · subst h12
    rw [if_pos rfl, ex_not 14 (by decide) hb ha hd hl (lt_val _ _)]
    simp only [binO, Int.reduceEq, if_false, if_true, Option.map_some]
    congr 3
    rw [← decide_not]
    exact decide_eq_decide.2 Int.not_lt
  rw [if_neg h12]
  by_cases h14 : op = 14
  · subst h14
    rw [if_pos rfl, ex_not 14 (by decide) ha hb hd hl (lt_val _ _)]
    simp only [binO, Int.reduceEq, if_false, if_true, Option.map_some]
    congr 3
    rw [← decide_not]
    exact decide_eq_decide.2 Int.not_lt
  rw [if_neg h14]
  have hz := diff_zero hA hB
  have hr : I32 (rnd (getR regs a - getR regs b)) := rnd_bd _
  by_cases h15 : op = 15
  · subst h15
    rw [if_pos rfl]
    show (valO 12 (rg regs a) (if (12 : Int) ≤ 10 then 0 else rg regs b)).bind (fun v => exL [withS 4 d d 1] (setR regs d v)) = _
    rw [if_neg (by decide), rg_nn ha, rg_nn hb, sub_val]
    show exL [withS 4 d d 1] (setR regs d (rnd (getR regs a - getR regs b))) = _
    rw [ex_one]
    show (valO 4 (rg (setR regs d (rnd (getR regs a - getR regs b))) d) (if (4 : Int) ≤ 10 then 1 else _)).map _ = _
    rw [if_pos (by decide), rg_nn hd, getR_set hl, low_one hr, show decide (rnd (getR regs a - getR regs b) = 0) = decide (getR regs a = getR regs b) from decide_eq_decide.2 hz]
    simp [binO, setR_twice, withS]
  rw [if_neg h15]
  by_cases h16 : op = 16
  · subst h16
    rw [if_pos rfl]
    show (valO 12 (rg regs a) (if (12 : Int) ≤ 10 then 0 else rg regs b)).bind (fun v => exL [threeS 15 d (-1) d] (setR regs d v)) = _
    rw [if_neg (by decide), rg_nn ha, rg_nn hb, sub_val]
    show exL [threeS 15 d (-1) d] (setR regs d (rnd (getR regs a - getR regs b))) = _
    rw [ex_one]
    show (valO 15 (rg (setR regs d (rnd (getR regs a - getR regs b))) (-1)) (if (15 : Int) ≤ 10 then 0 else rg (setR regs d (rnd (getR regs a - getR regs b))) d)).map _ = _
    rw [if_neg (by decide), rg_m1, rg_nn hd, getR_set hl, zero_low hr, show decide (rnd (getR regs a - getR regs b) ≠ 0) = decide (getR regs a ≠ getR regs b) from decide_eq_decide.2 (not_congr hz)]
    simp [binO, setR_twice, threeS]
  rw [if_neg h16]
  obtain ⟨h1, h2⟩ := plain_val (op := op) (by omega) (getR regs a) (getR regs b)
  rw [ex_three _ h1 ha hb, h2]
/-- What is known is so. -/
def Knows (K : Int → Option Int) (regs : List Int) : Prop := ∀ r n, 0 ≤ r → K r = some n → getR regs r = n
theorem ex_bin {K : Int → Option Int} (hK : Knows K regs) (hI : AllI regs) (hop : 1 ≤ op ∧ op ≤ 16) (ha : 0 ≤ a) (hb : 0 ≤ b) (hd : 0 ≤ d) (hl : d.toNat < regs.length) : exL (binS K op d a b) regs = (binO op (getR regs a) (getR regs b)).map (setR regs d) := by
  unfold binS
  cases h1 : (K b).bind fun n => shortS op d a n with
  | some y =>
    obtain ⟨n, hn, hy⟩ := Option.bind_eq_some_iff.1 h1
    have e := hK b n hb hn
    show exL [y] regs = _
    rw [ex_short hI ha (by rw [← e]; exact getA_i32 hI b) hy, e]
  | none =>
    show exL (firstOf _ _) regs = _
    cases h2 : (if turnsS op then K a else none).bind fun n => shortS op d b n with
    | some y =>
      obtain ⟨n, hn, hy⟩ := Option.bind_eq_some_iff.1 h2
      by_cases ht : turnsS op = true
      · rw [if_pos ht] at hn
        have e := hK a n ha hn
        have ht' : op = 1 ∨ op = 8 ∨ op = 9 ∨ op = 10 := by unfold turnsS at ht; simp only [Bool.or_eq_true, decide_eq_true_eq] at ht; omega
        show exL [y] regs = _
        rw [ex_short hI hb (by rw [← e]; exact getA_i32 hI a) hy, e, binO_turn ht']
      · rw [if_neg ht] at hn; cases hn
    | none => exact ex_rest hI hop ha hb hd hl
end
end Go.Proofs.Ytnfneinonkpmeaa
