/- brazierref15.Fn: the walk. -/
import Derived.Test.YtnfneinonkpmeaaRefK
import Derived.Deep.RegionLaw
import Derived.Deep.DeepCutAuto
import Derived.Outline
namespace Go.Proofs.Ytnfneinonkpmeaa
open Go.RowKit Go.Maps
variable {T : Nat → Prop}

theorem news_new (w : World) (cs : Array Value) (e k : Nat) (hk : k = w.heap.size) : ∀ (j : Nat) u, cs.toList[j]? = some u → (w.alloc (.cells cs e)).cell? ((⟨k, 0, none⟩ : Addr).add j) = some u := by
  intro j u hu
  subst hk
  rw [Addr.add_lit, Nat.zero_add, cell_of_row _ _ _ _ _ _ (heap_alloc_new w _), ← Array.getElem?_toList]; exact hu
theorem news_at {w : World} {g : Nat} {ys : List Value} (h : ∀ (j : Nat) u, ys[j]? = some u → w.cell? ⟨g, j, none⟩ = some u) : ∀ (j : Nat) u, ys[j]? = some u → w.cell? ((⟨g, 0, none⟩ : Addr).add j) = some u := by
  intro j u hu
  rw [Addr.add_lit, Nat.zero_add]; exact h j u hu
theorem rdT_any {w : World} {A : Option Addr} {xs : List Value} (h : ReadsAt w A xs) : RdT w (fun _ => True) A xs := by
  intro hp
  obtain ⟨g, off, hA, hg, hx⟩ := h hp
  exact ⟨g, off, hA, trivial, hg, hx⟩
theorem inss_old {w : World} {T : Nat → Prop} {A : Option Addr} {fs : List Ins} (h : RdSl 8 (RdIns w T) w T A fs) : RdSl 8 (RdIns w fun k => k < w.heap.size) w (fun k => k < w.heap.size) A fs := by
  intro hp
  obtain ⟨g, off, hA, ht, hg, hx⟩ := h hp
  refine ⟨g, off, hA, hg, hg, fun i x hi => ?_⟩
  obtain ⟨cs, h1, ⟨h2, B, c, h3, h4⟩, h5⟩ := hx i x hi
  exact ⟨cs, h1, ⟨h2, B, c, h3, h4.mono' fun _ _ h => h⟩, h5⟩
theorem firstOf_pos (o : Option Vins) (l : List Vins) (h : 0 < l.length) : 0 < (firstOf o l).length := by
  cases o with
  | none => exact h
  | some y => simp [firstOf]
theorem binRest_pos (op d a b : Int) : 0 < (binRest op d a b).length := by unfold binRest; (repeat' split) <;> simp
theorem insS_pos (K : Int → Option Int) (x : Ins) : 0 < (insS K x).length := by
  unfold insS
  have h : 0 < (binS K x.op x.d x.a x.b).length := firstOf_pos _ _ (firstOf_pos _ _ (binRest_pos _ _ _ _))
  split
  · simp
  split
  · simp
  split
  · simp
  split
  · exact h
  repeat' split
  all_goals simp
theorem bd_max : 1000000000 ≤ maxLen := by unfold maxLen; omega
theorem bd_80 {n : Nat} (h : n ≤ 1000000000) : n * 80 ≤ 140737488355328 := by omega
theorem knownL_nil : knownL [] = K0 := by funext r; rfl

/-- What a round of the instructions' loop holds on to: the code so far, the block's copy, the instruction's copy, what is known. -/
structure RndR (H : Nat) (w1 : World) (vb bb c8 : Nat) (f : Fn) (b : Blk) (A1 : Option Addr) (c1 : Nat) (l : List Vins) (x : Ins) (Ax : Option Addr) (cx : Nat) (A6 : Option Addr) (c6 : Nat) (r6 : Option Nat) (ps : List (Int × Int)) (wz : World) : Prop where
  head : ∃ v r xs, HeadR H w1 wz vb f l v r xs
  blk : wz.heap[bb]? = some (.cells #[.slice A1 b.ins.length c1, .int .i64 b.kind, .int .i64 b.a, .int .i64 b.to, .int .i64 b.els] 58 (0, 0))
  ins : wz.heap[c8]? = some (.cells #[.int .i64 x.kind, .int .i64 x.op, .int .i64 x.d, .int .i64 x.a, .int .i64 x.b, .int .i32 x.num, .string x.name, .slice Ax x.args.length cx] 54 (0, 0))
  row6 : RowAt wz 73 2 (.slice A6 ps.length c6) r6 ps.length (numCells ps)
  new6 : ∀ q, r6 = some q → w1.heap.size ≤ q
section
variable {H : Nat} {w1 W w2 : World} {vb bb c8 m : Nat} {f : Fn} {b : Blk} {A1 : Option Addr} {c1 : Nat} {l l2 : List Vins} {x : Ins} {Ax : Option Addr} {cx : Nat} {A6 : Option Addr} {c6 : Nat} {r6 : Option Nat} {ps : List (Int × Int)} {v v' : Value} {r r' : Option Nat} {xs ys : List Value}
theorem HeadR.cell3 (h : HeadR H w1 W vb f l v r xs) : W.cell? ⟨vb, 3, none⟩ = some v := cell_of_row _ _ _ _ _ _ h.heap
theorem HeadR.vltW (h : HeadR H w1 W vb f l v r xs) : vb < W.heap.size := lt_of_heap h.heap
theorem HeadR.other {q off : Nat} {u : Value} (h : HeadR H w1 W vb f l v r xs) (hq : w1.heap.size ≤ q) (hqr : r ≠ some q) : HeadR H w1 (W.setCell ⟨q, off, none⟩ u) vb f l v r xs := by
  have hs := Chg.store W q off u
  have hv := h.vlt
  have hl := h.hle
  exact ⟨hs.heap h.heap (by omega), h.rnew, h.row.kept hs fun k hk e => hqr (by rw [hk, e]), h.code.kept hs fun k hk _ e => by omega, h.chg.trans hs fun i hi e => by omega, hv, hl⟩
theorem cells_keep {q e : Nat} {cs : Array Value} (h : HeadR H w1 W vb f l v r xs) (hC2 : Chg (fun k => some k = r) W w2) (hq : W.heap[q]? = some (.cells cs e (0, 0))) (he : e ≠ 61) (he2 : e ≠ 34) :
    (w2.setCell ⟨vb, 3, none⟩ v').heap[q]? = some (.cells cs e (0, 0)) := by
  have h1 := hC2.heap hq fun e' => row_not h.row hq he e'.symm
  have hne : q ≠ vb := by
    intro e'; subst e'
    rw [h.heap] at hq
    injection hq with hq
    injection hq with _ ht _
    exact he2 ht.symm
  exact (Chg.store w2 vb 3 v').heap h1 hne
theorem row_keep {n : Nat} {v6 : Value} {xs6 : List Value} (h : HeadR H w1 W vb f l v r xs) (hC2 : Chg (fun k => some k = r) W w2) (h6 : RowAt W 73 2 v6 r6 n xs6) :
    RowAt (w2.setCell ⟨vb, 3, none⟩ v') 73 2 v6 r6 n xs6 := by
  have h1 := h6.kept hC2 fun k hk e => row_ne h6 h.row (by decide) k hk e.symm
  exact h1.kept (Chg.store w2 vb 3 v') fun k hk e => row_not h6 h.heap (by decide) (by rw [hk, e])
theorem RndR.put (h : RndR H w1 vb bb c8 f b A1 c1 l x Ax cx A6 c6 r6 ps W) (hd : HeadR H w1 W vb f l v r xs) (hY : CodeCells W (fun q => q < H) l2 ys) (hml : l2.length = m)
    (hR2 : RowAt w2 61 7 v' r' (l.length + m) (xs ++ ys)) (hC2 : Chg (fun k => some k = r) W w2) (hN : NewOr W r r') :
    RndR H w1 vb bb c8 f b A1 c1 (l ++ l2) x Ax cx A6 c6 r6 ps (w2.setCell ⟨vb, 3, none⟩ v') :=
  ⟨⟨_, _, _, hd.put hY hml hR2 hC2 hN⟩, cells_keep hd hC2 h.blk (by decide) (by decide), cells_keep hd hC2 h.ins (by decide) (by decide), row_keep hd hC2 h.row6, h.new6⟩
theorem RndR.below (h : RndR H w1 vb bb c8 f b A1 c1 l x Ax cx A6 c6 r6 ps W) (hB : Below W.heap.size W w2) : RndR H w1 vb bb c8 f b A1 c1 l x Ax cx A6 c6 r6 ps w2 := by
  obtain ⟨⟨v, r, xs, h1⟩, h2, h3, h4, h5⟩ := h
  exact ⟨⟨v, r, xs, h1.below hB⟩, (hB.block _ (lt_of_heap h2)).trans h2, (hB.block _ (lt_of_heap h3)).trans h3, h4.kept (chg_of_below hB) fun k hk => by have := h4.lt k hk; omega, h5⟩
end

set_option maxHeartbeats 16000000 in
set_option maxRecDepth 100000 in
theorem Fn15_any (f : Fn) (hV : FnV f) (hL : LightFn f) (A : Option Addr) (c : Nat) (w : World) (hr : RdSl 5 (RdBlk w T) w T A f.blocks) :
    Calls Try.prog 10 #[.agg #[.string f.name, .int .i64 f.params, .int .i64 f.regs, .slice A f.blocks.length c]] w (VfnMade w f (codeS f.blocks)) := by
  have hnb := hL.nb
  have hni := hL.ni
  have hlen : ∀ k, (codeTo f.blocks k).length ≤ 16240 := fun k => codeTo_len f.blocks k hni hnb
  have HLEN := Lib.hid hlen
  have HNI := Lib.hid hni
  have HV := Lib.hid hV
  have HR := Lib.hid hr
  obtain ⟨w1, vb, hvb, hw1, hb1, hs1, hx0, hx1, hH⟩ := heap4r w f (.slice A f.blocks.length c)
  have HVB := Lib.hid hvb
  have HW := Lib.hid hw1
  have HB1 := Lib.hid hb1
  have HS1 := Lib.hid hs1
  have HX0 := Lib.hid hx0
  have HX1 := Lib.hid hx1
  have HH := Lib.hid hH
  clear hlen hni hV hr hvb hw1 hb1 hs1 hx0 hx1 hH hL
  go_enter Try.func10, Try.ntmps10
  go_wp2_with fail
  rw [← HW.out, ← HVB.out]
  go_loopw [23] (fun i wr => ∃ (k : Nat) (v : Value) (r : Option Nat) (xs : List Value), k ≤ f.blocks.length ∧ i = .int .i64 (k : Nat) ∧ HeadR w.heap.size w1 wr vb f (codeTo f.blocks k) v r xs) (fun i _ => f.blocks.length - (intOf i).toNat)
  case atStart => exact ⟨0, _, _, _, Nat.zero_le _, rfl, HH.out⟩
  case round =>
    obtain ⟨k, v, r, xs, hk, rfl, hHd⟩ := hrel
    obtain ⟨Av, cv, rfl, _⟩ := hHd.row.shape
    have HHD := Lib.hid hHd
    have HBW : Hid (Below w.heap.size w wr) := Lib.hid (HB1.out.trans (hHd.chg.below (by have := HS1.out; omega) fun i e => by have := HVB.out; omega))
    clear hHd
    by_cases hlt : k < f.blocks.length
    · obtain ⟨b, hbe⟩ : ∃ b, b = f.blocks[k] := ⟨_, rfl⟩
      obtain ⟨g, off, A1, c1, rfl, hg, hok, hsub, g0, g1, g2, g3, g4⟩ := blk_at HR.out k hlt b hbe
      have g0 := (HBW.out.cell (p := ⟨g, off + k * 5, none⟩) hg).trans g0
      have g1 := (HBW.out.cell (p := ⟨g, off + k * 5 + 1, none⟩) hg).trans g1
      have g2 := (HBW.out.cell (p := ⟨g, off + k * 5 + 2, none⟩) hg).trans g2
      have g3 := (HBW.out.cell (p := ⟨g, off + k * 5 + 3, none⟩) hg).trans g3
      have g4 := (HBW.out.cell (p := ⟨g, off + k * 5 + 4, none⟩) hg).trans g4
      have hg : g < wr.heap.size := Nat.lt_of_lt_of_le hg HBW.out.size
      have hbm : b ∈ f.blocks := by rw [hbe]; exact List.getElem_mem hlt
      obtain ⟨hi32, hk1, hk3, hinsv⟩ := blkI32 (HV.out.blocks b hbm) (by omega)
      have hnins := HNI.out b hbm
      have HI32 := Lib.hid hi32
      have HINS := Lib.hid hinsv
      have HSUB := Lib.hid (inss_old hsub)
      have HBE := Lib.hid hbe
      have hL0 := HLEN.out k
      have HLOK := Lib.hid fun j => len_ok f.blocks k b.ins j hL0 hnins
      have hc3 : wr.cell? ⟨vb, 3, none⟩ = some (.slice Av (codeTo f.blocks k).length cv) := cell_of_row _ _ _ _ _ _ HHD.out.heap
      have hvlt : vb < wr.heap.size := lt_of_heap HHD.out.heap
      clear hok hsub hbe hbm hi32 hinsv
      go_upto_region 7 with (at_builtin; go_must (refine wpList_append_row _ rfl _ _ 32 61 _ 7 80 rfl Try.underlying32 info_vins rfl (HHD.out.below (two_allocs wr _ _)).row ⟨wr.heap.size + 1, 0, none⟩ 1 1 [.int .i64 50, .int .i64 (-1), .int .i64 (-1), .int .i64 (-1), .int .i32 k, .string ⟨#[]⟩, .slice none 0 0] rfl (news_new _ _ _ _ (by simp)) (CodeCells.one (w := wr) (T := fun _ => True) (x := labelS k) ⟨none, 0, rfl, RdT.nil⟩).plain rfl rfl (by omega) (by unfold maxLen; omega) (by omega) ?_); intro v' r' w2 hR' hC2 hN; obtain ⟨hp2, hc32, hf32⟩ := (HHD.out.below (two_allocs wr _ _)).cells hC2; obtain ⟨A', c', rfl, _⟩ := hR'.shape; have HR2 := Lib.hid hR'; have HC2 := Lib.hid hC2; have HN2 := Lib.hid hN; clear hR' hC2 hN hp2)
      have hlab := HHD.out.below (two_allocs wr (.cells #[.slice A1 b.ins.length c1, .int .i64 b.kind, .int .i64 b.a, .int .i64 b.to, .int .i64 b.els] 58) (.cells #[.int .i64 50, .int .i64 (-1), .int .i64 (-1), .int .i64 (-1), .int .i32 k, .string ⟨#[]⟩, .slice none 0 0] 61))
      have hbk : ((wr.alloc (.cells #[.slice A1 b.ins.length c1, .int .i64 b.kind, .int .i64 b.a, .int .i64 b.to, .int .i64 b.els] 58)).alloc (.cells #[.int .i64 50, .int .i64 (-1), .int .i64 (-1), .int .i64 (-1), .int .i32 k, .string ⟨#[]⟩, .slice none 0 0] 61)).heap[wr.heap.size]? = some (.cells #[.slice A1 b.ins.length c1, .int .i64 b.kind, .int .i64 b.a, .int .i64 b.to, .int .i64 b.els] 58 (0, 0)) := by
        rw [Below.heap_alloc _ _ _ (by simp)]; exact heap_alloc_new wr _
      have hput := hlab.put (l2 := [labelS k]) (CodeCells.one ⟨none, 0, rfl, RdT.nil⟩) rfl HR2.out HC2.out HN2.out
      have hbk2 := cells_keep (v' := .slice A' ((codeTo f.blocks k).length + 1) c') hlab HC2.out hbk (by decide) (by decide)
      clear hlab hbk hc32 hf32 hc3 g0 g1 g2 g3 g4
      clear HR2 HC2 HN2
      generalize w2.setCell ⟨vb, 3, none⟩ (.slice A' ((codeTo f.blocks k).length + 1) c') = w3 at hput hbk2 ⊢
      obtain ⟨bb, hbb⟩ : ∃ bb, bb = wr.heap.size := ⟨_, rfl⟩
      rw [← hbb] at hbk2
      rw [← hbb]
      have HPUT := Lib.hid hput
      have HBK := Lib.hid hbk2
      have e0 : w3.cell? ⟨bb, 0, none⟩ = some (.slice A1 b.ins.length c1) := cell_of_row _ _ _ _ _ _ hbk2
      clear hput hbk2 hbb
      go_wp2_with fail
      clear e0
      go_loopw [6, 39] (fun s6 i wq => ∃ (j : Nat) (ps : List (Int × Int)) (A6 : Option Addr) (c6 : Nat) (r6 : Option Nat) (v : Value) (r : Option Nat) (xs : List Value), j ≤ b.ins.length ∧ i = .int .i64 (j : Nat) ∧ s6 = .slice A6 ps.length c6 ∧ RowAt wq 73 2 (.slice A6 ps.length c6) r6 ps.length (numCells ps) ∧ (∀ q, r6 = some q → w1.heap.size ≤ q) ∧ ps.length ≤ j ∧ (∀ p ∈ ps, I32 p.2) ∧ knownL ps = knownAfter K0 (b.ins.take j) ∧ HeadR w.heap.size w1 wq vb f (codeTo f.blocks k ++ (labelS k :: insL K0 (b.ins.take j))) v r xs ∧ wq.heap[bb]? = some (.cells #[.slice A1 b.ins.length c1, .int .i64 b.kind, .int .i64 b.a, .int .i64 b.to, .int .i64 b.els] 58 (0, 0))) (fun _ i _ => b.ins.length - (intOf i).toNat)
      case atStart => exact ⟨0, [], none, 0, none, _, _, _, Nat.zero_le _, rfl, rfl, .nil _ _ _, by simp, Nat.le_refl _, by simp, knownL_nil, HPUT.out, HBK.out⟩
      case round =>
        obtain ⟨j, ps, A6, c6, r6, vq, rq, xq, hj, rfl, rfl, hrow6, hnew6, hpl, hpi, hkn, hhd, hbq⟩ := hrel
        obtain ⟨Aq, cq, rfl, _⟩ := hhd.row.shape
        obtain ⟨lq, hlq⟩ : ∃ lq, lq = codeTo f.blocks k ++ (labelS k :: insL K0 (b.ins.take j)) := ⟨_, rfl⟩
        rw [← hlq] at hhd
        have hlql : lq.length + 2 ≤ 1000000000 := by rw [hlq]; exact HLOK.out j
        have HLQ := Lib.hid hlq
        clear hlq
        have HROW6 := Lib.hid hrow6
        have HNEW6 := Lib.hid hnew6
        have HPI := Lib.hid hpi
        have HKN := Lib.hid hkn
        have HHQ := Lib.hid hhd
        have HBQ := Lib.hid hbq
        have HBWQ : Hid (Below w.heap.size w wr) := Lib.hid (HB1.out.trans (hhd.chg.below (by have := HS1.out; omega) fun i e => by have := HVB.out; omega))
        clear hrow6 hnew6 hpi hkn hhd hbq
        by_cases hjt : j < b.ins.length
        · obtain ⟨x, hxe⟩ : ∃ x, x = b.ins[j] := ⟨_, rfl⟩
          obtain ⟨gi, oi, Ai, ci, rfl, hgi, hoi, hrdi, i0, i1, i2, i3, i4, i5, i6, i7⟩ := ins_at (inss_below HSUB.out HBWQ.out) j hjt x hxe
          have HOI := Lib.hid hoi
          have HRDI := Lib.hid hrdi
          have HXV := Lib.hid (HINS.out x (by rw [hxe]; exact List.getElem_mem hjt))
          have HXE := Lib.hid hxe
          clear hoi hrdi hxe
          go_upto_region 10 with (fail)
          obtain ⟨wx, hwx, hbx, hltx, hcx⟩ := box_new wr #[.int .i64 x.kind, .int .i64 x.op, .int .i64 x.d, .int .i64 x.a, .int .i64 x.b, .int .i32 x.num, .string x.name, .slice Ai x.args.length ci] 54
          have hpx : wx.heap[wr.heap.size]? = some (.cells #[.int .i64 x.kind, .int .i64 x.op, .int .i64 x.d, .int .i64 x.a, .int .i64 x.b, .int .i32 x.num, .string x.name, .slice Ai x.args.length ci] 54 (0, 0)) := by rw [hwx]; exact heap_alloc_new wr _
          rw [← hwx]
          have hdx := HHQ.out.below hbx
          have hrx : RdT wx.drew (fun k => k < w.heap.size) Ai (ints x.args) := ints_below (ints_below HRDI.out hbx) (below_drew wx)
          have h6x := HROW6.out.kept (chg_of_below hbx) fun k hk => by have := HROW6.out.lt k hk; omega
          have hRN : RndR w.heap.size w1 vb bb wr.heap.size f b (some ⟨gi, oi, none⟩) c1 _ x Ai ci A6 c6 r6 ps wx := ⟨⟨_, _, _, hdx⟩, (hbx.block _ (lt_of_heap HBQ.out)).trans HBQ.out, hpx, h6x, HNEW6.out⟩
          obtain ⟨c8, hc8⟩ : ∃ c8, c8 = wr.heap.size := ⟨_, rfl⟩
          rw [← hc8] at hpx hRN
          rw [← hc8]
          have hv3 : wx.cell? ⟨vb, 3, none⟩ = some (.slice Aq lq.length cq) := cell_of_row _ _ _ _ _ _ hdx.heap
          have hvx : vb < wx.heap.size := lt_of_heap hdx.heap
          have x0 : wx.cell? ⟨c8, 0, none⟩ = some (.int .i64 x.kind) := cell_of_row _ _ _ _ _ _ hpx
          have x1 : wx.cell? ⟨c8, 1, none⟩ = some (.int .i64 x.op) := cell_of_row _ _ _ _ _ _ hpx
          have x2 : wx.cell? ⟨c8, 2, none⟩ = some (.int .i64 x.d) := cell_of_row _ _ _ _ _ _ hpx
          have x3 : wx.cell? ⟨c8, 3, none⟩ = some (.int .i64 x.a) := cell_of_row _ _ _ _ _ _ hpx
          have x4 : wx.cell? ⟨c8, 4, none⟩ = some (.int .i64 x.b) := cell_of_row _ _ _ _ _ _ hpx
          have x5 : wx.cell? ⟨c8, 5, none⟩ = some (.int .i32 x.num) := cell_of_row _ _ _ _ _ _ hpx
          have x6 : wx.cell? ⟨c8, 6, none⟩ = some (.string x.name) := cell_of_row _ _ _ _ _ _ hpx
          have x7 : wx.cell? ⟨c8, 7, none⟩ = some (.slice Ai x.args.length ci) := cell_of_row _ _ _ _ _ _ hpx
          have HLL : Hid (lq ++ insS (knownL ps) x = codeTo f.blocks k ++ (labelS k :: insL K0 (b.ins.take (j + 1)))) := Lib.hid (by rw [HLQ.out, HKN.out, codeTo_ins _ _ _ _ hjt x HXE.out])
          have HRD6 := Lib.hid (rdT_any (RowAt.reads (h6x.drew)))
          have HRDX := Lib.hid hrx
          have HD := Lib.hid (hdx.below (below_drew wx))
          have HRN := Lib.hid (hRN.below (below_drew wx))
          have hM2 := insS_len (knownL ps) x
          have hM0 := insS_pos (knownL ps) x
          have hbd1 : (lq.length + (insS (knownL ps) x).length) * 80 ≤ 140737488355328 := by omega
          have hbd2 : lq.length + (insS (knownL ps) x).length ≤ maxLen := by unfold maxLen; omega
          have hps6 : ps.length ≤ 1000000 := by omega
          clear hwx hbx hltx hcx hpx hdx hrx h6x hRN hc8 hM2
          go_cut [] (fun wz => RndR w.heap.size w1 vb bb c8 f b (some ⟨gi, oi, none⟩) c1 (codeTo f.blocks k ++ (labelS k :: insL K0 (b.ins.take (j + 1)))) x Ai ci A6 c6 r6 ps wz)
          case first =>
            go_region_law (first
              | (refine step_append_row _ (by rfl) _ _ 32 61 _ 7 80 (by rfl) Try.underlying32 info_vins rfl HD2.out.row ⟨g2, 0, none⟩ _ _ ys HCV.out.len HYS.out HCV.out.plain (by rfl) (by rfl) hbd1 hbd2 hM0 ?_; intro v' r' w5 hR' hC2 hN; obtain ⟨hp2, hc32, hf32⟩ := HD2.out.cells hC2; obtain ⟨A', c', rfl, _⟩ := hR'.shape; have HR5 := Lib.hid hR'; have HC5 := Lib.hid hC2; have HN5 := Lib.hid hN; clear hR' hC2 hN hp2)
              | (go_simp; go_at_call 24; refine (ins15_any (T := fun q => q < w.heap.size) ps A6 c6 hps6 (knownL_i32 HPI.out) HRD6.out x f.regs HXV.out Ai ci HRDX.out).mono ?_; rintro e wv ⟨g2, ys, rfl, hBv, hg2, hys, hCv⟩; have hv3 := (hBv.cell (p := ⟨vb, 3, none⟩) hvx).trans hv3; have HD2 := Lib.hid (HD.out.below hBv); have HRN2 := Lib.hid (HRN.out.below hBv); have HYS := Lib.hid (news_at hys); have HCV := Lib.hid hCv; clear hBv hys hCv x0 x1 x2 x3 x4 x5 x6 x7))
            all_goals
              go_wp2_with fail
              go_meet
              have := HRN2.out.put HD2.out HCV.out rfl HR5.out HC5.out HN5.out
              rw [HLL.out] at this
              exact this
          case rest =>
            have HRC := Lib.hid hcut
            have x0 : wc.cell? ⟨c8, 0, none⟩ = some (.int .i64 x.kind) := cell_of_row _ _ _ _ _ _ hcut.ins
            have x2 : wc.cell? ⟨c8, 2, none⟩ = some (.int .i64 x.d) := cell_of_row _ _ _ _ _ _ hcut.ins
            have x5 : wc.cell? ⟨c8, 5, none⟩ = some (.int .i32 x.num) := cell_of_row _ _ _ _ _ _ hcut.ins
            have hc8 : c8 < wc.heap.size := lt_of_heap hcut.ins
            have X0 := Lib.hid x0
            have X2 := Lib.hid x2
            have X5 := Lib.hid x5
            clear hcut x0 x2 x5 hv3 hvx hbd1 hbd2 hM0 i0 i1 i2 i3 i4 i5 i6 i7
            clear HRD6 HRDX HD HRN
            clear x1 x3 x4 x6 x7
            go_wp2_with fail
            go_loopw [9, 52] (fun s9 i wt => ∃ (q : Nat) (A9 : Option Addr) (c9 : Nat) (r9 : Option Nat), q ≤ ps.length ∧ i = .int .i64 (q : Nat) ∧ s9 = .slice A9 (leftTo ps x.d q).length c9 ∧ RowAt wt 73 2 (.slice A9 (leftTo ps x.d q).length c9) r9 (leftTo ps x.d q).length (numCells (leftTo ps x.d q)) ∧ (∀ z, r9 = some z → wc.heap.size ≤ z) ∧ Below wc.heap.size wc wt) (fun _ i _ => ps.length - (intOf i).toNat)
            case atStart => exact ⟨0, none, 0, none, Nat.zero_le _, rfl, rfl, .nil _ _ _, by simp, Below.refl _ _⟩
            case round =>
              obtain ⟨q, A9, c9, r9, hq, rfl, rfl, hrow9, hnew9, hbt⟩ := hrel
              have HNEW9 := Lib.hid hnew9
              have HBT := Lib.hid hbt
              have hl9 := leftTo_len ps x.d q
              obtain ⟨l9, hl9e⟩ : ∃ l9, l9 = leftTo ps x.d q := ⟨_, rfl⟩
              rw [← hl9e] at hl9
              have HL9 := Lib.hid hl9e
              have HROW9 : Hid (RowAt wr 73 2 (.slice A9 l9.length c9) r9 l9.length (numCells l9)) := Lib.hid (by rw [hl9e]; exact hrow9)
              have y0 := (hbt.cell (p := ⟨c8, 0, none⟩) hc8).trans X0.out
              have y2 := (hbt.cell (p := ⟨c8, 2, none⟩) hc8).trans X2.out
              have y5 := (hbt.cell (p := ⟨c8, 5, none⟩) hc8).trans X5.out
              rw [← hl9e]
              have hc8r : c8 < wr.heap.size := Nat.lt_of_lt_of_le hc8 hbt.size
              clear hrow9 hnew9 hbt hl9e
              by_cases hqt : q < ps.length
              · obtain ⟨g6, o6, rfl, hg6, hx6⟩ := HRC.out.row6.reads (by rw [numCells_len]; omega)
                obtain ⟨p, hpe⟩ : ∃ p, p = ps[q] := ⟨_, rfl⟩
                obtain ⟨hn0, hn1⟩ := numCells_at ps q hqt
                have p0 := (HBT.out.cell (p := ⟨g6, _, none⟩) hg6).trans (hx6 _ _ hn0)
                have p1 := (HBT.out.cell (p := ⟨g6, _, none⟩) hg6).trans (hx6 _ _ hn1)
                rw [← hpe] at p0 p1
                rw [← Nat.add_assoc] at p1
                have hg6' : g6 < wr.heap.size := Nat.lt_of_lt_of_le hg6 HBT.out.size
                have HPE := Lib.hid hpe
                clear hx6 hn0 hn1 hpe
                by_cases hpd : p.1 = x.d
                · have hf : (p.1 != x.d) = false := by rw [hpd]; simp
                  have HPD := Lib.hid hpd
                  clear hpd
                  go_wp2_with fail
                  go_roundw
                  case rel => exact ⟨q + 1, A9, c9, r9, by omega, by go_num, by rw [leftTo_drop ps x.d q hqt p HPE.out HPD.out, ← HL9.out], by rw [leftTo_drop ps x.d q hqt p HPE.out HPD.out, ← HL9.out]; exact HROW9.out.alloc _, HNEW9.out, HBT.out.alloc HBT.out.size _⟩
                  case measure => simp [intOf]; omega
                · have hf : (p.1 != x.d) = true := bne_iff_ne.2 hpd
                  have HPD := Lib.hid hpd
                  clear hpd
                  have hb1 : (l9.length + 1) * 16 ≤ 140737488355328 := by omega
                  have hb2 : l9.length + 1 ≤ maxLen := by unfold maxLen; omega
                  go_wp2_with (at_builtin; go_must (refine wpList_append_row _ rfl _ _ 70 73 _ 2 16 rfl Try.underlying70 info_num rfl ((HROW9.out.alloc _).alloc _) ⟨wr.heap.size + 1, 0, none⟩ 1 1 (numCells [p]) rfl (news_new _ _ _ _ (by simp)) (numCells_plain _) rfl rfl hb1 hb2 (by omega) ?_); intro v' r' w2 hR' hC2 hN; obtain ⟨A', c', rfl, _⟩ := hR'.shape; have HR2 := Lib.hid hR'; have HC2 := Lib.hid hC2; have HN2 := Lib.hid hN; clear hR' hC2 hN)
                  go_roundw
                  case rel =>
                    have hB2 : Below wc.heap.size wc w2 := HBT.out.trans ((two_allocs wr (.cells #[.int .i64 p.1, .int .i32 p.2] 73) (.cells #[.int .i64 p.1, .int .i32 p.2] 73)).mono HBT.out.size |>.trans (HC2.out.below (B := wc.heap.size) (by have := HBT.out.size; go_size) fun z hz => HNEW9.out z hz.symm))
                    refine ⟨q + 1, A', c', r', by omega, by go_num, ?_, ?_, fun z hz => HN2.out.ge (B := wc.heap.size) (by have := HBT.out.size; go_size) HNEW9.out z hz, hB2⟩
                    · rw [leftTo_keep ps x.d q hqt p HPE.out HPD.out, ← HL9.out, List.length_append]; rfl
                    · have := HR2.out
                      rw [leftTo_keep ps x.d q hqt p HPE.out HPD.out, ← HL9.out, List.length_append, numCells_append]; exact this
                  case measure => simp [intOf]; omega
              · obtain rfl : q = ps.length := by omega
                have hfl : l9 = ps.filter fun p => decide (p.1 ≠ x.d) := by rw [HL9.out, leftTo_all]
                have HFL := Lib.hid hfl
                clear hfl
                by_cases hkd : x.kind = 1
                · have hkf : (x.kind == 1) = true := by rw [hkd]; simp
                  have HKD := Lib.hid hkd
                  clear hkd
                  have hb1 : (l9.length + 1) * 16 ≤ 140737488355328 := by omega
                  have hb2 : l9.length + 1 ≤ maxLen := by unfold maxLen; omega
                  go_wp2_with (at_builtin; go_must (refine wpList_append_row _ rfl _ _ 70 73 _ 2 16 rfl Try.underlying70 info_num rfl (HROW9.out.alloc _) ⟨wr.heap.size, 0, none⟩ 1 1 (numCells [(x.d, x.num)]) rfl (news_new _ _ _ _ (by simp)) (numCells_plain _) rfl rfl hb1 hb2 (by omega) ?_); intro v' r' w2 hR' hC2 hN; obtain ⟨A', c', rfl, _⟩ := hR'.shape; have HR2 := Lib.hid hR'; have HC2 := Lib.hid hC2; have HN2 := Lib.hid hN; clear hR' hC2 hN)
                  go_roundw
                  case rel =>
                    have hal : Below wr.heap.size wr (wr.alloc (.cells #[.int .i64 x.d, .int .i32 x.num] 73)) := (Below.refl _ _).alloc (Nat.le_refl _) _
                    have hB2 : Below wc.heap.size wc w2 := HBT.out.trans (hal.mono HBT.out.size |>.trans (HC2.out.below (B := wc.heap.size) (by have := HBT.out.size; go_size) fun z hz => HNEW9.out z hz.symm))
                    have hnx : nextL ps x = l9 ++ [(x.d, x.num)] := by unfold nextL; rw [if_pos HKD.out, ← HFL.out]
                    have hRC2 := HRC.out.below hB2
                    obtain ⟨v9, r9', xs9, hh9⟩ := hRC2.head
                    refine ⟨j + 1, nextL ps x, A', c', r', v9, r9', xs9, by omega, by go_num, ?_, ?_, ?_, ?_, nextL_i32 HPI.out x HOI.out.num, ?_, hh9, hRC2.blk⟩
                    · rw [hnx, List.length_append]; rfl
                    · have := HR2.out
                      rw [hnx, List.length_append, numCells_append]; exact this
                    · intro z hz
                      have h1 := HN2.out.ge (B := wc.heap.size) (by have := HBT.out.size; go_size) HNEW9.out z hz
                      obtain ⟨v0, r0, xs0, hh0⟩ := HRC.out.head
                      have := hh0.chg.size
                      omega
                    · have := nextL_len ps x; omega
                    · rw [knownL_next, HKN.out, known_succ _ _ _ hjt x HXE.out]
                  case measure => simp [intOf]; omega
                · have hkf : (x.kind == 1) = false := beq_eq_false_iff_ne.2 hkd
                  have HKD := Lib.hid hkd
                  clear hkd
                  go_wp2_with fail
                  go_roundw
                  case rel =>
                    have hnx : nextL ps x = l9 := by unfold nextL; rw [if_neg HKD.out, ← HFL.out, List.append_nil]
                    have hRC2 := HRC.out.below HBT.out
                    obtain ⟨v9, r9', xs9, hh9⟩ := hRC2.head
                    refine ⟨j + 1, nextL ps x, A9, c9, r9, v9, r9', xs9, by omega, by go_num, by rw [hnx], by rw [hnx]; exact HROW9.out, ?_, ?_, nextL_i32 HPI.out x HOI.out.num, ?_, hh9, hRC2.blk⟩
                    · intro z hz
                      have h1 := HNEW9.out z hz
                      obtain ⟨v0, r0, xs0, hh0⟩ := HRC.out.head
                      have := hh0.chg.size
                      omega
                    · have := nextL_len ps x; omega
                    · rw [knownL_next, HKN.out, known_succ _ _ _ hjt x HXE.out]
                  case measure => simp [intOf]; omega
        · obtain rfl : j = b.ins.length := by omega
          have hcl := codeTo_end f.blocks k hlt b HBE.out
          have HCL : Hid (lq ++ endS b ((k : Int) + 1) = codeTo f.blocks (k + 1)) := Lib.hid (by rw [HLQ.out]; exact hcl)
          obtain ⟨t1, t2⟩ := HI32.out.to
          obtain ⟨t3, t4⟩ := HI32.out.els
          have e1 : wr.cell? ⟨bb, 1, none⟩ = some (.int .i64 b.kind) := cell_of_row _ _ _ _ _ _ HBQ.out
          have e2 : wr.cell? ⟨bb, 2, none⟩ = some (.int .i64 b.a) := cell_of_row _ _ _ _ _ _ HBQ.out
          have e3 : wr.cell? ⟨bb, 3, none⟩ = some (.int .i64 b.to) := cell_of_row _ _ _ _ _ _ HBQ.out
          have e4 : wr.cell? ⟨bb, 4, none⟩ = some (.int .i64 b.els) := cell_of_row _ _ _ _ _ _ HBQ.out
          have hv3 : wr.cell? ⟨vb, 3, none⟩ = some (.slice Aq lq.length cq) := cell_of_row _ _ _ _ _ _ HHQ.out.heap
          have hblt : bb < wr.heap.size := lt_of_heap HBQ.out
          have hvlt2 : vb < wr.heap.size := lt_of_heap HHQ.out.heap
          have hbd1 : (lq.length + 1) * 80 ≤ 140737488355328 := by omega
          have hbd2 : lq.length + 1 ≤ maxLen := by unfold maxLen; omega
          have HBD3 : Hid ((lq.length + 1 + 1) * 80 ≤ 140737488355328) := Lib.hid (bd_80 hlql)
          have HBD4 : Hid (lq.length + 1 + 1 ≤ maxLen) := Lib.hid (Nat.le_trans hlql bd_max)
          have HAL := Lib.hid (HHQ.out.below ((Below.refl wr.heap.size wr).alloc (Nat.le_refl _) (.cells #[.int .i64 51, .int .i64 (-1), .int .i64 (-1), .int .i64 (-1), .int .i32 b.to, .string ⟨#[]⟩, .slice none 0 0] 61)))
          clear hcl
          have hkk : b.kind = 1 ∨ b.kind = 2 ∨ b.kind = 3 := by omega
          rcases hkk with hkd | hkd | hkd
          · rw [hkd] at e1
            have HKD := Lib.hid hkd
            clear hkd
            by_cases hto : b.to = (k : Int) + 1
            · have hf : (b.to != (k : Int) + 1) = false := by rw [hto]; simp
              have HE : Hid (codeTo f.blocks (k + 1) = lq) := Lib.hid (by rw [← HCL.out]; unfold endS; rw [if_pos HKD.out, if_pos hto, List.append_nil])
              clear hto
              go_wp2_with fail
              go_roundw
              case rel => exact ⟨k + 1, _, _, _, by omega, by go_num, by rw [HE.out]; exact HAL.out⟩
              case measure => simp [intOf]; omega
            · have hf : (b.to != (k : Int) + 1) = true := bne_iff_ne.2 hto
              have HE : Hid (codeTo f.blocks (k + 1) = lq ++ [jumpS b.to]) := Lib.hid (by rw [← HCL.out]; unfold endS; rw [if_pos HKD.out, if_neg hto])
              clear hto
              go_upto_region 27 with (at_builtin; go_must (refine wpList_append_row _ rfl _ _ 32 61 _ 7 80 rfl Try.underlying32 info_vins rfl (HHQ.out.below (two_allocs wr _ _)).row ⟨wr.heap.size + 1, 0, none⟩ 1 1 [.int .i64 51, .int .i64 (-1), .int .i64 (-1), .int .i64 (-1), .int .i32 b.to, .string ⟨#[]⟩, .slice none 0 0] rfl (news_new _ _ _ _ (by simp)) (CodeCells.one (w := wr) (T := fun _ => True) (x := ⟨51, -1, (-1), -1, b.to, ⟨#[]⟩, []⟩) ⟨none, 0, rfl, RdT.nil⟩).plain rfl rfl hbd1 hbd2 (by omega) ?_); intro v' r' w2 hR' hC2 hN; obtain ⟨hp2, hc32, hf32⟩ := (HHQ.out.below (two_allocs wr _ _)).cells hC2; obtain ⟨A', c', rfl, _⟩ := hR'.shape; have HR2 := Lib.hid hR'; have HC2 := Lib.hid hC2; have HN2 := Lib.hid hN; clear hR' hC2 hN hp2)
              have hlab := HHQ.out.below (two_allocs wr (.cells #[.int .i64 51, .int .i64 (-1), .int .i64 (-1), .int .i64 (-1), .int .i32 b.to, .string ⟨#[]⟩, .slice none 0 0] 61) (.cells #[.int .i64 51, .int .i64 (-1), .int .i64 (-1), .int .i64 (-1), .int .i32 b.to, .string ⟨#[]⟩, .slice none 0 0] 61))
              have hbk := ((two_allocs wr (.cells #[.int .i64 51, .int .i64 (-1), .int .i64 (-1), .int .i64 (-1), .int .i32 b.to, .string ⟨#[]⟩, .slice none 0 0] 61) (.cells #[.int .i64 51, .int .i64 (-1), .int .i64 (-1), .int .i64 (-1), .int .i32 b.to, .string ⟨#[]⟩, .slice none 0 0] 61)).block _ hblt).trans HBQ.out
              have hput := hlab.put (l2 := [⟨51, -1, (-1), -1, b.to, ⟨#[]⟩, []⟩]) (CodeCells.one ⟨none, 0, rfl, RdT.nil⟩) rfl HR2.out HC2.out HN2.out
              have hbk2 := cells_keep (v' := .slice A' (lq.length + 1) c') hlab HC2.out hbk (by decide) (by decide)
              clear hlab hbk hc32 hf32 e2 e3 e4 hv3 e1
              clear HR2 HC2 HN2
              generalize w2.setCell ⟨vb, 3, none⟩ (.slice A' (lq.length + 1) c') = w3 at hput hbk2 ⊢
              have e1 : w3.cell? ⟨bb, 1, none⟩ = some (.int .i64 1) := by rw [← HKD.out]; exact cell_of_row _ _ _ _ _ _ hbk2
              have HPUT3 := Lib.hid hput
              clear hput hbk2
              go_wp2_with fail
              go_roundw
              case rel => exact ⟨k + 1, _, _, _, by omega, by go_num, by rw [HE.out]; exact HPUT3.out⟩
              case measure => simp [intOf]; omega
          · rw [hkd] at e1
            have HKD := Lib.hid hkd
            clear hkd
            have hk21 : ¬ b.kind = 1 := by rw [HKD.out]; decide
            have HK21 := Lib.hid hk21
            clear hk21
            by_cases hto : b.to = (k : Int) + 1
            · have hf : (b.to == (k : Int) + 1) = true := by rw [hto]; simp
              have HE : Hid (codeTo f.blocks (k + 1) = lq ++ [⟨53, -1, b.a, -1, b.els, ⟨#[]⟩, []⟩]) := Lib.hid (by rw [← HCL.out]; unfold endS; rw [if_neg HK21.out, if_pos HKD.out, if_pos hto])
              clear hto
              go_wp2_with (at_builtin; go_must (refine wpList_append_row _ rfl _ _ 32 61 _ 7 80 rfl Try.underlying32 info_vins rfl (HHQ.out.below (two_allocs wr _ _)).row ⟨wr.heap.size + 1, 0, none⟩ 1 1 [.int .i64 53, .int .i64 (-1), .int .i64 b.a, .int .i64 (-1), .int .i32 b.els, .string ⟨#[]⟩, .slice none 0 0] rfl (news_new _ _ _ _ (by simp)) (CodeCells.one (w := wr) (T := fun _ => True) (x := ⟨53, -1, b.a, -1, b.els, ⟨#[]⟩, []⟩) ⟨none, 0, rfl, RdT.nil⟩).plain rfl rfl hbd1 hbd2 (by omega) ?_); intro v' r' w2 hR' hC2 hN; obtain ⟨hp2, hc32, hf32⟩ := (HHQ.out.below (two_allocs wr _ _)).cells hC2; obtain ⟨A', c', rfl, _⟩ := hR'.shape; have HR2 := Lib.hid hR'; have HC2 := Lib.hid hC2; have HN2 := Lib.hid hN; clear hR' hC2 hN hp2)
              go_roundw
              case rel => exact ⟨k + 1, _, _, _, by omega, by go_num, by rw [HE.out]; exact (HHQ.out.below (two_allocs wr _ _)).put (l2 := [⟨53, -1, b.a, -1, b.els, ⟨#[]⟩, []⟩]) (CodeCells.one ⟨none, 0, rfl, RdT.nil⟩) rfl HR2.out HC2.out HN2.out⟩
              case measure => simp [intOf]; omega
            · have hf : (b.to == (k : Int) + 1) = false := beq_eq_false_iff_ne.2 hto
              have HTO := Lib.hid hto
              clear hto
              go_upto_region 31 with (at_builtin; go_must (refine wpList_append_row _ rfl _ _ 32 61 _ 7 80 rfl Try.underlying32 info_vins rfl (HHQ.out.below (two_allocs wr _ _)).row ⟨wr.heap.size + 1, 0, none⟩ 1 1 [.int .i64 52, .int .i64 (-1), .int .i64 b.a, .int .i64 (-1), .int .i32 b.to, .string ⟨#[]⟩, .slice none 0 0] rfl (news_new _ _ _ _ (by simp)) (CodeCells.one (w := wr) (T := fun _ => True) (x := ⟨52, -1, b.a, -1, b.to, ⟨#[]⟩, []⟩) ⟨none, 0, rfl, RdT.nil⟩).plain rfl rfl hbd1 hbd2 (by omega) ?_); intro v' r' w2 hR' hC2 hN; obtain ⟨hp2, hc32, hf32⟩ := (HHQ.out.below (two_allocs wr _ _)).cells hC2; obtain ⟨A', c', rfl, _⟩ := hR'.shape; have HR2 := Lib.hid hR'; have HC2 := Lib.hid hC2; have HN2 := Lib.hid hN; clear hR' hC2 hN hp2)
              have hlab := HHQ.out.below (two_allocs wr (.cells #[.int .i64 51, .int .i64 (-1), .int .i64 (-1), .int .i64 (-1), .int .i32 b.to, .string ⟨#[]⟩, .slice none 0 0] 61) (.cells #[.int .i64 52, .int .i64 (-1), .int .i64 b.a, .int .i64 (-1), .int .i32 b.to, .string ⟨#[]⟩, .slice none 0 0] 61))
              have hbk := ((two_allocs wr (.cells #[.int .i64 51, .int .i64 (-1), .int .i64 (-1), .int .i64 (-1), .int .i32 b.to, .string ⟨#[]⟩, .slice none 0 0] 61) (.cells #[.int .i64 52, .int .i64 (-1), .int .i64 b.a, .int .i64 (-1), .int .i32 b.to, .string ⟨#[]⟩, .slice none 0 0] 61)).block _ hblt).trans HBQ.out
              have hput := hlab.put (l2 := [⟨52, -1, b.a, -1, b.to, ⟨#[]⟩, []⟩]) (CodeCells.one ⟨none, 0, rfl, RdT.nil⟩) rfl HR2.out HC2.out HN2.out
              have hbk2 := cells_keep (v' := .slice A' (lq.length + 1) c') hlab HC2.out hbk (by decide) (by decide)
              have hjr : rq ≠ some wr.heap.size := fun e => Nat.lt_irrefl _ (HHQ.out.row.lt _ e)
              have hjk0 : ((wr.alloc (.cells #[.int .i64 51, .int .i64 (-1), .int .i64 (-1), .int .i64 (-1), .int .i32 b.to, .string ⟨#[]⟩, .slice none 0 0] 61)).alloc (.cells #[.int .i64 52, .int .i64 (-1), .int .i64 b.a, .int .i64 (-1), .int .i32 b.to, .string ⟨#[]⟩, .slice none 0 0] 61)).heap[wr.heap.size]? = some (.cells #[.int .i64 51, .int .i64 (-1), .int .i64 (-1), .int .i64 (-1), .int .i32 b.to, .string ⟨#[]⟩, .slice none 0 0] 61 (0, 0)) := by
                rw [Below.heap_alloc _ _ _ (by simp)]; exact heap_alloc_new wr _
              have hjk := (Chg.store w2 vb 3 (.slice A' (lq.length + 1) c')).heap (HC2.out.heap hjk0 fun e => hjr e.symm) (by omega)
              have hjr2 : r' ≠ some wr.heap.size := fun e => by
                rcases HN2.out with e' | ⟨q, e', hq⟩
                · exact hjr (by rw [← e', e])
                · rw [e] at e'; cases e'; simp only [World.size_alloc] at hq; omega
              clear hlab hbk hc32 hf32 e2 e3 e4 hv3 e1
              clear HR2 HC2 HN2
              clear hjr hjk0
              generalize w2.setCell ⟨vb, 3, none⟩ (.slice A' (lq.length + 1) c') = w3 at hput hbk2 hjk ⊢
              have hvj : w1.heap.size ≤ wr.heap.size := HHQ.out.chg.size
              have e4 : w3.cell? ⟨bb, 4, none⟩ = some (.int .i64 b.els) := cell_of_row _ _ _ _ _ _ hbk2
              have j4 : w3.cell? ⟨wr.heap.size, 4, none⟩ = some (.int .i32 b.to) := cell_of_row _ _ _ _ _ _ hjk
              have jf4 : w3.frozen? ⟨wr.heap.size, 4, none⟩ = false := by simp [World.frozen?, hjk]
              go_upto_region 32 with (fail)
              have hst := hput.other (q := wr.heap.size) (off := 4) (u := .int .i32 b.els) hvj hjr2
              have hjk3 : (w3.setCell ⟨wr.heap.size, 4, none⟩ (.int .i32 b.els)).heap[wr.heap.size]? = some (.cells #[.int .i64 51, .int .i64 (-1), .int .i64 (-1), .int .i64 (-1), .int .i32 b.els, .string ⟨#[]⟩, .slice none 0 0] 61 (0, 0)) := (heap_setCell_same w3 wr.heap.size 4 _ _ (.int .i32 b.els) hjk).trans (by simp)
              have hbk3 := (Chg.store w3 wr.heap.size 4 (.int .i32 b.els)).heap hbk2 (by omega)
              clear e4 j4 jf4 hput hbk2 hjk
              generalize w3.setCell ⟨wr.heap.size, 4, none⟩ (.int .i32 b.els) = w4 at hst hjk3 hbk3 ⊢
              obtain ⟨A5, c5, hv5, _⟩ := hst.row.shape
              obtain ⟨jb, hjb⟩ : ∃ jb, jb = wr.heap.size := ⟨_, rfl⟩
              rw [← hjb] at hjk3
              rw [← hjb]
              have HST := Lib.hid hst
              have HBK3 := Lib.hid hbk3
              have e4 : w4.cell? ⟨bb, 4, none⟩ = some (.int .i64 b.els) := cell_of_row _ _ _ _ _ _ hbk3
              have j0 : w4.cell? ⟨jb, 0, none⟩ = some (.int .i64 51) := cell_of_row _ _ _ _ _ _ hjk3
              have j1 : w4.cell? ⟨jb, 1, none⟩ = some (.int .i64 (-1)) := cell_of_row _ _ _ _ _ _ hjk3
              have j2 : w4.cell? ⟨jb, 2, none⟩ = some (.int .i64 (-1)) := cell_of_row _ _ _ _ _ _ hjk3
              have j3 : w4.cell? ⟨jb, 3, none⟩ = some (.int .i64 (-1)) := cell_of_row _ _ _ _ _ _ hjk3
              have j4 : w4.cell? ⟨jb, 4, none⟩ = some (.int .i32 b.els) := cell_of_row _ _ _ _ _ _ hjk3
              have j5 : w4.cell? ⟨jb, 5, none⟩ = some (.string ⟨#[]⟩) := cell_of_row _ _ _ _ _ _ hjk3
              have j6 : w4.cell? ⟨jb, 6, none⟩ = some (.slice none 0 0) := cell_of_row _ _ _ _ _ _ hjk3
              have v3 := hst.cell3
              have hvl4 := hst.vltW
              have hjl4 : jb < w4.heap.size := lt_of_heap hjk3
              clear hst hbk3 hjk3 hv5 hjb
              by_cases hel : b.els = (k : Int) + 1
              · have hf : (b.els != (k : Int) + 1) = false := by rw [hel]; simp
                have HE : Hid (codeTo f.blocks (k + 1) = lq ++ [⟨52, -1, b.a, -1, b.to, ⟨#[]⟩, []⟩]) := Lib.hid (by rw [← HCL.out]; unfold endS; rw [if_neg HK21.out, if_pos HKD.out, if_neg HTO.out, if_pos hel])
                clear hel
                go_wp2_with fail
                go_roundw
                case rel => exact ⟨k + 1, _, _, _, by omega, by go_num, by rw [HE.out]; exact HST.out⟩
                case measure => simp [intOf]; omega
              · have hf : (b.els != (k : Int) + 1) = true := bne_iff_ne.2 hel
                have HE : Hid (codeTo f.blocks (k + 1) = lq ++ [⟨52, -1, b.a, -1, b.to, ⟨#[]⟩, []⟩] ++ [jumpS b.els]) := Lib.hid (by rw [← HCL.out]; unfold endS; rw [if_neg HK21.out, if_pos HKD.out, if_neg HTO.out, if_neg hel]; simp)
                clear hel
                have HRW : Hid (RowAt w4 61 7 (.slice A' (lq.length + 1) c') r' (lq.length + 1) _) := Lib.hid (by have := HST.out.row; rw [List.length_append] at this; exact this)
                go_wp2_with (at_builtin; go_must (refine wpList_append_row _ rfl _ _ 32 61 _ 7 80 rfl Try.underlying32 info_vins rfl (HRW.out.alloc _) ⟨w4.heap.size, 0, none⟩ 1 1 [.int .i64 51, .int .i64 (-1), .int .i64 (-1), .int .i64 (-1), .int .i32 b.els, .string ⟨#[]⟩, .slice none 0 0] rfl (news_new _ _ _ _ (by simp)) (CodeCells.one (w := wr) (T := fun _ => True) (x := jumpS b.els) ⟨none, 0, rfl, RdT.nil⟩).plain rfl rfl HBD3.out HBD4.out (by omega) ?_); intro v5 r5 w5 hR' hC2 hN; obtain ⟨hp2, hc32, hf32⟩ := (HST.out.below ((Below.refl _ _).alloc (Nat.le_refl _) _)).cells hC2; obtain ⟨A5', c5', rfl, _⟩ := hR'.shape; have HR5 := Lib.hid hR'; have HC5 := Lib.hid hC2; have HN5 := Lib.hid hN; clear hR' hC2 hN hp2)
                go_roundw
                case rel => exact ⟨k + 1, _, _, _, by omega, by go_num, by rw [HE.out]; exact (HST.out.below ((Below.refl _ _).alloc (Nat.le_refl _) _)).put (l2 := [jumpS b.els]) (CodeCells.one ⟨none, 0, rfl, RdT.nil⟩) rfl (by rw [List.length_append]; exact HR5.out) HC5.out HN5.out⟩
                case measure => simp [intOf]; omega
          · rw [hkd] at e1
            have HKD := Lib.hid hkd
            clear hkd
            have HE : Hid (codeTo f.blocks (k + 1) = lq ++ [threeS 49 (-1) b.a (-1)]) := Lib.hid (by rw [← HCL.out]; unfold endS; rw [if_neg (by rw [HKD.out]; decide), if_neg (by rw [HKD.out]; decide)])
            go_upto_region 24 with (fail)
            obtain ⟨wj, hwj⟩ : ∃ wj, wj = wr.alloc (.cells #[.int .i64 51, .int .i64 (-1), .int .i64 (-1), .int .i64 (-1), .int .i32 b.to, .string ⟨#[]⟩, .slice none 0 0] 61) := ⟨_, rfl⟩
            have HALJ := Lib.hid HAL.out
            rw [← hwj] at HALJ
            have hbj : Below wr.heap.size wr wj := by rw [hwj]; exact (Below.refl _ _).alloc (Nat.le_refl _) _
            have hbk := (hbj.block _ hblt).trans HBQ.out
            have hv3 := (hbj.cell (p := ⟨vb, 3, none⟩) hvlt2).trans hv3
            have e1 := (hbj.cell (p := ⟨bb, 1, none⟩) hblt).trans e1
            have e2 := (hbj.cell (p := ⟨bb, 2, none⟩) hblt).trans e2
            have hvj : vb < wj.heap.size := lt_of_heap HALJ.out.heap
            rw [← hwj]
            have HD := Lib.hid (HALJ.out.below (below_drew wj))
            have HBKJ := Lib.hid hbk
            clear hwj hbj hbk e3 e4
            go_cut [] (fun wz => (∃ v r xs, HeadR w.heap.size w1 wz vb f (codeTo f.blocks (k + 1)) v r xs) ∧ wz.cell? ⟨bb, 1, none⟩ = some (.int .i64 3))
            case first =>
              go_region_law (first
                | (refine step_append_row _ (by rfl) _ _ 32 61 _ 7 80 (by rfl) Try.underlying32 info_vins rfl (HD2.out.below ((Below.refl _ _).alloc (Nat.le_refl _) _)).row ⟨w6.heap.size, 0, none⟩ 1 1 [.int .i64 49, .int .i64 (-1), .int .i64 b.a, .int .i64 (-1), .int .i32 0, .string ⟨#[]⟩, .slice none 0 0] rfl (news_new _ _ _ _ (by simp)) (CodeCells.one (w := wr) (T := fun _ => True) (x := threeS 49 (-1) b.a (-1)) ⟨none, 0, rfl, RdT.nil⟩).plain (by rfl) (by rfl) hbd1 hbd2 (by omega) ?_; intro v' r' w5 hR' hC2 hN; obtain ⟨hp2, hc32, hf32⟩ := (HD2.out.below ((Below.refl _ _).alloc (Nat.le_refl _) _)).cells hC2; obtain ⟨A', c', rfl, _⟩ := hR'.shape; have HR5 := Lib.hid hR'; have HC5 := Lib.hid hC2; have HN5 := Lib.hid hN; clear hR' hC2 hN hp2)
                | (go_simp; go_at_call 25; refine (three15_any _ _ _ _ _).mono ?_; rintro e w6 ⟨rfl, hBv⟩; have hv3 := (hBv.cell (p := ⟨vb, 3, none⟩) hvj).trans hv3; have HD2 := Lib.hid (HD.out.below hBv); have HBK2 := Lib.hid ((hBv.block _ (lt_of_heap HBKJ.out)).trans HBKJ.out); have hvj := Nat.lt_of_lt_of_le hvj hBv.size; clear hBv e1 e2))
              all_goals
                go_wp2_with fail
                go_meet
                have hal : Below w6.heap.size w6 (w6.alloc (.cells #[.int .i64 49, .int .i64 (-1), .int .i64 b.a, .int .i64 (-1), .int .i32 0, .string ⟨#[]⟩, .slice none 0 0] 61)) := (Below.refl _ _).alloc (Nat.le_refl _) _
                have hput := (HD2.out.below hal).put (l2 := [threeS 49 (-1) b.a (-1)]) (CodeCells.one ⟨none, 0, rfl, RdT.nil⟩) rfl HR5.out HC5.out HN5.out
                have hbk2 := cells_keep (v' := .slice A' (lq.length + 1) c') (HD2.out.below hal) HC5.out ((hal.block _ (lt_of_heap HBK2.out)).trans HBK2.out) (by decide) (by decide)
                rw [HE.out]
                exact ⟨⟨_, _, _, hput⟩, by rw [← HKD.out]; exact cell_of_row _ _ _ _ _ _ hbk2⟩
            case rest =>
              obtain ⟨⟨vz, rz, xz, hz⟩, e1z⟩ := hcut
              have HZ := Lib.hid hz
              clear hz e1 e2 hv3
              go_wp2_with fail
              go_roundw
              case rel => exact ⟨k + 1, _, _, _, by omega, by go_num, HZ.out⟩
              case measure => simp [intOf]; omega
    · obtain rfl : k = f.blocks.length := by omega
      have p0 : wr.cell? ⟨vb, 0, none⟩ = some (.string f.name) := cell_of_row _ _ _ _ _ _ HHD.out.heap
      have p1 : wr.cell? ⟨vb, 1, none⟩ = some (.int .i64 f.params) := cell_of_row _ _ _ _ _ _ HHD.out.heap
      have p2 : wr.cell? ⟨vb, 2, none⟩ = some (.int .i64 f.regs) := cell_of_row _ _ _ _ _ _ HHD.out.heap
      have p3 : wr.cell? ⟨vb, 3, none⟩ = some (.slice Av (codeTo f.blocks f.blocks.length).length cv) := cell_of_row _ _ _ _ _ _ HHD.out.heap
      have hx := HHD.out.chg.heap HX1.out (by have := HVB.out; omega)
      have q0 : wr.cell? ⟨w.heap.size + 1, 0, none⟩ = some (.string ⟨#[]⟩) := cell_of_row _ _ _ _ _ _ hx
      have q1 : wr.cell? ⟨w.heap.size + 1, 1, none⟩ = some (.int .i64 0) := cell_of_row _ _ _ _ _ _ hx
      have q2 : wr.cell? ⟨w.heap.size + 1, 2, none⟩ = some (.int .i64 0) := cell_of_row _ _ _ _ _ _ hx
      have q3 : wr.cell? ⟨w.heap.size + 1, 3, none⟩ = some (.slice none 0 0) := cell_of_row _ _ _ _ _ _ hx
      have f0 : wr.frozen? ⟨w.heap.size + 1, 0, none⟩ = false := by simp [World.frozen?, hx]
      have f1 : wr.frozen? ⟨w.heap.size + 1, 1, none⟩ = false := by simp [World.frozen?, hx]
      have f2 : wr.frozen? ⟨w.heap.size + 1, 2, none⟩ = false := by simp [World.frozen?, hx]
      have f3 : wr.frozen? ⟨w.heap.size + 1, 3, none⟩ = false := by simp [World.frozen?, hx]
      have HX := Lib.hid hx
      clear hx
      go_wp2_with fail
      obtain ⟨W4, hW4, hcell, hch⟩ := stored4 HX.out (.string f.name) (.int .i64 f.params) (.int .i64 f.regs) (.slice Av (codeTo f.blocks f.blocks.length).length cv)
      rw [hW4]
      have d0 := hcell 0
      have d1 := hcell 1
      have d2 := hcell 2
      have d3 := hcell 3
      simp only [List.getElem?_toArray, List.getElem?_cons_succ, List.getElem?_cons_zero] at d0 d1 d2 d3
      clear hW4
      refine bodyPost_ret (by simp [results, Try.results10, go_sem, d0, d1, d2, d3]; try rfl) rfl ?_
      have hno : ∀ q, r = some q → ¬ q = w.heap.size + 1 := fun q hq e => by have := HHD.out.rnew q hq; have := HS1.out; omega
      have hR4 := HHD.out.row.kept hch hno
      have hX4 := HHD.out.code.kept hch fun k hk _ e => by omega
      obtain ⟨A4, c4, hv4, hrd4⟩ := row_code hR4 hX4 w.heap.size (fun q hq => by have := HHD.out.rnew q hq; have := HS1.out; omega)
      refine ⟨_, rfl, HBW.out.trans (hch.below HBW.out.size fun i e => by omega), A4, c4, ?_, ?_⟩
      · rw [hv4, codeTo_all]
      · rw [← codeTo_all]; exact hrd4
end Go.Proofs.Ytnfneinonkpmeaa
