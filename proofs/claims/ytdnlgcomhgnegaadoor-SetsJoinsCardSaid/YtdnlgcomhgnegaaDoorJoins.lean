/- SetsJoins: the walk. -/
import Derived.Test.YtdnlgcomhgnegaaDoorAll
import Derived.Test.YtdnlgcomhgnegaaDoorJoins0
import Derived.Test.YtdnlgcomhgnegaaDoorLives
import Derived.Test.YtdnlgcomhgnegaaDoorPlays
namespace Go.Proofs.YtdnlgcomhgnegaaDoor
open Go.RowKit

theorem Fz.give {w w' : World} {A : Option Addr} {l : List Int} (hR : ReadsAt w' A (ints l)) (hA : ∀ g off, A = some ⟨g, off, none⟩ → (w.heap.size ≤ g ∧ g < w'.heap.size) ∨ none = some (⟨g, off, none⟩ : Addr)) :
    Fz w' (Blk A) (fun W => ReadsAt W A (ints l)) ∧ ∀ k, Blk A k → w.heap.size ≤ k := by
  refine ⟨Fz.row hR fun g off e => ?_, ?_⟩
  · rcases hA g off e with h | h
    · exact h.2
    · cases h
  · rintro k ⟨off, e⟩
    rcases hA k off e with h | h
    · exact h.1
    · cases h
/-- Off the blocks that are made later. -/
theorem off_new {W : World} {N : Nat → Prop} {b : Nat} {r : Option Nat} {ws : List Nat} (h : BitsAt W b r ws) (hN : ∀ k, N k → W.heap.size ≤ k) : Off N b r := by
  rintro k hk (e | e)
  · have := h.blt; have := hN k hk; omega
  · have := h.rlt k e.symm; have := hN k hk; omega
theorem Off.or {N M : Nat → Prop} {b : Nat} {r : Option Nat} (h : Off N b r) (k : Off M b r) : Off (fun i => N i ∨ M i) b r := fun i hi => hi.elim (h i) (k i)
theorem reads_below {w w' : World} {A : Option Addr} {xs : List Value} (h : ReadsAt w A xs) (hb : Below w.heap.size w w') : ReadsAt w' A xs := h.kept (S := fun _ => False) (Chg.of_below hb _) fun _ _ _ _ h => h

theorem i64_listW (ws : List Nat) (hl : ws.length ≤ 1024) : ∀ z ∈ listW ws, I64 z := fun z hz => by
  obtain ⟨k, rfl, hk⟩ := (mem_listW ws z).1 hz
  have := memW_lt hl hk
  unfold I64
  omega
theorem sameL_refl (l : List Int) : sameL l l = true := decide_eq_true rfl
/-- The one set that is turned, beside what stays. -/
structure StA (w W : World) (N : Nat → Prop) (I : World → Prop) (b : Nat) (r : Option Nat) (ws : List Nat) : Prop where
  fz : Fz W N I
  off : Off N b r
  bits : BitsAt W b r ws
  bel : Below w.heap.size w W
  ge : ∀ k, FootB b r k → w.heap.size ≤ k
theorem StA.grow {w W W' : World} {N : Nat → Prop} {I : World → Prop} {b : Nat} {r r' : Option Nat} {ws ws' : List Nat} (h : StA w W N I b r ws) (g : GrowAt W b r ws W' r' ws') : StA w W' N I b r' ws' := by
  obtain ⟨h1, h2⟩ := h.fz.grow g h.off
  refine ⟨h1, h2, g.at_, h.bel.trans (g.chg.below h.bel.size h.ge), ?_⟩
  rintro k (e | e)
  · exact h.ge k (.inl e)
  · rcases g.new with h3 | ⟨j, h3, h4⟩
    · exact h.ge k (.inr (by rw [← h3]; exact e))
    · rw [h3] at e; cases e
      have := h.bel.size; omega
theorem StA.below {w W W' : World} {N : Nat → Prop} {I : World → Prop} {b : Nat} {r : Option Nat} {ws : List Nat} (h : StA w W N I b r ws) (g : Below W.heap.size W W') : StA w W' N I b r ws :=
  ⟨h.fz.below g, h.off, h.bits.below g, h.bel.trans (g.mono h.bel.size), h.ge⟩
theorem StA.next {w W W' : World} {N : Nat → Prop} {I : World → Prop} {b c : Nat} {r rc : Option Nat} {ws wc : List Nat} (h : StA w W N I b r ws) (n : NewBits W W' c rc wc) : StA w W' (fun i => N i ∨ FootB b r i) (fun W => I W ∧ BitsAt W b r ws) c rc wc := by
  have hf := h.fz.and (Fz.bits h.bits)
  refine ⟨hf.below n.below, hf.off n, n.at_, h.bel.trans (n.below.mono h.bel.size), ?_⟩
  have := h.bel.size
  rintro k (rfl | e)
  · have := n.nb; omega
  · have := n.nr k e.symm; omega
theorem StA.apart {w W : World} {N : Nat → Prop} {I : World → Prop} {b c : Nat} {r rc : Option Nat} {ws : List Nat} (h : StA w W N I b r ws) (hN : ∀ k, FootB c rc k → N k) : ∀ k, rc = some k → r ≠ some k := fun k e e' => h.off k (hN k (.inr e.symm)) (.inr e'.symm)

set_option maxRecDepth 100000 in
set_option maxHeartbeats 8000000 in
theorem joins_any (A B : Option Addr) (c d : Nat) (l m : List Int) (w : World) (hl : l.length ≤ c) (hc : c ≤ maxLen) (hm : m.length ≤ d) (hd : d ≤ maxLen) (hzl : ∀ z ∈ l, I64 z) (hzm : ∀ z ∈ m, I64 z) (hrl : ReadsAt w A (ints l)) (hrm : ReadsAt w B (ints m)) (hT : TabAt w) :
    Calls Tryd.prog 5 #[.slice A l.length c, .slice B m.length d] w fun e w' => e = .returned (.bool true) ∧ Below w.heap.size w w' := by
  have HRL := Lib.hid (reads_take hrl 100)
  have HRM := Lib.hid (reads_take hrm 100)
  have HZL : Hid (∀ z ∈ l.take 100, I64 z) := Lib.hid fun z h => hzl z (List.mem_of_mem_take h)
  have HZM : Hid (∀ z ∈ m.take 100, I64 z) := Lib.hid fun z h => hzm z (List.mem_of_mem_take h)
  have HLL : Hid ((l.take 100).length ≤ 100) := Lib.hid (by rw [List.length_take]; omega)
  have HLM : Hid ((m.take 100).length ≤ 100) := Lib.hid (by rw [List.length_take]; omega)
  have CUTL := Lib.hid (cut_any l A c · hl hc)
  have CUTM := Lib.hid (cut_any m B d · hm hd)
  generalize l.take 100 = lc at CUTL HRL HZL HLL
  generalize m.take 100 = mc at CUTM HRM HZM HLM
  have HT := Lib.hid hT
  clear hl hc hm hd hzl hzm hrl hrm hT
  go_enter Tryd.func5, Tryd.ntmps5
  go_wp2_with fail
  refine (CUTL.out _).mono ?_
  rintro e w0 ⟨rfl, rfl⟩
  go_wp2_with fail
  refine (of_any A c lc w (by have := HLL.out; omega) HZL.out HRL.out).mono ?_
  rintro e w1 ⟨ba, ra, wa, rfl, hNa, hma⟩
  have HNA := Lib.hid hNa
  have HMA := Lib.hid hma
  clear hNa hma
  go_wp2_with fail
  refine (CUTM.out _).mono ?_
  rintro e w0 ⟨rfl, rfl⟩
  go_wp2_with fail
  refine (of_any B d mc w1 (by have := HLM.out; omega) HZM.out (reads_below HRM.out HNA.out.below)).mono ?_
  rintro e w2 ⟨bb, rb, wb, rfl, hNb, hmb⟩
  have HNB := Lib.hid hNb
  have HMB := Lib.hid hmb
  have HB2 := Lib.hid (HNA.out.below.trans (hNb.below.mono HNA.out.below.size))
  clear hNb hmb
  go_wp2_with fail
  refine (CUTL.out _).mono ?_
  rintro e w0 ⟨rfl, rfl⟩
  go_wp2_with fail
  have hO := of03_any lc A c w2 (by have := HLL.out; omega) (reads_below HRL.out HB2.out)
  rw [ofL_listW lc wa HMA.out] at hO
  refine hO.mono ?_
  clear hO
  rintro e w3 ⟨Ax, cx, rfl, hB, hR, hA⟩
  obtain ⟨lx, hlx⟩ : ∃ lx, lx = (listW wa).length := ⟨_, rfl⟩
  rw [← hlx]
  have HLX := Lib.hid hlx
  have HX := Lib.hid (Fz.give hR hA)
  have HB23 := Lib.hid hB
  have HB3 := Lib.hid (HB2.out.trans (hB.mono HB2.out.size))
  clear hB hR hA hlx
  go_wp2_with fail
  refine (CUTM.out _).mono ?_
  rintro e w0 ⟨rfl, rfl⟩
  go_wp2_with fail
  have hO := of03_any mc B d w3 (by have := HLM.out; omega) (reads_below HRM.out HB3.out)
  rw [ofL_listW mc wb HMB.out] at hO
  refine hO.mono ?_
  clear hO
  rintro e w4 ⟨Ay, cy, rfl, hB, hR, hA⟩
  obtain ⟨ly, hly⟩ : ∃ ly, ly = (listW wb).length := ⟨_, rfl⟩
  rw [← hly]
  have HLY := Lib.hid hly
  have HY := Lib.hid (Fz.give hR hA)
  have HB34 := Lib.hid hB
  have HB4 := Lib.hid (HB3.out.trans (hB.mono HB3.out.size))
  clear hly
  have hlx : lx ≤ 100 := by have h := ofL_len_take lc lc.length; rw [List.take_length, ofL_listW lc wa HMA.out, ← HLX.out] at h; have := HLL.out; omega
  have hly : ly ≤ 100 := by have h := ofL_len_take mc mc.length; rw [List.take_length, ofL_listW mc wb HMB.out, ← HLY.out] at h; have := HLM.out; omega
  clear hB hR hA CUTL CUTM HRL HRM HZL HZM HLL HLM
  have ha4 : BitsAt w4 ba ra wa := ((HNA.out.at_.below HNB.out.below).below HB23.out).below HB34.out
  go_wp2_with fail
  refine (clone_any ha4).mono ?_
  rintro e w5 ⟨bw, rw, rfl, hNw⟩
  have hs12 := HNB.out.below.size
  have hs23 := HB23.out.size
  have hs34 := HB34.out.size
  have hs45 := hNw.below.size
  have hF : Fz w5 (fun i => ((FootB bb rb i ∨ FootB bw rw i) ∨ Blk Ax i) ∨ Blk Ay i) (fun W => ((BitsAt W bb rb wb ∧ BitsAt W bw rw wa) ∧ ReadsAt W Ax (ints (listW wa))) ∧ ReadsAt W Ay (ints (listW wb))) :=
    ((((((Fz.bits HNB.out.at_).below HB23.out).below HB34.out).below hNw.below).and (Fz.bits hNw.at_)).and ((HX.out.1.below HB34.out).below hNw.below)).and (HY.out.1.below hNw.below)
  have hOff : Off (fun i => ((FootB bb rb i ∨ FootB bw rw i) ∨ Blk Ax i) ∨ Blk Ay i) ba ra := by
    refine off_new HNA.out.at_ ?_
    rintro k (((h | h) | h) | h)
    · rcases h with rfl | h
      · exact HNB.out.nb
      · exact HNB.out.nr k h.symm
    · rcases h with rfl | h
      · have := hNw.nb; omega
      · have := hNw.nr k h.symm; omega
    · have := HX.out.2 k h; omega
    · have := HY.out.2 k h; omega
  have HA5 := Lib.hid (ha4.below hNw.below)
  have HB5 := Lib.hid (HB4.out.trans (hNw.below.mono HB4.out.size))
  have HSZ : Hid (w.heap.size ≤ ba ∧ ∀ k, ra = some k → w.heap.size ≤ k) := Lib.hid ⟨HNA.out.nb, HNA.out.nr⟩
  have HW0 : Hid (rw ≠ some 0) := Lib.hid fun e => by
    have h1 := hNw.nr 0 e
    have h2 := HB4.out.size
    have h3 : 0 < w.heap.size := World.block_lt_of_cell? w ⟨0, 0, none⟩ (HT.out 0 (by decide))
    omega
  have HLA : Hid (wa.length ≤ 1024) := Lib.hid HNA.out.at_.len
  have HLB : Hid (wb.length ≤ 1024) := Lib.hid HNB.out.at_.len
  clear hs12 hs23 hs34 hs45 hNw ha4 HX HY HB2 HB3 HB4 HB23 HB34 HNA HNB HMA HMB
  obtain ⟨N, I, hF1, hOff1, hNN, hI⟩ : ∃ (N : Nat → Prop) (I : World → Prop), Fz w5 N I ∧ Off N ba ra ∧ (∀ k, FootB bb rb k → N k) ∧ ∀ W, I W → ((BitsAt W bb rb wb ∧ BitsAt W bw rw wa) ∧ ReadsAt W Ax (ints (listW wa))) ∧ ReadsAt W Ay (ints (listW wb)) := ⟨_, _, hF, hOff, fun _ h => .inl (.inl (.inl h)), fun _ h => h⟩
  have HF5 := Lib.hid hF1
  have HO5 := Lib.hid hOff1
  have HI := Lib.hid hI
  have HNN := Lib.hid hNN
  clear hF hOff hI hF1 hOff1 hNN
  have hr0 : RowAt (w5.alloc (.cells #[] 3)) 3 1 (.slice (some ⟨w5.heap.size, 0, none⟩) 0 0) (some w5.heap.size) 0 [] := ⟨rfl, .inr ⟨w5.heap.size, 0, 0, #[], rfl, rfl, heap_alloc_new w5 _, Nat.le_refl _, Nat.zero_le _, by simp, by simp⟩⟩
  have HR0 := Lib.hid hr0
  clear hr0
  have HP1 : Hid ((0 + lx) * 8 ≤ 140737488355328) := Lib.hid (by omega)
  have HP2 : Hid (0 + lx ≤ maxLen) := Lib.hid (by unfold maxLen; omega)
  have HP3 : Hid ((lx + ly) * 8 ≤ 140737488355328) := Lib.hid (by omega)
  have HP4 : Hid (lx + ly ≤ maxLen) := Lib.hid (by unfold maxLen; omega)
  have HRX : Hid (ReadsAt (w5.alloc (.cells #[] 3)) Ax (ints (listW wa))) := Lib.hid (reads_below (HI.out _ HF5.out.holds).1.2 ((Below.refl _ _).alloc (Nat.le_refl _) _))
  go_wp2_with (at_builtin; (first
    | (refine wpList_append_ints _ rfl _ _ 22 3 rfl Tryd.underlying22 ret_int3 HR2.out Ay ly cy (listW wb) HLY.out.symm HRY.out rfl rfl HP3.out HP4.out ?_; intro v3 r3 w7 hR hC hN; obtain ⟨A3, c3, rfl, _⟩ := hR.shape; have HR3 := Lib.hid hR; have HC3 := Lib.hid hC; clear hR hC hN)
    | (refine wpList_append_ints _ rfl _ _ 22 3 rfl Tryd.underlying22 ret_int3 HR0.out Ax lx cx (listW wa) HLX.out.symm HRX.out rfl rfl HP1.out HP2.out ?_; intro v2 r2 w6 hR hC hN; rw [Nat.zero_add, List.nil_append] at hR; obtain ⟨A2, c2, rfl, _⟩ := hR.shape; have HR2 := Lib.hid hR; have HB6 : Hid (Below w5.heap.size w5 w6) := Lib.hid (((Below.refl _ w5).alloc (Nat.le_refl _) _).trans (hC.below (by simp) fun k e => by injection e with e; omega)); have HRY : Hid (ReadsAt w6 Ay (ints (listW wb))) := Lib.hid (reads_below (HI.out _ HF5.out.holds).2 HB6.out); have HG2 : Hid (∀ k, r2 = some k → w5.heap.size ≤ k) := Lib.hid (hN.ge (by simp) fun k e => by injection e with e; omega); clear hR hC hN)))
  have HB7 : Hid (Below w5.heap.size w5 w7) := Lib.hid (HB6.out.trans (HC3.out.below HB6.out.size fun k e => HG2.out k e.symm))
  obtain ⟨bs, hbs⟩ : ∃ bs, bs = listW wa ++ listW wb := ⟨_, rfl⟩
  have hbl : bs.length = lx + ly := by rw [hbs, List.length_append, ← HLX.out, ← HLY.out]
  have hO := of03_any bs A3 c3 w7 (by omega) (by have h := HR3.out.reads; unfold ints at h ⊢; rw [hbs, List.map_append]; exact h)
  rw [hbl] at hO
  have HBO : Hid (∀ w1, (∀ n, memW w1 n = (memW wa n || memW wb n)) → ofL bs = listW w1) := Lib.hid fun w1 h => by rw [hbs]; exact both_listW wa wb w1 HLA.out HLB.out h
  have hbol : (ofL bs).length ≤ 200 := by have := ofL_len_take bs bs.length; rw [List.take_length] at this; omega
  obtain ⟨bo, hbo⟩ : ∃ bo, bo = ofL bs := ⟨_, rfl⟩
  rw [← hbo] at hO hbol HBO
  refine hO.mono ?_
  clear hO
  rintro e w8 ⟨Ab, cb, rfl, hB, hR, hA⟩
  obtain ⟨lb, hlb⟩ : ∃ lb, lb = bo.length := ⟨_, rfl⟩
  rw [← hlb] at hbol ⊢
  have HLBO := Lib.hid hlb
  have HBR := Lib.hid (Fz.give hR hA)
  have HB78 := Lib.hid hB
  have HB58 : Hid (Below w5.heap.size w5 w8) := Lib.hid (HB7.out.trans (hB.mono HB7.out.size))
  clear hB hR hA hlb hbs hbl hbo HR0 HR2 HR3 HC3 HG2 HB6 HRX HRY HP1 HP2 HP3 HP4
  have HF8 := Lib.hid (HF5.out.below HB58.out)
  go_wp2_with fail
  go_loopw [11, 41] (fun v i wr => ∃ k : Nat, k ≤ lx ∧ i = .int .i64 (k : Nat) ∧ Gath w8 (((listW wa).take k).filter fun z => !hasL (listW wb) z) v wr) (fun _ i _ => lx - (intOf i).toNat)
  case atStart => exact ⟨0, by omega, rfl, Gath.nil w8⟩
  case round =>
    obtain ⟨k, hk, rfl, hG⟩ := hrel
    have hfl := filter_take_len (fun z => !hasL (listW wb) z) (listW wa) k
    rw [← HLX.out] at hfl
    obtain ⟨m1, hme⟩ : ∃ m1, m1 = ((listW wa).take k).filter fun z => !hasL (listW wb) z := ⟨_, rfl⟩
    rw [← hme] at hG hfl
    have hm3 : m1.length ≤ 300000 := by omega
    have HB1 : Hid ((m1.length + 1) * 8 ≤ 140737488355328) := Lib.hid (bd8' hm3)
    have HB2 : Hid (m1.length < maxLen) := Lib.hid (bdm' hm3)
    obtain ⟨Av, cv, rfl⟩ := hG.shape
    obtain ⟨r, hrow, hrn⟩ := hG.row
    have HME := Lib.hid hme
    have HG := Lib.hid hG
    have HROW := Lib.hid hrow
    have HRN := Lib.hid hrn
    clear hme hG hrow hrn hm3
    by_cases hlt : k < lx
    · have hlt' : k < (listW wa).length := by rw [← HLX.out]; exact hlt
      obtain ⟨x, hxe⟩ : ∃ x, x = (listW wa)[k] := ⟨_, rfl⟩
      have hFw := HF8.out.below HG.out.below
      obtain ⟨g, off, rfl, hg, hx⟩ := reads_len0 (HI.out _ hFw.holds).1.2 k hlt' x hxe
      have HRYw := Lib.hid (HI.out _ hFw.holds).2
      have hx63 : x ≤ 9223372036854775807 := by
        obtain ⟨j, hj, h⟩ := (mem_listW wa x).1 (by rw [hxe]; exact List.getElem_mem hlt')
        have := memW_lt HLA.out h
        omega
      have HX := Lib.hid hxe
      clear hxe hFw
      have hH := has03_any (listW wb) Ay cy x wr (by have := HLY.out; omega) HRYw.out
      rw [← HLY.out] at hH
      have HH := Lib.hid hH
      clear hH hx63
      cases q : hasL (listW wb) x with
      | true =>
        rw [q] at HH
        have HQ := Lib.hid q
        clear q
        go_wp2_with fail
        refine HH.out.mono ?_
        rintro e wz ⟨rfl, rfl⟩
        go_wp2_with fail
        go_roundw
        case rel => exact ⟨k + 1, by omega, by go_num, by rw [take_skip (fun z => !hasL (listW wb) z) (listW wa) k hlt' x HX.out (by simp only [HQ.out, Bool.not_true]), ← HME.out]; exact HG.out⟩
        case measure => simp [intOf]; omega
      | false =>
        rw [q] at HH
        have HQ := Lib.hid q
        clear q
        go_wp2_with fail
        refine HH.out.mono ?_
        rintro e wz ⟨rfl, rfl⟩
        go_wp2_with (at_builtin; refine wpList_append_one _ rfl _ _ 22 3 (.int .i64 0) 8 rfl Tryd.underlying22 ret_int3 rfl HROW.out _ rfl rfl rfl HB1.out HB2.out ?_; intro v' r' w' hR' hC hN; obtain ⟨A', c', rfl, _⟩ := hR'.shape; have HR' := Lib.hid hR'; have HC := Lib.hid hC; have HN := Lib.hid hN; clear hR' hC hN)
        go_roundw
        case rel => exact ⟨k + 1, by omega, by go_num, by rw [take_keep (fun z => !hasL (listW wb) z) (listW wa) k hlt' x HX.out (by simp only [HQ.out, Bool.not_false]), ← HME.out]; exact HG.out.add x HRN.out HR'.out HC.out HN.out⟩
        case measure => simp [intOf]; omega
    · obtain rfl : lx = k := by omega
      have he : m1 = (listW wa).filter fun z => !hasL (listW wb) z := by rw [HME.out, HLX.out, List.take_length]
      have HLE : Hid (∀ w1, (∀ n, memW w1 n = (memW wa n && !memW wb n)) → m1 = listW w1) := Lib.hid fun w1 h => by rw [he]; exact less_listW wa wb w1 h
      obtain ⟨Al, cl, hA, hB, hR, hN⟩ := HG.out.give (A0 := none)
      injection hA with hA
      injection hA with hA _ hC
      obtain rfl := hA.symm
      obtain rfl := hC.symm
      obtain ⟨ll, hll⟩ : ∃ ll, ll = m1.length := ⟨_, rfl⟩
      rw [← hll] at hfl ⊢
      have HLL := Lib.hid hll
      have HLR := Lib.hid (Fz.give hR hN)
      have HB8R := Lib.hid hB
      have HB5R : Hid (Below w5.heap.size w5 wr) := Lib.hid (HB58.out.trans (hB.mono HB58.out.size))
      clear he hB hR hN hlt hk HME HG HROW HRN HB1 HB2 hll
      have hsa : StA w wr (fun i => (N i ∨ Blk Ab i) ∨ Blk Al i) (fun W => (I W ∧ ReadsAt W Ab (ints bo)) ∧ ReadsAt W Al (ints m1)) ba ra wa := by
        have hs57 := HB7.out.size
        have hs58 := HB58.out.size
        refine ⟨((HF8.out.and HBR.out.1).below HB8R.out).and HLR.out.1, (HO5.out.or (off_new HA5.out fun k h => by have := HBR.out.2 k h; omega)).or (off_new HA5.out fun k h => by have := HLR.out.2 k h; omega), HA5.out.below HB5R.out, HB5.out.trans (HB5R.out.mono HB5.out.size), ?_⟩
        rintro k (rfl | e)
        · exact HSZ.out.1
        · exact HSZ.out.2 k e.symm
      obtain ⟨N2, I2, hs2, hN2, hI2⟩ : ∃ (N2 : Nat → Prop) (I2 : World → Prop), StA w wr N2 I2 ba ra wa ∧ (∀ k, FootB bb rb k → N2 k) ∧ ∀ W, I2 W → (BitsAt W bb rb wb ∧ BitsAt W bw rw wa) ∧ ReadsAt W Ax (ints (listW wa)) ∧ ReadsAt W Ay (ints (listW wb)) ∧ ReadsAt W Ab (ints bo) ∧ ReadsAt W Al (ints m1) :=
        ⟨_, _, hsa, fun k h => .inl (.inl (HNN.out k h)), fun W h => ⟨(HI.out W h.1.1).1.1, (HI.out W h.1.1).1.2, (HI.out W h.1.1).2, h.1.2, h.2⟩⟩
      have HS := Lib.hid hs2
      have HN2 := Lib.hid hN2
      have HI2 := Lib.hid hI2
      clear hsa hs2 hN2 hI2 HF8 HBR HB8R HLR HO5 HA5 HB5 HB5R HB58 HB7 HF5 HI HNN HSZ HB78
      go_wp2_with fail
      have hJ := join_any HS.out.bits (HI2.out _ HS.out.fz.holds).1.1 (HS.out.apart HN2.out)
      obtain ⟨t0, ht0⟩ : ∃ t0, t0 = newTo wa wb wb.length := ⟨_, rfl⟩
      rw [← ht0] at hJ
      refine hJ.mono ?_
      clear hJ
      rintro e x1 ⟨rfl, r1, ws1, hg, hm1⟩
      have hq : (!(t0 == decide (lx < lb))) = false := by
        rw [ht0, join_gain wa wb ws1 hm1, HLBO.out, HBO.out ws1 hm1, HLX.out]; simp
      have HB1 := Lib.hid (HBO.out ws1 hm1)
      have HM1 := Lib.hid hm1
      have HS1 := Lib.hid (HS.out.grow hg)
      clear hg hm1 ht0 HS HBO
      go_wp2_with fail
      have hO := of_any Ab cb bo x1 (by have := HLBO.out; omega) (by rw [HB1.out]; exact i64_listW ws1 HS1.out.bits.len) (HI2.out _ HS1.out.fz.holds).2.2.2.1
      rw [← HLBO.out] at hO
      refine hO.mono ?_
      clear hO
      rintro e x2 ⟨bq, rq, wq, rfl, hn, hmq⟩
      have hSame := same_any (HS1.out.below hn.below).bits hn.at_
      rw [sameTo_listW ws1 wq HS1.out.bits.lt hn.at_.lt, (listW_ext ws1 wq).2 (fun k => by rw [hmq, HB1.out, ofSet_listW ws1 HS1.out.bits.len]), sameL_refl] at hSame
      have HS2 := Lib.hid (HS1.out.below hn.below)
      have HSM := Lib.hid hSame
      clear hn hmq hSame HS1
      go_wp2_with fail
      refine HSM.out.mono ?_
      rintro e x3 ⟨rfl, hb⟩
      have HS3 := Lib.hid (HS2.out.below hb)
      clear hb HS2 HSM
      go_wp2_with fail
      have hJ := join_any HS3.out.bits (HI2.out _ HS3.out.fz.holds).1.1 (HS3.out.apart HN2.out)
      rw [join_again wa wb ws1 HM1.out] at hJ
      refine hJ.mono ?_
      clear hJ
      rintro e x4 ⟨rfl, r2, ws2, hg, hm2⟩
      have HS4 := Lib.hid (HS3.out.grow hg)
      have HM2 : Hid (∀ n, memW ws2 n = (memW wa n || memW wb n)) := Lib.hid fun n => by rw [hm2, HM1.out]; cases memW wa n <;> cases memW wb n <;> rfl
      have HBW : Hid (bo = listW ws2) := Lib.hid (by rw [HB1.out]; exact (listW_ext ws1 ws2).2 fun n => by rw [HM2.out, HM1.out])
      clear hg hm2 HS3 HM1 HB1
      go_wp2_with fail
      refine (join_self HS4.out.bits).mono ?_
      rintro e x5 ⟨rfl, hg⟩
      have HS5 := Lib.hid (HS4.out.grow hg)
      clear hg HS4
      go_wp2_with fail
      refine (clone_any (HI2.out _ HS5.out.fz.holds).1.2).mono ?_
      rintro e x6 ⟨bc, rc, rfl, hn⟩
      have hc0 : rc ≠ some 0 := fun e => by
        have h1 := hn.nr 0 e
        have h2 := HS5.out.bits.blt
        omega
      have HC0 := Lib.hid hc0
      have hs6 := HS5.out.next hn
      obtain ⟨N3, I3, hs6, hN3, hI3⟩ : ∃ (N3 : Nat → Prop) (I3 : World → Prop), StA w x6 N3 I3 bc rc wa ∧ (∀ k, FootB bb rb k → N3 k) ∧ ∀ W, I3 W → BitsAt W ba r2 ws2 ∧ (BitsAt W bb rb wb ∧ BitsAt W bw rw wa) ∧ ReadsAt W Ax (ints (listW wa)) ∧ ReadsAt W Ay (ints (listW wb)) ∧ ReadsAt W Ab (ints bo) ∧ ReadsAt W Al (ints m1) :=
        ⟨_, _, hs6, fun k h => .inl (HN2.out k h), fun W h => ⟨h.2, HI2.out W h.1⟩⟩
      have HS6 := Lib.hid hs6
      have HN3 := Lib.hid hN3
      have HI3 := Lib.hid hI3
      clear hn hs6 hN3 hI3 HS5 HN2 HI2 hc0
      go_wp2_with fail
      have hM := minus_any HS6.out.bits (HI3.out _ HS6.out.fz.holds).2.1.1 (HS6.out.apart HN3.out)
      obtain ⟨t1, ht1⟩ : ∃ t1, t1 = hitW wa wb := ⟨_, rfl⟩
      rw [← ht1] at hM
      refine hM.mono ?_
      clear hM
      rintro e x7 ⟨rfl, wc1, hg, hm⟩
      have hq1 : (!(t1 == decide (ll < lx))) = false := by
        rw [ht1, minus_loss wa wb wc1 HLA.out hm, HLL.out, HLE.out wc1 hm, HLX.out]; simp
      have HE1 := Lib.hid (HLE.out wc1 hm)
      have HMC := Lib.hid hm
      have HS7 := Lib.hid (HS6.out.grow hg)
      clear hg hm ht1 HS6 HLE
      go_wp2_with fail
      have hO := of_any Al cl m1 x7 (by have := HLL.out; omega) (by rw [HE1.out]; exact i64_listW wc1 HS7.out.bits.len) (HI3.out _ HS7.out.fz.holds).2.2.2.2.2
      rw [← HLL.out] at hO
      refine hO.mono ?_
      clear hO
      rintro e x8 ⟨bq2, rq2, wq2, rfl, hn, hmq⟩
      have hSame := same_any (HS7.out.below hn.below).bits hn.at_
      rw [sameTo_listW wc1 wq2 HS7.out.bits.lt hn.at_.lt, (listW_ext wc1 wq2).2 (fun k => by rw [hmq, HE1.out, ofSet_listW wc1 HS7.out.bits.len]), sameL_refl] at hSame
      have HS8 := Lib.hid (HS7.out.below hn.below)
      have HSM := Lib.hid hSame
      clear hn hmq hSame HS7
      go_wp2_with fail
      refine HSM.out.mono ?_
      rintro e x9 ⟨rfl, hb⟩
      have HS9 := Lib.hid (HS8.out.below hb)
      clear hb HS8 HSM
      go_wp2_with fail
      have hM := minus_any HS9.out.bits (HI3.out _ HS9.out.fz.holds).2.1.1 (HS9.out.apart HN3.out)
      rw [minus_again wa wb wc1 HS9.out.bits.len HMC.out] at hM
      refine hM.mono ?_
      clear hM
      rintro e y1 ⟨rfl, wc2, hg, hm⟩
      have HT1 := Lib.hid (HS9.out.grow hg)
      have HE2 : Hid (m1 = listW wc2) := Lib.hid (by rw [HE1.out]; exact (listW_ext wc1 wc2).2 fun n => by rw [hm, HMC.out]; cases memW wa n <;> cases memW wb n <;> rfl)
      clear hg hm HS9 HMC HE1
      go_wp2_with fail
      refine (all_any bw rw wa y1 (HI3.out _ HT1.out.fz.holds).2.1.2 HW0.out (HT.out.below HT1.out.bel)).mono ?_
      rintro e y2 ⟨Ag, cg, rfl, hRg, hB⟩
      rw [← HLX.out]
      have HT2 := Lib.hid (HT1.out.below hB)
      have HRG := Lib.hid hRg
      clear hRg hB HT1
      go_wp2_with fail
      have hAl := all_any bc rc wc2 y2 HT2.out.bits HC0.out (HT.out.below HT2.out.bel)
      rw [← HE2.out, ← HLL.out] at hAl
      refine hAl.mono ?_
      clear hAl
      rintro e y3 ⟨Ad, cd, rfl, hRd, hB⟩
      have HT3 := Lib.hid (HT2.out.below hB)
      have HRG3 := Lib.hid (reads_below HRG.out hB)
      have HRD := Lib.hid hRd
      clear hRd hB HT2 HRG
      go_wp2_with fail
      have hS := same03_any (listW wa) (listW wa) Ag Ax cg cx y3 (by have := HLX.out; omega) (by have := HLX.out; omega) HRG3.out (HI3.out _ HT3.out.fz.holds).2.2.1
      rw [← HLX.out, sameL_refl] at hS
      refine hS.mono ?_
      clear hS
      rintro e y4 ⟨rfl, hB⟩
      have HT4 := Lib.hid (HT3.out.below hB)
      have HRD4 := Lib.hid (reads_below HRD.out hB)
      clear hB HT3 HRG3 HRD
      go_wp2_with fail
      have hS := same03_any m1 m1 Ad Al cd cl y4 (by have := HLL.out; omega) (by have := HLL.out; omega) HRD4.out (HI3.out _ HT4.out.fz.holds).2.2.2.2.2
      rw [← HLL.out, sameL_refl] at hS
      refine hS.mono ?_
      clear hS
      rintro e y5 ⟨rfl, hB⟩
      have HT5 := Lib.hid (HT4.out.below hB)
      clear hB HT4 HRD4
      go_wp2_with fail
      have hi5 := HI3.out _ HT5.out.fz.holds
      have hS := same_any hi5.1 hi5.2.1.1
      rw [sameTo_listW ws2 wb hi5.1.lt hi5.2.1.1.lt, ← HBW.out] at hS
      obtain ⟨t2, ht2⟩ : ∃ t2, t2 = sameL bo (listW wb) := ⟨_, rfl⟩
      rw [← ht2] at hS
      have HT20 := Lib.hid ht2
      clear hi5 ht2
      refine hS.mono ?_
      clear hS
      rintro e y6 ⟨rfl, hB⟩
      have HT6 := Lib.hid (HT5.out.below hB)
      clear hB HT5
      go_wp2_with fail
      have hi6 := HI3.out _ HT6.out.fz.holds
      have hS := same03_any bo (listW wb) Ab Ay cb cy y6 (by have := HLBO.out; omega) (by have := HLY.out; omega) hi6.2.2.2.2.1 hi6.2.2.2.1
      rw [← HLBO.out, ← HLY.out, ← HT20.out] at hS
      clear hi6
      refine hS.mono ?_
      clear hS
      rintro e y7 ⟨rfl, hB⟩
      have HT7 := Lib.hid (HT6.out.below hB)
      have hq2 : (t2 == t2) = true := by simp
      clear hB HT6
      go_wp2_with fail
      have hM := minus_self HT7.out.bits
      rw [hit_self wc2 HT7.out.bits.len, ← HE2.out, ← HLL.out] at hM
      by_cases h0 : 0 < ll
      · rw [decide_eq_true h0] at hM
        refine hM.mono ?_
        clear hM
        rintro e y8 ⟨rfl, wc3, hg, hm⟩
        have hL := len_any (HT7.out.grow hg).bits
        rw [lenW_listW, list_none wc3 (fun n => by rw [hm]; cases memW wc2 n <;> rfl)] at hL
        have HT8 := Lib.hid (HT7.out.grow hg)
        have HL := Lib.hid hL
        clear hg hm hL HT7
        go_wp2_with fail
        refine HL.out.mono ?_
        rintro e y9 ⟨rfl, rfl⟩
        go_wp2_with fail
        refine (lives_any _).mono ?_
        rintro e y9 ⟨rfl, hb⟩
        have HZ := Lib.hid (HT8.out.below hb).bel
        clear hb
        go_wp2_with fail
        go_ret
        exact ⟨rfl, HZ.out⟩
      · rw [decide_eq_false h0] at hM
        refine hM.mono ?_
        clear hM
        rintro e y8 ⟨rfl, wc3, hg, hm⟩
        have hL := len_any (HT7.out.grow hg).bits
        rw [lenW_listW, list_none wc3 (fun n => by rw [hm]; cases memW wc2 n <;> rfl)] at hL
        have HT8 := Lib.hid (HT7.out.grow hg)
        have HL := Lib.hid hL
        clear hg hm hL HT7
        go_wp2_with fail
        refine HL.out.mono ?_
        rintro e y9 ⟨rfl, rfl⟩
        go_wp2_with fail
        refine (lives_any _).mono ?_
        rintro e y9 ⟨rfl, hb⟩
        have HZ := Lib.hid (HT8.out.below hb).bel
        clear hb
        go_wp2_with fail
        go_ret
        exact ⟨rfl, HZ.out⟩
end Go.Proofs.YtdnlgcomhgnegaaDoor
