/- PickKeeps: the walk of the law. Written by mkvkeep.py. -/
import Derived.Deep.RegionHeld3
import Derived.Test.YtnfneinonkpmeaaLv20
import Derived.Test.YtnfneinonkpmeaaLv35
import Derived.Test.YtnfneinonkpmeaaLv34
import Derived.Test.YtnfneinonkpmeaaLv21
import Derived.Test.YtnfneinonkpmeaaLv24
import Derived.Test.YtnfneinonkpmeaaLv27
namespace Go.Proofs.Ytnfneinonkpmeaa
open Go.RowKit Go.Maps
variable {T : Nat → Prop}
theorem cellK {W W' : World} (hb : Below W.heap.size W W') {a : Addr} {v : Value} (h : W.cell? a = some v) : W'.cell? a = some v := (hb.cell (p := a) (World.block_lt_of_cell? W a h)).trans h
theorem drewK (W : World) : Below W.heap.size W W.drew := ⟨rfl, rfl, rfl, Nat.le_refl _, fun _ _ => rfl⟩
abbrev zres : Array Value := #[.int .i64 0, .int .i32 0, .slice none 0 0, .int .i64 0, .int .i64 0]
theorem allocK (W : World) (c : Array Value) (t : TypeId) : Below W.heap.size W (W.alloc (.cells c t)) := (Below.refl _ _).alloc (Nat.le_refl _) _
theorem alA {W : World} {c : Array Value} {t : TypeId} {a : Addr} {v : Value} (h : W.cell? a = some v) : (W.alloc (.cells c t)).cell? a = some v := cellK (allocK W c t) h
theorem kbA {W0 W : World} {c : Array Value} {t : TypeId} (h : Below W0.heap.size W0 W) : Below W0.heap.size W0 (W.alloc (.cells c t)) := h.alloc h.size _
theorem kbc {W : World} {q : Nat} {a b c d e : Value} {t : TypeId} (h : W.heap[q]? = some (.cells #[a, b, c, d, e] t (0, 0))) : W.cell? ⟨q, 0, none⟩ = some a ∧ W.cell? ⟨q, 1, none⟩ = some b ∧ W.cell? ⟨q, 2, none⟩ = some c ∧ W.cell? ⟨q, 3, none⟩ = some d ∧ W.cell? ⟨q, 4, none⟩ = some e ∧ (∀ j, W.frozen? ⟨q, j, none⟩ = false) := ⟨cell_of_row _ _ _ _ _ _ h, cell_of_row _ _ _ _ _ _ h, cell_of_row _ _ _ _ _ _ h, cell_of_row _ _ _ _ _ _ h, cell_of_row _ _ _ _ _ _ h, fun _ => frozen_of_row _ _ _ _ _ h⟩
theorem kbs1 {W W' : World} {c : Array Value} {t : TypeId} (h : Below (W.alloc (.cells c t)).heap.size (W.alloc (.cells c t)) W') : Below W.heap.size W W' := (allocK W c t).trans (h.mono (allocK W c t).size)
theorem kbs2 {W W' : World} {c c' : Array Value} {t t' : TypeId} (h : Below ((W.alloc (.cells c t)).alloc (.cells c' t')).heap.size ((W.alloc (.cells c t)).alloc (.cells c' t')) W') : Below W.heap.size W W' := kbs1 (kbs1 h)
theorem kbz1 {W W' : World} {c : Array Value} {t : TypeId} (h : Below (W.alloc (.cells c t)).heap.size (W.alloc (.cells c t)) W') : W'.heap[W.heap.size]? = some (.cells c t (0, 0)) := (h.block _ (by simp)).trans (heap_alloc_new W _)
theorem kbz2 {W W' : World} {c c' : Array Value} {t t' : TypeId} (h : Below ((W.alloc (.cells c t)).alloc (.cells c' t')).heap.size ((W.alloc (.cells c t)).alloc (.cells c' t')) W') : W'.heap[W.heap.size]? = some (.cells c t (0, 0)) := kbz1 (kbs1 h)
theorem kbz3 {W W' : World} {c c' : Array Value} {t t' : TypeId} (h : Below ((W.alloc (.cells c t)).alloc (.cells c' t')).heap.size ((W.alloc (.cells c t)).alloc (.cells c' t')) W') : W'.heap[W.heap.size + 1]? = some (.cells c' t' (0, 0)) := by
  have := kbz1 h
  rwa [show (W.alloc (.cells c t)).heap.size = W.heap.size + 1 from by simp] at this
theorem set5c {W : World} {q p o : Nat} {a b c d e v : Value} (hne : p ≠ q) (h : W.cell? ⟨p, o, none⟩ = some v) : (((((W.setCell ⟨q, 0, none⟩ a).setCell ⟨q, 1, none⟩ b).setCell ⟨q, 2, none⟩ c).setCell ⟨q, 3, none⟩ d).setCell ⟨q, 4, none⟩ e).cell? ⟨p, o, none⟩ = some v :=
  (Chg.store _ q 4 e).cell (p := ⟨p, o, none⟩) ((Chg.store _ q 3 d).cell (p := ⟨p, o, none⟩) ((Chg.store _ q 2 c).cell (p := ⟨p, o, none⟩) ((Chg.store _ q 1 b).cell (p := ⟨p, o, none⟩) ((Chg.store W q 0 a).cell (p := ⟨p, o, none⟩) h hne) hne) hne) hne) hne
theorem drA {W : World} {a : Addr} {v : Value} (h : W.cell? a = some v) : W.drew.cell? a = some v := h
theorem kbD {W0 W : World} (h : Below W0.heap.size W0 W) : Below W0.heap.size W0 W.drew := h.trans ((drewK W).mono h.size)
theorem kbd {W W' : World} (h : Below W.drew.heap.size W.drew W') : Below W.heap.size W W' := (drewK W).trans (h.mono (Nat.le_refl _))
theorem kbo {W : World} {q : Nat} {o : Obj} (o' : Obj) (h : W.heap[q]? = some o) : (W.alloc o').heap[q]? = some o := (heap_alloc_old W _ (lt_of_heap h)).trans h
theorem reads_kept7 {S : Nat → Prop} {W W' : World} {A : Option Addr} {xs : List Value} (h : ReadsAt W A xs) (hc : Chg S W W') (hS : ∀ g off, A = some ⟨g, off, none⟩ → 0 < xs.length → ¬ S g) : ReadsAt W' A xs := fun hp => by
  obtain ⟨g, off, e, hg, hx⟩ := h hp
  exact ⟨g, off, e, Nat.lt_of_lt_of_le hg hc.size, fun j u hu => hc.cell (p := ⟨g, off + j, none⟩) (hx j u hu) (hS g off e hp)⟩
structure E7 (w5 : World) (q8 q9 : Nat) (c8 c9 : Array Value) (At : Option Addr) (xs : List Value) (Bt : Option Addr) (ys : List Value) (W : World) : Prop where
  below : Below w5.heap.size w5 W
  b8 : W.heap[q8]? = some (.cells c8 45 (0, 0))
  b9 : W.heap[q9]? = some (.cells c9 45 (0, 0))
  ta : ReadsAt W At xs
  tb : ReadsAt W Bt ys
theorem E7.alloc {w5 W : World} {q8 q9 : Nat} {c8 c9 : Array Value} {At Bt : Option Addr} {xs ys : List Value} (o : Obj) (h : E7 w5 q8 q9 c8 c9 At xs Bt ys W) : E7 w5 q8 q9 c8 c9 At xs Bt ys (W.alloc o) := by
  have hb : Below W.heap.size W (W.alloc o) := (Below.refl _ _).alloc (Nat.le_refl _) _
  exact ⟨h.below.trans (hb.mono h.below.size), kbo o h.b8, kbo o h.b9, readsBelow7 h.ta hb, readsBelow7 h.tb hb⟩
theorem set5_chg7 (W : World) (q : Nat) (a b c d e : Value) : Chg (fun k => k = q) W (((((W.setCell ⟨q, 0, none⟩ a).setCell ⟨q, 1, none⟩ b).setCell ⟨q, 2, none⟩ c).setCell ⟨q, 3, none⟩ d).setCell ⟨q, 4, none⟩ e) :=
  ((((((Chg.refl (fun k => k = q) W).setCell ⟨q, 0, none⟩ (fun _ => rfl) a).setCell ⟨q, 1, none⟩ (fun _ => rfl) b).setCell ⟨q, 2, none⟩ (fun _ => rfl) c).setCell ⟨q, 3, none⟩ (fun _ => rfl) d).setCell ⟨q, 4, none⟩ (fun _ => rfl) e)
theorem E7.set8 {w5 W : World} {q8 q9 : Nat} {a0 b0 c0 d0 e0 : Value} {c9 : Array Value} {At Bt : Option Addr} {xs ys : List Value} (a b c d e : Value) (h : E7 w5 q8 q9 #[a0, b0, c0, d0, e0] c9 At xs Bt ys W) (hne : q8 ≠ q9) (hlo : w5.heap.size ≤ q8)
    (hA : ∀ g off, At = some ⟨g, off, none⟩ → 0 < xs.length → ¬ g = q8) (hB : ∀ g off, Bt = some ⟨g, off, none⟩ → 0 < ys.length → ¬ g = q8) :
    E7 w5 q8 q9 #[a, b, c, d, e] c9 At xs Bt ys (((((W.setCell ⟨q8, 0, none⟩ a).setCell ⟨q8, 1, none⟩ b).setCell ⟨q8, 2, none⟩ c).setCell ⟨q8, 3, none⟩ d).setCell ⟨q8, 4, none⟩ e) := by
  have hc := set5_chg7 W q8 a b c d e
  exact ⟨h.below.trans (hc.below h.below.size fun k hk => by rw [hk]; exact hlo), set5_box h.b8, hc.heap h.b9 (fun e => hne e.symm), reads_kept7 h.ta hc hA, reads_kept7 h.tb hc hB⟩
theorem E7.set9 {w5 W : World} {q8 q9 : Nat} {a0 b0 c0 d0 e0 : Value} {c8 : Array Value} {At Bt : Option Addr} {xs ys : List Value} (a b c d e : Value) (h : E7 w5 q8 q9 c8 #[a0, b0, c0, d0, e0] At xs Bt ys W) (hne : q8 ≠ q9) (hlo : w5.heap.size ≤ q9)
    (hA : ∀ g off, At = some ⟨g, off, none⟩ → 0 < xs.length → ¬ g = q9) (hB : ∀ g off, Bt = some ⟨g, off, none⟩ → 0 < ys.length → ¬ g = q9) :
    E7 w5 q8 q9 c8 #[a, b, c, d, e] At xs Bt ys (((((W.setCell ⟨q9, 0, none⟩ a).setCell ⟨q9, 1, none⟩ b).setCell ⟨q9, 2, none⟩ c).setCell ⟨q9, 3, none⟩ d).setCell ⟨q9, 4, none⟩ e) := by
  have hc := set5_chg7 W q9 a b c d e
  exact ⟨h.below.trans (hc.below h.below.size fun k hk => by rw [hk]; exact hlo), hc.heap h.b8 hne, set5_box h.b9, reads_kept7 h.ta hc hA, reads_kept7 h.tb hc hB⟩
theorem kbn (W : World) (c : Array Value) (t : TypeId) : (W.alloc (.cells c t)).heap[W.heap.size]? = some (.cells c t (0, 0)) := heap_alloc_new W _
theorem kbn1 (W : World) (o : Obj) (c : Array Value) (t : TypeId) : ((W.alloc o).alloc (.cells c t)).heap[W.heap.size + 1]? = some (.cells c t (0, 0)) := by
  have := kbn (W.alloc o) c t
  rwa [show (W.alloc o).heap.size = W.heap.size + 1 from by simp] at this
def SelK (q0 qx : Nat) (u0 u1 v0 v1 : Value) (W : World) : Prop := W.cell? ⟨q0, 0, none⟩ = some u0 ∧ W.cell? ⟨q0, 1, none⟩ = some u1 ∧ W.cell? ⟨qx, 0, none⟩ = some v0 ∧ W.cell? ⟨qx, 1, none⟩ = some v1
theorem SelK.below {q0 qx : Nat} {u0 u1 v0 v1 : Value} {W W' : World} (h : SelK q0 qx u0 u1 v0 v1 W) (hb : Below W.heap.size W W') : SelK q0 qx u0 u1 v0 v1 W' := ⟨cellK hb h.1, cellK hb h.2.1, cellK hb h.2.2.1, cellK hb h.2.2.2⟩
theorem wrap64_small (y : Int) (h5 : 0 ≤ y) (h6 : y ≤ 100000) : IntKind.wrap .i64 y = y := by
  have h7 : (2 : Int) ^ IntKind.bits .i64 = 18446744073709551616 := by decide
  have h8 : (2 : Int) ^ (IntKind.bits .i64 - 1) = 9223372036854775808 := by decide
  unfold IntKind.wrap
  rw [h7, h8]
  have h9 : y % 18446744073709551616 = y := Int.emod_eq_of_lt h5 (by omega)
  rw [h9]
  have h10 : decide (y ≥ 9223372036854775808) = false := decide_eq_false (by omega)
  simp [h10]
theorem nums_of {w : World} {m : Mid} {A B : Option Addr} {c d : Nat} (h : RdMid w T m A c B d) : ∀ f ∈ m.fns, ∀ b ∈ f.blocks, ∀ x ∈ b.ins, I32 x.num := by
  intro f hf b hb x hx
  obtain ⟨k, hk, rfl⟩ := List.getElem_of_mem hf
  obtain ⟨_, _, _, _, _, _, _, hsub, _⟩ := fn_at h.fns k hk _ rfl
  obtain ⟨j, hj, rfl⟩ := List.getElem_of_mem hb
  obtain ⟨_, _, _, _, _, _, _, hsub2, _⟩ := blk_at hsub j hj _ rfl
  obtain ⟨i, hi, rfl⟩ := List.getElem_of_mem hx
  obtain ⟨_, _, _, _, _, _, hok, _⟩ := ins_at hsub2 i hi _ rfl
  exact hok.num
theorem pick_vmain {m : Mid} (hm : MayV m) (hl : LightV m) (hn : ∀ f ∈ m.fns, ∀ b ∈ f.blocks, ∀ x ∈ b.ins, I32 x.num) : VMain (pickP m) := by
  obtain ⟨i, hi, h1, h2⟩ := hm.main
  refine ⟨pick_vpx hm hl hn, hm.ng, fun k hk => (hm.globs k hk).size, i, by simpa [pickP] using hi, by rw [vfnAt_pick]; exact h1, ?_⟩
  have h3 := (hm.fns i hi).fn.params.1
  have e : (pickP m).fns[i]'(by simpa [pickP] using hi) = pickFn m.fns[i] := by simp [pickP]
  rw [e]
  show m.fns[i].params = 0
  omega
set_option maxHeartbeats 8000000 in
set_option maxRecDepth 100000 in
theorem pickKeeps_any (m : Mid) (A B : Option Addr) (c d : Nat) (inp : List Int) (Ai : Option Addr) (ci : Nat) (fuel : Int) (w : World) (h : RdMid w T m A c B d) (hci : inp.length ≤ ci) (hcm : ci ≤ maxLen) (hiw : ∀ z ∈ inp, I32 z) (hi : ReadsAt w Ai (i32s inp)) :
    Calls Try.prog 4 #[.agg #[.slice A m.globals.length c, .slice B m.fns.length d], .slice Ai inp.length ci, .int .i64 fuel] w fun e w' => e = .returned (.bool true) ∧ Below w.heap.size w w' := by
  have hlf : m.fns.length ≤ 9223372036854775807 := by have := h.nfns; unfold maxLen at this; omega
  obtain ⟨w1, hw1, hb1, hlt1, hc⟩ := box_new w #[.slice A m.globals.length c, .slice B m.fns.length d] 25
  have hc0 := hc 0
  have hc1 := hc 1
  simp only [List.getElem?_toArray, List.getElem?_cons_succ, List.getElem?_cons_zero] at hc0 hc1
  have HM := Lib.hid (mid_below h hb1)
  have HB1 := Lib.hid hb1
  have HW := Lib.hid hw1
  have HCI := Lib.hid (And.intro hci hcm)
  have HIW := Lib.hid hiw
  have HI := Lib.hid hi
  clear h hb1 hc hw1 hci hcm hiw hi
  obtain ⟨ip, hip⟩ : ∃ ip, ip = inp.take 30 := ⟨_, rfl⟩
  obtain ⟨n, hn⟩ : ∃ n, n = inp.length := ⟨_, rfl⟩
  have hil : ip.length = min n 30 := by rw [hip, hn, List.length_take, Nat.min_comm]
  have HIP : Hid (ReadsAt w Ai (i32s ip)) := Lib.hid (by
    intro hp
    obtain ⟨g, off, e, hg, hx⟩ := HI.out (by rw [i32s_len] at hp ⊢; rw [hip, List.length_take] at hp; omega)
    refine ⟨g, off, e, hg, fun j u hu => hx j u ?_⟩
    have h1 : i32s inp = i32s (inp.take 30) ++ i32s (inp.drop 30) := by unfold i32s; rw [← List.map_append, List.take_append_drop]
    rw [hip] at hu
    rw [h1, List.getElem?_append_left (List.getElem?_eq_some_iff.1 hu).1]
    exact hu)
  have HIPW : Hid (∀ z ∈ ip, I32 z) := Lib.hid (by rw [hip]; exact fun z hz => HIW.out z (List.mem_of_mem_take hz))
  have HCN : Hid (n ≤ ci ∧ n ≤ maxLen ∧ ci ≤ maxLen) := Lib.hid (by have := HCI.out; omega)
  obtain ⟨fu, hfu⟩ : ∃ fu, fu = cutF fuel := ⟨_, rfl⟩
  have hfb : 0 ≤ fu ∧ fu ≤ 400 := by rw [hfu]; exact cutF_ok fuel
  have HFB := Lib.hid hfb
  have HFU := Lib.hid hfu
  have HIL := Lib.hid hil
  rw [← hn]
  clear hip hn hil hfb hfu HI HCI HIW
  go_enter Try.func4, Try.ntmps4
  go_wp2_with fail
  rw [← HW.out]
  refine (Small_any m A B c d _ HM.out).mono ?_
  rintro e w2 ⟨t, rfl, hB2, hv⟩
  have d0 := (hB2.cell (p := ⟨w.heap.size, 0, none⟩) hlt1).trans hc0
  have d1 := (hB2.cell (p := ⟨w.heap.size, 1, none⟩) hlt1).trans hc1
  have HB2 : Hid (Below w.heap.size w w2) := Lib.hid (HB1.out.trans (hB2.mono HB1.out.size))
  have HM2 := Lib.hid (mid_below HM.out hB2)
  have HV := Lib.hid hv
  have hlt2 : w.heap.size < w2.heap.size := Nat.lt_of_lt_of_le hlt1 hB2.size
  clear hB2 hv hc0 hc1
  cases t with
  | false =>
    go_wp2_with fail
    refine (lives_any _).mono ?_
    rintro e w3 ⟨rfl, hB3⟩
    have HB3 : Hid (Below w.heap.size w w3) := Lib.hid (HB2.out.trans (hB3.mono HB2.out.size))
    clear hB3
    go_wp2_with fail
    go_ret
    exact ⟨rfl, HB3.out⟩
  | true =>
    have HSM : Hid (SmallV m) := Lib.hid (HV.out rfl)
    clear HV
    go_wp2_with fail
    refine (cut_any n fuel Ai ci w2 HCN.out.1 HCN.out.2.1 HCN.out.2.2).mono ?_
    rintro e w2' ⟨rfl, he⟩
    obtain rfl : w2' = w2 := he
    rw [← HIL.out, ← HFU.out]
    go_wp2_with fail
    have HNUM : Hid (∀ f ∈ m.fns, ∀ b ∈ f.blocks, ∀ x ∈ b.ins, I32 x.num) := Lib.hid (nums_of HM2.out)
    have HPL : Hid ((pickP m).fns.length = m.fns.length) := Lib.hid (by simp [pickP])
    refine (vAll_any m (fun f hf => ⟨by obtain ⟨i, hi, e⟩ := List.getElem_of_mem hf; rw [← e]; exact (HSM.out.may.fns i hi).fn, HSM.out.light.fns f hf⟩) HSM.out.light.nf A B c d w2' HM2.out).mono ?_
    rintro e w3 ⟨Bx, dx, rfl, hB3, hfx⟩
    have d0 := (hB3.cell (p := ⟨w.heap.size, 0, none⟩) hlt2).trans d0
    have d1 := (hB3.cell (p := ⟨w.heap.size, 1, none⟩) hlt2).trans d1
    have hlt3 : w.heap.size < w3.heap.size := Nat.lt_of_lt_of_le hlt2 hB3.size
    have HB3 : Hid (Below w.heap.size w w3) := Lib.hid (HB2.out.trans (hB3.mono HB2.out.size))
    have HM3 := Lib.hid (mid_below HM2.out hB3)
    have HX3 : Hid (RdProg w3 (fun _ => True) (pickP m) A c Bx dx) := Lib.hid ⟨HM3.out.globals.mono (fun _ _ => trivial) fun _ _ h => h, hfx, HM3.out.nglobals, by rw [HPL.out]; exact HM3.out.nfns⟩
    clear hB3 hfx
    go_wp2_with fail
    obtain ⟨qx, hqx⟩ : ∃ qx, qx = w3.heap.size := ⟨_, rfl⟩
    obtain ⟨w4, hw4⟩ : ∃ w4, w4 = w3.alloc (.cells #[.slice A m.globals.length c, .slice Bx m.fns.length dx] 41) := ⟨_, rfl⟩
    rw [← hw4, ← hqx]
    have hb4 : Below w3.heap.size w3 w4 := by rw [hw4]; exact (Below.refl _ _).alloc (Nat.le_refl _) _
    have hm4 : ProgBox w4 qx (.slice A m.globals.length c) (.slice Bx m.fns.length dx) := by rw [hw4, hqx]; exact heap_alloc_new w3 _
    have HB4 : Hid (Below w.heap.size w w4) := Lib.hid (HB3.out.trans (hb4.mono HB3.out.size))
    have HM4 := Lib.hid (mid_below HM3.out hb4)
    have HX4 := Lib.hid (HX3.out.below hb4)
    have hx0 : w4.cell? ⟨qx, 0, none⟩ = some (.slice A m.globals.length c) := cell_of_row _ _ _ _ _ _ hm4
    have hx1 : w4.cell? ⟨qx, 1, none⟩ = some (.slice Bx m.fns.length dx) := cell_of_row _ _ _ _ _ _ hm4
    have hd0 := cellK hb4 d0
    have hd1 := cellK hb4 d1
    have HSK : Hid (SelK w.heap.size qx (.slice A m.globals.length c) (.slice B m.fns.length d) (.slice A m.globals.length c) (.slice Bx m.fns.length dx) w4) := Lib.hid ⟨hd0, hd1, hx0, hx1⟩
    clear hb4 hm4 hw4 hqx d0 d1 hlt1 hlt2 hlt3 hd0 hd1 hx0 hx1 HM HM2 HM3 HX3 HB1 HB2 HB3 HW
    have HMT : Hid (Calls Try.prog 13 #[.agg #[.slice A m.globals.length c, .slice Bx m.fns.length dx], .agg #[.slice A m.globals.length c, .slice B m.fns.length d]] w4 fun e w' => e = .returned (.bool true) ∧ Below w4.heap.size w4 w') := Lib.hid (vRight_any m HSM.out.may HSM.out.light HNUM.out A Bx A B c dx c d w4 HX4.out HM4.out)
    obtain ⟨v0, v1, x0, x1⟩ := HSK.out
    -- R5
    go_wp2_with fail
    refine HMT.out.mono ?_
    rintro e w5 ⟨rfl, hB5⟩
    have HB5 : Hid (Below w.heap.size w w5) := Lib.hid (HB4.out.trans (hB5.mono HB4.out.size))
    have HSK5 := Lib.hid (HSK.out.below hB5)
    have HRA : Hid (∀ W, Below w5.heap.size w5 W → Calls Try.prog 14 #[.agg #[.slice A m.globals.length c, .slice B m.fns.length d], .slice Ai ip.length ci, .int .i64 fu] W (RunPost m ip fu W)) := Lib.hid fun W hb => by
      have hlb : Below w.heap.size w W := HB5.out.trans (hb.mono HB5.out.size)
      exact run_any m HSM.out.may A B c d ip Ai ci fu ⟨by have := HFB.out; omega, by have := HFB.out; omega⟩ (by have := HFB.out; omega) (by have := HIL.out; unfold maxLen; omega) HIPW.out W (mid_below (mid_below HM4.out hB5) hb) (readsBelow7 HIP.out hlb)
    have HRB : Hid (∀ W, Below w5.heap.size w5 W → Calls Try.prog 15 #[.agg #[.slice A m.globals.length c, .slice Bx m.fns.length dx], .slice Ai ip.length ci, .int .i64 (IntKind.i64.wrap (2 * fu))] W (RunPostV (pickP m) ip (2 * fu) W)) := Lib.hid fun W hb => by
      have hlb : Below w.heap.size w W := HB5.out.trans (hb.mono HB5.out.size)
      have := vrun_any (pickP m) (pick_vmain HSM.out.may HSM.out.light HNUM.out) A Bx c dx ip Ai ci (2 * fu) ⟨by have := HFB.out; omega, by have := HFB.out; omega⟩ (by have := HFB.out; omega) (by have := HIL.out; unfold maxLen; omega) HIPW.out W ((HX4.out.below hB5).below hb) (readsBelow7 HIP.out hlb)
      rw [HPL.out] at this
      rw [wrap64_small _ (by have := HFB.out; omega) (by have := HFB.out; omega)]
      exact this
    clear hB5 HMT HSK x0 x1 v0 v1
    have hfu1 : 0 ≤ fu := HFB.out.1
    have hfu2 : fu ≤ 400 := HFB.out.2
    obtain ⟨x0, x1, y0, y1⟩ := HSK5.out
    go_upto_region 7 with (fail)
    have KB : Hid (Below w5.heap.size w5 w5.drew) := Lib.hid (drewK _)
    obtain ⟨x0, x1, y0, y1⟩ := HSK5.out.below KB.out
    obtain ⟨u0, u1, u2, u3⟩ := HSK5.out
    have hl0 : w.heap.size < w5.heap.size := World.block_lt_of_cell? w5.drew _ x0
    have hlx : qx < w5.heap.size := World.block_lt_of_cell? w5.drew _ y0
    go_region_held3 (fun W => W.cell? ⟨w.heap.size, 0, none⟩ = some (.slice A m.globals.length c) ∧ W.cell? ⟨w.heap.size, 1, none⟩ = some (.slice B m.fns.length d) ∧ W.cell? ⟨qx, 0, none⟩ = some (.slice A m.globals.length c) ∧ W.cell? ⟨qx, 1, none⟩ = some (.slice Bx m.fns.length dx)) (first | with_reducible exact ⟨x0, x1, y0, y1⟩ | (refine ⟨?_, ?_, ?_, ?_⟩ <;> (repeat (first | with_reducible assumption | with_reducible refine drA ?_ | with_reducible refine alA ?_ | with_reducible refine set5c (by assumption) ?_))))
      (first
        | (go_at_call 14; (with_reducible refine (HRA.out w5.drew KB.out).mono ?_); rintro e w60 ⟨r, At, ct, h1, rfl, h2, h3, h4⟩; have KB : Hid (Below w5.heap.size w5 w60) := Lib.hid (KB.out.trans (h3.mono (KB.out).size)); have la : w5.heap.size + 0 ≤ w60.heap.size := h3.size; have HLA : Hid (∀ g off, At = some ⟨g, off, none⟩ → w5.heap.size + 0 ≤ g) := Lib.hid (fun g off e => by have := h4.2.2.2.2.2 g off e; simpa using this); have HUA : Hid (∀ g off, At = some ⟨g, off, none⟩ → 0 < (i32s r.trace).length → g < w60.heap.size) := Lib.hid (fun g off e hp => h2.lt hp e); have HR := Lib.hid (And.intro h1 h4); have HTA := Lib.hid h2; clear h1 h2 h3 h4; obtain ⟨x0, x1, y0, y1⟩ := HSK5.out.below KB.out)
        | (go_at_call 14; (with_reducible refine (HRA.out (World.drew (World.alloc w5 _)) (kbD (kbA (Below.refl _ w5)))).mono ?_); rintro e w61 ⟨r, At, ct, h1, rfl, h2, h3, h4⟩; have h3 := kbd h3; have HZ1 : Hid (w61.heap[w5.heap.size]? = some (.cells zres 45 (0, 0))) := Lib.hid (kbz1 h3); have KB : Hid (Below w5.heap.size w5 w61) := Lib.hid ((kbA (Below.refl _ w5)).trans (h3.mono ((kbA (Below.refl _ w5))).size)); have la : w5.heap.size + 1 ≤ w61.heap.size := (by have := lt_of_heap HZ1.out; omega); have HLA : Hid (∀ g off, At = some ⟨g, off, none⟩ → w5.heap.size + 1 ≤ g) := Lib.hid (fun g off e => by have := h4.2.2.2.2.2 g off e; simpa using this); have HUA : Hid (∀ g off, At = some ⟨g, off, none⟩ → 0 < (i32s r.trace).length → g < w61.heap.size) := Lib.hid (fun g off e hp => h2.lt hp e); have HR := Lib.hid (And.intro h1 h4); have HTA := Lib.hid h2; clear h1 h2 h3 h4; obtain ⟨x0, x1, y0, y1⟩ := HSK5.out.below KB.out)
        | (go_at_call 14; (with_reducible refine (HRA.out (World.drew (World.alloc (World.alloc w5 _) _)) (kbD (kbA (kbA (Below.refl _ w5))))).mono ?_); rintro e w62 ⟨r, At, ct, h1, rfl, h2, h3, h4⟩; have h3 := kbd h3; have HZ1 : Hid (w62.heap[w5.heap.size]? = some (.cells zres 45 (0, 0))) := Lib.hid (kbz2 h3); have HZ2 : Hid (w62.heap[w5.heap.size + 1]? = some (.cells zres 45 (0, 0))) := Lib.hid (kbz3 h3); have KB : Hid (Below w5.heap.size w5 w62) := Lib.hid ((kbA (kbA (Below.refl _ w5))).trans (h3.mono ((kbA (kbA (Below.refl _ w5)))).size)); have la : w5.heap.size + 2 ≤ w62.heap.size := (by have := lt_of_heap HZ2.out; omega); have HLA : Hid (∀ g off, At = some ⟨g, off, none⟩ → w5.heap.size + 2 ≤ g) := Lib.hid (fun g off e => by have := h4.2.2.2.2.2 g off e; simpa using this); have HUA : Hid (∀ g off, At = some ⟨g, off, none⟩ → 0 < (i32s r.trace).length → g < w62.heap.size) := Lib.hid (fun g off e hp => h2.lt hp e); have HR := Lib.hid (And.intro h1 h4); have HTA := Lib.hid h2; clear h1 h2 h3 h4; obtain ⟨x0, x1, y0, y1⟩ := HSK5.out.below KB.out)
        | (go_at_call 15; (with_reducible refine (HRB.out w60 KB.out).mono ?_); rintro e w7 ⟨r', Bt, dt, h1, rfl, h2, h3, h4⟩; have HTA := Lib.hid (readsBelow7 HTA.out h3); have KB : Hid (Below w5.heap.size w5 w7) := Lib.hid (KB.out.trans (h3.mono (KB.out).size)); have lb : w60.heap.size + 0 ≤ w7.heap.size := h3.size; obtain ⟨g30, g31, g32, g33, g34, g3f⟩ := kbc (kbo (.cells #[.int .i64 r.fin, .int .i32 r.value, .slice At r.trace.length ct, .int .i64 r.steps, .int .i64 r.reads] 45) (kbn w7 zres 45)); obtain ⟨g10, g11, g12, g13, g14, g1f⟩ := kbc (kbo (.cells zres 45) (kbn w7 zres 45)); obtain ⟨g20, g21, g22, g23, g24, g2f⟩ := kbc (kbn1 w7 (.cells zres 45) zres 45); have m00 : w.heap.size ≠ w7.heap.size := (by omega); have m01 : qx ≠ w7.heap.size := (by omega); have m10 : w.heap.size ≠ w7.heap.size + 1 := (by omega); have m11 : qx ≠ w7.heap.size + 1 := (by omega); have ne1 : w7.heap.size ≠ w7.heap.size + 1 := (by omega); have ne2 : w7.heap.size + 1 ≠ w7.heap.size := (by omega); have HLB : Hid (∀ g off, Bt = some ⟨g, off, none⟩ → w60.heap.size + 0 ≤ g) := Lib.hid (fun g off e => by have := h4.2.2.2.2.2 g off e; simpa using this); have HUB : Hid (∀ g off, Bt = some ⟨g, off, none⟩ → 0 < (i32s r'.trace).length → g < w7.heap.size) := Lib.hid (fun g off e hp => h2.lt hp e); have HR' := Lib.hid (And.intro h1 h4); have HTB := Lib.hid h2; clear h1 h2 h3 h4; obtain ⟨x0, x1, y0, y1⟩ := HSK5.out.below KB.out)
        | (go_at_call 15; (with_reducible refine (HRB.out (World.alloc w60 _) (kbA KB.out)).mono ?_); rintro e w7 ⟨r', Bt, dt, h1, rfl, h2, h3, h4⟩; have HTA := Lib.hid (readsBelow7 HTA.out (kbs1 h3)); have HZ1 : Hid (w7.heap[w60.heap.size]? = some (.cells zres 45 (0, 0))) := Lib.hid (kbz1 h3); have KB : Hid (Below w5.heap.size w5 w7) := Lib.hid ((kbA KB.out).trans (h3.mono ((kbA KB.out)).size)); have lb : w60.heap.size + 1 ≤ w7.heap.size := (by have := lt_of_heap HZ1.out; omega); obtain ⟨g10, g11, g12, g13, g14, g1f⟩ := kbc (kbo (.cells zres 45) HZ1.out); obtain ⟨g20, g21, g22, g23, g24, g2f⟩ := kbc (kbn w7 zres 45); obtain ⟨g30, g31, g32, g33, g34, g3f⟩ := kbc (kbo (.cells #[.int .i64 r.fin, .int .i32 r.value, .slice At r.trace.length ct, .int .i64 r.steps, .int .i64 r.reads] 45) HZ1.out); have m00 : w.heap.size ≠ w60.heap.size := (by omega); have m01 : qx ≠ w60.heap.size := (by omega); have m10 : w.heap.size ≠ w7.heap.size := (by omega); have m11 : qx ≠ w7.heap.size := (by omega); have ne1 : w60.heap.size ≠ w7.heap.size := (by omega); have ne2 : w7.heap.size ≠ w60.heap.size := (by omega); have HLB : Hid (∀ g off, Bt = some ⟨g, off, none⟩ → w60.heap.size + 1 ≤ g) := Lib.hid (fun g off e => by have := h4.2.2.2.2.2 g off e; simpa using this); have HUB : Hid (∀ g off, Bt = some ⟨g, off, none⟩ → 0 < (i32s r'.trace).length → g < w7.heap.size) := Lib.hid (fun g off e hp => h2.lt hp e); have HR' := Lib.hid (And.intro h1 h4); have HTB := Lib.hid h2; clear h1 h2 h3 h4; obtain ⟨x0, x1, y0, y1⟩ := HSK5.out.below KB.out)
        | (go_at_call 15; (with_reducible refine (HRB.out (World.alloc (World.alloc w60 _) _) (kbA (kbA KB.out))).mono ?_); rintro e w7 ⟨r', Bt, dt, h1, rfl, h2, h3, h4⟩; have HTA := Lib.hid (readsBelow7 HTA.out (kbs2 h3)); have HZ1 : Hid (w7.heap[w60.heap.size]? = some (.cells zres 45 (0, 0))) := Lib.hid (kbz2 h3); have HZ2 : Hid (w7.heap[w60.heap.size + 1]? = some (.cells zres 45 (0, 0))) := Lib.hid (kbz3 h3); have KB : Hid (Below w5.heap.size w5 w7) := Lib.hid ((kbA (kbA KB.out)).trans (h3.mono ((kbA (kbA KB.out))).size)); have lb : w60.heap.size + 2 ≤ w7.heap.size := (by have := lt_of_heap HZ2.out; omega); obtain ⟨g10, g11, g12, g13, g14, g1f⟩ := kbc HZ1.out; obtain ⟨g20, g21, g22, g23, g24, g2f⟩ := kbc HZ2.out; have m00 : w.heap.size ≠ w60.heap.size := (by omega); have m01 : qx ≠ w60.heap.size := (by omega); have m10 : w.heap.size ≠ w60.heap.size + 1 := (by omega); have m11 : qx ≠ w60.heap.size + 1 := (by omega); have ne1 : w60.heap.size ≠ w60.heap.size + 1 := (by omega); have ne2 : w60.heap.size + 1 ≠ w60.heap.size := (by omega); have HLB : Hid (∀ g off, Bt = some ⟨g, off, none⟩ → w60.heap.size + 2 ≤ g) := Lib.hid (fun g off e => by have := h4.2.2.2.2.2 g off e; simpa using this); have HUB : Hid (∀ g off, Bt = some ⟨g, off, none⟩ → 0 < (i32s r'.trace).length → g < w7.heap.size) := Lib.hid (fun g off e hp => h2.lt hp e); have HR' := Lib.hid (And.intro h1 h4); have HTB := Lib.hid h2; clear h1 h2 h3 h4; obtain ⟨x0, x1, y0, y1⟩ := HSK5.out.below KB.out)
        | (go_at_call 15; (with_reducible refine (HRB.out w61 KB.out).mono ?_); rintro e w7 ⟨r', Bt, dt, h1, rfl, h2, h3, h4⟩; have HTA := Lib.hid (readsBelow7 HTA.out h3); have HZ1 := Lib.hid ((h3.block _ (lt_of_heap HZ1.out)).trans HZ1.out); have KB : Hid (Below w5.heap.size w5 w7) := Lib.hid (KB.out.trans (h3.mono (KB.out).size)); have lb : w61.heap.size + 0 ≤ w7.heap.size := h3.size; obtain ⟨g10, g11, g12, g13, g14, g1f⟩ := kbc (kbo (.cells zres 45) HZ1.out); obtain ⟨g20, g21, g22, g23, g24, g2f⟩ := kbc (kbn w7 zres 45); obtain ⟨g30, g31, g32, g33, g34, g3f⟩ := kbc (kbo (.cells #[.int .i64 r.fin, .int .i32 r.value, .slice At r.trace.length ct, .int .i64 r.steps, .int .i64 r.reads] 45) HZ1.out); have m00 : w.heap.size ≠ w5.heap.size := (by omega); have m01 : qx ≠ w5.heap.size := (by omega); have m10 : w.heap.size ≠ w7.heap.size := (by omega); have m11 : qx ≠ w7.heap.size := (by omega); have ne1 : w5.heap.size ≠ w7.heap.size := (by omega); have ne2 : w7.heap.size ≠ w5.heap.size := (by omega); have HLB : Hid (∀ g off, Bt = some ⟨g, off, none⟩ → w61.heap.size + 0 ≤ g) := Lib.hid (fun g off e => by have := h4.2.2.2.2.2 g off e; simpa using this); have HUB : Hid (∀ g off, Bt = some ⟨g, off, none⟩ → 0 < (i32s r'.trace).length → g < w7.heap.size) := Lib.hid (fun g off e hp => h2.lt hp e); have HR' := Lib.hid (And.intro h1 h4); have HTB := Lib.hid h2; clear h1 h2 h3 h4; obtain ⟨x0, x1, y0, y1⟩ := HSK5.out.below KB.out)
        | (go_at_call 15; (with_reducible refine (HRB.out (World.alloc w61 _) (kbA KB.out)).mono ?_); rintro e w7 ⟨r', Bt, dt, h1, rfl, h2, h3, h4⟩; have HTA := Lib.hid (readsBelow7 HTA.out (kbs1 h3)); have HZ1 := Lib.hid (((kbs1 h3).block _ (lt_of_heap HZ1.out)).trans HZ1.out); have HZ2 : Hid (w7.heap[w61.heap.size]? = some (.cells zres 45 (0, 0))) := Lib.hid (kbz1 h3); have KB : Hid (Below w5.heap.size w5 w7) := Lib.hid ((kbA KB.out).trans (h3.mono ((kbA KB.out)).size)); have lb : w61.heap.size + 1 ≤ w7.heap.size := (by have := lt_of_heap HZ2.out; omega); obtain ⟨g10, g11, g12, g13, g14, g1f⟩ := kbc HZ1.out; obtain ⟨g20, g21, g22, g23, g24, g2f⟩ := kbc HZ2.out; have m00 : w.heap.size ≠ w5.heap.size := (by omega); have m01 : qx ≠ w5.heap.size := (by omega); have m10 : w.heap.size ≠ w61.heap.size := (by omega); have m11 : qx ≠ w61.heap.size := (by omega); have ne1 : w5.heap.size ≠ w61.heap.size := (by omega); have ne2 : w61.heap.size ≠ w5.heap.size := (by omega); have HLB : Hid (∀ g off, Bt = some ⟨g, off, none⟩ → w61.heap.size + 1 ≤ g) := Lib.hid (fun g off e => by have := h4.2.2.2.2.2 g off e; simpa using this); have HUB : Hid (∀ g off, Bt = some ⟨g, off, none⟩ → 0 < (i32s r'.trace).length → g < w7.heap.size) := Lib.hid (fun g off e hp => h2.lt hp e); have HR' := Lib.hid (And.intro h1 h4); have HTB := Lib.hid h2; clear h1 h2 h3 h4; obtain ⟨x0, x1, y0, y1⟩ := HSK5.out.below KB.out)
        | (go_at_call 15; (with_reducible refine (HRB.out w62 KB.out).mono ?_); rintro e w7 ⟨r', Bt, dt, h1, rfl, h2, h3, h4⟩; have HTA := Lib.hid (readsBelow7 HTA.out h3); have HZ1 := Lib.hid ((h3.block _ (lt_of_heap HZ1.out)).trans HZ1.out); have HZ2 := Lib.hid ((h3.block _ (lt_of_heap HZ2.out)).trans HZ2.out); have KB : Hid (Below w5.heap.size w5 w7) := Lib.hid (KB.out.trans (h3.mono (KB.out).size)); have lb : w62.heap.size + 0 ≤ w7.heap.size := h3.size; obtain ⟨g10, g11, g12, g13, g14, g1f⟩ := kbc HZ1.out; obtain ⟨g20, g21, g22, g23, g24, g2f⟩ := kbc HZ2.out; have m00 : w.heap.size ≠ w5.heap.size := (by omega); have m01 : qx ≠ w5.heap.size := (by omega); have m10 : w.heap.size ≠ w5.heap.size + 1 := (by omega); have m11 : qx ≠ w5.heap.size + 1 := (by omega); have ne1 : w5.heap.size ≠ w5.heap.size + 1 := (by omega); have ne2 : w5.heap.size + 1 ≠ w5.heap.size := (by omega); have HLB : Hid (∀ g off, Bt = some ⟨g, off, none⟩ → w62.heap.size + 0 ≤ g) := Lib.hid (fun g off e => by have := h4.2.2.2.2.2 g off e; simpa using this); have HUB : Hid (∀ g off, Bt = some ⟨g, off, none⟩ → 0 < (i32s r'.trace).length → g < w7.heap.size) := Lib.hid (fun g off e hp => h2.lt hp e); have HR' := Lib.hid (And.intro h1 h4); have HTB := Lib.hid h2; clear h1 h2 h3 h4; obtain ⟨x0, x1, y0, y1⟩ := HSK5.out.below KB.out)
        | (fail "no arm"))
    have HKS : Hid (w5.heap.size ≤ w7.heap.size) := Lib.hid KB.out.size
    have hE : E7 w5 (w7.heap.size) (w7.heap.size + 1) #[.int .i64 r.fin, .int .i32 r.value, .slice At r.trace.length ct, .int .i64 (r.steps : Int), .int .i64 (r.reads : Int)] #[.int .i64 r'.fin, .int .i32 r'.value, .slice Bt r'.trace.length dt, .int .i64 (r'.steps : Int), .int .i64 (r'.reads : Int)] At (i32s r.trace) Bt (i32s r'.trace) ((w7.alloc (.cells #[.int .i64 r.fin, .int .i32 r.value, .slice At r.trace.length ct, .int .i64 (r.steps : Int), .int .i64 (r.reads : Int)] 45)).alloc (.cells #[.int .i64 r'.fin, .int .i32 r'.value, .slice Bt r'.trace.length dt, .int .i64 (r'.steps : Int), .int .i64 (r'.reads : Int)] 45)) := ⟨kbA (kbA KB.out), kbo (.cells #[.int .i64 r'.fin, .int .i32 r'.value, .slice Bt r'.trace.length dt, .int .i64 (r'.steps : Int), .int .i64 (r'.reads : Int)] 45) (kbn w7 #[.int .i64 r.fin, .int .i32 r.value, .slice At r.trace.length ct, .int .i64 (r.steps : Int), .int .i64 (r.reads : Int)] 45), kbn1 w7 (.cells #[.int .i64 r.fin, .int .i32 r.value, .slice At r.trace.length ct, .int .i64 (r.steps : Int), .int .i64 (r.reads : Int)] 45) #[.int .i64 r'.fin, .int .i32 r'.value, .slice Bt r'.trace.length dt, .int .i64 (r'.steps : Int), .int .i64 (r'.reads : Int)] 45, readsBelow7 (readsBelow7 HTA.out (allocK _ _ _)) (allocK _ _ _), readsBelow7 (readsBelow7 HTB.out (allocK _ _ _)) (allocK _ _ _)⟩
    generalize hW8 : ((w7.alloc (.cells #[.int .i64 r.fin, .int .i32 r.value, .slice At r.trace.length ct, .int .i64 (r.steps : Int), .int .i64 (r.reads : Int)] 45)).alloc (.cells #[.int .i64 r'.fin, .int .i32 r'.value, .slice Bt r'.trace.length dt, .int .i64 (r'.steps : Int), .int .i64 (r'.reads : Int)] 45)) = W8 at hE ⊢
    clear hW8 ne1 ne2 m00 m01 m10 m11 g10 g11 g12 g13 g14 g1f g20 g21 g22 g23 g24 g2f g30 g31 g32 g33 g34 g3f
    obtain ⟨q8, hq8⟩ : ∃ q, q = w7.heap.size := ⟨_, rfl⟩
    obtain ⟨q9, hq9⟩ : ∃ q, q = w7.heap.size + 1 := ⟨_, rfl⟩
    rotate_left
    have HKS : Hid (w5.heap.size ≤ w7.heap.size) := Lib.hid KB.out.size
    have hE : E7 w5 (w7.heap.size + 1) (w7.heap.size) #[.int .i64 r.fin, .int .i32 r.value, .slice At r.trace.length ct, .int .i64 (r.steps : Int), .int .i64 (r.reads : Int)] #[.int .i64 r'.fin, .int .i32 r'.value, .slice Bt r'.trace.length dt, .int .i64 (r'.steps : Int), .int .i64 (r'.reads : Int)] At (i32s r.trace) Bt (i32s r'.trace) ((w7.alloc (.cells #[.int .i64 r'.fin, .int .i32 r'.value, .slice Bt r'.trace.length dt, .int .i64 (r'.steps : Int), .int .i64 (r'.reads : Int)] 45)).alloc (.cells #[.int .i64 r.fin, .int .i32 r.value, .slice At r.trace.length ct, .int .i64 (r.steps : Int), .int .i64 (r.reads : Int)] 45)) := ⟨kbA (kbA KB.out), kbn1 w7 (.cells #[.int .i64 r'.fin, .int .i32 r'.value, .slice Bt r'.trace.length dt, .int .i64 (r'.steps : Int), .int .i64 (r'.reads : Int)] 45) #[.int .i64 r.fin, .int .i32 r.value, .slice At r.trace.length ct, .int .i64 (r.steps : Int), .int .i64 (r.reads : Int)] 45, kbo (.cells #[.int .i64 r.fin, .int .i32 r.value, .slice At r.trace.length ct, .int .i64 (r.steps : Int), .int .i64 (r.reads : Int)] 45) (kbn w7 #[.int .i64 r'.fin, .int .i32 r'.value, .slice Bt r'.trace.length dt, .int .i64 (r'.steps : Int), .int .i64 (r'.reads : Int)] 45), readsBelow7 (readsBelow7 HTA.out (allocK _ _ _)) (allocK _ _ _), readsBelow7 (readsBelow7 HTB.out (allocK _ _ _)) (allocK _ _ _)⟩
    generalize hW8 : ((w7.alloc (.cells #[.int .i64 r'.fin, .int .i32 r'.value, .slice Bt r'.trace.length dt, .int .i64 (r'.steps : Int), .int .i64 (r'.reads : Int)] 45)).alloc (.cells #[.int .i64 r.fin, .int .i32 r.value, .slice At r.trace.length ct, .int .i64 (r.steps : Int), .int .i64 (r.reads : Int)] 45)) = W8 at hE ⊢
    clear hW8 ne1 ne2 m00 m01 m10 m11 g10 g11 g12 g13 g14 g1f g20 g21 g22 g23 g24 g2f g30 g31 g32 g33 g34 g3f
    obtain ⟨q8, hq8⟩ : ∃ q, q = w7.heap.size + 1 := ⟨_, rfl⟩
    obtain ⟨q9, hq9⟩ : ∃ q, q = w7.heap.size := ⟨_, rfl⟩
    rotate_left
    have HKS : Hid (w5.heap.size ≤ w7.heap.size) := Lib.hid KB.out.size
    have hE0 : E7 w5 (w60.heap.size) (w7.heap.size) zres zres At (i32s r.trace) Bt (i32s r'.trace) (w7.alloc (.cells zres 45)) := ⟨kbA KB.out, kbo (.cells zres 45) HZ1.out, kbn w7 zres _, readsBelow7 HTA.out (allocK _ _ _), readsBelow7 HTB.out (allocK _ _ _)⟩
    have hE1 := E7.set8 (.int .i64 r.fin) (.int .i32 r.value) (.slice At r.trace.length ct) (.int .i64 (r.steps : Int)) (.int .i64 (r.reads : Int)) hE0 (by omega) (by have := HKS.out; omega) (fun g off e hp => by have h1 := HLA.out g off e; have h2 := HUA.out g off e hp; omega) (fun g off e hp => by have h1 := HLB.out g off e; have h2 := HUB.out g off e hp; omega)
    have hE := E7.set9 (.int .i64 r'.fin) (.int .i32 r'.value) (.slice Bt r'.trace.length dt) (.int .i64 (r'.steps : Int)) (.int .i64 (r'.reads : Int)) hE1 (by omega) (by have := HKS.out; omega) (fun g off e hp => by have h1 := HLA.out g off e; have h2 := HUA.out g off e hp; omega) (fun g off e hp => by have h1 := HLB.out g off e; have h2 := HUB.out g off e hp; omega)
    clear hE0 hE1
    generalize hW8 : (World.setCell (World.setCell (World.setCell (World.setCell (World.setCell (World.setCell (World.setCell (World.setCell (World.setCell (World.setCell (w7.alloc (.cells zres 45)) ⟨w60.heap.size, 0, none⟩ (Value.int .i64 r.fin)) ⟨w60.heap.size, 1, none⟩ (Value.int .i32 r.value)) ⟨w60.heap.size, 2, none⟩ (Value.slice At r.trace.length ct)) ⟨w60.heap.size, 3, none⟩ (Value.int .i64 (r.steps : Int))) ⟨w60.heap.size, 4, none⟩ (Value.int .i64 (r.reads : Int))) ⟨w7.heap.size, 0, none⟩ (Value.int .i64 r'.fin)) ⟨w7.heap.size, 1, none⟩ (Value.int .i32 r'.value)) ⟨w7.heap.size, 2, none⟩ (Value.slice Bt r'.trace.length dt)) ⟨w7.heap.size, 3, none⟩ (Value.int .i64 (r'.steps : Int))) ⟨w7.heap.size, 4, none⟩ (Value.int .i64 (r'.reads : Int))) = W8 at hE ⊢
    clear hW8 ne1 ne2 m00 m01 m10 m11 g10 g11 g12 g13 g14 g1f g20 g21 g22 g23 g24 g2f g30 g31 g32 g33 g34 g3f
    obtain ⟨q8, hq8⟩ : ∃ q, q = w60.heap.size := ⟨_, rfl⟩
    obtain ⟨q9, hq9⟩ : ∃ q, q = w7.heap.size := ⟨_, rfl⟩
    rotate_left
    have HKS : Hid (w5.heap.size ≤ w7.heap.size) := Lib.hid KB.out.size
    have hE0 : E7 w5 (w60.heap.size) (w60.heap.size + 1) zres zres At (i32s r.trace) Bt (i32s r'.trace) w7 := ⟨KB.out, HZ1.out, HZ2.out, HTA.out, HTB.out⟩
    have hE1 := E7.set8 (.int .i64 r.fin) (.int .i32 r.value) (.slice At r.trace.length ct) (.int .i64 (r.steps : Int)) (.int .i64 (r.reads : Int)) hE0 (by omega) (by have := HKS.out; omega) (fun g off e hp => by have h1 := HLA.out g off e; have h2 := HUA.out g off e hp; omega) (fun g off e hp => by have h1 := HLB.out g off e; have h2 := HUB.out g off e hp; omega)
    have hE := E7.set9 (.int .i64 r'.fin) (.int .i32 r'.value) (.slice Bt r'.trace.length dt) (.int .i64 (r'.steps : Int)) (.int .i64 (r'.reads : Int)) hE1 (by omega) (by have := HKS.out; omega) (fun g off e hp => by have h1 := HLA.out g off e; have h2 := HUA.out g off e hp; omega) (fun g off e hp => by have h1 := HLB.out g off e; have h2 := HUB.out g off e hp; omega)
    clear hE0 hE1
    generalize hW8 : (World.setCell (World.setCell (World.setCell (World.setCell (World.setCell (World.setCell (World.setCell (World.setCell (World.setCell (World.setCell w7 ⟨w60.heap.size, 0, none⟩ (Value.int .i64 r.fin)) ⟨w60.heap.size, 1, none⟩ (Value.int .i32 r.value)) ⟨w60.heap.size, 2, none⟩ (Value.slice At r.trace.length ct)) ⟨w60.heap.size, 3, none⟩ (Value.int .i64 (r.steps : Int))) ⟨w60.heap.size, 4, none⟩ (Value.int .i64 (r.reads : Int))) ⟨w60.heap.size + 1, 0, none⟩ (Value.int .i64 r'.fin)) ⟨w60.heap.size + 1, 1, none⟩ (Value.int .i32 r'.value)) ⟨w60.heap.size + 1, 2, none⟩ (Value.slice Bt r'.trace.length dt)) ⟨w60.heap.size + 1, 3, none⟩ (Value.int .i64 (r'.steps : Int))) ⟨w60.heap.size + 1, 4, none⟩ (Value.int .i64 (r'.reads : Int))) = W8 at hE ⊢
    clear hW8 ne1 ne2 m00 m01 m10 m11 g10 g11 g12 g13 g14 g1f g20 g21 g22 g23 g24 g2f
    obtain ⟨q8, hq8⟩ : ∃ q, q = w60.heap.size := ⟨_, rfl⟩
    obtain ⟨q9, hq9⟩ : ∃ q, q = w60.heap.size + 1 := ⟨_, rfl⟩
    rotate_left
    have HKS : Hid (w5.heap.size ≤ w7.heap.size) := Lib.hid KB.out.size
    have hE0 : E7 w5 (w7.heap.size) (w60.heap.size) #[.int .i64 r.fin, .int .i32 r.value, .slice At r.trace.length ct, .int .i64 (r.steps : Int), .int .i64 (r.reads : Int)] zres At (i32s r.trace) Bt (i32s r'.trace) (w7.alloc (.cells #[.int .i64 r.fin, .int .i32 r.value, .slice At r.trace.length ct, .int .i64 (r.steps : Int), .int .i64 (r.reads : Int)] 45)) := ⟨kbA KB.out, kbn w7 #[.int .i64 r.fin, .int .i32 r.value, .slice At r.trace.length ct, .int .i64 (r.steps : Int), .int .i64 (r.reads : Int)] _, kbo (.cells #[.int .i64 r.fin, .int .i32 r.value, .slice At r.trace.length ct, .int .i64 (r.steps : Int), .int .i64 (r.reads : Int)] 45) HZ1.out, readsBelow7 HTA.out (allocK _ _ _), readsBelow7 HTB.out (allocK _ _ _)⟩
    have hE := E7.set9 (.int .i64 r'.fin) (.int .i32 r'.value) (.slice Bt r'.trace.length dt) (.int .i64 (r'.steps : Int)) (.int .i64 (r'.reads : Int)) hE0 (by omega) (by have := HKS.out; omega) (fun g off e hp => by have h1 := HLA.out g off e; have h2 := HUA.out g off e hp; omega) (fun g off e hp => by have h1 := HLB.out g off e; have h2 := HUB.out g off e hp; omega)
    clear hE0
    generalize hW8 : (World.setCell (World.setCell (World.setCell (World.setCell (World.setCell (w7.alloc (.cells #[.int .i64 r.fin, .int .i32 r.value, .slice At r.trace.length ct, .int .i64 (r.steps : Int), .int .i64 (r.reads : Int)] 45)) ⟨w60.heap.size, 0, none⟩ (Value.int .i64 r'.fin)) ⟨w60.heap.size, 1, none⟩ (Value.int .i32 r'.value)) ⟨w60.heap.size, 2, none⟩ (Value.slice Bt r'.trace.length dt)) ⟨w60.heap.size, 3, none⟩ (Value.int .i64 (r'.steps : Int))) ⟨w60.heap.size, 4, none⟩ (Value.int .i64 (r'.reads : Int))) = W8 at hE ⊢
    clear hW8 ne1 ne2 m00 m01 m10 m11 g10 g11 g12 g13 g14 g1f g20 g21 g22 g23 g24 g2f g30 g31 g32 g33 g34 g3f
    obtain ⟨q8, hq8⟩ : ∃ q, q = w7.heap.size := ⟨_, rfl⟩
    obtain ⟨q9, hq9⟩ : ∃ q, q = w60.heap.size := ⟨_, rfl⟩
    rotate_left
    have HKS : Hid (w5.heap.size ≤ w7.heap.size) := Lib.hid KB.out.size
    have hE0 : E7 w5 (w60.heap.size + 1) (w60.heap.size) zres zres At (i32s r.trace) Bt (i32s r'.trace) w7 := ⟨KB.out, HZ2.out, HZ1.out, HTA.out, HTB.out⟩
    have hE1 := E7.set8 (.int .i64 r.fin) (.int .i32 r.value) (.slice At r.trace.length ct) (.int .i64 (r.steps : Int)) (.int .i64 (r.reads : Int)) hE0 (by omega) (by have := HKS.out; omega) (fun g off e hp => by have h1 := HLA.out g off e; have h2 := HUA.out g off e hp; omega) (fun g off e hp => by have h1 := HLB.out g off e; have h2 := HUB.out g off e hp; omega)
    have hE := E7.set9 (.int .i64 r'.fin) (.int .i32 r'.value) (.slice Bt r'.trace.length dt) (.int .i64 (r'.steps : Int)) (.int .i64 (r'.reads : Int)) hE1 (by omega) (by have := HKS.out; omega) (fun g off e hp => by have h1 := HLA.out g off e; have h2 := HUA.out g off e hp; omega) (fun g off e hp => by have h1 := HLB.out g off e; have h2 := HUB.out g off e hp; omega)
    clear hE0 hE1
    generalize hW8 : (World.setCell (World.setCell (World.setCell (World.setCell (World.setCell (World.setCell (World.setCell (World.setCell (World.setCell (World.setCell w7 ⟨w60.heap.size + 1, 0, none⟩ (Value.int .i64 r.fin)) ⟨w60.heap.size + 1, 1, none⟩ (Value.int .i32 r.value)) ⟨w60.heap.size + 1, 2, none⟩ (Value.slice At r.trace.length ct)) ⟨w60.heap.size + 1, 3, none⟩ (Value.int .i64 (r.steps : Int))) ⟨w60.heap.size + 1, 4, none⟩ (Value.int .i64 (r.reads : Int))) ⟨w60.heap.size, 0, none⟩ (Value.int .i64 r'.fin)) ⟨w60.heap.size, 1, none⟩ (Value.int .i32 r'.value)) ⟨w60.heap.size, 2, none⟩ (Value.slice Bt r'.trace.length dt)) ⟨w60.heap.size, 3, none⟩ (Value.int .i64 (r'.steps : Int))) ⟨w60.heap.size, 4, none⟩ (Value.int .i64 (r'.reads : Int))) = W8 at hE ⊢
    clear hW8 ne1 ne2 m00 m01 m10 m11 g10 g11 g12 g13 g14 g1f g20 g21 g22 g23 g24 g2f
    obtain ⟨q8, hq8⟩ : ∃ q, q = w60.heap.size + 1 := ⟨_, rfl⟩
    obtain ⟨q9, hq9⟩ : ∃ q, q = w60.heap.size := ⟨_, rfl⟩
    rotate_left
    have HKS : Hid (w5.heap.size ≤ w7.heap.size) := Lib.hid KB.out.size
    have hE0 : E7 w5 (w5.heap.size) (w7.heap.size) zres zres At (i32s r.trace) Bt (i32s r'.trace) (w7.alloc (.cells zres 45)) := ⟨kbA KB.out, kbo (.cells zres 45) HZ1.out, kbn w7 zres _, readsBelow7 HTA.out (allocK _ _ _), readsBelow7 HTB.out (allocK _ _ _)⟩
    have hE1 := E7.set8 (.int .i64 r.fin) (.int .i32 r.value) (.slice At r.trace.length ct) (.int .i64 (r.steps : Int)) (.int .i64 (r.reads : Int)) hE0 (by omega) (by have := HKS.out; omega) (fun g off e hp => by have h1 := HLA.out g off e; have h2 := HUA.out g off e hp; omega) (fun g off e hp => by have h1 := HLB.out g off e; have h2 := HUB.out g off e hp; omega)
    have hE := E7.set9 (.int .i64 r'.fin) (.int .i32 r'.value) (.slice Bt r'.trace.length dt) (.int .i64 (r'.steps : Int)) (.int .i64 (r'.reads : Int)) hE1 (by omega) (by have := HKS.out; omega) (fun g off e hp => by have h1 := HLA.out g off e; have h2 := HUA.out g off e hp; omega) (fun g off e hp => by have h1 := HLB.out g off e; have h2 := HUB.out g off e hp; omega)
    clear hE0 hE1
    generalize hW8 : (World.setCell (World.setCell (World.setCell (World.setCell (World.setCell (World.setCell (World.setCell (World.setCell (World.setCell (World.setCell (w7.alloc (.cells zres 45)) ⟨w5.heap.size, 0, none⟩ (Value.int .i64 r.fin)) ⟨w5.heap.size, 1, none⟩ (Value.int .i32 r.value)) ⟨w5.heap.size, 2, none⟩ (Value.slice At r.trace.length ct)) ⟨w5.heap.size, 3, none⟩ (Value.int .i64 (r.steps : Int))) ⟨w5.heap.size, 4, none⟩ (Value.int .i64 (r.reads : Int))) ⟨w7.heap.size, 0, none⟩ (Value.int .i64 r'.fin)) ⟨w7.heap.size, 1, none⟩ (Value.int .i32 r'.value)) ⟨w7.heap.size, 2, none⟩ (Value.slice Bt r'.trace.length dt)) ⟨w7.heap.size, 3, none⟩ (Value.int .i64 (r'.steps : Int))) ⟨w7.heap.size, 4, none⟩ (Value.int .i64 (r'.reads : Int))) = W8 at hE ⊢
    clear hW8 ne1 ne2 m00 m01 m10 m11 g10 g11 g12 g13 g14 g1f g20 g21 g22 g23 g24 g2f g30 g31 g32 g33 g34 g3f
    obtain ⟨q8, hq8⟩ : ∃ q, q = w5.heap.size := ⟨_, rfl⟩
    obtain ⟨q9, hq9⟩ : ∃ q, q = w7.heap.size := ⟨_, rfl⟩
    rotate_left
    have HKS : Hid (w5.heap.size ≤ w7.heap.size) := Lib.hid KB.out.size
    have hE0 : E7 w5 (w5.heap.size) (w61.heap.size) zres zres At (i32s r.trace) Bt (i32s r'.trace) w7 := ⟨KB.out, HZ1.out, HZ2.out, HTA.out, HTB.out⟩
    have hE1 := E7.set8 (.int .i64 r.fin) (.int .i32 r.value) (.slice At r.trace.length ct) (.int .i64 (r.steps : Int)) (.int .i64 (r.reads : Int)) hE0 (by omega) (by have := HKS.out; omega) (fun g off e hp => by have h1 := HLA.out g off e; have h2 := HUA.out g off e hp; omega) (fun g off e hp => by have h1 := HLB.out g off e; have h2 := HUB.out g off e hp; omega)
    have hE := E7.set9 (.int .i64 r'.fin) (.int .i32 r'.value) (.slice Bt r'.trace.length dt) (.int .i64 (r'.steps : Int)) (.int .i64 (r'.reads : Int)) hE1 (by omega) (by have := HKS.out; omega) (fun g off e hp => by have h1 := HLA.out g off e; have h2 := HUA.out g off e hp; omega) (fun g off e hp => by have h1 := HLB.out g off e; have h2 := HUB.out g off e hp; omega)
    clear hE0 hE1
    generalize hW8 : (World.setCell (World.setCell (World.setCell (World.setCell (World.setCell (World.setCell (World.setCell (World.setCell (World.setCell (World.setCell w7 ⟨w5.heap.size, 0, none⟩ (Value.int .i64 r.fin)) ⟨w5.heap.size, 1, none⟩ (Value.int .i32 r.value)) ⟨w5.heap.size, 2, none⟩ (Value.slice At r.trace.length ct)) ⟨w5.heap.size, 3, none⟩ (Value.int .i64 (r.steps : Int))) ⟨w5.heap.size, 4, none⟩ (Value.int .i64 (r.reads : Int))) ⟨w61.heap.size, 0, none⟩ (Value.int .i64 r'.fin)) ⟨w61.heap.size, 1, none⟩ (Value.int .i32 r'.value)) ⟨w61.heap.size, 2, none⟩ (Value.slice Bt r'.trace.length dt)) ⟨w61.heap.size, 3, none⟩ (Value.int .i64 (r'.steps : Int))) ⟨w61.heap.size, 4, none⟩ (Value.int .i64 (r'.reads : Int))) = W8 at hE ⊢
    clear hW8 ne1 ne2 m00 m01 m10 m11 g10 g11 g12 g13 g14 g1f g20 g21 g22 g23 g24 g2f
    obtain ⟨q8, hq8⟩ : ∃ q, q = w5.heap.size := ⟨_, rfl⟩
    obtain ⟨q9, hq9⟩ : ∃ q, q = w61.heap.size := ⟨_, rfl⟩
    rotate_left
    have HKS : Hid (w5.heap.size ≤ w7.heap.size) := Lib.hid KB.out.size
    have hE0 : E7 w5 (w5.heap.size) (w5.heap.size + 1) zres zres At (i32s r.trace) Bt (i32s r'.trace) w7 := ⟨KB.out, HZ1.out, HZ2.out, HTA.out, HTB.out⟩
    have hE1 := E7.set8 (.int .i64 r.fin) (.int .i32 r.value) (.slice At r.trace.length ct) (.int .i64 (r.steps : Int)) (.int .i64 (r.reads : Int)) hE0 (by omega) (by have := HKS.out; omega) (fun g off e hp => by have h1 := HLA.out g off e; have h2 := HUA.out g off e hp; omega) (fun g off e hp => by have h1 := HLB.out g off e; have h2 := HUB.out g off e hp; omega)
    have hE := E7.set9 (.int .i64 r'.fin) (.int .i32 r'.value) (.slice Bt r'.trace.length dt) (.int .i64 (r'.steps : Int)) (.int .i64 (r'.reads : Int)) hE1 (by omega) (by have := HKS.out; omega) (fun g off e hp => by have h1 := HLA.out g off e; have h2 := HUA.out g off e hp; omega) (fun g off e hp => by have h1 := HLB.out g off e; have h2 := HUB.out g off e hp; omega)
    clear hE0 hE1
    generalize hW8 : (World.setCell (World.setCell (World.setCell (World.setCell (World.setCell (World.setCell (World.setCell (World.setCell (World.setCell (World.setCell w7 ⟨w5.heap.size, 0, none⟩ (Value.int .i64 r.fin)) ⟨w5.heap.size, 1, none⟩ (Value.int .i32 r.value)) ⟨w5.heap.size, 2, none⟩ (Value.slice At r.trace.length ct)) ⟨w5.heap.size, 3, none⟩ (Value.int .i64 (r.steps : Int))) ⟨w5.heap.size, 4, none⟩ (Value.int .i64 (r.reads : Int))) ⟨w5.heap.size + 1, 0, none⟩ (Value.int .i64 r'.fin)) ⟨w5.heap.size + 1, 1, none⟩ (Value.int .i32 r'.value)) ⟨w5.heap.size + 1, 2, none⟩ (Value.slice Bt r'.trace.length dt)) ⟨w5.heap.size + 1, 3, none⟩ (Value.int .i64 (r'.steps : Int))) ⟨w5.heap.size + 1, 4, none⟩ (Value.int .i64 (r'.reads : Int))) = W8 at hE ⊢
    clear hW8 ne1 ne2 m00 m01 m10 m11 g10 g11 g12 g13 g14 g1f g20 g21 g22 g23 g24 g2f
    obtain ⟨q8, hq8⟩ : ∃ q, q = w5.heap.size := ⟨_, rfl⟩
    obtain ⟨q9, hq9⟩ : ∃ q, q = w5.heap.size + 1 := ⟨_, rfl⟩
    rotate_left
    have HKS : Hid (w5.heap.size ≤ w7.heap.size) := Lib.hid KB.out.size
    have hE0 : E7 w5 (w7.heap.size) (w5.heap.size) #[.int .i64 r.fin, .int .i32 r.value, .slice At r.trace.length ct, .int .i64 (r.steps : Int), .int .i64 (r.reads : Int)] zres At (i32s r.trace) Bt (i32s r'.trace) (w7.alloc (.cells #[.int .i64 r.fin, .int .i32 r.value, .slice At r.trace.length ct, .int .i64 (r.steps : Int), .int .i64 (r.reads : Int)] 45)) := ⟨kbA KB.out, kbn w7 #[.int .i64 r.fin, .int .i32 r.value, .slice At r.trace.length ct, .int .i64 (r.steps : Int), .int .i64 (r.reads : Int)] _, kbo (.cells #[.int .i64 r.fin, .int .i32 r.value, .slice At r.trace.length ct, .int .i64 (r.steps : Int), .int .i64 (r.reads : Int)] 45) HZ1.out, readsBelow7 HTA.out (allocK _ _ _), readsBelow7 HTB.out (allocK _ _ _)⟩
    have hE := E7.set9 (.int .i64 r'.fin) (.int .i32 r'.value) (.slice Bt r'.trace.length dt) (.int .i64 (r'.steps : Int)) (.int .i64 (r'.reads : Int)) hE0 (by omega) (by have := HKS.out; omega) (fun g off e hp => by have h1 := HLA.out g off e; have h2 := HUA.out g off e hp; omega) (fun g off e hp => by have h1 := HLB.out g off e; have h2 := HUB.out g off e hp; omega)
    clear hE0
    generalize hW8 : (World.setCell (World.setCell (World.setCell (World.setCell (World.setCell (w7.alloc (.cells #[.int .i64 r.fin, .int .i32 r.value, .slice At r.trace.length ct, .int .i64 (r.steps : Int), .int .i64 (r.reads : Int)] 45)) ⟨w5.heap.size, 0, none⟩ (Value.int .i64 r'.fin)) ⟨w5.heap.size, 1, none⟩ (Value.int .i32 r'.value)) ⟨w5.heap.size, 2, none⟩ (Value.slice Bt r'.trace.length dt)) ⟨w5.heap.size, 3, none⟩ (Value.int .i64 (r'.steps : Int))) ⟨w5.heap.size, 4, none⟩ (Value.int .i64 (r'.reads : Int))) = W8 at hE ⊢
    clear hW8 ne1 ne2 m00 m01 m10 m11 g10 g11 g12 g13 g14 g1f g20 g21 g22 g23 g24 g2f g30 g31 g32 g33 g34 g3f
    obtain ⟨q8, hq8⟩ : ∃ q, q = w7.heap.size := ⟨_, rfl⟩
    obtain ⟨q9, hq9⟩ : ∃ q, q = w5.heap.size := ⟨_, rfl⟩
    rotate_left
    have HKS : Hid (w5.heap.size ≤ w7.heap.size) := Lib.hid KB.out.size
    have hE0 : E7 w5 (w61.heap.size) (w5.heap.size) zres zres At (i32s r.trace) Bt (i32s r'.trace) w7 := ⟨KB.out, HZ2.out, HZ1.out, HTA.out, HTB.out⟩
    have hE1 := E7.set8 (.int .i64 r.fin) (.int .i32 r.value) (.slice At r.trace.length ct) (.int .i64 (r.steps : Int)) (.int .i64 (r.reads : Int)) hE0 (by omega) (by have := HKS.out; omega) (fun g off e hp => by have h1 := HLA.out g off e; have h2 := HUA.out g off e hp; omega) (fun g off e hp => by have h1 := HLB.out g off e; have h2 := HUB.out g off e hp; omega)
    have hE := E7.set9 (.int .i64 r'.fin) (.int .i32 r'.value) (.slice Bt r'.trace.length dt) (.int .i64 (r'.steps : Int)) (.int .i64 (r'.reads : Int)) hE1 (by omega) (by have := HKS.out; omega) (fun g off e hp => by have h1 := HLA.out g off e; have h2 := HUA.out g off e hp; omega) (fun g off e hp => by have h1 := HLB.out g off e; have h2 := HUB.out g off e hp; omega)
    clear hE0 hE1
    generalize hW8 : (World.setCell (World.setCell (World.setCell (World.setCell (World.setCell (World.setCell (World.setCell (World.setCell (World.setCell (World.setCell w7 ⟨w61.heap.size, 0, none⟩ (Value.int .i64 r.fin)) ⟨w61.heap.size, 1, none⟩ (Value.int .i32 r.value)) ⟨w61.heap.size, 2, none⟩ (Value.slice At r.trace.length ct)) ⟨w61.heap.size, 3, none⟩ (Value.int .i64 (r.steps : Int))) ⟨w61.heap.size, 4, none⟩ (Value.int .i64 (r.reads : Int))) ⟨w5.heap.size, 0, none⟩ (Value.int .i64 r'.fin)) ⟨w5.heap.size, 1, none⟩ (Value.int .i32 r'.value)) ⟨w5.heap.size, 2, none⟩ (Value.slice Bt r'.trace.length dt)) ⟨w5.heap.size, 3, none⟩ (Value.int .i64 (r'.steps : Int))) ⟨w5.heap.size, 4, none⟩ (Value.int .i64 (r'.reads : Int))) = W8 at hE ⊢
    clear hW8 ne1 ne2 m00 m01 m10 m11 g10 g11 g12 g13 g14 g1f g20 g21 g22 g23 g24 g2f
    obtain ⟨q8, hq8⟩ : ∃ q, q = w61.heap.size := ⟨_, rfl⟩
    obtain ⟨q9, hq9⟩ : ∃ q, q = w5.heap.size := ⟨_, rfl⟩
    rotate_left
    have HKS : Hid (w5.heap.size ≤ w7.heap.size) := Lib.hid KB.out.size
    have hE0 : E7 w5 (w5.heap.size + 1) (w5.heap.size) zres zres At (i32s r.trace) Bt (i32s r'.trace) w7 := ⟨KB.out, HZ2.out, HZ1.out, HTA.out, HTB.out⟩
    have hE1 := E7.set8 (.int .i64 r.fin) (.int .i32 r.value) (.slice At r.trace.length ct) (.int .i64 (r.steps : Int)) (.int .i64 (r.reads : Int)) hE0 (by omega) (by have := HKS.out; omega) (fun g off e hp => by have h1 := HLA.out g off e; have h2 := HUA.out g off e hp; omega) (fun g off e hp => by have h1 := HLB.out g off e; have h2 := HUB.out g off e hp; omega)
    have hE := E7.set9 (.int .i64 r'.fin) (.int .i32 r'.value) (.slice Bt r'.trace.length dt) (.int .i64 (r'.steps : Int)) (.int .i64 (r'.reads : Int)) hE1 (by omega) (by have := HKS.out; omega) (fun g off e hp => by have h1 := HLA.out g off e; have h2 := HUA.out g off e hp; omega) (fun g off e hp => by have h1 := HLB.out g off e; have h2 := HUB.out g off e hp; omega)
    clear hE0 hE1
    generalize hW8 : (World.setCell (World.setCell (World.setCell (World.setCell (World.setCell (World.setCell (World.setCell (World.setCell (World.setCell (World.setCell w7 ⟨w5.heap.size + 1, 0, none⟩ (Value.int .i64 r.fin)) ⟨w5.heap.size + 1, 1, none⟩ (Value.int .i32 r.value)) ⟨w5.heap.size + 1, 2, none⟩ (Value.slice At r.trace.length ct)) ⟨w5.heap.size + 1, 3, none⟩ (Value.int .i64 (r.steps : Int))) ⟨w5.heap.size + 1, 4, none⟩ (Value.int .i64 (r.reads : Int))) ⟨w5.heap.size, 0, none⟩ (Value.int .i64 r'.fin)) ⟨w5.heap.size, 1, none⟩ (Value.int .i32 r'.value)) ⟨w5.heap.size, 2, none⟩ (Value.slice Bt r'.trace.length dt)) ⟨w5.heap.size, 3, none⟩ (Value.int .i64 (r'.steps : Int))) ⟨w5.heap.size, 4, none⟩ (Value.int .i64 (r'.reads : Int))) = W8 at hE ⊢
    clear hW8 ne1 ne2 m00 m01 m10 m11 g10 g11 g12 g13 g14 g1f g20 g21 g22 g23 g24 g2f
    obtain ⟨q8, hq8⟩ : ∃ q, q = w5.heap.size + 1 := ⟨_, rfl⟩
    obtain ⟨q9, hq9⟩ : ∃ q, q = w5.heap.size := ⟨_, rfl⟩
    rotate_left
    all_goals
      have HKR : Hid (KeepsV r r') := Lib.hid (pick_keeps ⟨HSM.out.may, HNUM.out, HIPW.out⟩ HR.out.1 HR'.out.1)
      obtain ⟨a0, a1, a2, a3, a4, af⟩ := kbc hE.b8
      obtain ⟨b0, b1, b2, b3, b4, bf⟩ := kbc hE.b9
      have HBG := begins_true r r' At Bt ct dt W8 ⟨fun h => ⟨(HKR.out.1 h).1, (HKR.out.1 h).2.1, (HKR.out.1 h).2.2.1, (HKR.out.1 h).2.2.2.1⟩, HKR.out.2⟩ (by have := HR.out.2; omega) (by have := HR'.out.2; omega) HR'.out.2.1 hE.ta hE.tb
      unfold resAgg at HBG
      have HBG := Lib.hid HBG
      have HB8 : Hid (Below w.heap.size w W8) := Lib.hid (HB5.out.trans (hE.below.mono HB5.out.size))
      have HB89 := Lib.hid (And.intro hE.b8 hE.b9)
      clear hE HTA HTB HRA HRB KB
      obtain ⟨fin, hfin⟩ : ∃ x, x = r.fin := ⟨_, rfl⟩
      obtain ⟨st, hst⟩ : ∃ x : Int, x = (r.steps : Int) := ⟨_, rfl⟩
      obtain ⟨st', hst'⟩ : ∃ x : Int, x = (r'.steps : Int) := ⟨_, rfl⟩
      have HKS2 : Hid (fin ≠ 5 → st' ≤ 2 * st) := Lib.hid fun h => by
        have h2 := (HKR.out.1 (by rw [← hfin]; exact h)).2.2.2.2
        omega
      have HST0 : Hid (0 ≤ st ∧ st ≤ 100000) := Lib.hid (by have := HR.out.2; omega)
      rw [← hfin, ← hst, ← hst'] at HBG
      rw [← hfin] at a0
      rw [← hst] at a3
      rw [← hst'] at b3
      rw [← hfin, ← hst, ← hst'] at HB89
      clear hfin hst hst'
      by_cases h5 : fin = 5
      · have q5 : (fin == 5) = true := by simp [h5]
        clear h5
        go_wp2_with fail
        refine HBG.out.mono ?_
        rintro e w9 ⟨rfl, hB9⟩
        obtain ⟨a0, a1, a2, a3, a4, af⟩ := kbc ((hB9.block _ (lt_of_heap HB89.out.1)).trans HB89.out.1)
        have HB9 : Hid (Below w.heap.size w w9) := Lib.hid (HB8.out.trans (hB9.mono HB8.out.size))
        clear hB9
        go_wp2_with fail
        refine (lives_any _).mono ?_
        rintro e w10 ⟨rfl, hB10⟩
        have HB10 : Hid (Below w.heap.size w w10) := Lib.hid (HB9.out.trans (hB10.mono HB9.out.size))
        clear hB10
        go_wp2_with fail
        go_ret
        exact ⟨rfl, HB10.out⟩
      · have q5 : (fin == 5) = false := beq_eq_false_iff_ne.2 h5
        have hle : st' ≤ 2 * st := HKS2.out h5
        have qle : decide (st' ≤ 2 * st) = true := decide_eq_true hle
        have hs0 : 0 ≤ st ∧ st ≤ 100000 := HST0.out
        obtain ⟨hs1, hs2⟩ := hs0
        clear h5
        go_wp2_with fail
        refine HBG.out.mono ?_
        rintro e w9 ⟨rfl, hB9⟩
        obtain ⟨a0, a1, a2, a3, a4, af⟩ := kbc ((hB9.block _ (lt_of_heap HB89.out.1)).trans HB89.out.1)
        obtain ⟨b0, b1, b2, b3, b4, bf⟩ := kbc ((hB9.block _ (lt_of_heap HB89.out.2)).trans HB89.out.2)
        have HB9 : Hid (Below w.heap.size w w9) := Lib.hid (HB8.out.trans (hB9.mono HB8.out.size))
        clear hB9
        go_wp2_with fail
        refine (lives_any _).mono ?_
        rintro e w10 ⟨rfl, hB10⟩
        have HB10 : Hid (Below w.heap.size w w10) := Lib.hid (HB9.out.trans (hB10.mono HB9.out.size))
        clear hB10
        go_wp2_with fail
        go_ret
        exact ⟨rfl, HB10.out⟩
end Go.Proofs.Ytnfneinonkpmeaa
