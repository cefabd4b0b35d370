/- Small: the programs that the laws of the middle layers look at. -/
import Derived.Test.YtlniohgnkihefaaDoorLj22
import Derived.Test.YtlniohgnkihefaaDoorLj12
namespace Go.Proofs.YtlniohgnkihefaaDoor
open Go.RowKit
variable {T : Nat → Prop}

structure SmallV (m : Mid) : Prop where
  may : MayV m
  light : LightV m
  regs : ∀ f ∈ m.fns, f.regs ≤ 40

theorem Fine_any (m : Mid) (A B : Option Addr) (c d : Nat) (w : World) (h : RdMid w T m A c B d) :
    Calls Tryd.prog 17 #[.agg #[.slice A m.globals.length c, .slice B m.fns.length d]] w (Told w (MayV m ∧ LightV m)) := by
  obtain ⟨w1, hw1, hb1, hlt1, hc⟩ := box_new w #[.slice A m.globals.length c, .slice B m.fns.length d] 25
  have hc0 := hc 0
  have hc1 := hc 1
  simp only [List.getElem?_toArray, List.getElem?_cons_succ, List.getElem?_cons_zero] at hc0 hc1
  have HM := Lib.hid (mid_below h hb1)
  have HB1 := Lib.hid hb1
  have HW := Lib.hid hw1
  clear h hb1 hc hw1
  go_enter Tryd.func17, Tryd.ntmps17
  go_wp2_with fail
  rw [← HW.out]
  refine (Light_any m A B c d _ HM.out).mono ?_
  rintro e w2 ⟨t, rfl, hB2, hv⟩
  have d0 := (hB2.cell (p := ⟨w.heap.size, 0, none⟩) hlt1).trans hc0
  have d1 := (hB2.cell (p := ⟨w.heap.size, 1, none⟩) hlt1).trans hc1
  have HBW : Hid (Below w.heap.size w w2) := Lib.hid (HB1.out.trans (hB2.mono HB1.out.size))
  have HM2 := Lib.hid (mid_below HM.out hB2)
  have HV := Lib.hid hv
  clear hB2 hv
  cases t with
  | false =>
    go_wp2_with fail
    go_ret
    exact ⟨false, rfl, HBW.out, fun h => by cases h⟩
  | true =>
    go_wp2_with fail
    refine (May_any m A B c d _ HM2.out).mono ?_
    rintro e w3 ⟨t, rfl, hB3, hv⟩
    have HBW3 : Hid (Below w.heap.size w w3) := Lib.hid (HBW.out.trans (hB3.mono HBW.out.size))
    have HV3 := Lib.hid hv
    clear hB3 hv
    go_wp2_with fail
    go_ret
    exact ⟨t, rfl, HBW3.out, fun h => ⟨HV3.out h, by first | exact HV.out rfl | exact HV.out trivial⟩⟩

theorem Small_any (m : Mid) (A B : Option Addr) (c d : Nat) (w : World) (h : RdMid w T m A c B d) :
    Calls Tryd.prog 5 #[.agg #[.slice A m.globals.length c, .slice B m.fns.length d]] w (Told w (SmallV m)) := by
  have hlf : m.fns.length ≤ 9223372036854775807 := by have := h.nfns; unfold maxLen at this; omega
  obtain ⟨w1, hw1, hb1, hlt1, hc⟩ := box_new w #[.slice A m.globals.length c, .slice B m.fns.length d] 25
  have hc0 := hc 0
  have hc1 := hc 1
  simp only [List.getElem?_toArray, List.getElem?_cons_succ, List.getElem?_cons_zero] at hc0 hc1
  have HM := Lib.hid (mid_below h hb1)
  have HB1 := Lib.hid hb1
  have HW := Lib.hid hw1
  clear h hb1 hc hw1
  go_enter Tryd.func5, Tryd.ntmps5
  go_wp2_with fail
  rw [← HW.out]
  go_loopw [8] (fun i wr => ∃ (k : Nat), k ≤ m.fns.length ∧ i = .int .i64 (k : Nat) ∧ Below w1.heap.size w1 wr ∧ ∀ j (hl : j < m.fns.length), j < k → m.fns[j].regs ≤ 40) (fun i _ => m.fns.length - (intOf i).toNat)
  case atStart => exact ⟨0, by omega, rfl, Below.refl _ _, fun j hl hj => by omega⟩
  case round =>
    obtain ⟨k, hk, rfl, hB, hn⟩ := hrel
    have HB := Lib.hid hB
    have HK := Lib.hid hn
    have hd0 := (hB.cell (p := ⟨w.heap.size, 0, none⟩) hlt1).trans hc0
    have hd1 := (hB.cell (p := ⟨w.heap.size, 1, none⟩) hlt1).trans hc1
    have HBW : Hid (Below w.heap.size w wr) := Lib.hid (HB1.out.trans (hB.mono HB1.out.size))
    clear hB hn
    by_cases hlt : k < m.fns.length
    · obtain ⟨f, hfe⟩ : ∃ f, f = m.fns[k] := ⟨_, rfl⟩
      obtain ⟨g, off, A1, c1, rfl, hg, hok, hsub, g0, g1, g2, g3⟩ := fn_at (fns_below HM.out.fns HB.out) k hlt f hfe
      have HFE := Lib.hid hfe
      clear hok hsub hfe
      by_cases h40 : 40 < f.regs
      · go_wp2_with fail
        go_ret
        exact ⟨false, rfl, HBW.out.alloc HBW.out.size _, fun h => by cases h⟩
      · go_wp2_with fail
        go_roundw
        case rel => exact ⟨k + 1, by omega, by go_num, HB.out.alloc HB.out.size _, upto_succ (P := fun f : Fn => f.regs ≤ 40) HK.out hlt HFE.out (by show f.regs ≤ 40; omega)⟩
        case measure => simp [intOf]; omega
    · obtain rfl : k = m.fns.length := by omega
      go_wp2_with fail
      refine (Fine_any m A B c d _ (mid_below HM.out HB.out)).mono ?_
      rintro e w3 ⟨t, rfl, hB3, hv⟩
      have HBW3 : Hid (Below w.heap.size w w3) := Lib.hid (HBW.out.trans (hB3.mono HBW.out.size))
      have HV3 := Lib.hid hv
      clear hB3 hv
      go_wp2_with fail
      go_ret
      exact ⟨t, rfl, HBW3.out, fun h => ⟨(HV3.out h).1, (HV3.out h).2, fold_names fun j hl => HK.out j hl hl⟩⟩
end Go.Proofs.YtlniohgnkihefaaDoor
namespace Go.Proofs.YtlniohgnkihefaaDoor
open Go.RowKit
variable {T : Nat → Prop} {w : World}
theorem rows_choose {α β : Type} (k : β → α) (P : Nat → β → Prop) (xs : List α) (h : ∀ i (hi : i < xs.length), ∃ y, k y = xs[i] ∧ P i y) : ∃ ys : List β, ys.map k = xs ∧ ∀ i (hi : i < ys.length), P i ys[i] := by
  refine ⟨List.ofFn fun i : Fin xs.length => Classical.choose (h i i.2), ?_, fun i hi => ?_⟩
  · refine List.ext_getElem (by simp) fun i h1 h2 => ?_
    rw [List.getElem_map, List.getElem_ofFn]
    exact (Classical.choose_spec (h i h2)).1
  · rw [List.getElem_ofFn]
    have hi' : i < xs.length := by simpa using hi
    exact (Classical.choose_spec (h i hi')).2
theorem mem_of_rdT {A : Option Addr} {xs : List Value} (h : RdT w T A xs) : ReadsAt w A xs := fun hp => by
  obtain ⟨g, off, hA, _, hg, hx⟩ := h hp
  exact ⟨g, off, hA, hg, hx⟩
theorem insMem_of_rd {A : Option Addr} {l : List Ins} (h : RdSl 8 (RdIns w T) w T A l) : InsMem w A l := by
  by_cases hp : 0 < l.length
  · obtain ⟨g, off, hA, _, hg, hc⟩ := h hp
    obtain ⟨ys, h1, h2⟩ := rows_choose InsQ.k (fun i y => (∀ j v, (insCells y.k (.slice y.A y.k.args.length y.c))[j]? = some v → w.cell? ⟨g, off + i * 8 + j, none⟩ = some v) ∧ ReadsAt w y.A (ints y.k.args)) l fun i hi => by
      obtain ⟨cs, _, ⟨_, B, c, rfl, hr⟩, hat⟩ := hc i _ (List.getElem?_eq_getElem hi)
      exact ⟨⟨l[i], B, c⟩, rfl, hat, mem_of_rdT hr⟩
    refine ⟨ys, h1, fun _ => ⟨g, off, hA, hg, fun i hi j v hv => (h2 i hi).1 j v hv⟩, fun y hy => ?_⟩
    obtain ⟨i, hi, rfl⟩ := List.getElem_of_mem hy
    exact (h2 i hi).2
  · obtain rfl : l = [] := List.length_eq_zero_iff.1 (by omega)
    exact ⟨[], rfl, fun h => by simp at h, fun _ h => by cases h⟩
theorem blkMem_of_rd {A : Option Addr} {l : List Blk} (h : RdSl 5 (RdBlk w T) w T A l) : BlkMem w A l := by
  by_cases hp : 0 < l.length
  · obtain ⟨g, off, hA, _, hg, hc⟩ := h hp
    obtain ⟨ys, h1, h2⟩ := rows_choose BlkQ.k (fun i y => (∀ j v, (blkCells y.k (.slice y.A y.k.ins.length y.c))[j]? = some v → w.cell? ⟨g, off + i * 5 + j, none⟩ = some v) ∧ InsMem w y.A y.k.ins) l fun i hi => by
      obtain ⟨cs, _, ⟨_, B, c, rfl, hr⟩, hat⟩ := hc i _ (List.getElem?_eq_getElem hi)
      exact ⟨⟨l[i], B, c⟩, rfl, hat, insMem_of_rd hr⟩
    refine ⟨ys, h1, fun _ => ⟨g, off, hA, hg, fun i hi j v hv => (h2 i hi).1 j v hv⟩, fun y hy => ?_⟩
    obtain ⟨i, hi, rfl⟩ := List.getElem_of_mem hy
    exact (h2 i hi).2
  · obtain rfl : l = [] := List.length_eq_zero_iff.1 (by omega)
    exact ⟨[], rfl, fun h => by simp at h, fun _ h => by cases h⟩
theorem regB_lt {r n : Int} {b : Bool} (h : regB r n b = true) (hn : n ≤ 4096) : r < 65536 := by
  unfold regB at h
  simp only [Bool.or_eq_true, Bool.and_eq_true, decide_eq_true_eq] at h
  rcases h with ⟨_, h⟩ | ⟨_, h⟩ <;> omega
theorem insV_regs {n : Int} {x : Ins} (h : InsV n x) (hn : n ≤ 4096) : RegsOk x ∧ x.args.length ≤ 1000 := by
  cases h with
  | call d name args hd hnm hl ha => exact ⟨⟨by show (-1 : Int) < 65536; omega, by show (-1 : Int) < 65536; omega, fun r hr => regB_lt (ha r hr) hn⟩, by show args.length ≤ 1000; omega⟩
  | _ =>
    refine ⟨⟨?_, ?_, fun r hr => by simp at hr⟩, by simp⟩
    all_goals first
      | exact regB_lt (by assumption) hn
      | (show (-1 : Int) < 65536; omega)
theorem flow_of {f : Fn} (h : FnV f) (hl : LightFn f) : FlowF f.blocks := by
  refine ⟨by have := hl.nb; omega, fun k hk => ?_⟩
  have hr := h.regs.2
  have hi := hl.ni k hk
  have := h.blocks k hk
  cases this with
  | jump ins tt hx ht => exact ⟨by omega, .inl rfl, by show (0 : Int) < 65536; omega, fun _ => ht, fun e => by simp at e, fun x hx' => insV_regs (hx x hx') hr⟩
  | branch ins a tt els hx ha ht he => exact ⟨by omega, .inr (.inl rfl), regB_lt ha hr, fun _ => ht, fun _ => he, fun x hx' => insV_regs (hx x hx') hr⟩
  | leave ins a hx ha => exact ⟨by omega, .inr (.inr rfl), regB_lt ha hr, fun e => by simp at e, fun e => by simp at e, fun x hx' => insV_regs (hx x hx') hr⟩
theorem data_of {A : Option Addr} {l : List Blk} (h : RdSl 5 (RdBlk w T) w T A l) : DataF l := by
  intro k hk
  obtain ⟨i, hi, rfl⟩ := List.getElem_of_mem hk
  obtain ⟨_, _, _, _, _, _, hok, hsub, _⟩ := blk_at h i hi _ rfl
  refine ⟨hok, fun x hx => ?_⟩
  obtain ⟨j, hj, rfl⟩ := List.getElem_of_mem hx
  obtain ⟨_, _, _, _, _, _, hok, _⟩ := ins_at hsub j hj _ rfl
  exact hok
end Go.Proofs.YtlniohgnkihefaaDoor
