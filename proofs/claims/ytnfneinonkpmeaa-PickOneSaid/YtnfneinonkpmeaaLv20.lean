/- brazierlaw15.All: the walk. Written by genall.py. -/
import Derived.Deep.DeepCutAuto
import Derived.Test.YtnfneinonkpmeaaLv18
import Derived.Test.YtnfneinonkpmeaaLv19
import Derived.Test.YtnfneinonkpmeaaLv13
import Derived.Test.YtnfneinonkpmeaaLv3
import Derived.Test.YtnfneinonkpmeaaLv1
namespace Go.Proofs.Ytnfneinonkpmeaa
open Go.RowKit Go.Maps
section
variable {w w' : World} {S T T' : Nat → Prop}
theorem RdSl.monoB {α : Type} {size : Nat} {R R' : α → List Value → Prop} {A : Option Addr} {xs : List α} (h : RdSl size R w T A xs) (hT : ∀ k, T k → k < w.heap.size → T' k) (hR : ∀ x cs, R x cs → R' x cs) : RdSl size R' w T' A xs := by
  intro hp
  obtain ⟨g, off, hA, ht, hg, hx⟩ := h hp
  refine ⟨g, off, hA, hT g ht hg, hg, fun i x hi => ?_⟩
  obtain ⟨cs, h1, h2, h3⟩ := hx i x hi
  exact ⟨cs, h1, hR x cs h2, h3⟩
theorem RdCode.monoB {A : Option Addr} {l : List Vins} (h : RdCode w T A l) (hT : ∀ k, T k → k < w.heap.size → T' k) : RdCode w T' A l := RdSl.monoB h hT fun _ _ h => h.mono hT
theorem RdVfn.monoB {x : VFn} {cs : List Value} (h : RdVfn w T x cs) (hT : ∀ k, T k → k < w.heap.size → T' k) : RdVfn w T' x cs := by
  obtain ⟨h1, A, c, h2, h3⟩ := h; exact ⟨h1, A, c, h2, h3.monoB hT⟩
theorem RdVfn.keep {x : VFn} {cs : List Value} (h : RdVfn w T x cs) (hc : Chg S w w') (hT : ∀ k, T k → k < w.heap.size → ¬ S k) : RdVfn w' T x cs := by
  obtain ⟨h1, A, c, h2, h3⟩ := h; exact ⟨h1, A, c, h2, RdSl.kept h3 hc hT fun _ _ h => h.kept hc hT⟩
theorem flat4_len {n : Nat} {L : List (List Value)} (h : ∀ c ∈ L, c.length = n) : L.flatten.length = L.length * n := by
  induction L with
  | nil => simp
  | cons c L ih =>
    rw [List.flatten_cons, List.length_append, ih fun x hx => h x (by simp [hx]), h c (by simp), List.length_cons, Nat.add_mul]; omega
theorem flat4_at {n : Nat} {L : List (List Value)} (h : ∀ c ∈ L, c.length = n) (i j : Nat) (hj : j < n) : L.flatten[i * n + j]? = (L[i]?).bind fun c => c[j]? := by
  induction L generalizing i with
  | nil => simp
  | cons c L ih =>
    have hc := h c (by simp)
    cases i with
    | zero => rw [List.flatten_cons, List.getElem?_append_left (by omega)]; simp
    | succ i =>
      have e : (i + 1) * n + j = n + (i * n + j) := by rw [Nat.add_mul]; omega
      rw [List.flatten_cons, List.getElem?_append_right (by omega), hc, e, show n + (i * n + j) - n = i * n + j from by omega, ih fun x hx => h x (by simp [hx])]
      simp
/-- These cells show these functions. -/
def FnsCells (w : World) (T : Nat → Prop) (l : List VFn) (xs : List Value) : Prop :=
  ∃ ps : List (VFn × List Value), ps.map (·.1) = l ∧ (∀ p ∈ ps, RdVfn w T p.1 p.2) ∧ xs = (ps.map (·.2)).flatten
theorem FnsCells.nil : FnsCells w T [] [] := ⟨[], rfl, by simp, rfl⟩
theorem FnsCells.kept {l : List VFn} {xs : List Value} (h : FnsCells w T l xs) (hc : Chg S w w') (hT : ∀ k, T k → k < w.heap.size → ¬ S k) : FnsCells w' T l xs := by
  obtain ⟨ps, h1, h2, h3⟩ := h; exact ⟨ps, h1, fun p hp => (h2 p hp).keep hc hT, h3⟩
theorem FnsCells.mono {l : List VFn} {xs : List Value} (h : FnsCells w T l xs) (hT : ∀ k, T k → k < w.heap.size → T' k) : FnsCells w T' l xs := by
  obtain ⟨ps, h1, h2, h3⟩ := h; exact ⟨ps, h1, fun p hp => (h2 p hp).monoB hT, h3⟩
theorem FnsCells.snoc {l : List VFn} {xs : List Value} {x : VFn} {cs : List Value} (h : FnsCells w T l xs) (k : RdVfn w T x cs) : FnsCells w T (l ++ [x]) (xs ++ cs) := by
  obtain ⟨ps, rfl, h2, rfl⟩ := h
  refine ⟨ps ++ [(x, cs)], by simp, fun p hp => ?_, by simp⟩
  rcases List.mem_append.1 hp with hp | hp
  · exact h2 p hp
  · rw [List.mem_singleton.1 hp]; exact k
theorem RdVfn.len {x : VFn} {cs : List Value} (h : RdVfn w T x cs) : cs.length = 4 := by obtain ⟨_, A, c, rfl, _⟩ := h; rfl
theorem FnsCells.at_ {l : List VFn} {xs : List Value} (h : FnsCells w T l xs) (i : Nat) (x : VFn) (hx : l[i]? = some x) : ∃ cs, RdVfn w T x cs ∧ ∀ j u, cs[j]? = some u → xs[i * 4 + j]? = some u := by
  obtain ⟨ps, rfl, h2, rfl⟩ := h
  rw [List.getElem?_map] at hx
  obtain ⟨p, hp, rfl⟩ := Option.map_eq_some_iff.1 hx
  have hr := h2 p (List.mem_of_getElem? hp)
  refine ⟨p.2, hr, fun j u hu => ?_⟩
  have hj := (List.getElem?_eq_some_iff.1 hu).1
  rw [flat4_at (n := 4) (fun c hc => by obtain ⟨q, hq, rfl⟩ := List.mem_map.1 hc; exact (h2 q hq).len) i j (by rw [hr.len] at hj; exact hj), List.getElem?_map, hp]
  exact hu
end
theorem info_vfn : (Try.prog.info? 34).map (fun i => (i.zero, i.size, i.bytes)) = some (some (.agg #[.string ⟨#[]⟩, .int .i64 0, .int .i64 0, .slice none 0 0]), 4, 56) := by kernel_rfl
/-- Between two rounds of All. -/
structure AllV (wC : World) (l : List VFn) (k : Nat) (v : Value) (rr : Option Nat) (W : World) : Prop where
  below : Below wC.heap.size wC W
  row : ∃ xs, RowAt W 34 4 v rr k xs ∧ FnsCells W (fun q => wC.heap.size < q ∧ some q ≠ rr) (l.take k) xs
  low : ∀ q, rr = some q → wC.heap.size ≤ q
def ProgBox (W : World) (q : Nat) (u v : Value) : Prop := W.heap[q]? = some (.cells #[u, v] 41 (0, 0))
theorem ProgBox.below {W W' : World} {q : Nat} {u v : Value} (h : ProgBox W q u v) (hb : Below W.heap.size W W') : ProgBox W' q u v := (hb.block q (lt_of_heap h)).trans h
section
variable {wC W W' : World} {l : List VFn} {k : Nat} {v : Value} {rr : Option Nat}
theorem AllV.start (l : List VFn) (h : Below wC.heap.size wC W) : AllV wC l 0 (.slice none 0 0) none W := ⟨h, ⟨[], RowAt.nil _ _ _, FnsCells.nil⟩, fun _ h => by cases h⟩
theorem AllV.below_ (h : AllV wC l k v rr W) (hb : Below W.heap.size W W') : AllV wC l k v rr W' := by
  obtain ⟨xs, h2, h3⟩ := h.row
  exact ⟨h.below.trans (hb.mono h.below.size), ⟨xs, h2.kept (S := fun _ => False) (Chg.of_below hb _) fun _ _ h => h, h3.kept (S := fun _ => False) (Chg.of_below hb _) fun _ _ _ h => h⟩, h.low⟩
theorem AllV.row7 (h : AllV wC l k v rr W) {q : Nat} {u v' : Value} (hb : ProgBox W q u v') : rr ≠ some q := by
  obtain ⟨xs, h2, _⟩ := h.row
  exact row_not h2 hb (by decide)
theorem AllV.push (h : AllV wC l k v rr W) {N : Nat} (hN : wC.heap.size < N) (hr : ∀ q, rr = some q → q < N) {f : VFn} {ys : List Value} (hk : k < l.length) (hf : f = l[k]) {xs : List Value} (hrow : RowAt W 34 4 v rr k xs) (hx : FnsCells W (fun q => wC.heap.size < q ∧ some q ≠ rr) (l.take k) xs)
    (hy : RdVfn W (fun q => N ≤ q) f ys) {v' : Value} {r' : Option Nat} (hR : RowAt W' 34 4 v' r' (k + 1) (xs ++ ys)) (hC : Chg (fun q => some q = rr) W W') (hNw : NewOr W rr r') : AllV wC l (k + 1) v' r' W' := by
  have h1 : FnsCells W (fun q => wC.heap.size < q ∧ some q ≠ rr) (l.take k ++ [f]) (xs ++ ys) := hx.snoc (hy.monoB fun q hq _ => ⟨by omega, fun e => by have := hr q e.symm; omega⟩)
  have h2 := h1.kept hC fun q hq _ e => hq.2 e
  have e1 : l.take (k + 1) = l.take k ++ [f] := by rw [List.take_succ_eq_append_getElem hk, hf]
  refine ⟨h.below.trans (hC.below h.below.size fun q e => h.low q e.symm), ⟨xs ++ ys, hR, ?_⟩, fun q hq => hNw.ge h.below.size h.low q hq⟩
  rw [e1]
  rcases hNw with rfl | ⟨j, rfl, hj⟩
  · exact h2
  · have h3 : FnsCells W (fun q => wC.heap.size < q ∧ some q ≠ some j) (l.take k ++ [f]) (xs ++ ys) := h1.mono fun q hq hl => ⟨hq.1, fun e => by cases e; omega⟩
    have h4 : FnsCells W (fun q => (wC.heap.size < q ∧ some q ≠ some j) ∧ some q ≠ rr) (l.take k ++ [f]) (xs ++ ys) := h1.mono fun q hq hl => ⟨⟨hq.1, fun e => by cases e; omega⟩, hq.2⟩
    exact (h4.kept hC fun q hq _ e => hq.2 e).mono fun q hq _ => hq.1
theorem AllV.store (h : AllV wC l k v rr W) {u v' : Value} (hb : ProgBox W wC.heap.size u v') (j : Nat) (z : Value) : AllV wC l k v rr (W.setCell ⟨wC.heap.size, j, none⟩ z) := by
  have hs := Chg.store W wC.heap.size j z
  obtain ⟨xs, h2, h3⟩ := h.row
  exact ⟨h.below.trans (hs.below h.below.size fun q e => by rw [e]; exact Nat.le_refl _), ⟨xs, h2.kept hs fun q hq e => h.row7 hb (by rw [hq, e]), h3.kept hs fun q hq _ e => by have := hq.1; omega⟩, h.low⟩
theorem AllV.done {q : Nat} {u0 u1 : Value} (h : AllV wC l l.length v rr W) (hq : ProgBox W q u0 u1) (hql : q ≤ wC.heap.size) (hc : Chg (fun k => k = q) W W') : ∃ A c, v = .slice A l.length c ∧ l.length ≤ maxLen ∧ RdSl 4 (RdVfn W' fun _ => True) W' (fun _ => True) A l := by
  obtain ⟨xs, h2, h3⟩ := h.row
  have h2' := h2.kept hc fun k hk e => h.row7 hq (by rw [hk, e])
  have h3' := h3.kept hc fun k hk _ e => by have := hk.1; omega
  obtain ⟨A, c, rfl, hm⟩ := h2.shape
  refine ⟨A, c, rfl, hm, fun hp => ?_⟩
  obtain ⟨g, off, cap, hv, hr, _, _, hg, hcell, _⟩ := h2'.form hp
  injection hv with hA _ _
  rw [List.take_length] at h3'
  refine ⟨g, off, hA, trivial, hg, fun i x hx => ?_⟩
  obtain ⟨cs, h5, h6⟩ := h3'.at_ i x hx
  exact ⟨cs, h5.len, h5.monoB fun _ _ _ => trivial, fun j u hu => by rw [Nat.add_assoc]; exact hcell _ _ (h6 j u hu)⟩
end
structure AllS (q3 q5 : Nat) (v : Value) (nm : ByteArray) (pa re : Int) (A : Option Addr) (n c : Nat) (Y : World) : Prop where
  e1 : Y.cell? ⟨q3, 1, none⟩ = some v
  e2 : Y.cell? ⟨q5, 0, none⟩ = some (.string nm)
  e3 : Y.cell? ⟨q5, 1, none⟩ = some (.int .i64 pa)
  e4 : Y.cell? ⟨q5, 2, none⟩ = some (.int .i64 re)
  e5 : Y.cell? ⟨q5, 3, none⟩ = some (.slice A n c)
theorem AllS.below {q3 q5 : Nat} {v : Value} {nm : ByteArray} {pa re : Int} {A : Option Addr} {n c : Nat} {Y Y' : World} (h : AllS q3 q5 v nm pa re A n c Y) (hl : q3 < Y.heap.size ∧ q5 < Y.heap.size) (hb : Below Y.heap.size Y Y') : AllS q3 q5 v nm pa re A n c Y' :=
  ⟨(hb.cell (p := ⟨q3, 1, none⟩) hl.1).trans h.e1, (hb.cell (p := ⟨q5, 0, none⟩) hl.2).trans h.e2, (hb.cell (p := ⟨q5, 1, none⟩) hl.2).trans h.e3, (hb.cell (p := ⟨q5, 2, none⟩) hl.2).trans h.e4, (hb.cell (p := ⟨q5, 3, none⟩) hl.2).trans h.e5⟩
theorem AllS.rowk {q3 q5 : Nat} {v : Value} {nm : ByteArray} {pa re : Int} {A : Option Addr} {n c : Nat} {Y Y' : World} (h : AllS q3 q5 v nm pa re A n c Y) {rr : Option Nat} (hc : Chg (fun k => some k = rr) Y Y') (h3 : rr ≠ some q3) (h5 : rr ≠ some q5) : AllS q3 q5 v nm pa re A n c Y' := by
  have h3 : some q3 ≠ rr := fun e => h3 e.symm
  have h5 : some q5 ≠ rr := fun e => h5 e.symm
  exact ⟨hc.cell h.e1 h3, hc.cell h.e2 h5, hc.cell h.e3 h5, hc.cell h.e4 h5, hc.cell h.e5 h5⟩
theorem newVfn {W : World} {q : Nat} {f : Fn} {A : Option Addr} {c : Nat} (h : W.heap[q]? = some (.cells #[.string f.name, .int .i64 f.params, .int .i64 f.regs, .slice A (codeS f.blocks).length c] 34 (0, 0))) :
    ∀ j u, (vfnCells (pickFn f) (.slice A (codeS f.blocks).length c))[j]? = some u → W.cell? ((⟨q, 0, none⟩ : Addr).add j) = some u := fun j u hu => by
  rw [show ((⟨q, 0, none⟩ : Addr).add j) = ⟨q, j, none⟩ from by by_cases e : j = 0 <;> simp [Addr.add, e], cell_of_row _ _ _ _ _ _ h, ← Array.getElem?_toList]
  exact hu
theorem vfn_plain (v : VFn) (A : Option Addr) (n c : Nat) : ∀ u ∈ vfnCells v (.slice A n c), u.oneCell' = true := by
  intro u hu
  simp [vfnCells] at hu
  rcases hu with rfl | rfl | rfl | rfl <;> rfl
def AllD (w : World) (m : Mid) (A : Option Addr) (c : Nat) (e : Ending) (w' : World) : Prop := ∃ B d, e = .returned (.agg #[.slice A m.globals.length c, .slice B m.fns.length d]) ∧ Below w.heap.size w w' ∧ RdSl 4 (RdVfn w' fun _ => True) w' (fun _ => True) B (pickP m).fns
variable {T : Nat → Prop}
set_option maxRecDepth 100000 in
set_option maxHeartbeats 4000000 in
theorem vAll_any (m : Mid) (hV : ∀ f ∈ m.fns, FnV f ∧ LightFn f) (hn8 : m.fns.length ≤ 8) (A B : Option Addr) (c d : Nat) (w : World) (h : RdMid w T m A c B d) :
    Calls Try.prog 12 #[.agg #[.slice A m.globals.length c, .slice B m.fns.length d]] w (AllD w m A c) := by
  obtain ⟨n, hn⟩ : ∃ n, n = m.fns.length := ⟨_, rfl⟩
  obtain ⟨ng, hng⟩ : ∃ ng, ng = m.globals.length := ⟨_, rfl⟩
  rw [← hn] at hn8 ⊢
  rw [← hng]
  have HN := Lib.hid hn
  have HNG := Lib.hid hng
  have HM := Lib.hid h
  have HSM := Lib.hid hV
  clear hn hng h hV
  go_enter Try.func12, Try.ntmps12
  go_upto_region 1 with (fail)
  obtain ⟨bx, hbx⟩ : ∃ bx, bx = w.heap.size := ⟨_, rfl⟩
  obtain ⟨wC, hwC⟩ : ∃ wC, wC = (w.alloc (.cells #[.slice A ng c, .slice B n d] 25)).alloc (.cells #[.slice none 0 0, .slice none 0 0] 41) := ⟨_, rfl⟩
  rw [← hwC, ← hbx]
  have hb0 : Below w.heap.size w wC := by rw [hwC]; exact ((Below.refl _ w).alloc (Nat.le_refl _) _).alloc (by simp) _
  have hm0 : wC.heap[bx]? = some (.cells #[.slice A ng c, .slice B n d] 25 (0, 0)) := by
    rw [hwC, hbx]; exact (heap_alloc_old _ _ (by simp)).trans (heap_alloc_new w _)
  have hr0 : ProgBox wC (bx + 1) (.slice none 0 0) (.slice none 0 0) := by
    rw [hwC, hbx]
    have h := heap_alloc_new (w.alloc (.cells #[.slice A ng c, .slice B n d] 25)) (.cells #[.slice none 0 0, .slice none 0 0] 41)
    rw [World.size_alloc] at h
    exact h
  have HBC := Lib.hid hb0
  have HMB := Lib.hid hm0
  have HRB := Lib.hid hr0
  have HBX := Lib.hid hbx
  have c0 : wC.cell? ⟨bx, 0, none⟩ = some (.slice A ng c) := cell_of_row _ _ _ _ _ _ hm0
  have c1 : wC.cell? ⟨bx, 1, none⟩ = some (.slice B n d) := cell_of_row _ _ _ _ _ _ hm0
  have hbl0 : bx + 1 < wC.heap.size := lt_of_heap hr0
  have hbl : bx < wC.heap.size := by omega
  clear hbl0
  have HCSZ : Hid (wC.heap.size = bx + 1 + 1) := Lib.hid (by rw [hwC, hbx]; simp)
  clear hbx hwC hb0 hm0 hr0
  go_wp2_with fail
  clear c0 c1
  obtain ⟨q3, hq3⟩ : ∃ q3, q3 = wC.heap.size := ⟨_, rfl⟩
  obtain ⟨W1, hW1⟩ : ∃ W1, W1 = wC.alloc (.cells #[.slice A ng c, .slice none 0 0] 41) := ⟨_, rfl⟩
  rw [← hW1, ← hq3]
  have hI0 : AllV wC (pickP m).fns 0 (.slice none 0 0) none W1 := AllV.start _ (by rw [hW1]; exact (Below.refl _ _).alloc (Nat.le_refl _) _)
  have hM1 : ProgBox W1 q3 (.slice A ng c) (.slice none 0 0) := by rw [hW1, hq3]; exact heap_alloc_new wC _
  have HI0 := Lib.hid (And.intro hI0 hM1)
  have HQ3 : Hid (q3 = wC.heap.size) := Lib.hid hq3
  clear hI0 hM1 hW1 hq3
  go_loopw [12] (fun i wr => ∃ (k : Nat) (v : Value) (rr : Option Nat), k ≤ n ∧ i = .int .i64 (k : Nat) ∧ AllV wC (pickP m).fns k v rr wr ∧ ProgBox wr q3 (.slice A ng c) v) (fun i _ => n - (intOf i).toNat)
  case atStart => exact ⟨0, _, _, Nat.zero_le _, rfl, HI0.out.1, HI0.out.2⟩
  case round =>
    obtain ⟨k, v, rr, hk, rfl, hI, hM⟩ := hrel
    clear HI0
    have HI1 := Lib.hid hI
    have HM1 := Lib.hid hM
    have hlw : Below w.heap.size w wr := HBC.out.trans (hI.below.mono HBC.out.size)
    by_cases hltn : k < n
    · have hlt : k < m.fns.length := by rw [← HN.out]; exact hltn
      obtain ⟨f, hfe⟩ : ∃ f, f = m.fns[k] := ⟨_, rfl⟩
      obtain ⟨g, off, A1, c1, rfl, hg, hok, hsub, g0, g1, g2, g3⟩ := fn_at (fns_below HM.out.fns hlw) k hlt f hfe
      obtain ⟨hFV, hFL⟩ := HSM.out f (by rw [hfe]; exact List.getElem_mem hlt)
      have HFK : Hid (pickFn f = (pickP m).fns[k]'(by simpa [pickP] using hlt)) := Lib.hid (by simp [pickP, hfe])
      have HLP : Hid (k < (pickP m).fns.length) := Lib.hid (by simpa [pickP] using hlt)
      obtain ⟨u3, hu3⟩ : ∃ u3, u3 = wr.heap.size := ⟨_, rfl⟩
      obtain ⟨W5, hW5⟩ : ∃ W5, W5 = wr.alloc (.cells #[.string f.name, .int .i64 f.params, .int .i64 f.regs, .slice A1 f.blocks.length c1] 30) := ⟨_, rfl⟩
      have hal : Below wr.heap.size wr W5 := by rw [hW5]; exact (Below.refl _ _).alloc (Nat.le_refl _) _
      have hfb : W5.heap[u3]? = some (.cells #[.string f.name, .int .i64 f.params, .int .i64 f.regs, .slice A1 f.blocks.length c1] 30 (0, 0)) := by rw [hW5, hu3]; exact heap_alloc_new wr _
      have hdf : ∀ wd : World, Below W5.heap.size W5 wd → Calls Try.prog 9 #[.agg #[.string f.name, .int .i64 f.params, .int .i64 f.regs, .slice A1 f.blocks.length c1]] wd (VfnMadeN wd f (codeS f.blocks)) := fun wd hwd => Fn_anyN f hFV hFL A1 c1 wd (blks_below hsub (hal.trans (hwd.mono hal.size)))
      have HCLN : Hid ((codeS f.blocks).length ≤ maxLen) := Lib.hid (by
        have := codeTo_len f.blocks f.blocks.length hFL.ni hFL.nb
        rw [codeTo_all] at this
        unfold maxLen; omega)
      have HDF0 := Lib.hid hdf
      have HW5 := Lib.hid hW5
      have HU3 := Lib.hid hu3
      have HAL := Lib.hid hal
      have HFB := Lib.hid hfb
      clear hI hM hlw hok hsub hFV hFL hfe hdf hW5 hu3 hal hfb
      go_upto_region 5 with (fail)
      rw [← HW5.out, ← HU3.out]
      clear g0 g1 g2 g3 hg
      have hdw : Below W5.heap.size W5 W5.drew := below_drewN (Below.refl _ W5) 1
      have hI5 := (HI1.out.below_ HAL.out).below_ hdw
      have hM5 := (HM1.out.below HAL.out).below hdw
      have hfb5 : W5.drew.heap[u3]? = some (.cells #[.string f.name, .int .i64 f.params, .int .i64 f.regs, .slice A1 f.blocks.length c1] 30 (0, 0)) := HFB.out
      have hdf5 := HDF0.out W5.drew hdw
      have hsel : AllS q3 u3 v f.name f.params f.regs A1 f.blocks.length c1 W5.drew := ⟨cell_of_row _ _ _ _ _ _ hM5, cell_of_row _ _ _ _ _ _ hfb5, cell_of_row _ _ _ _ _ _ hfb5, cell_of_row _ _ _ _ _ _ hfb5, cell_of_row _ _ _ _ _ _ hfb5⟩
      have hl5 : q3 < W5.drew.heap.size ∧ u3 < W5.drew.heap.size := ⟨lt_of_heap hM5, lt_of_heap hfb5⟩
      have hb6 : rr ≠ some u3 := by
        obtain ⟨xs, h2, _⟩ := HI1.out.row
        exact fun e => by have := h2.lt u3 e; have := HU3.out; omega
      obtain ⟨wd, hwd⟩ : ∃ wd, wd = W5.drew := ⟨_, rfl⟩
      rw [← hwd] at hI5 hM5 hdf5 hsel hl5
      have HWD := Lib.hid hwd
      have HI := Lib.hid hI5
      have HM3 := Lib.hid hM5
      have HDF := Lib.hid hdf5
      have HL5 := Lib.hid hl5
      have HB6 := Lib.hid hb6
      have HRN : Hid (∀ q, rr = some q → q < wd.heap.size) := Lib.hid fun q hq => by
        obtain ⟨xs, h2, _⟩ := hI5.row
        exact h2.lt q hq
      clear hdw hI5 hM5 hfb5 hdf5 hl5 hb6 hwd HDF0
      refine wp_region_T (AllS q3 u3 v f.name f.params f.regs A1 f.blocks.length c1) [7] (by kernel_rfl) (by rw [← HWD.out]; exact hsel) (fun _ => ?_)
      rw [← HWD.out]
      refine wpAnyT_take (i := 0) (v := ?vc1) rfl (by kernel_rfl) (by kernel_rfl) (by kernel_rfl) rfl (fun _ _ _ h => h) (Or.inl ⟨by rfl, ?hyc1⟩) (DL.of hsel) ?restc1
      case hyc1 => (intro w hSw; go_simp; try rfl)
      try simp only [Act.put, List.setIfInBounds_toArray, List.set_cons_zero, List.set_cons_succ, List.getElem_toArray, List.getElem_cons_zero]
      refine wpAnyT_load (i := 1) (v := ?vc2) rfl (by kernel_rfl) (by kernel_rfl) (by kernel_rfl) rfl (by kernel_rfl) (by kernel_rfl) (fun _ _ _ h => h) (Or.inl ⟨by rfl, ?hyc2⟩) (DL.of hsel) ?restc2
      case hyc2 => (intro w hSw; obtain ⟨s1, s2, s3, s4, s5⟩ := hSw rfl; go_simp; try rfl)
      try simp only [Act.put, List.setIfInBounds_toArray, List.set_cons_zero, List.set_cons_succ, List.getElem_toArray, List.getElem_cons_zero, List.getElem_cons_succ]
      refine wpAnyT_load (i := 2) (v := ?vc3) rfl (by kernel_rfl) (by kernel_rfl) (by kernel_rfl) rfl (by kernel_rfl) (by kernel_rfl) (fun _ _ _ h => h) (Or.inl ⟨by rfl, ?hyc3⟩) (DL.of hsel) ?restc3
      case hyc3 => (intro w hSw; obtain ⟨s1, s2, s3, s4, s5⟩ := hSw rfl; go_simp; try rfl)
      try simp only [Act.put, List.setIfInBounds_toArray, List.set_cons_zero, List.set_cons_succ, List.getElem_toArray, List.getElem_cons_zero, List.getElem_cons_succ]
      refine wpAnyT_ready (rs := [3]) (by kernel_rfl) (by simp) ?_
      refine AllReadyT.cons rfl (fun K hK => ?_) AllReadyT.nil
      try simp only [Act.put, List.setIfInBounds_toArray, List.set_cons_zero, List.set_cons_succ, List.getElem_toArray, List.getElem_cons_zero, List.getElem_cons_succ]
      go_simp
      go_at_call 9
      refine HDF.out.mono ?_
      rintro e WE ⟨vE, rfl, hbE, A2, c2, rfl, hiE⟩
      have hselE := hsel.below HL5.out hbE
      have HIE := Lib.hid (HI.out.below_ hbE)
      have HME := Lib.hid (HM3.out.below hbE)
      have HFE := Lib.hid hiE
      have hu3E : u3 < WE.heap.size := Nat.lt_of_lt_of_le HL5.out.2 hbE.size
      have hq3E : q3 < WE.heap.size := Nat.lt_of_lt_of_le HL5.out.1 hbE.size
      clear hbE hiE
      refine hK.out _ _ (DL.of hselE) (fun _ => ?_)
      clear hK K
      try simp only [Act.put, List.setIfInBounds_toArray, List.set_cons_zero, List.set_cons_succ, List.getElem_toArray, List.getElem_cons_zero, List.getElem_cons_succ]
      refine wpAnyT_ready (rs := [4]) (by kernel_rfl) (by simp) ?_
      refine AllReadyT.cons rfl (fun K hK => ?_) AllReadyT.nil
      try simp only [Act.put, List.setIfInBounds_toArray, List.set_cons_zero, List.set_cons_succ, List.getElem_toArray, List.getElem_cons_zero, List.getElem_cons_succ]
      go_simp
      obtain ⟨W6, hW6⟩ : ∃ W6, W6 = WE.alloc (.cells #[.string f.name, .int .i64 f.params, .int .i64 f.regs, .slice A2 (codeS f.blocks).length c2] 34) := ⟨_, rfl⟩
      have hal : Below WE.heap.size WE W6 := by rw [hW6]; exact (Below.refl _ _).alloc (Nat.le_refl _) _
      have hsel6 := hselE.below ⟨hq3E, hu3E⟩ hal
      have HN6 : Hid (W6.heap[WE.heap.size]? = some (.cells #[.string f.name, .int .i64 f.params, .int .i64 f.regs, .slice A2 (codeS f.blocks).length c2] 34 (0, 0))) := Lib.hid (by rw [hW6]; exact heap_alloc_new WE _)
      have HI6 := Lib.hid (HIE.out.below_ hal)
      have HM6 := Lib.hid (HME.out.below hal)
      have HF6 : Hid (RdCode W6 (fun q => wd.heap.size ≤ q) A2 (codeS f.blocks)) := Lib.hid (RdCode.below HFE.out hal)
      try rw [← hW6]
      clear hal hW6
      refine hK.out _ _ (DL.of hsel6) (fun _ => ?_)
      clear hK K
      try simp only [Act.put, List.setIfInBounds_toArray, List.set_cons_zero, List.set_cons_succ, List.getElem_toArray, List.getElem_cons_zero, List.getElem_cons_succ]
      refine wpAnyT_ready (rs := [5]) (by kernel_rfl) (by simp) ?_
      refine AllReadyT.cons rfl (fun K hK => ?_) AllReadyT.nil
      obtain ⟨xs, hrow, hx3⟩ := HI6.out.row
      refine step_append_row _ (by rfl) _ _ 39 34 _ 4 56 (by rfl) Try.underlying39 info_vfn rfl hrow ⟨WE.heap.size, 0, none⟩ 1 1 (vfnCells (pickFn f) (.slice A2 (codeS f.blocks).length c2)) rfl (newVfn HN6.out) (vfn_plain _ _ _ _) (by rfl) (by rfl) (by omega) (by unfold maxLen; omega) (by omega) ?_
      intro v7 r7 W7 hR hC hN
      obtain ⟨A7, c7, rfl, _⟩ := hR.shape
      have HI7 : Hid (AllV wC (pickP m).fns (k + 1) (.slice A7 (k + 1) c7) r7 W7) := Lib.hid (HI6.out.push (N := wd.heap.size) (by have := HL5.out.1; have := HQ3.out; omega) HRN.out HLP.out HFK.out hrow hx3 ⟨HCLN.out, A2, c2, rfl, HF6.out⟩ hR hC hN)
      have h37 : ProgBox W7 q3 (.slice A ng c) v := hC.heap HM6.out fun e => HI6.out.row7 HM6.out e.symm
      have HM7 := Lib.hid h37
      have h7 : W7.cell? ⟨q3, 1, none⟩ = some v := cell_of_row _ _ _ _ _ _ h37
      have h7f : W7.frozen? ⟨q3, 1, none⟩ = false := frozen_of_row W7 q3 1 _ _ h37
      have hsel7 := hsel6.rowk hC (HI6.out.row7 HM6.out) HB6.out
      clear hx3 hrow hR hC hN h37
      refine hK.out _ _ (DL.of hsel7) (fun _ => ?_)
      clear hK K
      try simp only [Act.put, List.setIfInBounds_toArray, List.set_cons_zero, List.set_cons_succ, List.getElem_toArray, List.getElem_cons_zero, List.getElem_cons_succ]
      refine wpAnyT_take (i := 6) (v := ?vc4) rfl (by kernel_rfl) (by kernel_rfl) (by kernel_rfl) rfl (fun _ _ _ h => h) (Or.inl ⟨by rfl, ?hyc4⟩) (DL.of hsel7) ?restc4
      case hyc4 => (intro w hSw; go_simp; try rfl)
      try simp only [Act.put, List.setIfInBounds_toArray, List.set_cons_zero, List.set_cons_succ, List.getElem_toArray, List.getElem_cons_zero, List.getElem_cons_succ]
      refine wpAnyT_ready (rs := [7]) (by kernel_rfl) (by simp) ?_
      refine AllReadyT.cons rfl (fun K hK => ?_) AllReadyT.nil
      try simp only [Act.put, List.getElem_toArray, List.getElem_cons_zero, List.getElem_cons_succ]
      go_simp
      refine hK.out _ _ (DL.late (by kernel_rfl)) (fun _ => ?_)
      clear hK K
      try simp only [Act.put, List.setIfInBounds_toArray, List.set_cons_zero, List.set_cons_succ, List.getElem_toArray, List.getElem_cons_zero, List.getElem_cons_succ]
      refine wpAnyT_done (by kernel_rfl) ?_ _
      go_wp2_with fail
      go_roundw
      case rel => exact ⟨k + 1, .slice A7 (k + 1) c7, r7, hltn, by simp, by rw [HQ3.out]; exact HI7.out.store (by rw [← HQ3.out]; exact HM7.out) 1 _, heap_setCell_same W7 q3 1 _ 41 (.slice A7 (k + 1) c7) HM7.out⟩
      case measure => simp [intOf]; omega
    · obtain rfl : k = n := by omega
      have hmr := HRB.out.below HI1.out.below
      have m0 : wr.cell? ⟨q3, 0, none⟩ = some (.slice A ng c) := cell_of_row _ _ _ _ _ _ HM1.out
      have m1 : wr.cell? ⟨q3, 1, none⟩ = some v := cell_of_row _ _ _ _ _ _ HM1.out
      have r0 : wr.cell? ⟨bx + 1, 0, none⟩ = some (.slice none 0 0) := cell_of_row _ _ _ _ _ _ hmr
      have r1 : wr.cell? ⟨bx + 1, 1, none⟩ = some (.slice none 0 0) := cell_of_row _ _ _ _ _ _ hmr
      have rf := fun j => frozen_of_row wr (bx + 1) j _ _ hmr
      obtain ⟨Wf, hWf⟩ : ∃ Wf, Wf = (wr.setCell ⟨bx + 1, 0, none⟩ (.slice A ng c)).setCell ⟨bx + 1, 1, none⟩ v := ⟨_, rfl⟩
      have hch : Chg (fun q => q = bx + 1) wr Wf := by rw [hWf]; exact (Chg.store wr (bx + 1) 0 _).trans (Chg.store _ (bx + 1) 1 _) (fun _ _ h => h)
      have hbf : ProgBox Wf (bx + 1) (.slice A ng c) v := by
        rw [hWf]
        have h0 := heap_setCell_same wr (bx + 1) 0 _ 41 (.slice A ng c) hmr
        have h1 := heap_setCell_same _ (bx + 1) 1 _ 41 v h0
        exact h1
      have hln : (pickP m).fns.length = k := by rw [HN.out]; simp [pickP]
      have hI9 : AllV wC (pickP m).fns (pickP m).fns.length v rr wr := by rw [hln]; exact HI1.out
      obtain ⟨A9, c9, hv9, hmx, hfm⟩ := hI9.done hmr (by have := HCSZ.out; omega) hch
      have hbw : Below w.heap.size w Wf := (HBC.out.trans (HI1.out.below.mono HBC.out.size)).trans (hch.below (HBC.out.trans (HI1.out.below.mono HBC.out.size)).size fun q e => by have := HBX.out; omega)
      have f0 : Wf.cell? ⟨bx + 1, 0, none⟩ = some (.slice A ng c) := cell_of_row _ _ _ _ _ _ hbf
      have f1 : Wf.cell? ⟨bx + 1, 1, none⟩ = some v := cell_of_row _ _ _ _ _ _ hbf
      have HFIN := Lib.hid (And.intro hbw hfm)
      have HWF := Lib.hid hWf
      rw [hln] at hv9
      subst hv9
      clear hmr hI hM hWf hch hbf hfm hbw hI9 hln
      go_wp2_with fail
      rw [← HWF.out]
      refine bodyPost_ret (v := .agg #[.slice A ng c, .slice A9 k c9]) (by simp [results, Try.results12, go_sem, f0, f1]) rfl ⟨A9, c9, ?_, HFIN.out.1, HFIN.out.2⟩
      rw [← HN.out, ← HNG.out]
end Go.Proofs.Ytnfneinonkpmeaa
namespace Go.Proofs.Ytnfneinonkpmeaa
section
variable {p : VProg} {inp : List Int} {fuel : Int} {vf : VFr} {s : MS} {K : List VFr}
/-- A step at an instruction that is no label. -/
theorem step_ins {y : Vins} (h0 : s.fin = 0) (hy : vf.ins = y) (hl : y.op ≠ 50) (hf : (s.steps : Int) < fuel) : stepV p inp fuel (s, vf :: K) = vOp p inp y s.step vf.next K := by
  subst hy
  exact stepV_go h0 hl (by omega)
theorem vOp_ins {y : Vins} {s : MS} {vf : VFr} (h1 : y.op ≠ 49) (h2 : y.op ≠ 51) (h3 : y.op ≠ 52) (h4 : y.op ≠ 53) : vOp p inp y s vf K = vIns p inp y (rg vf.regs y.a) (rg vf.regs y.b) s vf K := by
  unfold vOp
  rw [if_neg h1, if_neg]
  rintro (h | ⟨h, _⟩ | ⟨h, _⟩)
  · exact h2 h
  · exact h3 h
  · exact h4 h
theorem step_op {y : Vins} (h0 : s.fin = 0) (hy : vf.ins = y) (hop : 2 ≤ y.op ∧ y.op ≤ 23) (hd : 0 ≤ y.d) (hf : (s.steps : Int) < fuel) :
    stepV p inp fuel (s, vf :: K) = match valO y.op (rg vf.regs y.a) (if y.op ≤ 10 then y.num else rg vf.regs y.b) with
      | some v => (s.step, { vf.next with regs := setR vf.regs y.d v } :: K)
      | none => (s.step.ended 2, vf.next :: K) := by
  rw [step_ins h0 hy (by omega) hf, vOp_ins (by omega) (by omega) (by omega) (by omega)]
  unfold vIns
  rw [if_pos hop]
  show (match valO y.op (rg vf.regs y.a) (if y.op ≤ 10 then y.num else rg vf.regs y.b) with
    | some v => (s.step, VFr.putIf vf.next y.d v :: K)
    | none => (s.step.ended 2, vf.next :: K)) = _
  cases valO y.op (rg vf.regs y.a) (if y.op ≤ 10 then y.num else rg vf.regs y.b) with
  | none => rfl
  | some v => simp [VFr.putIf, hd, VFr.next]
end
/-- A row of operators. -/
theorem run_list {p : VProg} {inp : List Int} {fuel : Int} {K : List VFr} : ∀ (ys : List Vins) (s : MS) (vf : VFr), s.fin = 0 → (∀ j y, ys[j]? = some y → vf.v.code.getD (vf.at_ + j) noVins = y) → (∀ y ∈ ys, 2 ≤ y.op ∧ y.op ≤ 23 ∧ 0 ≤ y.d) → ((s.steps + ys.length : Nat) : Int) ≤ fuel →
    match exL ys vf.regs with
    | some regs' => ReachV p inp fuel (s, vf :: K) ({ s with steps := s.steps + ys.length }, { vf with at_ := vf.at_ + ys.length, regs := regs' } :: K)
    | none => ∃ k K', k ≤ ys.length ∧ ReachV p inp fuel (s, vf :: K) ({ s with steps := s.steps + k, fin := 2 }, K')
  | [], s, vf, _, _, _, _ => ReachV.refl _
  | y :: ys, s, vf, h0, hc, ho, hf => by
    have hy : vf.ins = y := hc 0 y rfl
    obtain ⟨o1, o2, o3⟩ := ho y (by simp)
    have hs := step_op (p := p) (inp := inp) (K := K) (fuel := fuel) h0 hy ⟨o1, o2⟩ o3 (by simp only [List.length_cons] at hf; omega)
    unfold exL
    cases hv : valO y.op (rg vf.regs y.a) (if y.op ≤ 10 then y.num else rg vf.regs y.b) with
    | none =>
      rw [hv] at hs
      exact ⟨1, _, by simp, ReachV.step hs (ReachV.refl _)⟩
    | some v =>
      rw [hv] at hs
      have ih := run_list (p := p) (inp := inp) (fuel := fuel) (K := K) ys s.step { vf.next with regs := setR vf.regs y.d v } h0 (fun j z hz => by
        have := hc (j + 1) z (by simpa using hz)
        rw [← this]
        show vf.v.code.getD (vf.at_ + 1 + j) noVins = _
        rw [Nat.add_assoc, Nat.add_comm 1 j]) (fun z hz => ho z (by simp [hz])) (by simp only [List.length_cons] at hf; simp only [MS.step]; omega)
      show match exL ys (setR vf.regs y.d v) with
        | some regs' => _
        | none => _
      revert ih
      show (match exL ys (setR vf.regs y.d v) with
        | some regs' => _
        | none => _) → _
      cases exL ys (setR vf.regs y.d v) with
      | none =>
        rintro ⟨k, K', hk, hr⟩
        refine ⟨k + 1, K', by simp only [List.length_cons]; omega, ReachV.step hs ?_⟩
        have e : s.steps + (k + 1) = s.step.steps + k := by simp only [MS.step]; omega
        rw [e]
        exact hr
      | some regs' =>
        intro hr
        refine ReachV.step hs ?_
        have e : s.steps + (y :: ys).length = s.step.steps + ys.length := by simp only [MS.step, List.length_cons]; omega
        have e2 : vf.at_ + (y :: ys).length = vf.at_ + 1 + ys.length := by simp only [List.length_cons]; omega
        rw [e, e2]
        exact hr
end Go.Proofs.Ytnfneinonkpmeaa
namespace Go.Proofs.Ytnfneinonkpmeaa
theorem getR_set_ne {l : List Int} {d r v : Int} (h0 : 0 ≤ r) (h1 : 0 ≤ d) (hn : r ≠ d) : getR (setR l d v) r = getR l r := by
  have : r.toNat ≠ d.toNat := by omega
  simp [getR, setR, List.getD, List.getElem?_set_ne (Ne.symm this)]
theorem knows_put {K : Int → Option Int} {regs : List Int} (h : Knows K regs) {d v : Int} {o : Option Int} (h0 : 0 ≤ d) (hl : d.toNat < regs.length) (ho : ∀ n, o = some n → v = n) : Knows (updK K d o) (setR regs d v) := by
  intro r n hr hn
  unfold updK at hn
  by_cases e : r = d
  · rw [if_pos e] at hn
    subst e
    rw [getR_set hl]; exact ho n hn
  · rw [if_neg e] at hn
    rw [getR_set_ne hr h0 e]; exact h r n hr hn
theorem knows_skip {K : Int → Option Int} {regs : List Int} (h : Knows K regs) {d : Int} (h0 : d < 0) {o : Option Int} : Knows (updK K d o) regs := by
  intro r n hr hn
  unfold updK at hn
  rw [if_neg (by omega)] at hn
  exact h r n hr hn
section
variable {m : Mid} {inp : List Int} {fuel : Int} {fr : Fr} {vf : VFr} {s s' : MS} {K : List Fr} {K' : List VFr} {x : Ins}
def knownF (fr : Fr) : Int → Option Int := knownAfter K0 (fr.blk.ins.take fr.i)
theorem VS.put (h : VS m fr vf) (hx : fr.blk.ins[fr.i]? = some x) {v : Int} (h0 : 0 ≤ x.d) (hl : x.d < fr.fn.regs) (hv : I32 v) (hk : x.kind = 1 → v = x.num) :
    VS m ({ fr with i := fr.i + 1 }.put x.d v) { vf with at_ := vf.at_ + (insS (knownF fr) x).length, regs := setR vf.regs x.d v } := by
  obtain ⟨e1, e2⟩ := pos_next h hx
  have hrl := h.rl
  refine ⟨h.mem, h.v, h.atl, ?_, e1.symm, by show setR vf.regs x.d v = setR fr.regs x.d v; rw [h.regs], h.dst, by show ((setR fr.regs x.d v).length : Int) = _; unfold setR; rw [List.length_set]; exact hrl, setR_i32 h.i32 hv, ?_⟩
  · show fr.i + 1 ≤ fr.blk.ins.length
    exact (List.getElem?_eq_some_iff.1 hx).1
  · show Knows (knownAfter K0 (fr.blk.ins.take (fr.i + 1))) (setR fr.regs x.d v)
    rw [e2]
    unfold nextK
    split
    · rename_i hk1
      exact knows_put h.known h0 (by omega) fun n hn => by cases hn; exact hk hk1
    · exact knows_put h.known h0 (by omega) fun n hn => by cases hn
theorem VS.skip (h : VS m fr vf) (hx : fr.blk.ins[fr.i]? = some x) (h0 : x.d < 0) : VS m { fr with i := fr.i + 1 } { vf with at_ := vf.at_ + (insS (knownF fr) x).length } := by
  obtain ⟨e1, e2⟩ := pos_next h hx
  refine ⟨h.mem, h.v, h.atl, (List.getElem?_eq_some_iff.1 hx).1, e1.symm, h.regs, h.dst, h.rl, h.i32, ?_⟩
  show Knows (knownAfter K0 (fr.blk.ins.take (fr.i + 1))) fr.regs
  rw [e2]
  unfold nextK
  split <;> exact knows_skip h.known h0
theorem MsV.more (h : MsV m s s') (k : Nat) (hk : k ≤ 2) : MsV m s.step { s' with steps := s'.steps + k } :=
  ⟨h.data, h.fin, h.value, h.trace, h.reads, by have := h.steps; simp only [MS.step]; omega, h.dat, h.nd, h.rows⟩
theorem MsV.step (h : MsV m s s') : MsV m s.step s'.step := h.more 1 (by decide)
theorem MsV.ended (h : MsV m s s') {k : Int} (hk : k ≠ 0) : EndV (s.ended k) (s'.ended k) := ⟨hk, rfl, h.value, h.trace, h.reads, h.steps⟩
theorem regB_nn {r n : Int} (h : regB r n false = true) : 0 ≤ r ∧ r < n := by
  unfold regB at h
  simp only [Bool.false_and, Bool.or_false, Bool.and_eq_true, decide_eq_true_eq] at h
  exact h
end
end Go.Proofs.Ytnfneinonkpmeaa
namespace Go.Proofs.Ytnfneinonkpmeaa
theorem binS_d (K : Int → Option Int) (op d a b : Int) : ∀ y ∈ binS K op d a b, y.d = d := by
  have sh : ∀ {op a n : Int} {y : Vins}, shortS op d a n = some y → y.d = d := fun h => by
    rcases short_cases h with ⟨_, rfl⟩ | ⟨_, rfl⟩ | ⟨_, _, rfl⟩ | ⟨_, _, rfl⟩ | ⟨_, rfl⟩ | ⟨_, rfl⟩ | ⟨_, rfl⟩ | ⟨_, rfl⟩ | ⟨_, rfl⟩ | ⟨_, rfl⟩ <;> rfl
  refine firstOf_op (fun y hy => ?_) (firstOf_op (fun y hy => ?_) fun y hy => ?_)
  · obtain ⟨n, _, hn⟩ := Option.bind_eq_some_iff.1 hy
    exact sh hn
  · obtain ⟨n, _, hn⟩ := Option.bind_eq_some_iff.1 hy
    exact sh hn
  · unfold binRest at hy
    repeat' split at hy
    all_goals simp only [List.mem_cons, List.not_mem_nil, or_false] at hy
    all_goals first
      | (subst hy; rfl)
      | (rcases hy with rfl | rfl <;> rfl)
theorem binS_len (K : Int → Option Int) (op d a b : Int) : (binS K op d a b).length ≤ 2 := by
  have h : ∀ (o : Option Vins) (l : List Vins), l.length ≤ 2 → (firstOf o l).length ≤ 2 := fun o l h => by
    cases o with
    | none => exact h
    | some y => simp [firstOf]
  refine h _ _ (h _ _ ?_)
  unfold binRest
  (repeat' split) <;> simp
section
variable {m : Mid} {inp : List Int} {fuel : Int} {fr : Fr} {vf : VFr} {s s' : MS} {K : List Fr} {K' : List VFr} {x : Ins}
/-- What the code of an instruction has come to. -/
def Came (m : Mid) (inp : List Int) (fuel : Int) (x : Ins) (s : MS) (fr : Fr) (K : List Fr) (c' : VCfg) : Prop :=
  ∃ c'', ReachV (pickP m) inp (2 * fuel) c' c'' ∧ OutV m (exS m inp x s.step { fr with i := fr.i + 1 } K) c''
theorem fuel_two (hs : MsV m s s') (hf : (s.steps : Int) < fuel) : (s'.steps : Int) + 2 ≤ 2 * fuel := by have := hs.steps; omega
theorem one_ins (hs : MsV m s s') (h0 : s.fin = 0) (hV : VS m fr vf) (hx : fr.blk.ins[fr.i]? = some x) (hf : (s.steps : Int) < fuel) {y : Vins} (hy : insS (knownF fr) x = [y]) {k : Int} (hk : y.op = k) (h1 : 40 ≤ k ∧ k ≤ 48) :
    ReachV (pickP m) inp (2 * fuel) (s', vf :: K') (vIns (pickP m) inp y (rg vf.regs y.a) (rg vf.regs y.b) s'.step vf.next K') := by
  have h2 := fuel_two hs hf
  have e := step_ins (p := pickP m) (inp := inp) (fuel := 2 * fuel) (K := K') (vf := vf) (s := s') (y := y) (hs.fin.trans h0) (hV.code_x hx 0 y (by show (insS (knownF fr) x)[0]? = _; rw [hy]; rfl)) (by omega) (by omega)
  rw [vOp_ins (by omega) (by omega) (by omega) (by omega)] at e
  exact ReachV.step e (ReachV.refl _)
theorem out_put (hV : VS m fr vf) (hK : StV m fr.dst K K') (hx : fr.blk.ins[fr.i]? = some x) {t t' : MS} (ht0 : t.fin = 0) (ht : MsV m t t') {v : Int} (hd : 0 ≤ x.d ∧ x.d < fr.fn.regs) (hv : I32 v) (hk : x.kind = 1 → v = x.num) {y : Vins} (hy : insS (knownF fr) x = [y]) :
    CV m (t, { fr with i := fr.i + 1 }.put x.d v :: K) (t', vf.next.putIf x.d v :: K') := by
  refine ⟨t, _, K, t', _, K', rfl, rfl, ht0, ht, ?_, hK⟩
  have h := hV.put hx hd.1 hd.2 hv hk
  rw [hy] at h
  unfold VFr.putIf
  rw [if_pos hd.1]
  exact h
theorem out_skip (hV : VS m fr vf) (hK : StV m fr.dst K K') (hx : fr.blk.ins[fr.i]? = some x) {t t' : MS} (ht0 : t.fin = 0) (ht : MsV m t t') (hd : x.d < 0) {y : Vins} (hy : insS (knownF fr) x = [y]) (v : Int) :
    CV m (t, { fr with i := fr.i + 1 } :: K) (t', vf.next.putIf x.d v :: K') := by
  refine ⟨t, _, K, t', _, K', rfl, rfl, ht0, ht, ?_, hK⟩
  have h := hV.skip hx hd
  rw [hy] at h
  unfold VFr.putIf
  rw [if_neg (by omega)]
  exact h
theorem came_num (hR : RightV m inp) (hs : MsV m s s') (h0 : s.fin = 0) (hV : VS m fr vf) (hK : StV m fr.dst K K') {d z : Int} (hx : fr.blk.ins[fr.i]? = some ⟨1, 0, d, -1, -1, z, ⟨#[]⟩, []⟩) (hd : regB d fr.fn.regs false = true) (hf : (s.steps : Int) < fuel) :
    Came m inp fuel ⟨1, 0, d, -1, -1, z, ⟨#[]⟩, []⟩ s fr K (s', vf :: K') := by
  have hz : I32 z := hR.nums _ hV.mem _ (blk_mem7 hV.atl) _ (List.mem_of_getElem? hx)
  exact ⟨_, one_ins hs h0 hV hx hf (k := 40) (y := ⟨40, d, -1, -1, z, ⟨#[]⟩, []⟩) rfl rfl (by decide), .inl (out_put hV hK hx (t := s.step) (t' := s'.step) h0 hs.step (v := z) (regB_nn hd) hz (fun _ => rfl) rfl)⟩
theorem came_copy (hs : MsV m s s') (h0 : s.fin = 0) (hV : VS m fr vf) (hK : StV m fr.dst K K') {d a : Int} (hx : fr.blk.ins[fr.i]? = some ⟨2, 0, d, a, -1, 0, ⟨#[]⟩, []⟩) (hd : regB d fr.fn.regs false = true) (ha : regB a fr.fn.regs false = true) (hf : (s.steps : Int) < fuel) :
    Came m inp fuel ⟨2, 0, d, a, -1, 0, ⟨#[]⟩, []⟩ s fr K (s', vf :: K') := by
  refine ⟨_, one_ins hs h0 hV hx hf (k := 41) (y := ⟨41, d, a, -1, 0, ⟨#[]⟩, []⟩) rfl rfl (by decide), .inl ?_⟩
  have e : rg vf.regs a = getR fr.regs a := by rw [rg_nn (regB_nn ha).1, hV.regs]
  show CV m _ (s'.step, vf.next.putIf d (rg vf.regs a) :: K')
  rw [e]
  exact out_put hV hK hx (t := s.step) (t' := s'.step) h0 hs.step (v := getR fr.regs a) (regB_nn hd) (getA_i32 hV.i32 a) (fun h => by simp at h) rfl
theorem came_read (hR : RightV m inp) (hs : MsV m s s') (h0 : s.fin = 0) (hV : VS m fr vf) (hK : StV m fr.dst K K') {d : Int} (hx : fr.blk.ins[fr.i]? = some ⟨8, 0, d, -1, -1, 0, ⟨#[]⟩, []⟩) (hd : regB d fr.fn.regs false = true) (hf : (s.steps : Int) < fuel) :
    Came m inp fuel ⟨8, 0, d, -1, -1, 0, ⟨#[]⟩, []⟩ s fr K (s', vf :: K') := by
  refine ⟨_, one_ins hs h0 hV hx hf (k := 47) (y := ⟨47, d, -1, -1, 0, ⟨#[]⟩, []⟩) rfl rfl (by decide), .inl ?_⟩
  show CV m (if s.reads < inp.length then ({ s.step with reads := s.reads + 1 }, _) else _) (if s'.reads < inp.length then ({ s'.step with reads := s'.reads + 1 }, vf.next.putIf d (inp.getD s'.reads 0) :: K') else (s'.step, vf.next.putIf d 0 :: K'))
  rw [hs.reads]
  by_cases h : s.reads < inp.length
  · rw [if_pos h, if_pos h]
    have h1 := hs.step
    refine out_put hV hK hx (t := { s.step with reads := s.reads + 1 }) (t' := { s'.step with reads := s.reads + 1 }) h0 ⟨h1.data, h1.fin, h1.value, h1.trace, rfl, h1.steps, h1.dat, h1.nd, h1.rows⟩ (regB_nn hd) ?_ (fun h => by simp at h) rfl
    show I32 (inp.getD s.reads 0)
    rw [List.getD_eq_getElem?_getD, List.getElem?_eq_getElem h]
    exact hR.inp _ (List.getElem_mem h)
  · rw [if_neg h, if_neg h]
    exact out_put hV hK hx (t := s.step) (t' := s'.step) h0 hs.step (v := 0) (regB_nn hd) (by unfold I32; decide) (fun h => by simp at h) rfl
theorem came_print (hs : MsV m s s') (h0 : s.fin = 0) (hV : VS m fr vf) (hK : StV m fr.dst K K') {a : Int} (hx : fr.blk.ins[fr.i]? = some ⟨9, 0, -1, a, -1, 0, ⟨#[]⟩, []⟩) (ha : regB a fr.fn.regs false = true) (hf : (s.steps : Int) < fuel) :
    Came m inp fuel ⟨9, 0, -1, a, -1, 0, ⟨#[]⟩, []⟩ s fr K (s', vf :: K') := by
  refine ⟨_, one_ins hs h0 hV hx hf (k := 48) (y := ⟨48, -1, a, -1, 0, ⟨#[]⟩, []⟩) rfl rfl (by decide), .inl ?_⟩
  have e : rg vf.regs a = getR fr.regs a := by rw [rg_nn (regB_nn ha).1, hV.regs]
  show CV m ({ s.step with trace := s.trace ++ [getR fr.regs a] }, _) ({ s'.step with trace := s'.trace ++ [rg vf.regs a] }, vf.next.putIf (-1) 0 :: K')
  rw [e, hs.trace]
  have h1 := hs.step
  exact out_skip hV hK hx (t := { s.step with trace := s.trace ++ [getR fr.regs a] }) (t' := { s'.step with trace := s.trace ++ [getR fr.regs a] }) h0 ⟨h1.data, h1.fin, h1.value, rfl, h1.reads, h1.steps, h1.dat, h1.nd, h1.rows⟩ (show (-1 : Int) < 0 by decide) rfl 0
theorem came_un (hs : MsV m s s') (h0 : s.fin = 0) (hV : VS m fr vf) (hK : StV m fr.dst K K') {op d a : Int} (hx : fr.blk.ins[fr.i]? = some ⟨3, op, d, a, -1, 0, ⟨#[]⟩, []⟩) (ho : 19 ≤ op ∧ op ≤ 21) (hd : regB d fr.fn.regs false = true) (ha : regB a fr.fn.regs false = true) (hf : (s.steps : Int) < fuel) :
    Came m inp fuel ⟨3, op, d, a, -1, 0, ⟨#[]⟩, []⟩ s fr K (s', vf :: K') := by
  obtain ⟨d0, d1⟩ := regB_nn hd
  obtain ⟨a0, a1⟩ := regB_nn ha
  have h2 := fuel_two hs hf
  have hA := getA_i32 hV.i32 a
  obtain ⟨y, hy⟩ : ∃ y, insS (knownF fr) ⟨3, op, d, a, -1, 0, ⟨#[]⟩, []⟩ = [y] ∧ 2 ≤ y.op ∧ y.op ≤ 23 ∧ y.d = d ∧ ∃ v, valO y.op (rg vf.regs y.a) (if y.op ≤ 10 then y.num else rg vf.regs y.b) = some v ∧ unO op (getR fr.regs a) = some v := by
    have hr : rg vf.regs a = getR fr.regs a := by rw [rg_nn a0, hV.regs]
    have : op = 19 ∨ op = 20 ∨ op = 21 := by omega
    rcases this with rfl | rfl | rfl
    · refine ⟨threeS 12 d (-1) a, rfl, show (2 : Int) ≤ 12 by decide, show (12 : Int) ≤ 23 by decide, rfl, rnd (-(getR fr.regs a)), ?_, rfl⟩
      show valO 12 (rg vf.regs (-1)) (if (12 : Int) ≤ 10 then 0 else rg vf.regs a) = _
      rw [if_neg (by decide), rg_m1, hr, sub_val, Int.zero_sub]
    · refine ⟨withS 4 d a 1, rfl, show (2 : Int) ≤ 4 by decide, show (4 : Int) ≤ 23 by decide, rfl, truth (decide (getR fr.regs a = 0)), ?_, rfl⟩
      show valO 4 (rg vf.regs a) (if (4 : Int) ≤ 10 then 1 else _) = _
      rw [if_pos (by decide), hr, low_one hA]
    · refine ⟨withS 5 d a (-1), rfl, show (2 : Int) ≤ 5 by decide, show (5 : Int) ≤ 23 by decide, rfl, rnd (-1 - getR fr.regs a), ?_, rfl⟩
      show valO 5 (rg vf.regs a) (if (5 : Int) ≤ 10 then -1 else _) = _
      rw [if_pos (by decide), hr, show valO 5 (getR fr.regs a) (-1) = binO 10 (getR fr.regs a) (-1) from by simp [valO, opsT], xor_ones hA]
  obtain ⟨hy1, o1, o2, o3, v, hv, hu⟩ := hy
  have e := step_op (p := pickP m) (inp := inp) (fuel := 2 * fuel) (K := K') (vf := vf) (s := s') (y := y) (hs.fin.trans h0) (hV.code_x hx 0 y (by show (insS (knownF fr) _)[0]? = _; rw [hy1]; rfl)) ⟨o1, o2⟩ (by omega) (by omega)
  rw [hv] at e
  refine ⟨_, ReachV.step e (ReachV.refl _), .inl ?_⟩
  have e2 : exS m inp ⟨3, op, d, a, -1, 0, ⟨#[]⟩, []⟩ s.step { fr with i := fr.i + 1 } K = (s.step, { fr with i := fr.i + 1 }.put d v :: K) := by
    show (s.step, { fr with i := fr.i + 1 }.put d ((unO op (getR fr.regs a)).getD 0) :: K) = _
    rw [hu]; rfl
  rw [e2]
  have h := hV.put hx (v := v) d0 d1 (valO_bd hv) (fun h => by simp at h)
  rw [hy1] at h
  refine ⟨s.step, _, K, s'.step, _, K', rfl, rfl, h0, hs.step, ?_, hK⟩
  rw [o3]
  exact h
theorem came_bin (hs : MsV m s s') (h0 : s.fin = 0) (hV : VS m fr vf) (hK : StV m fr.dst K K') {op d a b : Int} (hx : fr.blk.ins[fr.i]? = some ⟨4, op, d, a, b, 0, ⟨#[]⟩, []⟩) (ho : 1 ≤ op ∧ op ≤ 16) (hd : regB d fr.fn.regs false = true) (ha : regB a fr.fn.regs false = true) (hb : regB b fr.fn.regs false = true) (hf : (s.steps : Int) < fuel) :
    Came m inp fuel ⟨4, op, d, a, b, 0, ⟨#[]⟩, []⟩ s fr K (s', vf :: K') := by
  obtain ⟨d0, d1⟩ := regB_nn hd
  obtain ⟨a0, a1⟩ := regB_nn ha
  obtain ⟨b0, b1⟩ := regB_nn hb
  have h2 := fuel_two hs hf
  have hi : insS (knownF fr) ⟨4, op, d, a, b, 0, ⟨#[]⟩, []⟩ = binS (knownF fr) op d a b := rfl
  have hlen : (binS (knownF fr) op d a b).length ≤ 2 := binS_len _ _ _ _ _
  have hx2 := ex_bin (op := op) (d := d) (a := a) (b := b) hV.known hV.i32 ho a0 b0 d0 (by have := hV.rl; omega)
  have hrun := run_list (p := pickP m) (inp := inp) (fuel := 2 * fuel) (K := K') (binS (knownF fr) op d a b) s' vf (hs.fin.trans h0) (fun j y hy => hV.code_x hx j y (by show (insS (knownF fr) _)[j]? = _; rw [hi]; exact hy))
    (fun y hy => ⟨(binS_op _ _ _ _ _ ho y hy).1, (binS_op _ _ _ _ _ ho y hy).2, by rw [binS_d _ _ _ _ _ y hy]; exact d0⟩) (by omega)
  rw [hV.regs, show exL (binS (knownF fr) op d a b) fr.regs = _ from hx2] at hrun
  cases hv : binO op (getR fr.regs a) (getR fr.regs b) with
  | none =>
    rw [hv] at hrun
    obtain ⟨k, K2, hk, hr⟩ := hrun
    refine ⟨_, hr, .inr ?_⟩
    have e2 : exS m inp ⟨4, op, d, a, b, 0, ⟨#[]⟩, []⟩ s.step { fr with i := fr.i + 1 } K = (s.step.ended 2, { fr with i := fr.i + 1 } :: K) := by
      show (match binO op (getR fr.regs a) (getR fr.regs b) with | some v => _ | none => _) = _
      rw [hv]
    rw [e2]
    exact (hs.more k (by omega)).ended (by decide)
  | some v =>
    rw [hv] at hrun
    refine ⟨_, hrun, .inl ?_⟩
    have e2 : exS m inp ⟨4, op, d, a, b, 0, ⟨#[]⟩, []⟩ s.step { fr with i := fr.i + 1 } K = (s.step, { fr with i := fr.i + 1 }.put d v :: K) := by
      show (match binO op (getR fr.regs a) (getR fr.regs b) with | some v => _ | none => _) = _
      rw [hv]
    rw [e2]
    have h := hV.put hx (v := v) d0 d1 (binO_bd hv) (fun h => by simp at h)
    rw [hi, hV.regs] at h
    exact ⟨s.step, _, K, _, _, K', rfl, rfl, h0, hs.more _ hlen, h, hK⟩
end
end Go.Proofs.Ytnfneinonkpmeaa
