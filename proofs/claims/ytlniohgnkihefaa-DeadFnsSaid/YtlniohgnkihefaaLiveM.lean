/- Rows of rows in memory; blocks and instructions in memory; plain sums. -/
import Derived.Test.YtlniohgnkihefaaLiveL
import Derived.Test.YtlniohgnkihefaaBackA
namespace Go.Proofs.Ytlniohgnkihefaa
open Go.RowKit

/-- Instructions, blocks in memory, at any depth. -/
def InsMem (w : World) (A : Option Addr) (l : List Ins) : Prop := ∃ xs : List InsQ, xs.map (·.k) = l ∧ InsRow w A xs ∧ ∀ x ∈ xs, ReadsAt w x.A (ints x.k.args)
def BlkMem (w : World) (A : Option Addr) (l : List Blk) : Prop := ∃ bs : List BlkQ, bs.map (·.k) = l ∧ BlkRow w A bs ∧ ∀ b ∈ bs, InsMem w b.A b.k.ins
theorem InsRow.below {w w' : World} {A : Option Addr} {xs : List InsQ} (h : InsRow w A xs) (hb : Below w.heap.size w w') : InsRow w' A xs := by
  intro hp
  obtain ⟨g, off, hA, hg, hc⟩ := h hp
  exact ⟨g, off, hA, Nat.lt_of_lt_of_le hg hb.size, fun i hi j v hv => (hb.cell (p := ⟨g, off + i * 8 + j, none⟩) hg).trans (hc i hi j v hv)⟩
theorem BlkRow.below {w w' : World} {A : Option Addr} {xs : List BlkQ} (h : BlkRow w A xs) (hb : Below w.heap.size w w') : BlkRow w' A xs := by
  intro hp
  obtain ⟨g, off, hA, hg, hc⟩ := h hp
  exact ⟨g, off, hA, Nat.lt_of_lt_of_le hg hb.size, fun i hi j v hv => (hb.cell (p := ⟨g, off + i * 5 + j, none⟩) hg).trans (hc i hi j v hv)⟩
theorem readsBelow {w w' : World} {A : Option Addr} {xs : List Value} (h : ReadsAt w A xs) (hb : Below w.heap.size w w') : ReadsAt w' A xs := h.kept (S := fun _ => False) (Chg.of_below hb _) fun _ _ _ _ h => h
theorem InsMem.below {w w' : World} {A : Option Addr} {l : List Ins} (h : InsMem w A l) (hb : Below w.heap.size w w') : InsMem w' A l := by
  obtain ⟨xs, h1, h2, h3⟩ := h
  exact ⟨xs, h1, h2.below hb, fun x hx => readsBelow (h3 x hx) hb⟩
theorem BlkMem.below {w w' : World} {A : Option Addr} {l : List Blk} (h : BlkMem w A l) (hb : Below w.heap.size w w') : BlkMem w' A l := by
  obtain ⟨xs, h1, h2, h3⟩ := h
  exact ⟨xs, h1, h2.below hb, fun x hx => (h3 x hx).below hb⟩
def fnAgg (f : Fn) (A : Option Addr) (c : Nat) : Value := .agg #[.string f.name, .int .i64 f.params, .int .i64 f.regs, .slice A f.blocks.length c]
/-- A function as the passes take it. -/
structure BlkF (n : Nat) (k : Blk) : Prop where
  nins : k.ins.length ≤ 1000
  kind : k.kind = 1 ∨ k.kind = 2 ∨ k.kind = 3
  a : k.a < 65536
  to : k.kind ≠ 3 → 0 ≤ k.to ∧ k.to < (n : Int)
  els : k.kind = 2 → 0 ≤ k.els ∧ k.els < (n : Int)
  regs : ∀ x ∈ k.ins, RegsOk x ∧ x.args.length ≤ 1000
structure FlowF (ks : List Blk) : Prop where
  nb : ks.length ≤ 1000
  blk : ∀ k ∈ ks, BlkF ks.length k

/-- Rows of numbers as they lie. -/
structure LM where
  l : List Int
  A : Option Addr
  c : Nat
def LM.enc (m : LM) : Value := .slice m.A m.l.length m.c
/-- A row of rows; none of these lies in a block that 'no' names. -/
structure LL (w : World) (g : Nat) (no : Nat → Prop) (ms : List LM) : Prop where
  row : RowAt w 46 1 (.slice (some ⟨g, 0, none⟩) ms.length ms.length) (some g) ms.length (ms.map LM.enc)
  reads : ∀ m ∈ ms, ReadsAt w m.A (ints m.l)
  apart : ∀ m ∈ ms, ∀ h off, m.A = some ⟨h, off, none⟩ → ¬ no h
theorem LL.lt {w : World} {g : Nat} {no : Nat → Prop} {ms : List LM} (h : LL w g no ms) : g < w.heap.size := h.row.lt g rfl
theorem LL.cell {w : World} {g : Nat} {no : Nat → Prop} {ms : List LM} (h : LL w g no ms) (j : Nat) (hj : j < ms.length) : w.cell? ⟨g, j, none⟩ = some (ms[j].enc) ∧ w.frozen? ⟨g, j, none⟩ = false := by
  obtain ⟨g', off, cap, hv, hr, _, _, _, hc, hf⟩ := h.row.form (by omega)
  cases hr
  injection hv with ha _ _
  injection ha with ha
  injection ha with _ ho
  subst ho
  have := hc j ms[j].enc (by simp [hj])
  rw [Nat.zero_add] at this
  exact ⟨this, hf j⟩
theorem LL.kept {w w' : World} {g : Nat} {no : Nat → Prop} {ms : List LM} (h : LL w g no ms) {S : Nat → Prop} (hc : Chg S w w') (hg : ¬ S g) (hS : ∀ k, S k → no k) : LL w' g no ms :=
  ⟨h.row.kept hc fun k e => by cases e; exact hg, fun m hm => (h.reads m hm).kept hc fun g off e _ hs => h.apart m hm g off e (hS g hs), h.apart⟩
theorem LL.below {w w' : World} {g : Nat} {no : Nat → Prop} {ms : List LM} (h : LL w g no ms) (hb : Below w.heap.size w w') : LL w' g no ms := h.kept (S := fun _ => False) (Chg.of_below hb _) (fun h => h) fun _ h => h.elim
theorem LL.set {w : World} {g : Nat} {no : Nat → Prop} {ms : List LM} (h : LL w g no ms) (j : Nat) (hj : j < ms.length) (m : LM) (hr : ReadsAt w m.A (ints m.l)) (ha : ∀ h off, m.A = some ⟨h, off, none⟩ → ¬ no h) (hg : no g) :
    LL (w.setCell ⟨g, j, none⟩ m.enc) g no (ms.set j m) := by
  have hS := Chg.store w g j m.enc
  have hall : ∀ x ∈ ms.set j m, ReadsAt w x.A (ints x.l) ∧ ∀ h off, x.A = some ⟨h, off, none⟩ → ¬ no h := fun x hx => by
    rcases List.mem_or_eq_of_mem_set hx with hx | rfl
    · exact ⟨h.reads x hx, h.apart x hx⟩
    · exact ⟨hr, ha⟩
  refine ⟨?_, fun x hx => (hall x hx).1.kept hS fun k off e _ hk => by
    have hk' : k = g := hk
    exact (hall x hx).2 k off e (hk' ▸ hg), fun x hx => (hall x hx).2⟩
  rw [List.length_set, List.map_set]
  have := h.row.stored j m.enc (by omega)
  rw [Nat.zero_add] at this
  exact this
theorem LL.other {w : World} {g : Nat} {no : Nat → Prop} {ms : List LM} (h : LL w g no ms) {g2 : Nat} (j : Nat) (u : Value) (hne : g2 ≠ g) (hg : no g2) : LL (w.setCell ⟨g2, j, none⟩ u) g no ms :=
  h.kept (Chg.store w g2 j u) (fun e => hne e.symm) fun k e => by rw [e]; exact hg
/-- The sets of a row of rows. -/
def stOf (ms : List LM) : St := fun i => match ms[i]? with
  | some m => listP m.l
  | none => fun _ => false
theorem stOf_at (ms : List LM) (i : Nat) (h : i < ms.length) : stOf ms i = listP ms[i].l := by unfold stOf; rw [List.getElem?_eq_getElem h]
theorem stOf_out (ms : List LM) (i : Nat) (h : ms.length ≤ i) : stOf ms i = fun _ => false := by unfold stOf; rw [List.getElem?_eq_none h]
theorem stOf_set (ms : List LM) (i : Nat) (h : i < ms.length) (m : LM) : stOf (ms.set i m) = setS (stOf ms) i (listP m.l) := by
  funext j
  by_cases e : j = i
  · subst e
    rw [setS_same]
    unfold stOf
    rw [List.getElem?_set_self h]
  · rw [setS_other _ _ e]
    unfold stOf
    rw [List.getElem?_set_ne (fun h => e h.symm)]
theorem setS_eq (I : St) (i : Nat) : setS I i (I i) = I := by
  funext j
  by_cases e : j = i
  · subst e; rw [setS_same]
  · rw [setS_other _ _ e]
/-- Rising, below 65536. -/
def Bnd (l : List Int) : Prop := RiseL l ∧ ∀ z ∈ l, z < 65536
theorem len_of_bnd (N : Nat) : ∀ l : List Int, l.Pairwise (· < ·) → (∀ z ∈ l, 0 ≤ z ∧ z < (N : Int)) → l.length ≤ N := by
  induction N with
  | zero =>
    intro l _ h
    cases l with
    | nil => simp
    | cons a l => have := h a (by simp); omega
  | succ N ih =>
    intro l hp h
    have h1 := ih (l.filter fun z => decide (z < (N : Int))) (hp.filter _) fun z hz => by
      rw [List.mem_filter] at hz
      exact ⟨(h z hz.1).1, by simpa using hz.2⟩
    have h2 : ∀ l : List Int, l.Pairwise (· < ·) → (∀ z ∈ l, z ≤ (N : Int)) → l.length ≤ (l.filter fun z => decide (z < (N : Int))).length + 1 := by
      intro l
      induction l with
      | nil => simp
      | cons a l ih2 =>
        intro hp hz
        rw [List.pairwise_cons] at hp
        by_cases c : a < (N : Int)
        · rw [List.filter_cons_of_pos (by simpa using c)]
          have := ih2 hp.2 fun z h => hz z (by simp [h])
          simp; omega
        · have ha := hz a (by simp)
          cases l with
          | nil => simp
          | cons b l =>
            have h3 := hp.1 b (by simp)
            have h4 := hz b (by simp)
            omega
    have := h2 l hp fun z hz => by have := h z hz; omega
    omega
theorem Bnd.len {l : List Int} (h : Bnd l) : l.length ≤ 65536 := len_of_bnd 65536 l h.1.1 fun z hz => ⟨h.1.2 z hz, h.2 z hz⟩
theorem Bnd.nil : Bnd [] := ⟨RiseL.nil, fun _ h => by cases h⟩
theorem Bnd.put {l : List Int} (h : Bnd l) {z : Int} (hz : z < 65536) : Bnd (putL l z) := ⟨h.1.put z, fun y hy => by
  rcases mem_putL.1 hy with h1 | ⟨_, rfl⟩
  · exact h.2 y h1
  · exact hz⟩
theorem Bnd.foldl {l zs : List Int} (h : Bnd l) (hz : ∀ z ∈ zs, z < 65536) : Bnd (zs.foldl putL l) := ⟨h.1.foldl, fun y hy => by
  rcases mem_foldl_put.1 hy with h1 | ⟨_, h1⟩
  · exact h.2 y h1
  · exact hz y h1⟩
theorem uses_lt {x : Ins} (h : RegsOk x) : ∀ z ∈ usesL x, z < 65536 := by
  intro z hz
  unfold usesL at hz
  rw [mem_foldl_put, mem_putL, mem_putL] at hz
  rcases hz with ((h1 | ⟨_, rfl⟩) | ⟨_, rfl⟩) | ⟨_, h1⟩
  · cases h1
  · exact h.1
  · exact h.2.1
  · exact h.2.2 z h1
theorem Bnd.ahead {l : List Int} (h : Bnd l) {x : Ins} (hx : RegsOk x) : Bnd (aheadL x l) := by
  unfold aheadL
  refine Bnd.foldl ⟨h.1.filter _, fun z hz => h.2 z (List.mem_filter.1 hz).1⟩ (uses_lt hx)
theorem Bnd.before {l : List Int} (h : Bnd l) {k : Blk} (hk : k.a < 65536) : Bnd (beforeL k l) := by
  unfold beforeL
  split
  · exact h
  · exact h.put hk
theorem Bnd.tail {l : List Int} (h : Bnd l) : ∀ {xs : List Ins}, (∀ x ∈ xs, RegsOk x) → Bnd (xs.foldr aheadL l) := by
  intro xs
  induction xs with
  | nil => intro _; exact h
  | cons x xs ih => intro hx; exact (ih fun y hy => hx y (by simp [hy])).ahead (hx x (by simp))
theorem listP_tail (k : Blk) (hk : k.a < 65536) (l : List Int) : ∀ (xs : List Ins), (∀ x ∈ xs, RegsOk x) → listP (xs.foldr aheadL (beforeL k l)) = tailP k xs (listP l) := by
  intro xs
  induction xs with
  | nil => intro _; funext n; exact listP_before k hk l n
  | cons x xs ih =>
    intro hx
    funext n
    rw [List.foldr_cons, listP_ahead x (hx x (by simp)), ih fun y hy => hx y (by simp [hy])]
    rfl
/-- Lengths together. -/
def totL (ms : List LM) : Nat := (ms.map fun m => m.l.length).sum
theorem totL_set : ∀ (ms : List LM) (i : Nat) (h : i < ms.length) (m : LM), totL (ms.set i m) + ms[i].l.length = totL ms + m.l.length := by
  intro ms
  induction ms with
  | nil => intro i h; simp at h
  | cons a ms ih =>
    intro i h m
    cases i with
    | zero => simp [totL]; omega
    | succ i =>
      have := ih i (by simpa using h) m
      simp [totL] at this ⊢; omega
theorem totL_le (ms : List LM) (h : ∀ m ∈ ms, Bnd m.l) : totL ms ≤ ms.length * 65536 := by
  unfold totL
  induction ms with
  | nil => simp
  | cons a ms ih =>
    have h1 := (h a (by simp)).len
    have h2 := ih fun m hm => h m (by simp [hm])
    rw [List.map_cons, List.sum_cons, List.length_cons, Nat.add_mul]; omega
/-- .. as a world tells them. -/
def lenOf (w : World) (g n : Nat) : Nat := ((List.range n).map fun j => match w.cell? ⟨g, j, none⟩ with
  | some (.slice _ m _) => m
  | _ => 0).sum
theorem LL.len {w : World} {g : Nat} {no : Nat → Prop} {ms : List LM} (h : LL w g no ms) {n : Nat} (hn : ms.length = n) : lenOf w g n = totL ms := by
  subst hn
  unfold lenOf totL
  congr 1
  apply List.ext_getElem (by simp)
  intro j h1 h2
  simp only [List.getElem_map, List.getElem_range]
  rw [(h.cell j (by simpa using h1)).1]
  rfl
end Go.Proofs.Ytlniohgnkihefaa
