/- brazierref15.Fn: what is known, as a list; the code so far. -/
import Derived.Test.YtnfneinonkpmeaaRefI
import Derived.Test.YtnfneinonkpmeaaPickG
import Derived.Test.YtnfneinonkpmeaaStep
namespace Go.Proofs.Ytnfneinonkpmeaa
open Go.RowKit Go.Maps
variable {T : Nat → Prop}

def nextL (ps : List (Int × Int)) (x : Ins) : List (Int × Int) := ps.filter (fun p => decide (p.1 ≠ x.d)) ++ (if x.kind = 1 then [(x.d, x.num)] else [])
theorem knownL_filter (ps : List (Int × Int)) (d r : Int) : knownL (ps.filter fun p => decide (p.1 ≠ d)) r = updK (knownL ps) d none r := by
  unfold knownL updK
  rw [← List.filter_reverse, List.find?_filter]
  by_cases e : r = d
  · subst e
    rw [if_pos rfl, Option.map_eq_none_iff, List.find?_eq_none]
    intro p _
    simp
  · rw [if_neg e]
    congr 1
    congr 1
    funext p
    by_cases h : p.1 = r
    · simp [h, e]
    · simp [h]
theorem knownL_snoc (ps : List (Int × Int)) (d n r : Int) : knownL (ps ++ [(d, n)]) r = updK (knownL ps) d (some n) r := by
  unfold knownL updK
  rw [List.reverse_append, List.reverse_singleton, List.singleton_append, List.find?_cons]
  by_cases e : d = r
  · subst e; simp
  · have e' : ¬ r = d := fun h => e h.symm
    simp [e, e']
theorem knownL_next (ps : List (Int × Int)) (x : Ins) : knownL (nextL ps x) = nextK (knownL ps) x := by
  funext r
  unfold nextL nextK
  by_cases h : x.kind = 1
  · rw [if_pos h, if_pos h, knownL_snoc]
    have : ∀ r, knownL (ps.filter fun p => decide (p.1 ≠ x.d)) r = updK (knownL ps) x.d none r := fun r => knownL_filter ps x.d r
    unfold updK at this ⊢
    by_cases e : r = x.d
    · rw [if_pos e, if_pos e]
    · rw [if_neg e, if_neg e, this, if_neg e]
  · rw [if_neg h, if_neg h, List.append_nil, knownL_filter]
theorem nextL_len (ps : List (Int × Int)) (x : Ins) : (nextL ps x).length ≤ ps.length + 1 := by
  unfold nextL
  have h1 := List.length_filter_le (fun p : Int × Int => decide (p.1 ≠ x.d)) ps
  rw [List.length_append]
  split
  · rw [List.length_singleton]; omega
  · rw [List.length_nil]; omega
theorem nextL_i32 {ps : List (Int × Int)} (h : ∀ p ∈ ps, I32 p.2) (x : Ins) (hx : I32 x.num) : ∀ p ∈ nextL ps x, I32 p.2 := by
  intro p hp
  unfold nextL at hp
  rcases List.mem_append.1 hp with hp | hp
  · exact h p (List.mem_filter.1 hp).1
  · split at hp
    · obtain rfl : p = (x.d, x.num) := by simpa using hp
      exact hx
    · cases hp
theorem knownL_i32 {ps : List (Int × Int)} (h : ∀ p ∈ ps, I32 p.2) : ∀ r n, knownL ps r = some n → I32 n := by
  intro r n hn
  unfold knownL at hn
  obtain ⟨p, hp, rfl⟩ := Option.map_eq_some_iff.1 hn
  exact h p (List.mem_reverse.1 (List.mem_of_find?_eq_some hp))
def leftTo (ps : List (Int × Int)) (d : Int) (i : Nat) : List (Int × Int) := (ps.take i).filter fun p => decide (p.1 ≠ d)
theorem leftTo_keep (ps : List (Int × Int)) (d : Int) (i : Nat) (h : i < ps.length) (p : Int × Int) (hp : p = ps[i]) (hd : p.1 ≠ d) : leftTo ps d (i + 1) = leftTo ps d i ++ [p] := by
  subst hp
  unfold leftTo
  rw [List.take_succ_eq_append_getElem h, List.filter_append]
  simp [hd]
theorem leftTo_drop (ps : List (Int × Int)) (d : Int) (i : Nat) (h : i < ps.length) (p : Int × Int) (hp : p = ps[i]) (hd : p.1 = d) : leftTo ps d (i + 1) = leftTo ps d i := by
  subst hp
  unfold leftTo
  rw [List.take_succ_eq_append_getElem h, List.filter_append]
  simp [hd]
theorem leftTo_len (ps : List (Int × Int)) (d : Int) (i : Nat) : (leftTo ps d i).length ≤ ps.length := by
  unfold leftTo
  have h1 := List.length_filter_le (fun p : Int × Int => decide (p.1 ≠ d)) (ps.take i)
  have h2 : (ps.take i).length ≤ ps.length := by rw [List.length_take]; omega
  omega
theorem leftTo_all (ps : List (Int × Int)) (d : Int) : leftTo ps d ps.length = ps.filter fun p => decide (p.1 ≠ d) := by unfold leftTo; rw [List.take_length]
theorem numCells_append (a b : List (Int × Int)) : numCells (a ++ b) = numCells a ++ numCells b := List.flatMap_append
theorem numCells_plain (ps : List (Int × Int)) : ∀ u ∈ numCells ps, u.oneCell' = true := by
  intro u hu
  obtain ⟨p, _, hp⟩ := List.mem_flatMap.1 hu
  simp at hp
  rcases hp with rfl | rfl <;> rfl
theorem info_num : (Try.prog.info? 73).map (fun i => (i.zero, i.size, i.bytes)) = some (some (.agg #[.int .i64 0, .int .i32 0]), 2, 16) := by kernel_rfl
theorem row_ne {w : World} {e e' s s' n n' : Nat} {v v' : Value} {r r' : Option Nat} {xs xs' : List Value} (h : RowAt w e s v r n xs) (h' : RowAt w e' s' v' r' n' xs') (hne : e ≠ e') : ∀ k, r = some k → r' ≠ some k := by
  intro k hk hk'
  rcases h.2 with ⟨_, h0, _⟩ | ⟨g, off, cap, cur, _, h0, hg, _⟩
  · rw [h0] at hk; cases hk
  · rw [h0] at hk; cases hk
    rcases h'.2 with ⟨_, h1, _⟩ | ⟨g', off', cap', cur', _, h1, hg', _⟩
    · rw [h1] at hk'; cases hk'
    · rw [h1] at hk'; cases hk'
      rw [hg] at hg'
      injection hg' with hg'
      injection hg' with _ ht _
      exact hne ht

/-- The function's code so far, in the variable at vb. -/
structure HeadR (H : Nat) (w1 wr : World) (vb : Nat) (f : Fn) (l : List Vins) (v : Value) (r : Option Nat) (xs : List Value) : Prop where
  heap : wr.heap[vb]? = some (.cells #[.string f.name, .int .i64 f.params, .int .i64 f.regs, v] 34 (0, 0))
  rnew : ∀ q, r = some q → w1.heap.size ≤ q
  row : RowAt wr 61 7 v r l.length xs
  code : CodeCells wr (fun q => q < H) l xs
  chg : Chg (fun q => q = vb) w1 wr
  vlt : vb < w1.heap.size
  hle : H ≤ vb
section
variable {H : Nat} {w1 wr W w2 : World} {vb m : Nat} {f : Fn} {l l2 : List Vins} {v v' : Value} {r r' : Option Nat} {xs ys : List Value}
theorem HeadR.below (h : HeadR H w1 wr vb f l v r xs) (hB : Below wr.heap.size wr W) : HeadR H w1 W vb f l v r xs := by
  have hc := chg_of_below hB
  have hno : ∀ k, k < wr.heap.size → ¬ (wr.heap.size ≤ k) := fun k h h' => by omega
  exact ⟨hc.heap h.heap (hno _ (lt_of_heap h.heap)), h.rnew, h.row.kept hc fun k hk => hno k (h.row.lt k hk), h.code.kept hc fun k _ hk => hno k hk, h.chg.trans (Chg.of_below hB _) fun _ _ h => h, h.vlt, h.hle⟩
theorem HeadR.cells (h : HeadR H w1 W vb f l v r xs) (hC2 : Chg (fun k => some k = r) W w2) :
    w2.heap[vb]? = some (.cells #[.string f.name, .int .i64 f.params, .int .i64 f.regs, v] 34 (0, 0)) ∧ w2.cell? ⟨vb, 3, none⟩ = some v ∧ w2.frozen? ⟨vb, 3, none⟩ = false := by
  have hp2 := hC2.heap h.heap (fun e => by have := h.rnew _ e.symm; have := h.vlt; omega)
  exact ⟨hp2, cell_of_row _ _ _ _ _ _ hp2, by simp [World.frozen?, hp2]⟩
theorem HeadR.put (h : HeadR H w1 W vb f l v r xs) (hY : CodeCells W (fun q => q < H) l2 ys) (hml : l2.length = m)
    (hR2 : RowAt w2 61 7 v' r' (l.length + m) (xs ++ ys)) (hC2 : Chg (fun k => some k = r) W w2) (hN : NewOr W r r') :
    HeadR H w1 (w2.setCell ⟨vb, 3, none⟩ v') vb f (l ++ l2) v' r' (xs ++ ys) := by
  obtain ⟨hp2, _, _⟩ := h.cells hC2
  have hs := Chg.store w2 vb 3 v'
  have hsz := h.chg.size
  have hvl := h.vlt
  have hle := h.hle
  have hr' : ∀ q, r' = some q → w1.heap.size ≤ q := fun q hq => by
    rcases hN with e | ⟨j, e, hj⟩
    · exact h.rnew q (by rw [← e]; exact hq)
    · rw [e] at hq; cases hq; omega
  refine ⟨by rw [heap_setCell_same w2 vb 3 _ _ v' hp2]; rfl, hr', ?_, ?_, ?_, hvl, hle⟩
  · rw [List.length_append, hml]
    exact hR2.kept hs fun k hk e => by have := hr' k hk; omega
  · have hk1 : ∀ (q : List Vins) zs, CodeCells W (fun q => q < H) q zs → CodeCells (w2.setCell ⟨vb, 3, none⟩ v') (fun q => q < H) q zs := fun q zs hq =>
      (hq.kept hC2 fun k hk _ e => by have := h.rnew k e.symm; omega).kept hs fun k hk _ e => by omega
    exact (hk1 _ _ h.code).append (hk1 _ _ hY)
  · exact (h.chg.trans hC2 fun i hi e => by have := h.rnew i e.symm; omega).trans hs fun _ _ h => h
end
theorem heap4r (w : World) (f : Fn) (A : Value) :
    ∃ w1 vb, vb = w.heap.size + 1 + 1 ∧ w1 = ((w.alloc (.cells #[.string f.name, .int .i64 f.params, .int .i64 f.regs, A] 30)).alloc (.cells #[.string ⟨#[]⟩, .int .i64 0, .int .i64 0, .slice none 0 0] 34)).alloc (.cells #[.string f.name, .int .i64 f.params, .int .i64 f.regs, .slice none 0 0] 34)
      ∧ Below w.heap.size w w1 ∧ w1.heap.size = w.heap.size + 3
      ∧ w1.heap[w.heap.size]? = some (.cells #[.string f.name, .int .i64 f.params, .int .i64 f.regs, A] 30 (0, 0))
      ∧ w1.heap[w.heap.size + 1]? = some (.cells #[.string ⟨#[]⟩, .int .i64 0, .int .i64 0, .slice none 0 0] 34 (0, 0))
      ∧ HeadR w.heap.size w1 w1 vb f [] (.slice none 0 0) none [] := by
  have hb1 : Below w.heap.size w (w.alloc (.cells #[.string f.name, .int .i64 f.params, .int .i64 f.regs, A] 30)) := (Below.refl _ _).alloc (Nat.le_refl _) _
  refine ⟨_, _, rfl, rfl, (hb1.alloc hb1.size _).alloc (hb1.alloc hb1.size _).size _, by simp, ?_, ?_, ⟨?_, by simp, .nil _ _ _, .nil, .refl _ _, by simp, by omega⟩⟩
  · rw [Below.heap_alloc _ _ _ (by simp; omega), Below.heap_alloc _ _ _ (by simp)]; exact heap_alloc_new w _
  · rw [Below.heap_alloc _ _ _ (by simp)]
    have := heap_alloc_new (w.alloc (.cells #[.string f.name, .int .i64 f.params, .int .i64 f.regs, A] 30)) (.cells #[.string ⟨#[]⟩, .int .i64 0, .int .i64 0, .slice none 0 0] 34)
    simpa using this
  · have := heap_alloc_new ((w.alloc (.cells #[.string f.name, .int .i64 f.params, .int .i64 f.regs, A] 30)).alloc (.cells #[.string ⟨#[]⟩, .int .i64 0, .int .i64 0, .slice none 0 0] 34)) (.cells #[.string f.name, .int .i64 f.params, .int .i64 f.regs, .slice none 0 0] 34)
    simpa using this
end Go.Proofs.Ytnfneinonkpmeaa
