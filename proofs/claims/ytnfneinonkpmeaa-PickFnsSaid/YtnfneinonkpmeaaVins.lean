/- Code between virtual registers in memory; the picker, what 'put' does. -/
import Derived.Test.YtnfneinonkpmeaaSmall
import Derived.Test.YtnfneinonkpmeaaMap
namespace Go.Proofs.Ytnfneinonkpmeaa
open Go.RowKit

structure Vins where
  op : Int
  d : Int
  a : Int
  b : Int
  num : Int
  name : ByteArray
  args : List Int
def vinsCells (x : Vins) (v : Value) : List Value := [.int .i64 x.op, .int .i64 x.d, .int .i64 x.a, .int .i64 x.b, .int .i32 x.num, .string x.name, v]
def RdVins (w : World) (T : Nat → Prop) (x : Vins) (cs : List Value) : Prop := ∃ A c, cs = vinsCells x (.slice A x.args.length c) ∧ RdT w T A (ints x.args)
theorem RdVins.kept {w w' : World} {S T : Nat → Prop} {x : Vins} {cs : List Value} (h : RdVins w T x cs) (hc : Chg S w w') (hT : ∀ k, T k → k < w.heap.size → ¬ S k) : RdVins w' T x cs := by
  obtain ⟨A, c, h1, h2⟩ := h; exact ⟨A, c, h1, h2.kept hc hT⟩
theorem RdT.mono' {w : World} {T T' : Nat → Prop} {A : Option Addr} {xs : List Value} (h : RdT w T A xs) (hT : ∀ k, T k → k < w.heap.size → T' k) : RdT w T' A xs := by
  intro hp
  obtain ⟨g, off, hA, ht, hg, hx⟩ := h hp
  exact ⟨g, off, hA, hT g ht hg, hg, hx⟩
theorem RdVins.mono {w : World} {T T' : Nat → Prop} {x : Vins} {cs : List Value} (h : RdVins w T x cs) (hT : ∀ k, T k → k < w.heap.size → T' k) : RdVins w T' x cs := by
  obtain ⟨A, c, h1, h2⟩ := h; exact ⟨A, c, h1, h2.mono' hT⟩
theorem RdVins.len {w : World} {T : Nat → Prop} {x : Vins} {cs : List Value} (h : RdVins w T x cs) : cs.length = 7 := by
  obtain ⟨A, c, rfl, _⟩ := h; rfl

/-- These cells show this code. -/
def CodeCells (w : World) (T : Nat → Prop) (l : List Vins) (xs : List Value) : Prop :=
  ∃ ps : List (Vins × List Value), ps.map (·.1) = l ∧ (∀ p ∈ ps, RdVins w T p.1 p.2) ∧ xs = (ps.map (·.2)).flatten
section
variable {w w' : World} {S T T' : Nat → Prop}
theorem CodeCells.nil : CodeCells w T [] [] := ⟨[], rfl, by simp, rfl⟩
theorem CodeCells.kept {l : List Vins} {xs : List Value} (h : CodeCells w T l xs) (hc : Chg S w w') (hT : ∀ k, T k → k < w.heap.size → ¬ S k) : CodeCells w' T l xs := by
  obtain ⟨ps, h1, h2, h3⟩ := h; exact ⟨ps, h1, fun p hp => (h2 p hp).kept hc hT, h3⟩
theorem CodeCells.mono {l : List Vins} {xs : List Value} (h : CodeCells w T l xs) (hT : ∀ k, T k → k < w.heap.size → T' k) : CodeCells w T' l xs := by
  obtain ⟨ps, h1, h2, h3⟩ := h; exact ⟨ps, h1, fun p hp => (h2 p hp).mono hT, h3⟩
theorem CodeCells.append {l m : List Vins} {xs ys : List Value} (h : CodeCells w T l xs) (k : CodeCells w T m ys) : CodeCells w T (l ++ m) (xs ++ ys) := by
  obtain ⟨ps, rfl, h2, rfl⟩ := h
  obtain ⟨qs, rfl, k2, rfl⟩ := k
  refine ⟨ps ++ qs, by simp, fun p hp => ?_, by simp⟩
  rcases List.mem_append.1 hp with hp | hp
  · exact h2 p hp
  · exact k2 p hp
theorem CodeCells.one {x : Vins} {cs : List Value} (h : RdVins w T x cs) : CodeCells w T [x] cs := ⟨[(x, cs)], rfl, by simpa using h, by simp⟩
theorem CodeCells.two {x y : Vins} {cs ds : List Value} (h : RdVins w T x cs) (k : RdVins w T y ds) : CodeCells w T [x, y] (cs ++ ds) := (CodeCells.one h).append (.one k)
theorem flatten_len {L : List (List Value)} (h : ∀ c ∈ L, c.length = 7) : L.flatten.length = L.length * 7 := by
  induction L with
  | nil => rfl
  | cons c L ih =>
    rw [List.flatten_cons, List.length_append, ih fun x hx => h x (by simp [hx]), h c (by simp), List.length_cons]; omega
theorem flatten_at {L : List (List Value)} (h : ∀ c ∈ L, c.length = 7) (i j : Nat) (hj : j < 7) : L.flatten[i * 7 + j]? = (L[i]?).bind fun c => c[j]? := by
  induction L generalizing i with
  | nil => simp
  | cons c L ih =>
    have hc := h c (by simp)
    cases i with
    | zero => rw [List.flatten_cons, List.getElem?_append_left (by omega)]; simp
    | succ i =>
      rw [List.flatten_cons, List.getElem?_append_right (by omega), hc, show (i + 1) * 7 + j - 7 = i * 7 + j from by omega, ih fun x hx => h x (by simp [hx])]
      simp
theorem CodeCells.len {l : List Vins} {xs : List Value} (h : CodeCells w T l xs) : xs.length = l.length * 7 := by
  obtain ⟨ps, rfl, h2, rfl⟩ := h
  rw [flatten_len fun c hc => by obtain ⟨p, hp, rfl⟩ := List.mem_map.1 hc; exact (h2 p hp).len]
  simp
theorem CodeCells.at_ {l : List Vins} {xs : List Value} (h : CodeCells w T l xs) (i : Nat) (x : Vins) (hx : l[i]? = some x) : ∃ A c, RdT w T A (ints x.args) ∧ ∀ j u, (vinsCells x (.slice A x.args.length c))[j]? = some u → xs[i * 7 + j]? = some u := by
  obtain ⟨ps, rfl, h2, rfl⟩ := h
  have hL : ∀ c ∈ ps.map (·.2), c.length = 7 := fun c hc => by obtain ⟨p, hp, rfl⟩ := List.mem_map.1 hc; exact (h2 p hp).len
  rw [List.getElem?_map] at hx
  cases e : ps[i]? with
  | none => rw [e] at hx; cases hx
  | some p =>
    rw [e] at hx; cases hx
    obtain ⟨A, c, h3, h4⟩ := h2 p (List.mem_of_getElem? e)
    refine ⟨A, c, h4, fun j u hu => ?_⟩
    have hj : j < 7 := (List.getElem?_eq_some_iff.1 hu).1
    rw [flatten_at hL i j hj, List.getElem?_map, e]
    rw [← h3] at hu
    exact hu
theorem CodeCells.plain {l : List Vins} {xs : List Value} (h : CodeCells w T l xs) : ∀ u ∈ xs, u.oneCell' = true := by
  obtain ⟨ps, rfl, h2, rfl⟩ := h
  intro u hu
  obtain ⟨c, hc, hu⟩ := List.mem_flatten.1 hu
  obtain ⟨p, hp, rfl⟩ := List.mem_map.1 hc
  obtain ⟨A, c, h3, _⟩ := h2 p hp
  rw [h3] at hu
  simp [vinsCells] at hu
  rcases hu with rfl | rfl | rfl | rfl | rfl | rfl | rfl <;> rfl
end

/-- append onto a row, m elements more: behind 'at_builtin'. -/
theorem wpList_append_row {P : Program} (w : World) {ops : Array Oper} {rest : List Oper} {o : Oper} {a : Act} {Q : Exit → Act → World → Prop} (hgd : o.guard = none) (s x : Operand) (t e : Nat) (z : Value) (size bytes : Nat)
    (ho : o.op = .call { callee := .builtin .append, args := #[s, x], argTypes := #[t, t] })
    (ht : P.underlying t = some (.slice e)) (hinfo : (P.info? e).map (fun i => (i.zero, i.size, i.bytes)) = some (some z, size, bytes)) (hz : z.cells.size = size)
    {v : Value} {r : Option Nat} {n : Nat} {xs : List Value} (HO : RowAt w e size v r n xs) (ad : Addr) (m c : Nat) (news : List Value) (hln : news.length = m * size) (hnews : ∀ j u, news[j]? = some u → w.cell? (ad.add j) = some u)
    (h1 : ∀ u ∈ news, u.oneCell' = true) (hs : a.eval s = v) (hx : a.eval x = .slice (some ad) m c)
    (hl : (n + m) * bytes ≤ 140737488355328) (hn : n + m ≤ maxLen) (hm : 0 < m)
    (h : ∀ v' r' w', RowAt w' e size v' r' (n + m) (xs ++ news) → Chg (fun k => some k = r) w w' → NewOr w r r' → wpList P ops Q rest (a.put o.dst v') w') :
    wpList P ops Q (o :: rest) a w := by
  obtain ⟨i0, hi, hz0, hz1, hz2⟩ := info_parts hinfo
  obtain ⟨v', r', w', hrun, hR, hC, hN⟩ := run_append_row (P := P) w t o.type e i0 z size bytes ht hi hz0 hz1 hz2 hz v r n xs HO ad m c news hln hnews h1 hn hl hm
  refine wpList_plain hgd fun K hK' => ?_
  unfold Oper.wp execOp
  simp only [ho, resolve, invoke, builtin, Sem.run_bind, Sem.run_pure, Result.andThen_ok, List.map_toArray, List.map_cons, List.map_nil, hs, hx, hrun]
  exact hK' _ _ (h v' r' w' hR hC hN)

theorem row_not {w : World} {e size n b : Nat} {v : Value} {r : Option Nat} {xs : List Value} {c : Array Value} {t : Nat} {f : Nat × Nat} (h : RowAt w e size v r n xs) (hb : w.heap[b]? = some (.cells c t f)) (hne : t ≠ e) : r ≠ some b := by
  intro hr
  rcases h.2 with ⟨_, h0, _⟩ | ⟨g, off, cap, cur, hv, h0, hg, _⟩
  · rw [h0] at hr; cases hr
  · rw [h0] at hr; cases hr
    rw [hg] at hb
    injection hb with hb
    injection hb with _ ht _
    exact hne ht.symm
theorem row_not_map {w : World} {e size n b : Nat} {v : Value} {r : Option Nat} {xs : List Value} {P : Program} {kt et k : Nat} {f : Lit → Option Lit} (h : RowAt w e size v r n xs) (hb : MapAt P kt et w b k f) : r ≠ some b := by
  intro hr
  obtain ⟨es, clock, hm⟩ := hb.obj
  rcases h.2 with ⟨_, h0, _⟩ | ⟨g, off, cap, cur, hv, h0, hg, _⟩
  · rw [h0] at hr; cases hr
  · rw [h0] at hr; cases hr
    rw [hg] at hm; cases hm
def FootP (pb mb : Nat) (r : Option Nat) (k : Nat) : Prop := k = pb ∨ k = mb ∨ some k = r
/-- Where the code's own arguments may lie: not in what the picker turns, nor in the block ahead of it. -/
def CodeT (pb mb : Nat) (r : Option Nat) (k : Nat) : Prop := ¬ FootP pb mb r k ∧ k + 1 ≠ pb
def litK : Lit → Option Lit := fun _ => none

/-- The picker at pb: the function's head, the code so far, what is known. -/
structure PickAt (w : World) (pb mb : Nat) (v : Value) (r : Option Nat) (f : Fn) (l : List Vins) (n : Nat) (kn : Lit → Option Lit) : Prop where
  heap : w.heap[pb]? = some (.cells #[.string f.name, .int .i64 f.params, .int .i64 f.regs, v, .map (some mb)] 65 (0, 0))
  code : ∃ xs, RowAt w 61 7 v r l.length xs ∧ CodeCells w (CodeT pb mb r) l xs
  map : MapAt Try.prog 3 21 w mb n kn
theorem PickAt.lt {w : World} {pb mb : Nat} {v : Value} {r : Option Nat} {f : Fn} {l : List Vins} {n : Nat} {kn : Lit → Option Lit} (h : PickAt w pb mb v r f l n kn) : ∀ k, FootP pb mb r k → k < w.heap.size := by
  obtain ⟨xs, h1, _⟩ := h.code
  rintro k (rfl | rfl | e)
  · exact lt_of_heap h.heap
  · exact MapAt.lt h.map
  · exact h1.lt k e.symm
theorem PickAt.kept {w w' : World} {pb mb : Nat} {v : Value} {r : Option Nat} {f : Fn} {l : List Vins} {n : Nat} {kn : Lit → Option Lit} (h : PickAt w pb mb v r f l n kn) (hb : Below w.heap.size w w') : PickAt w' pb mb v r f l n kn := by
  have hc := chg_of_below hb
  have hno : ∀ k, k < w.heap.size → ¬ (w.heap.size ≤ k) := fun k h h' => by omega
  obtain ⟨xs, h1, h2⟩ := h.code
  exact ⟨hc.heap h.heap (hno _ (h.lt _ (.inl rfl))), ⟨xs, h1.kept hc fun k hk => hno _ (h1.lt k hk), h2.kept hc fun k _ hk => hno k hk⟩, h.map.kept hc (hno _ (MapAt.lt h.map))⟩

/-- From one state of the picker to the next. -/
structure PStep (w : World) (pb mb : Nat) (r : Option Nat) (w' : World) (r' : Option Nat) : Prop where
  chg : Chg (FootP pb mb r) w w'
  nr : NewOr w r r'
theorem PStep.refl (w : World) (pb mb : Nat) (r : Option Nat) : PStep w pb mb r w r := ⟨Chg.refl _ _, .refl _ _⟩
theorem PStep.trans {w w1 w2 : World} {pb mb : Nat} {r r1 r2 : Option Nat} (h : PStep w pb mb r w1 r1) (k : PStep w1 pb mb r1 w2 r2) : PStep w pb mb r w2 r2 :=
  ⟨h.chg.trans k.chg (fun i hi hf => by
    rcases hf with hf | hf | hf
    · exact .inl hf
    · exact .inr (.inl hf)
    · exact .inr (.inr (h.nr.old hi hf.symm).symm)), h.nr.trans k.nr h.chg.size⟩
theorem PStep.ofBelow {w w' : World} {pb mb : Nat} {r : Option Nat} (hb : Below w.heap.size w w') : PStep w pb mb r w' r :=
  ⟨⟨hb.os, hb.tape, hb.output, hb.size, fun k hk _ => hb.block k hk⟩, .refl _ _⟩

theorem info_vins : (Try.prog.info? 61).map (fun i => (i.zero, i.size, i.bytes)) = some (some (.agg #[.int .i64 0, .int .i64 0, .int .i64 0, .int .i64 0, .int .i32 0, .string ⟨#[]⟩, .slice none 0 0]), 7, 80) := by kernel_rfl
end Go.Proofs.Ytnfneinonkpmeaa
