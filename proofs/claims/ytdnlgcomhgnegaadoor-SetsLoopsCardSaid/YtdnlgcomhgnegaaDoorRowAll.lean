/- append of a whole row of ints, empty or not. -/
import Derived.Test.YtdnlgcomhgnegaaDoorRef03
namespace Go.Proofs.YtdnlgcomhgnegaaDoor
open Go.RowKit

theorem run_firstCells_zero {P : Program} (w : World) (size : Nat) (A : Option Addr) (c : Nat) : (Builtin.firstCells size 0 (.slice A 0 c)).run P w = .ok #[] w := by
  cases A with
  | none => simp [Builtin.firstCells]
  | some a => exact run_firstCells_some (P := P) w size 0 a 0 c [] (by simp) (fun j u h => by simp at h)
theorem run_append_none {P : Program} (w : World) (t ty e : Nat) (i : TypeInfo) (ht : P.underlying t = some (.slice e)) (hi : P.info? e = some i)
    {v : Value} {r : Option Nat} {n : Nat} {xs : List Value} {size : Nat} (hown : RowAt w e size v r n xs) (A : Option Addr) (c : Nat) :
    (Builtin.append_ #[t, t] ty #[v, .slice A 0 c]).run P w = .ok v w := by
  rcases hown.2 with ⟨rfl, rfl, rfl⟩ | ⟨g, off, cap, cur, rfl, rfl, hg, hnc, hcm, hcs, htake⟩
  · cases A <;> simp [Builtin.append_, run_underlying ht, sizeOf, typeInfo, hi, Builtin.lenOf, run_firstCells_zero]
  · cases A <;> simp [Builtin.append_, run_underlying ht, sizeOf, typeInfo, hi, Builtin.lenOf, hnc, run_firstCells_zero, storeCells]
theorem wpList_append_ints {P : Program} (w : World) {ops : Array Oper} {rest : List Oper} {o : Oper} {a : Act} {Q : Exit → Act → World → Prop} (hgd : o.guard = none) (s x : Operand) (t e : Nat)
    (ho : o.op = .call { callee := .builtin .append, args := #[s, x], argTypes := #[t, t] })
    (ht : P.underlying t = some (.slice e)) (hinfo : (P.info? e).map (fun i => (i.zero, i.size, i.bytes)) = some (some (.int .i64 0), 1, 8))
    {v : Value} {r : Option Nat} {n : Nat} {xs : List Value} (HO : RowAt w e 1 v r n xs) (A : Option Addr) (m c : Nat) (l : List Int) (hl : l.length = m) (hr : ReadsAt w A (ints l))
    (hs : a.eval s = v) (hx : a.eval x = .slice A m c) (hb : (n + m) * 8 ≤ 140737488355328) (hn : n + m ≤ maxLen)
    (h : ∀ v' r' w', RowAt w' e 1 v' r' (n + m) (xs ++ ints l) → Chg (fun k => some k = r) w w' → NewOr w r r' → wpList P ops Q rest (a.put o.dst v') w') :
    wpList P ops Q (o :: rest) a w := by
  rcases Nat.eq_zero_or_pos m with h0 | h0
  · subst h0
    have hl0 : l = [] := List.eq_nil_of_length_eq_zero hl
    subst hl0
    obtain ⟨i0, hi, hz0, hz1, hz2⟩ := info_parts hinfo
    have hrun := run_append_none (P := P) w t o.type e i0 ht hi HO A c
    refine wpList_plain hgd fun K hK' => ?_
    unfold Oper.wp execOp
    simp only [ho, resolve, invoke, builtin, Sem.run_bind, Sem.run_pure, Result.andThen_ok, List.map_toArray, List.map_cons, List.map_nil, hs, hx, hrun]
    exact hK' _ _ (h v r w (by simpa [ints] using HO) (Chg.refl _ _) (NewOr.refl _ _))
  · obtain ⟨g, off, rfl, hg, hc⟩ := hr (by rw [ints_length]; omega)
    refine wpList_append_row w hgd s x t e (.int .i64 0) 1 8 ho ht hinfo rfl HO ⟨g, off, none⟩ m c (ints l) (by rw [ints_length]; omega) (fun j u hu => by rw [Addr.add_lit]; exact hc j u hu) ?_ hs hx hb hn h0 h
    intro u hu
    obtain ⟨z, _, rfl⟩ := List.mem_map.1 hu
    rfl
end Go.Proofs.YtdnlgcomhgnegaaDoor
