/- append onto a row, several elements at once. (The same words stand in XVins: not both in one seat.) -/
import Derived.Test.YtlniohgnkihefaaMap
namespace Go.Proofs.Ytlniohgnkihefaa
open Go.RowKit
/-- append onto a row, m elements more: behind 'at_builtin'. -/
theorem wpList_append_row {P : Program} (w : World) {ops : Array Oper} {rest : List Oper} {o : Oper} {a : Act} {Q : Exit → Act → World → Prop} (hgd : o.guard = none) (s x : Operand) (t e : Nat) (z : Value) (size bytes : Nat)
    (ho : o.op = .call { callee := .builtin .append, args := #[s, x], argTypes := #[t, t] })
    (ht : P.underlying t = some (.slice e)) (hinfo : (P.info? e).map (fun i => (i.zero, i.size, i.bytes)) = some (some z, size, bytes)) (hz : z.cells.size = size)
    {v : Value} {r : Option Nat} {n : Nat} {xs : List Value} (HO : RowAt w e size v r n xs) (ad : Addr) (m c : Nat) (news : List Value) (hln : news.length = m * size) (hnews : ∀ j u, news[j]? = some u → w.cell? (ad.add j) = some u)
    (h1 : ∀ u ∈ news, u.oneCell' = true) (hs : a.eval s = v) (hx : a.eval x = .slice (some ad) m c)
    (hl : (n + m) * bytes ≤ 140737488355328) (hn : n + m ≤ maxLen) (hm : 0 < m)
    (h : ∀ v' r' w', RowAt w' e size v' r' (n + m) (xs ++ news) → Chg (fun k => some k = r) w w' → NewOr w r r' → wpList P ops Q rest (a.put o.dst v') w') :
    wpList P ops Q (o :: rest) a w := by
  obtain ⟨i0, hi, hz0, hz1, hz2⟩ := info_parts hinfo
  obtain ⟨v', r', w', hrun, hR, hC, hN⟩ := run_append_row (P := P) w t o.type e i0 z size bytes ht hi hz0 hz1 hz2 hz v r n xs HO ad m c news hln hnews h1 hn hl hm
  refine wpList_plain hgd fun K hK' => ?_
  unfold Oper.wp execOp
  simp only [ho, resolve, invoke, builtin, Sem.run_bind, Sem.run_pure, Result.andThen_ok, List.map_toArray, List.map_cons, List.map_nil, hs, hx, hrun]
  exact hK' _ _ (h v' r' w' hR hC hN)

theorem row_not {w : World} {e size n b : Nat} {v : Value} {r : Option Nat} {xs : List Value} {c : Array Value} {t : Nat} {f : Nat × Nat} (h : RowAt w e size v r n xs) (hb : w.heap[b]? = some (.cells c t f)) (hne : t ≠ e) : r ≠ some b := by
  intro hr
  rcases h.2 with ⟨_, h0, _⟩ | ⟨g, off, cap, cur, hv, h0, hg, _⟩
  · rw [h0] at hr; cases hr
  · rw [h0] at hr; cases hr
    rw [hg] at hb
    injection hb with hb
    injection hb with _ ht _
    exact hne ht.symm
theorem row_not_map {w : World} {e size n b : Nat} {v : Value} {r : Option Nat} {xs : List Value} {P : Program} {kt et k : Nat} {f : Lit → Option Lit} (h : RowAt w e size v r n xs) (hb : MapAt P kt et w b k f) : r ≠ some b := by
  intro hr
  obtain ⟨es, clock, hm⟩ := hb.obj
  rcases h.2 with ⟨_, h0, _⟩ | ⟨g, off, cap, cur, hv, h0, hg, _⟩
  · rw [h0] at hr; cases hr
  · rw [h0] at hr; cases hr
    rw [hg] at hm; cases hm
end Go.Proofs.Ytlniohgnkihefaa
