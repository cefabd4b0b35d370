/- append onto a row at a step of a region that draws its order. -/
import Derived.Test.YtlniohgnkihefaaBase
import Derived.OwnWalk
import Derived.Deep.RegionHeld
namespace Go.Proofs.Ytlniohgnkihefaa
open Go.RowKit
theorem step_append_row {P : Program} (w : World) {ops : Array Oper} {o : Oper} {a : Act} {K : Act → World → Prop} {Q : Exit → Act → World → Prop} {E : Prop} (hgd : o.guard = none) (s x : Operand) (t e : Nat) (z : Value) (size bytes : Nat)
    (ho : o.op = .call { callee := .builtin .append, args := #[s, x], argTypes := #[t, t] })
    (ht : P.underlying t = some (.slice e)) (hinfo : (P.info? e).map (fun i => (i.zero, i.size, i.bytes)) = some (some z, size, bytes)) (hz : z.cells.size = size)
    {v : Value} {r : Option Nat} {n : Nat} {xs : List Value} (HO : RowAt w e size v r n xs) (ad : Addr) (m c : Nat) (news : List Value) (hln : news.length = m * size) (hnews : ∀ j u, news[j]? = some u → w.cell? (ad.add j) = some u)
    (h1 : ∀ u ∈ news, u.oneCell' = true) (hs : a.eval s = v) (hx : a.eval x = .slice (some ad) m c)
    (hl : (n + m) * bytes ≤ 140737488355328) (hn : n + m ≤ maxLen) (hm : 0 < m)
    (h : ∀ v' r' w', RowAt w' e size v' r' (n + m) (xs ++ news) → Chg (fun k => some k = r) w w' → NewOr w r r' → K (a.put o.dst v') w') :
    if Region.wanted o (yielded ops a.tmps) = true then Oper.wp P o a w K Q else E := by
  have hw : Region.wanted o (yielded ops a.tmps) = true := by simp [Region.wanted, hgd]
  rw [if_pos hw]
  obtain ⟨i0, hi, hz0, hz1, hz2⟩ := info_parts hinfo
  obtain ⟨v', r', w', hrun, hR, hC, hN⟩ := run_append_row (P := P) w t o.type e i0 z size bytes ht hi hz0 hz1 hz2 hz v r n xs HO ad m c news hln hnews h1 hn hl hm
  unfold Oper.wp execOp
  simp only [ho, resolve, invoke, builtin, Sem.run_bind, Sem.run_pure, Result.andThen_ok, List.map_toArray, List.map_cons, List.map_nil, hs, hx, hrun]
  exact h v' r' w' hR hC hN
end Go.Proofs.Ytlniohgnkihefaa
