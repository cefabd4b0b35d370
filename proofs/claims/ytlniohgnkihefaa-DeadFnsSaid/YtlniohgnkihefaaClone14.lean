/- slices.Clone of ints: a block of numbers of its own. -/
import Derived.Test.YtlniohgnkihefaaDeadM
namespace Go.Proofs.Ytlniohgnkihefaa
open Go.RowKit
theorem info_int14 : (Try.prog.info? 3).map (fun i => (i.zero, i.size, i.bytes)) = some (some (.int .i64 0), 1, 8) := by kernel_rfl
theorem ints_plain14 (zs : List Int) : ∀ u ∈ ints zs, u.oneCell' = true := by
  intro u hu
  obtain ⟨z, _, rfl⟩ := List.mem_map.1 hu
  rfl
theorem wpList_append_row14 {P : Program} (w : World) {ops : Array Oper} {rest : List Oper} {o : Oper} {a : Act} {Q : Exit → Act → World → Prop} (hgd : o.guard = none) (s x : Operand) (t e : Nat) (z : Value) (size bytes : Nat)
    (ho : o.op = .call { callee := .builtin .append, args := #[s, x], argTypes := #[t, t] })
    (ht : P.underlying t = some (.slice e)) (hinfo : (P.info? e).map (fun i => (i.zero, i.size, i.bytes)) = some (some z, size, bytes)) (hz : z.cells.size = size)
    {v : Value} {r : Option Nat} {n : Nat} {xs : List Value} (HO : RowAt w e size v r n xs) (ad : Addr) (m c : Nat) (news : List Value) (hln : news.length = m * size) (hnews : ∀ j u, news[j]? = some u → w.cell? (ad.add j) = some u)
    (h1 : ∀ u ∈ news, u.oneCell' = true) (hs : a.eval s = v) (hx : a.eval x = .slice (some ad) m c)
    (hl : (n + m) * bytes ≤ 140737488355328) (hn : n + m ≤ maxLen) (hm : 0 < m)
    (h : ∀ v' r' w', RowAt w' e size v' r' (n + m) (xs ++ news) → Chg (fun k => some k = r) w w' → NewOr w r r' → wpList P ops Q rest (a.put o.dst v') w') :
    wpList P ops Q (o :: rest) a w := by
  obtain ⟨i0, hi, hz0, hz1, hz2⟩ := info_parts hinfo
  obtain ⟨v', r', w', hrun, hR, hC, hN⟩ := run_append_row (P := P) w t o.type e i0 z size bytes ht hi hz0 hz1 hz2 hz v r n xs HO ad m c news hln hnews h1 hn hl hm
  refine wpList_plain hgd fun K hK' => ?_
  unfold Oper.wp execOp
  simp only [ho, resolve, invoke, builtin, Sem.run_bind, Sem.run_pure, Result.andThen_ok, List.map_toArray, List.map_cons, List.map_nil, hs, hx, hrun]
  exact hK' _ _ (h v' r' w' hR hC hN)
theorem intsIn_of_row {W : World} {A : Option Addr} {c n : Nat} {r : Option Nat} {zs : List Int} (h : RowAt W 3 1 (.slice A n c) r n (ints zs)) : IntsIn W A zs := fun hp => by
  have hn : zs.length = n := by have := h.1; simpa [ints] using this
  rcases h.2 with ⟨_, _, h0⟩ | ⟨g, off, cap, cur, hv, _, hg, h1, h2, h3, h4⟩
  · omega
  · injection hv with hA _ _
    refine ⟨g, off, cur, (0, 0), hA, hg, fun j u hu => ?_⟩
    rw [← h4, List.getElem?_take] at hu
    split at hu
    · rw [List.getElem?_drop] at hu; rw [← Array.getElem?_toList]; exact hu
    · cases hu
set_option maxHeartbeats 1000000 in
set_option maxRecDepth 100000 in
theorem clone14_any (A : Option Addr) (c : Nat) (zs : List Int) (w : World) (hl : zs.length ≤ 1000) (h : ReadsAt w A (ints zs)) :
    Calls Try.prog 45 #[.slice A zs.length c] w fun e w' => ∃ A' c', e = .returned (.slice A' zs.length c') ∧ Below w.heap.size w w' ∧ IntsIn w' A' zs := by
  have qS : ∀ (w : World) (a : Option Addr) (n c n' c' : Nat), (binOp .eql 46 (.slice a n c) (.slice none n' c')).run Try.prog w = .ok (.bool a.isNone) w := fun w a n c n' c' => Go.Lib.run_eql_slice_nil (P := Try.prog) w 46 3 a n c n' c' Try.underlying46
  cases A with
  | none =>
    have h0 : zs = [] := by
      cases zs with
      | nil => rfl
      | cons z zs => obtain ⟨g, off, hA, _⟩ := h (by simp [ints]); cases hA
    subst h0
    clear h
    go_enter Try.func45, Try.ntmps45
    go_wp2_with fail
    go_ret
    exact ⟨none, 0, rfl, Below.refl _ _, fun h => by simp at h⟩
  | some ad =>
    cases zs with
    | nil =>
      clear h
      go_enter Try.func45, Try.ntmps45
      go_wp2_with fail
      go_ret
      exact ⟨_, _, rfl, (Below.refl _ _).alloc (Nat.le_refl _) _, fun h => by simp at h⟩
    | cons z zs =>
      obtain ⟨g, off, hA, hg, hx⟩ := h (by simp [ints])
      cases hA
      have HX := Lib.hid hx
      clear hx h
      have hrow : RowAt (w.alloc (.cells #[] 3)) 3 1 (.slice (some ⟨w.heap.size, 0, none⟩) 0 0) (some w.heap.size) 0 [] := ⟨rfl, .inr ⟨w.heap.size, 0, 0, #[], rfl, rfl, heap_alloc_new w _, Nat.le_refl _, Nat.zero_le _, by simp, by simp⟩⟩
      have HROW := Lib.hid hrow
      clear hrow
      go_enter Try.func45, Try.ntmps45
      go_wp2_with (at_builtin; go_must (refine wpList_append_row14 _ rfl _ _ 46 3 _ 1 8 rfl Try.underlying46 info_int14 rfl HROW.out ⟨g, off, none⟩ (zs.length + 1) c (ints (z :: zs)) (by simp [ints]) (fun j u hu => by rw [Addr.add_lit]; exact ((Below.refl w.heap.size w).alloc (Nat.le_refl _) _).cell (p := ⟨g, off + j, none⟩) hg |>.trans (HX.out j u hu)) (ints_plain14 _) rfl rfl (by simp at hl; omega) (by simp at hl; unfold maxLen; omega) (by omega) ?_); intro v' r' w2 hR hC hN; obtain ⟨A', c', rfl, _⟩ := hR.shape; have HR := Lib.hid hR; have HC := Lib.hid hC; have HN := Lib.hid hN; clear hR hC hN)
      go_ret
      have hb : Below w.heap.size w w2 := ((Below.refl w.heap.size w).alloc (Nat.le_refl _) _).trans (HC.out.below (by simp) fun k e => by injection e with e; omega)
      have hR := HR.out
      rw [List.nil_append] at hR
      exact ⟨A', c', by simp, hb, intsIn_of_row hR⟩
end Go.Proofs.Ytlniohgnkihefaa
