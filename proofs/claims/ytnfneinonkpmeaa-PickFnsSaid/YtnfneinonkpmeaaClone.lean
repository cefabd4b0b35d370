/- slices.Clone of ints. -/
import Derived.Test.YtnfneinonkpmeaaPickA0
import Derived.Lib.SliceRun
namespace Go.Proofs.Ytnfneinonkpmeaa
open Go.RowKit
variable {T : Nat → Prop}
theorem info_int : (Try.prog.info? 3).map (fun i => (i.zero, i.size, i.bytes)) = some (some (.int .i64 0), 1, 8) := by kernel_rfl
theorem ints_plain (zs : List Int) : ∀ u ∈ ints zs, u.oneCell' = true := by
  intro u hu
  obtain ⟨z, _, rfl⟩ := List.mem_map.1 hu
  rfl
set_option maxHeartbeats 1000000 in
set_option maxRecDepth 100000 in
theorem Clone_any (A : Option Addr) (c : Nat) (zs : List Int) (w : World) (hl : zs.length ≤ 1000) (h : RdT w T A (ints zs)) :
    Calls Try.prog 38 #[.slice A zs.length c] w fun e w' => ∃ A' c', e = .returned (.slice A' zs.length c') ∧ Below w.heap.size w w' ∧ RdT w' (fun k => w.heap.size ≤ k) A' (ints zs) := by
  have qS : ∀ (w : World) (a : Option Addr) (n c n' c' : Nat), (binOp .eql 52 (.slice a n c) (.slice none n' c')).run Try.prog w = .ok (.bool a.isNone) w := fun w a n c n' c' => Go.Lib.run_eql_slice_nil (P := Try.prog) w 52 3 a n c n' c' Try.underlying52
  cases A with
  | none =>
    have h0 : zs = [] := by
      cases zs with
      | nil => rfl
      | cons z zs => obtain ⟨g, off, hA, _⟩ := h (by simp [ints]); cases hA
    subst h0
    clear h
    go_enter Try.func38, Try.ntmps38
    go_wp2_with fail
    go_ret
    exact ⟨none, 0, rfl, Below.refl _ _, RdT.nil⟩
  | some ad =>
    cases zs with
    | nil =>
      clear h
      go_enter Try.func38, Try.ntmps38
      go_wp2_with fail
      go_ret
      exact ⟨_, _, rfl, (Below.refl _ _).alloc (Nat.le_refl _) _, RdT.nil⟩
    | cons z zs =>
      obtain ⟨g, off, hA, ht, hg, hx⟩ := h (by simp [ints])
      cases hA
      have HX := Lib.hid hx
      clear hx h
      have hrow : RowAt (w.alloc (.cells #[] 3)) 3 1 (.slice (some ⟨w.heap.size, 0, none⟩) 0 0) (some w.heap.size) 0 [] := ⟨rfl, .inr ⟨w.heap.size, 0, 0, #[], rfl, rfl, heap_alloc_new w _, Nat.le_refl _, Nat.zero_le _, by simp, by simp⟩⟩
      have HROW := Lib.hid hrow
      clear hrow
      go_enter Try.func38, Try.ntmps38
      go_wp2_with (at_builtin; go_must (refine wpList_append_row _ rfl _ _ 52 3 _ 1 8 rfl Try.underlying52 info_int rfl HROW.out ⟨g, off, none⟩ (zs.length + 1) c (ints (z :: zs)) (by simp [ints]) (fun j u hu => by rw [Addr.add_lit]; exact ((Below.refl w.heap.size w).alloc (Nat.le_refl _) _).cell (p := ⟨g, off + j, none⟩) hg |>.trans (HX.out j u hu)) (ints_plain _) rfl rfl (by simp at hl; omega) (by simp at hl; unfold maxLen; omega) (by omega) ?_); intro v' r' w2 hR hC hN; obtain ⟨A', c', rfl, _⟩ := hR.shape; have HR := Lib.hid hR; have HC := Lib.hid hC; have HN := Lib.hid hN; clear hR hC hN)
      go_ret
      have hb : Below w.heap.size w w2 := ((Below.refl w.heap.size w).alloc (Nat.le_refl _) _).trans (HC.out.below (by simp) fun k e => by injection e with e; omega)
      refine ⟨A', c', by simp, hb, fun hp => ?_⟩
      have hR := HR.out
      rw [List.nil_append] at hR
      obtain ⟨g', off', cap, hv, hr, _, _, hg', hcell, _⟩ := hR.form (by omega)
      injection hv with h1 _ _
      exact ⟨g', off', h1, HN.out.ge (B := w.heap.size) (by simp) (fun k e => by injection e with e; omega) _ hr, hg', hcell⟩
end Go.Proofs.Ytnfneinonkpmeaa
