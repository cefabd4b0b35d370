/- PickOne returns true for every operator, every two words, known or not, and each argument reads behind the call as it read before. Conditions: none. -/
import Derived.Test.YtnfneinonkpmeaaRows
import Derived.Test.YtnfneinonkpmeaaLwOne
import Derived.WideKeyPair
namespace Go.Proofs.Ytnfneinonkpmeaa.pickOne
open Go.ChangeShapes Go.WideShapes Go.ChangeAt Go.RowKit
theorem own : ownKnob Try.prog.godebug = none := by kernel_rfl
theorem laidOut : laidOutB Try.prog = true := by kernel_rfl
theorem arr2 : Go.WideMaps.ArrKey Try.prog 51 21 2 := ⟨Try.underlying51, by kernel_rfl, by kernel_rfl, by kernel_rfl⟩
theorem u64_of_wf {n : Int} (h : (Lit.int .u64 n).wf = true) : 0 ≤ n ∧ n ≤ 18446744073709551615 := by
  simp [Lit.wf, IntKind.min, IntKind.max, IntKind.signed, IntKind.bits] at h
  omega

set_option maxRecDepth 100000 in
theorem lifted (os : Os) (started : os.Started) (H : Type) (enc : TypeId × Value → H) :
    ReturnsInHanded {} Try.checked os 5 .any (Rows.pickOneSpec.pre6 enc Try.prog Try.f5 Rows.pickOneRow.domain false) (Rows.pickOneSpec.post enc Try.prog Try.f5 false true false false) := by
  refine returnsInHanded_of_change (C := Try.checked) own started (by kernel_rfl) Try.func5
    (ChangeSpec.witness6 (enc := enc) (C := Try.checked) false ⟨#[], #[.int .u64 0, .agg #[.int .i32 0, .int .i32 0], .int .u64 0], []⟩ 8 (by kernel_rfl) (by kernel_rfl) (by kernel_rfl) (by kernel_rfl)) ?_
  intro W base args ds gs before hval0 hW hcnd _
  have hval : ∀ (j : Nat) t v, Try.f5.params[j]? = some t → args[j]? = some v → Value.okWide Try.prog W .any base t v := hval0
  have hW' := hW
  obtain ⟨p, q, hA0, hV, rfl, hfz, hnd⟩ := hW
  have hA : DataW.TrodAll enc Try.prog W 0 (fun _ => true) true Try.f5.params.toList args.toList ds p := hA0
  rw [Try.params5] at hA hval
  obtain ⟨v0, vs0, d0, ds0, p0, q0, hargs, rfl, rfl, h0, r0⟩ := trodAll_cons hA
  obtain ⟨v1, vs1, d1, ds1, p1, q1, rfl, rfl, rfl, h1, r1⟩ := trodAll_cons r0
  obtain ⟨v2, vs2, d2, ds2, p2, q2, rfl, rfl, rfl, h2, r2⟩ := trodAll_cons r1
  obtain ⟨rfl, rfl, rfl⟩ := trodAll_nil r2
  obtain rfl : args = #[v0, v1, v2] := by cases args; simp_all
  obtain ⟨rfl, rfl⟩ := trodVars_none hV
  obtain ⟨op, rfl, rfl, rfl, wop⟩ := open_int Try.underlying50 (hval 0 50 v0 rfl rfl) h0
  obtain ⟨a, b, rfl, rfl, rfl, wa, wb⟩ := Go.WideMaps.open_pair arr2 Try.underlying21 (hval 1 51 v1 rfl rfl) h1
  obtain ⟨how, rfl, rfl, rfl, whow⟩ := open_int Try.underlying50 (hval 2 50 v2 rfl rfl) h2
  clear hA0 hval0
  refine (pickOne_any op (u64_of_wf wop) a b (i32_of_wf wa) (i32_of_wf wb) how (u64_of_wf whow) W).mono fun e W' ⟨he, bel⟩ => ?_
  subst he
  exact ⟨_, rfl, _, _, _, [], _, [], hW', trodAll_mk1 (shut_bool Try.underlying4 _), (trodAll_cons_mk (shut_int Try.underlying50 wop) (trodAll_cons_mk (Go.WideMaps.shut_pair arr2 Try.underlying21 wa wb) (trodAll_mk1 (shut_int Try.underlying50 whow)))), rfl, bel.frame _, fun h => by cases h⟩

theorem over : Rows.pickOneRow.holds Try.pinned (OpenSpec.ofChange Rows.pickOneSpec) :=
  OpenClaim.holds_of_wide 5 Try.f5 rfl rfl rfl rfl rfl rfl rfl ⟨rfl, rfl, rfl, rfl, rfl⟩ rfl rfl rfl rfl rfl (by kernel_rfl) Try.func5 (by kernel_rfl)
    (of_decide_eq_true (by kernel_rfl)) (by unfold Func.isWrapper; first | (rw [if_pos (by decide +kernel)]; kernel_rfl) | (rw [if_neg (by decide +kernel)]; exact ⟨rfl, rfl⟩))
    (fun os started H enc _ => lifted os started H enc)

theorem proved : Rows.PickOneSaid := over
#print axioms proved
end Go.Proofs.Ytnfneinonkpmeaa.pickOne
