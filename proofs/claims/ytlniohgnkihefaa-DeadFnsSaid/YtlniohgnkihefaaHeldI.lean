/- A drawn region in a round of a range over a function: HeldT's laws serve there too. -/
import Derived.Test.YtlniohgnkihefaaHeldT
import Derived.OrdersIn
import Derived.TacticsIn
import Derived.RangeFuncCalls
namespace Go.Proofs.Ytlniohgnkihefaa
open Go

/-- Q at the normal end alone. -/
def PlainQ (Q : Exit → Act → World → Prop) : Exit → Act → World → Prop
  | .normal, a, w => Q .normal a w
  | _, _, _ => False
theorem PlainQ.imp {Q : Exit → Act → World → Prop} : ∀ (e : Exit) (a : Act) (w : World), PlainQ Q e a w → Q e a w := fun e a w h => by
  cases e <;> first | exact h | exact (h : False).elim
theorem PlainQ.out {Q : Exit → Act → World → Prop} : ¬ LetsOut (PlainQ Q) := fun ⟨_, _, h⟩ => h
theorem rowsIn_wide' {n : Nat} {P : Program} {row : String} {args : Array Value} {w : World} {R : Value → World → Prop} (h : Rows P row args w R) : RowsIn Fence.wide n P row args w R := by
  intro c cs _
  obtain ⟨v, w', r, s⟩ := h c cs
  exact ⟨v, w', r, stepsIn_wide.2 s⟩
section
variable {P : Program} {ops : Array Oper} {Q : Exit → Act → World → Prop} {l n : Nat}
theorem wpOpIn_of_wpOp {i : Nat} {K : Act → World → Prop} {a : Act} {w : World} (hnd : ∀ (o : Oper) (c : Call), ops[i]? = some o → o.op ≠ .defer c) (h : wpOp P ops (PlainQ Q) i K a w) :
    wpOpIn (Fence.wide.inRound l) n P ops (PlainQ Q) i K a w := by
  unfold wpOp at h
  unfold wpOpIn
  cases ho : ops[i]? with
  | none => rw [ho] at h; exact h
  | some o =>
    rw [ho] at h
    simp only at h ⊢
    by_cases hw : Region.wanted o (yielded ops a.tmps) = true
    · rw [if_pos hw] at h
      rw [if_pos hw]
      rcases h with h | ⟨_, h⟩
      · refine ⟨fun _ _ => trivial, ?_⟩
        rw [Fence.inRound_round, Oper.semAt_some _ _ _ fun c => hnd o c ho]
        unfold Oper.wp at h
        generalize (execOp a.eval o).run P w = r at h
        cases r with
        | ok v w' =>
          cases v with
          | value v => exact h
          | skip => exact h
          | defer d => exact h
          | enter f args => exact ⟨(fun hd => by cases hd), (CallsIn.inRound l (callsIn_wide.2 h)).mono fun e w' he => he⟩
          | row row args => exact ⟨(fun hd => by cases hd), rowsIn_wide' h⟩
          | _ => exact h.elim
        | halt x w' => cases x <;> first | exact h | exact (h : False).elim
      · exact absurd h PlainQ.out
    · rw [if_neg hw] at h
      rw [if_neg hw]
      exact ⟨fun _ _ => trivial, h⟩
theorem wpAnyIn_of_any {md : Region.Mode} (hnd : ∀ (i : Nat) (o : Oper) (c : Call), ops[i]? = some o → o.op ≠ .defer c) : ∀ (fuel : Nat) (listed : Array Bool) (a : Act) (w : World), wpAny P md ops (PlainQ Q) fuel listed a w → wpAnyIn (Fence.wide.inRound l) n P md ops (PlainQ Q) fuel listed a w
  | 0, _, _, _, h => h
  | fuel + 1, _, _, _, h => ⟨h.1, fun i hi => wpOpIn_mono (fun a' w' h' => wpAnyIn_of_any hnd fuel _ a' w' h') (wpOpIn_of_wpOp (hnd i) (h.2 i hi))⟩
def noDefer (ops : Array Oper) : Bool := ops.all fun o => match o.op with | .defer _ => false | _ => true
theorem noDefer_spec (h : noDefer ops = true)   : ∀ (i : Nat) (o : Oper) (c : Call), ops[i]? = some o → o.op ≠ .defer c := fun i o c ho e => by
  unfold noDefer at h
  rw [Array.all_eq_true] at h
  obtain ⟨hi, hio⟩ := Array.getElem?_eq_some_iff.1 ho
  have := h i hi
  rw [hio, e] at this
  cases this
theorem wpIn_region_T {id : Nat} {a : Act} {w : World} (S : World → Prop) (T : List Nat) (hm : P.follows .mixedOrders = true) (hnd : noDefer ops = true) (hS : S w.drew)
    (h : DL T S (Array.replicate ops.size false) w.drew → wpAnyT P .any ops (PlainQ Q) S T ops.size (Array.replicate ops.size false) a w.drew) : (Code.region id ops true).wpIn (Fence.wide.inRound l) n P Q a w :=
  wpIn_mono (wpIn_region_any hm (wpAnyIn_of_any (noDefer_spec hnd) _ _ _ _ (wpAny_of_T _ _ _ _ (h fun _ => hS)))) PlainQ.imp
end
end Go.Proofs.Ytlniohgnkihefaa
