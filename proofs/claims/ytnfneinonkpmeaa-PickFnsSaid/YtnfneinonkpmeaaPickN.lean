/- The picker: any instruction that may be. -/
import Derived.Test.YtnfneinonkpmeaaPickC
namespace Go.Proofs.Ytnfneinonkpmeaa
open Go.RowKit Go.Maps
variable {w w1 : World} {pb mb : Nat} {v : Value} {r : Option Nat} {f : Fn} {l : List Vins} {n : Nat} {K : Int → Option Int} {T : Nat → Prop}
theorem reg_nn {r n : Int} (h : regB r n false = true) : 0 ≤ r := by unfold regB at h; simp at h; exact h.1
theorem updK_neg (hK : KOk K) : updK K (-1) none = K := by
  funext x; unfold updK
  split
  · rename_i e; subst e
    cases h : K (-1) with
    | none => rfl
    | some n => have := (hK _ _ h).2; omega
  · rfl
theorem ins_any (h : PickAt w pb mb v r f l n (kl K)) (hK : KOk K) (hb : l.length + 2 ≤ 1000000000) (hn : n < 1000000000) (x : Ins) (N : Int) (hx : InsV N x) (ho : InsOk x) (A : Option Addr) (c : Nat) (hrd : RdT w T A (ints x.args)) :
    Calls Try.prog 22 #[.pointer (some ⟨pb, 0, none⟩), .agg #[.int .i64 x.kind, .int .i64 x.op, .int .i64 x.d, .int .i64 x.a, .int .i64 x.b, .int .i32 x.num, .string x.name, .slice A x.args.length c]] w
      fun e w' => e = .returned (.tuple #[]) ∧ ∃ n', n' ≤ n + 1 ∧ Picked w pb mb r f (l ++ insS K x) n' (kl (nextK K x)) w' := by
  have up : ∀ {ls : List Vins} {n' : Nat} {kn : Lit → Option Lit} {e : Ending} {w' : World}, n' ≤ n + 1 → (e = .returned (.tuple #[]) ∧ Picked w pb mb r f ls n' kn w') → e = .returned (.tuple #[]) ∧ ∃ n', n' ≤ n + 1 ∧ Picked w pb mb r f ls n' kn w' := fun hn h => ⟨h.1, _, hn, h.2⟩
  cases hx with
  | num d z hd => exact (ins_1 h hb hn d z _ (reg_nn hd) ho.d ho.num).mono fun e w' hh => up (Nat.le_refl _) hh
  | copy d a hd ha => exact (ins_2 h hb d a _ (reg_nn hd) ho.d).mono fun e w' hh => up (Nat.le_succ _) hh
  | un op d a hop hd ha => exact (ins_3 h hb op d a _ (reg_nn hd) ho.d hop).mono fun e w' hh => up (Nat.le_succ _) hh
  | bin op d a b hop hd ha hbb => exact (ins_4 h hb op d a b _ (reg_nn hd) ho.d hK hop ho.a ho.b).mono fun e w' hh => up (Nat.le_succ _) hh
  | load d a name hd ha hnm => exact (ins_5 h hb d a name _ (reg_nn hd) ho.d).mono fun e w' hh => up (Nat.le_succ _) hh
  | store a b name ha hbb hnm =>
    have e1 : nextK K ⟨6, 0, -1, a, b, 0, name, []⟩ = K := updK_neg hK
    rw [e1]
    exact (ins_6 h hb a b name _).mono fun e w' hh => up (Nat.le_succ _) hh
  | call d name args hd hnm hl ha =>
    by_cases h0 : 0 ≤ d
    · exact (ins_7 h hb d name args A c hl hrd h0 ho.d).mono fun e w' hh => up (Nat.le_succ _) hh
    · have hm : d = -1 := by unfold regB at hd; simp at hd; omega
      subst hm
      have e1 : nextK K ⟨7, 0, -1, -1, -1, 0, name, args⟩ = K := updK_neg hK
      rw [e1]
      exact (ins_7n h hb name args A c hl hrd).mono fun e w' hh => up (Nat.le_succ _) hh
  | read d hd => exact (ins_8 h hb d _ (reg_nn hd) ho.d).mono fun e w' hh => up (Nat.le_succ _) hh
  | print a ha =>
    have e1 : nextK K ⟨9, 0, -1, a, -1, 0, ⟨#[]⟩, []⟩ = K := updK_neg hK
    rw [e1]
    exact (ins_9 h hb a _).mono fun e w' hh => up (Nat.le_succ _) hh
end Go.Proofs.Ytnfneinonkpmeaa
