/- What is picked: the plain function; what is known, in a map. -/
import Derived.Test.YtnfneinonkpmeaaPickA0
import Derived.Test.YtnfneinonkpmeaaShortP
namespace Go.Proofs.Ytnfneinonkpmeaa
open Go.RowKit Go.Maps

/-- A register's known number, as the map has it. -/
def kl (K : Int → Option Int) : Lit → Option Lit
  | .int .i64 r => (K r).map (Lit.int .i32)
  | _ => none
def updK (K : Int → Option Int) (r : Int) (n : Option Int) : Int → Option Int := fun x => if x = r then n else K x
theorem kl_upd (K : Int → Option Int) (r : Int) (n : Option Int) (k : Lit) : upd (kl K) (.int .i64 r) (n.map (Lit.int .i32)) k = kl (updK K r n) k := by
  by_cases e : k = .int .i64 r
  · subst e; rw [upd_same]; simp [kl, updK]
  · rw [upd_other _ _ e]
    unfold kl
    split
    · rename_i x
      have : x ≠ r := fun h => e (by rw [h])
      simp [updK, this]
    · rfl
theorem kl_none (k : Lit) : (none : Option Lit) = kl (fun _ => none) k := by unfold kl; split <;> rfl
def KOk (K : Int → Option Int) : Prop := ∀ r n, K r = some n → I32 n ∧ 0 ≤ r
theorem lawI : Keyed Try.prog 3 := int_keyed Try.underlying3
theorem zero32 (w : World) : (zeroValue 21).run Try.prog w = .ok (.int .i32 0) w := by kernel_rfl
theorem lookK {w : World} {mb n : Nat} {K : Int → Option Int} (h : MapAt Try.prog 3 21 w mb n (kl K)) (r : Int) (hr : I64 r) :
    (Instr.lookup 63 (.map (some mb)) (.int .i64 r) true).run Try.prog w = .ok (.tuple #[.int .i32 ((K r).getD 0), .bool (K r).isSome]) w := by
  have hz : plainElem (H := Unit) Try.prog 21 (.int .i32 0) = some (.lit (.int .i32 0), []) := plainElem_int Try.underlying21 rfl
  rw [MapAt.look_ok h lawI Try.underlying63 (zero32 w) hz (keyOf_int_mk Try.underlying3 (WalkArith.wf_i64 hr))]
  simp only [kl]
  cases K r <;> rfl

def firstOf (o : Option Vins) (l : List Vins) : List Vins := match o with | some y => [y] | none => l
def binRest (op d a b : Int) : List Vins :=
  if op = 13 then [threeS 14 d b a] else if op = 12 then [threeS 14 d b a, withS 5 d d 1] else if op = 14 then [threeS 14 d a b, withS 5 d d 1]
  else if op = 15 then [threeS 12 d a b, withS 4 d d 1] else if op = 16 then [threeS 12 d a b, threeS 15 d (-1) d] else [threeS (plainS op) d a b]
def binS (K : Int → Option Int) (op d a b : Int) : List Vins :=
  firstOf ((K b).bind fun n => shortS op d a n) (firstOf ((if turnsS op then K a else none).bind fun n => shortS op d b n) (binRest op d a b))
def insS (K : Int → Option Int) (x : Ins) : List Vins :=
  if x.kind = 1 then [⟨40, x.d, x.a, x.b, x.num, x.name, []⟩]
  else if x.kind = 2 then [⟨41, x.d, x.a, x.b, 0, x.name, []⟩]
  else if x.kind = 3 then [if x.op = 19 then threeS 12 x.d (-1) x.a else if x.op = 20 then withS 4 x.d x.a 1 else withS 5 x.d x.a (-1)]
  else if x.kind = 4 then binS K x.op x.d x.a x.b
  else if x.kind = 5 then [⟨if x.a = -1 then 42 else 44, x.d, x.a, x.b, 0, x.name, []⟩]
  else if x.kind = 6 then [⟨if x.a = -1 then 43 else 45, x.d, x.a, x.b, 0, x.name, []⟩]
  else if x.kind = 7 then [⟨46, x.d, x.a, x.b, 0, x.name, x.args⟩]
  else if x.kind = 8 then [⟨47, x.d, x.a, x.b, 0, x.name, []⟩]
  else [⟨48, x.d, x.a, x.b, 0, x.name, []⟩]
/-- What is known behind it. -/
def nextK (K : Int → Option Int) (x : Ins) : Int → Option Int := if x.kind = 1 then updK K x.d (some x.num) else updK K x.d none
end Go.Proofs.Ytnfneinonkpmeaa
