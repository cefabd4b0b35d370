/- brazierref15.known: a register's number, out of a list. -/
import Derived.Test.YtnfneinonkpmeaaLv14
namespace Go.Proofs.Ytnfneinonkpmeaa
open Go.RowKit
variable {T : Nat → Prop}
def numCells (ps : List (Int × Int)) : List Value := ps.flatMap fun p => [.int .i64 p.1, .int .i32 p.2]
theorem numCells_len (ps : List (Int × Int)) : (numCells ps).length = ps.length * 2 := by
  induction ps with
  | nil => rfl
  | cons p ps ih => simp only [numCells, List.flatMap_cons, List.length_append, List.length_cons, List.length_nil] at ih ⊢; omega
theorem numCells_at (ps : List (Int × Int)) (i : Nat) (h : i < ps.length) : (numCells ps)[i * 2]? = some (.int .i64 ps[i].1) ∧ (numCells ps)[i * 2 + 1]? = some (.int .i32 ps[i].2) := by
  induction ps generalizing i with
  | nil => simp at h
  | cons p ps ih =>
    cases i with
    | zero => simp [numCells]
    | succ i =>
      have := ih i (by simpa using h)
      simp only [numCells, List.flatMap_cons] at this ⊢
      rw [show (i + 1) * 2 = i * 2 + 2 from by omega, show i * 2 + 2 + 1 = (i * 2 + 1) + 2 from by omega]
      simpa using this
/-- The last number that the list gives to a register. -/
def knownL (ps : List (Int × Int)) (r : Int) : Option Int := (ps.reverse.find? fun p => decide (p.1 = r)).map (·.2)
theorem knownL_none {ps : List (Int × Int)} {r : Int} (h : ∀ j (hj : j < ps.length), ps[j].1 ≠ r) : knownL ps r = none := by
  unfold knownL
  rw [Option.map_eq_none_iff, List.find?_eq_none]
  intro p hp
  obtain ⟨j, hj, rfl⟩ := List.getElem_of_mem (List.mem_reverse.1 hp)
  simpa using h j hj
theorem knownL_at {ps : List (Int × Int)} {r : Int} (k : Nat) (hk : k < ps.length) (he : ps[k].1 = r) (h : ∀ j (hj : j < ps.length), k < j → ps[j].1 ≠ r) : knownL ps r = some ps[k].2 := by
  unfold knownL
  have : (ps.reverse.find? fun p => decide (p.1 = r)) = some ps[k] := by
    rw [List.find?_eq_some_iff_getElem]
    refine ⟨by simpa using he, ps.length - 1 - k, by simp; omega, by rw [List.getElem_reverse]; congr 1; omega, fun j hj => ?_⟩
    rw [List.getElem_reverse]
    simpa using h _ (by omega) (by omega)
  rw [this]; rfl

theorem known_any (ps : List (Int × Int)) (A : Option Addr) (c : Nat) (r : Int) (w : World) (hl : ps.length ≤ 1000000) (h : RdT w T A (numCells ps)) :
    Calls Try.prog 53 #[.slice A ps.length c, .int .i64 r] w fun e w' => e = .returned (.tuple #[.int .i32 ((knownL ps r).getD 0), .bool (knownL ps r).isSome]) ∧ w = w' := by
  have HR := Lib.hid h
  clear h
  go_enter Try.func53, Try.ntmps53
  go_wp2_with fail
  go_loop [6] (fun i => ∃ k : Nat, k ≤ ps.length ∧ i = .int .i64 ((k : Int) - 1) ∧ ∀ j (hj : j < ps.length), k ≤ j → ps[j].1 ≠ r) (fun i => (intOf i + 1).toNat)
  case atStart => exact ⟨ps.length, Nat.le_refl _, rfl, fun j hj h => by omega⟩
  case round =>
    obtain ⟨k, hk, rfl, hn⟩ := hrel
    have HN := Lib.hid hn
    clear hn
    cases k with
    | zero =>
      go_wp2_with fail
      go_returns
      have hno := knownL_none (ps := ps) (r := r) fun j hj => HN.out j hj (Nat.zero_le _)
      rw [hno]
      exact ⟨rfl, rfl⟩
    | succ k =>
      have hks : ((k + 1 : Nat) : Int) - 1 = (k : Nat) := by omega
      rw [hks]
      obtain ⟨g, off, rfl, _, hg, hx⟩ := HR.out (by rw [numCells_len]; omega)
      have ⟨h0, h1⟩ := numCells_at ps k (by omega)
      have x0 := hx _ _ h0
      have x1 := hx _ _ h1
      obtain ⟨p, hp⟩ : ∃ p, p = ps[k]'(by omega) := ⟨_, rfl⟩
      rw [← hp] at x0 x1
      have HP := Lib.hid hp
      rw [← Nat.add_assoc] at x1
      clear hx h0 h1 hp hks
      by_cases q : p.1 = r
      · have qf : (p.1 == r) = true := by rw [q]; simp
        have HQ := Lib.hid q
        clear q
        go_wp2_with fail
        go_returns
        have hs := knownL_at (ps := ps) (r := r) k (by omega) (by rw [← HP.out]; exact HQ.out) (fun j hj h => HN.out j hj h)
        rw [hs, ← HP.out]
        exact ⟨rfl, rfl⟩
      · have qf : (p.1 == r) = false := beq_eq_false_iff_ne.2 q
        have HQ := Lib.hid q
        clear q
        go_wp2_with fail
        go_round
        case rel => exact ⟨k, by omega, rfl, fun j hj h => by
          rcases Nat.lt_or_eq_of_le h with h | rfl
          · exact HN.out j hj h
          · rw [← HP.out]; exact HQ.out⟩
        case measure => simp [intOf]
end Go.Proofs.Ytnfneinonkpmeaa
