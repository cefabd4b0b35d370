/- brazierref03.Of: a row of the numbers that may be in a set. -/
import Derived.Test.YtdnlgcomhgnegaaDoorRow03
namespace Go.Proofs.YtdnlgcomhgnegaaDoor
open Go.RowKit

def ofL (l : List Int) : List Int := l.foldl putL []
theorem ofL_snoc (l : List Int) (x : Int) : ofL (l ++ [x]) = putL (ofL l) x := by unfold ofL; rw [List.foldl_append]; rfl
theorem ofL_take (l : List Int) (k : Nat) (h : k < l.length) (x : Int) (hx : x = l[k]) : ofL (l.take (k + 1)) = putL (ofL (l.take k)) x := by
  rw [List.take_succ_eq_append_getElem h, ofL_snoc, hx]
theorem ofL_len_take (l : List Int) (k : Nat) : (ofL (l.take k)).length ≤ l.length := by
  have h : ∀ m : List Int, (ofL m).length ≤ m.length := fun m => by
    unfold ofL
    suffices h : ∀ acc : List Int, (m.foldl putL acc).length ≤ acc.length + m.length by simpa using h []
    induction m with
    | nil => intro acc; exact Nat.le_refl _
    | cons y m ih =>
      intro acc
      have h1 := ih (putL acc y)
      have h2 := putL_length_le acc y
      rw [List.foldl_cons, List.length_cons]
      omega
  have := h (l.take k)
  rw [List.length_take] at this
  omega
theorem ofL_rising_mem (l : List Int) : ∀ acc : List Int, acc.Pairwise (· < ·) → (l.foldl putL acc).Pairwise (· < ·) ∧ ∀ z, z ∈ l.foldl putL acc ↔ z ∈ acc ∨ (inR z = true ∧ z ∈ l) := by
  induction l with
  | nil => intro acc h; exact ⟨h, fun z => by simp⟩
  | cons y l ih =>
    intro acc h
    obtain ⟨h1, h2⟩ := ih (putL acc y) (putL_rising acc y h)
    refine ⟨h1, fun z => ?_⟩
    rw [List.foldl_cons, h2, mem_putL, List.mem_cons]
    unfold inR
    simp only [Bool.and_eq_true, decide_eq_true_eq]
    constructor
    · rintro ((h3 | ⟨h3, h4, rfl⟩) | ⟨h3, h4⟩)
      · exact .inl h3
      · exact .inr ⟨⟨h3, h4⟩, .inl rfl⟩
      · exact .inr ⟨h3, .inr h4⟩
    · rintro (h3 | ⟨h3, rfl | h4⟩)
      · exact .inl (.inl h3)
      · exact .inl (.inr ⟨h3.1, h3.2, rfl⟩)
      · exact .inr ⟨h3, h4⟩
/-- The same numbers, put into a set: its row. -/
theorem ofL_listW (l : List Int) (ws : List Nat) (h : ∀ m, memW ws m = ofSet l m) : ofL l = listW ws := by
  obtain ⟨h1, h2⟩ := ofL_rising_mem l [] List.Pairwise.nil
  refine rising_eq h1 (listW_rising ws) fun z => ?_
  rw [show (z ∈ ofL l) = (z ∈ l.foldl putL []) from rfl, h2, mem_listW]
  unfold ofSet at h
  constructor
  · rintro (h3 | ⟨h3, h4⟩)
    · cases h3
    · have h5 : 0 ≤ z := by unfold inR at h3; simp at h3; exact h3.1
      exact ⟨z.toNat, by omega, by rw [h, List.any_eq_true]; exact ⟨z, h4, by simp [h3]⟩⟩
  · rintro ⟨k, rfl, hk⟩
    rw [h, List.any_eq_true] at hk
    obtain ⟨y, hy, hk⟩ := hk
    simp only [Bool.and_eq_true, beq_iff_eq] at hk
    have h5 : 0 ≤ y := by have := hk.1; unfold inR at this; simp at this; exact this.1
    have h6 : y = (k : Int) := by omega
    subst h6
    exact .inr ⟨hk.1, hy⟩
/-- What stands between two rounds. -/
structure LoopO (w wr : World) (A : Option Addr) (m : List Int) : Prop where
  below : Below w.heap.size w wr
  row : ReadsAt wr A (ints m)
  new : ∀ g off, A = some ⟨g, off, none⟩ → w.heap.size ≤ g ∧ g < wr.heap.size
theorem LoopO.give {w wr w1 : World} {A A1 : Option Addr} {m m1 : List Int} (h : LoopO w wr A m) (hB : Below wr.heap.size wr w1) (hR : ReadsAt w1 A1 (ints m1))
    (hA : ∀ g off, A1 = some ⟨g, off, none⟩ → (wr.heap.size ≤ g ∧ g < w1.heap.size) ∨ A = some ⟨g, off, none⟩) : LoopO w w1 A1 m1 := by
  refine ⟨h.below.trans (hB.mono h.below.size), hR, fun g off e => ?_⟩
  have h1 := h.below.size
  have h2 := hB.size
  rcases hA g off e with h3 | h3
  · omega
  · have := h.new g off h3; omega

set_option maxHeartbeats 2000000 in
set_option maxRecDepth 100000 in
theorem of03_anyC (l : List Int) (A : Option Addr) (c : Nat) (w : World) (hl : l.length ≤ 100000) (hr : ReadsAt w A (ints l)) :
    Calls Tryd.prog 19 #[.slice A l.length c] w (GiveC True w none (ofL l)) := by
  have HR := Lib.hid hr
  clear hr
  go_enter Tryd.func19, Tryd.ntmps19
  go_wp2_with fail
  go_loopw [3, 8] (fun v i wr => ∃ (k : Nat) (Ax : Option Addr) (cx : Nat), k ≤ l.length ∧ i = .int .i64 (k : Nat) ∧ v = .slice Ax (ofL (l.take k)).length cx ∧ LoopO w wr Ax (ofL (l.take k)) ∧ (ofL (l.take k)).length ≤ cx) (fun _ i _ => l.length - (intOf i).toNat)
  case atStart => exact ⟨0, none, 0, by omega, rfl, rfl, ⟨Below.refl _ _, (fun h => by cases h), fun _ _ e => by cases e⟩, Nat.le_refl 0⟩
  case round =>
    obtain ⟨k, Ax, cx, hk, rfl, rfl, hL, hcx⟩ := hrel
    have hlen := ofL_len_take l k
    obtain ⟨lx, hlx⟩ : ∃ lx, lx = (ofL (l.take k)).length := ⟨_, rfl⟩
    rw [← hlx] at hlen hcx ⊢
    have HLX := Lib.hid hlx
    have HCX := Lib.hid hcx
    clear hcx
    have HL := Lib.hid hL
    clear hL hlx
    by_cases hlt : k < l.length
    · obtain ⟨x, hxe⟩ : ∃ x, x = l[k] := ⟨_, rfl⟩
      obtain ⟨g, off, rfl, hg, hx⟩ := reads_len0 HR.out k hlt x hxe
      have hx2 := (HL.out.below.cell (p := ⟨g, off + k, none⟩) hg).trans hx
      have HT := Lib.hid (ofL_take l k hlt x hxe)
      clear hxe hx
      go_wp2_with fail
      have hP := put03_anyC (ofL (l.take k)) Ax cx x wr (by have := HLX.out; omega) HL.out.row
      rw [← HLX.out, ← HT.out] at hP
      refine hP.mono ?_
      clear hP
      rintro e wp ⟨Ay, cy, rfl, hB, hRy, hA, hcy⟩
      have HCY := Lib.hid (hcy HCX.out)
      clear hcy
      have HL2 := Lib.hid (HL.out.give hB hRy hA)
      clear hB hRy hA
      go_wp2_with fail
      go_roundw
      case rel => exact ⟨k + 1, Ay, cy, by omega, by go_num, rfl, HL2.out, HCY.out⟩
      case measure => simp [intOf]; omega
    · obtain rfl : k = l.length := by omega
      go_wp2_with fail
      go_ret
      rw [HLX.out]
      have HCX2 := HCX.out
      rw [HLX.out] at HCX2
      rw [List.take_length] at HLX HL HCX2 ⊢
      exact ⟨Ax, cx, rfl, HL.out.below, HL.out.row, fun g off e => .inl (HL.out.new g off e), fun _ => HCX2⟩
theorem of03_any (l : List Int) (A : Option Addr) (c : Nat) (w : World) (hl : l.length ≤ 100000) (hr : ReadsAt w A (ints l)) :
    Calls Tryd.prog 19 #[.slice A l.length c] w (GiveL w none (ofL l)) := (of03_anyC l A c w hl hr).mono fun _ _ h => h.give
end Go.Proofs.YtdnlgcomhgnegaaDoor
