/- Of and Len of a set in memory. -/
import Derived.Test.YtlniohgnkihefaaBitsB
import Derived.Test.YtlniohgnkihefaaInts
namespace Go.Proofs.Ytlniohgnkihefaa
open Go.RowKit

def inR (k : Int) : Bool := decide (0 ≤ k) && decide (k < 65536)
theorem put_mem (ws : List Nat) (k : Int) (n : Nat) : (memW ws n || (putOk ws k && n == k.toNat)) = (memW ws n || (inR k && n == k.toNat)) := by
  unfold putOk inR
  by_cases h : n = k.toNat
  · subst h; cases memW ws k.toNat <;> simp
  · have : (n == k.toNat) = false := by simpa using h
    simp [this]


/-- The set of some numbers. -/
def ofSet (zs : List Int) (m : Nat) : Bool := zs.any fun z => inR z && m == z.toNat
theorem ofSet_snoc (zs : List Int) (z : Int) (m : Nat) : ofSet (zs ++ [z]) m = (ofSet zs m || (inR z && m == z.toNat)) := by simp [ofSet]
theorem take_snoc' {α : Type} (zs : List α) (k : Nat) (h : k < zs.length) (d : α) : zs.take (k + 1) = zs.take k ++ [zs.getD k d] := by
  rw [List.take_succ_eq_append_getElem h]; simp [List.getD_eq_getElem?_getD, h]

theorem getD_of_all {P : Int → Prop} {zs : List Int} (h : ∀ z ∈ zs, P z) (k : Nat) (hk : k < zs.length) : P (zs.getD k 0) := by
  have : zs.getD k 0 = zs[k] := by simp [hk]
  rw [this]; exact h _ (List.getElem_mem hk)

/-- A set that the call made. -/
structure NewBits (w w' : World) (b : Nat) (r : Option Nat) (ws : List Nat) : Prop where
  at_ : BitsAt w' b r ws
  below : Below w.heap.size w w'
  nb : w.heap.size ≤ b
  nr : ∀ k, r = some k → w.heap.size ≤ k

theorem NewBits.grow {w w1 w2 : World} {b : Nat} {r r' : Option Nat} {ws ws' : List Nat} (h : NewBits w w1 b r ws) (g : GrowAt w1 b r ws w2 r' ws') : NewBits w w2 b r' ws' :=
  ⟨g.at_, h.below.trans (g.chg.below (h.below.size) (fun i hi => by
    rcases hi with hi | hi
    · rw [hi]; exact h.nb
    · exact h.nr i hi.symm)), h.nb, g.new.ge h.below.size h.nr⟩

set_option maxHeartbeats 1000000 in
set_option maxRecDepth 100000 in
theorem of_any (A : Option Addr) (c : Nat) (zs : List Int) (w : World) (hl : zs.length ≤ 9223372036854775807) (hz : ∀ z ∈ zs, I64 z) (hr : ReadsAt w A (ints zs)) :
    Calls Try.prog 66 #[.slice A zs.length c] w fun e w' => ∃ b r ws, e = .returned (.pointer (some ⟨b, 0, none⟩)) ∧ NewBits w w' b r ws ∧ ∀ m, memW ws m = ofSet zs m := by
  have HR := Lib.hid hr
  have HZ := Lib.hid hz
  clear hr hz
  go_enter Try.func66, Try.ntmps66
  go_wp2
  go_loopw [10] (fun i wr => ∃ k r1 ws1, k ≤ zs.length ∧ i = .int .i64 (k : Nat) ∧ NewBits w wr w.heap.size r1 ws1 ∧ ∀ m, memW ws1 m = ofSet (zs.take k) m) (fun i _ => zs.length - (intOf i).toNat)
  case atStart =>
    refine ⟨0, none, [], Nat.zero_le _, rfl, ⟨⟨⟨.slice none 0 0, heap_alloc_new w _, RowAt.nil _ _ _⟩, by simp, by simp⟩, (Below.refl _ _).alloc (Nat.le_refl _) _, Nat.le_refl _, by simp⟩, fun m => ?_⟩
    simp [memW, ofSet]
  case round =>
    obtain ⟨k, r1, ws1, hk, rfl, hN, hm⟩ := hrel
    by_cases hlt : k < zs.length
    · obtain ⟨g, off, rfl, hg, hc⟩ := HR.out (by rw [ints_length]; omega)
      have hx := (hN.below.cell (p := ⟨g, off + k, none⟩) hg).trans (hc k _ (ints_at zs k hlt))
      obtain ⟨z, hze⟩ : ∃ z, z = zs.getD k 0 := ⟨_, rfl⟩
      rw [← hze] at hx
      have hzb : I64 z := by rw [hze]; exact getD_of_all HZ.out k hlt
      have HX := Lib.hid hze
      have HN := Lib.hid hN
      have HM := Lib.hid hm
      have HB := Lib.hid hzb
      clear hc hze hN hm hzb
      go_wp2_with (go_at_call 57; refine (put_any HN.out.at_ z HB.out).mono ?_; rintro e w' ⟨rfl, r', ws', hG, hm'⟩)
      go_roundw
      case rel =>
        refine ⟨k + 1, r', ws', by omega, by go_num, HN.out.grow hG, fun m => ?_⟩
        rw [hm', put_mem, HM.out, take_snoc' zs k hlt 0, ofSet_snoc, HX.out]
      case measure => simp [intOf]; omega
    · obtain rfl : k = zs.length := by omega
      go_wp2
      go_ret
      exact ⟨_, r1, ws1, rfl, hN, fun m => by rw [hm, List.take_length]⟩
end Go.Proofs.Ytlniohgnkihefaa
