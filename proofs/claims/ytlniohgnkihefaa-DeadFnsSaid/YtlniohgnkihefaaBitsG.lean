/- Clone of a set in memory. -/
import Derived.Test.YtlniohgnkihefaaClone64
namespace Go.Proofs.Ytlniohgnkihefaa
open Go.RowKit

set_option maxHeartbeats 1000000 in
set_option maxRecDepth 100000 in
theorem clone_any {w : World} {b : Nat} {r : Option Nat} {ws : List Nat} (h : BitsAt w b r ws) :
    Calls Try.prog 56 #[.pointer (some ⟨b, 0, none⟩)] w fun e w' => ∃ b' r', e = .returned (.pointer (some ⟨b', 0, none⟩)) ∧ NewBits w w' b' r' ws := by
  obtain ⟨v, hb1, hb2⟩ := h.ex
  obtain ⟨A, ca, rfl, _⟩ := hb2.shape
  have hb3 := cell_of_one hb1
  have H := Lib.hid h
  have HB2 := Lib.hid hb2
  clear h hb1 hb2
  go_enter Try.func56, Try.ntmps56
  go_wp2_with fail
  refine (words_cell _ _ _ hb3).mono ?_
  rintro e w' ⟨rfl, rfl⟩
  go_wp2_with fail
  refine (clone64_both _ _ ws w H.out.len HB2.out).mono ?_
  rintro e w1 ⟨⟨hB, _⟩, v, r', rfl, hR, hn⟩
  obtain ⟨A', c', rfl, _⟩ := hR.shape
  have HB := Lib.hid hB
  have HR := Lib.hid hR
  have HN := Lib.hid hn
  clear hB hR hn
  go_wp2_with fail
  go_ret
  exact ⟨w1.heap.size, r', rfl, ⟨⟨_, heap_alloc_new w1 _, HR.out.alloc _⟩, H.out.lt, H.out.len⟩, HB.out.alloc HB.out.size _, HB.out.size, HN.out⟩

end Go.Proofs.Ytlniohgnkihefaa
