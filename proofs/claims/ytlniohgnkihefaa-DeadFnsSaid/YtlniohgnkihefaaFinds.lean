/- Which functions and programs of blocks may be. -/
import Derived.Test.YtlniohgnkihefaaMay0
namespace Go.Proofs.Ytlniohgnkihefaa
open Go.RowKit
variable {T : Nat → Prop}

def fnAt (fs : List Fn) (name : ByteArray) : Int := match fs.findIdx? (fun f => f.name.toList == name.toList) with | some i => (i : Int) | none => -1
def globAt (gs : List Glob) (name : ByteArray) : Int := match gs.findIdx? (fun g => g.name.toList == name.toList) with | some i => (i : Int) | none => -1
theorem find_at {α : Type} (p : α → Bool) (l : List α) (k : Nat) (h : k < l.length) (hp : p l[k] = true) (hn : ∀ j (hj : j < k), p (l[j]'(by omega)) = false) : l.findIdx? p = some k := by
  rw [List.findIdx?_eq_some_iff_getElem]
  exact ⟨h, hp, fun j hj => by rw [hn j hj]; exact Bool.false_ne_true⟩
theorem find_none {α : Type} (p : α → Bool) (l : List α) (hn : ∀ j (hj : j < l.length), p l[j] = false) : l.findIdx? p = none := by
  rw [List.findIdx?_eq_none_iff]
  intro x hx
  obtain ⟨j, hj, rfl⟩ := List.getElem_of_mem hx
  exact hn j hj
theorem add00 (g off : Nat) : (⟨g, off + 0, none⟩ : Addr) = ⟨g, off, none⟩ := rfl

theorem FnAt_any (m : Mid) (A B : Option Addr) (c d : Nat) (name : ByteArray) (w : World) (h : RdMid w T m A c B d) :
    Calls Try.prog 28 #[.agg #[.slice A m.globals.length c, .slice B m.fns.length d], .string name] w fun e w' => e = .returned (.int .i64 (fnAt m.fns name)) ∧ Below w.heap.size w w' := by
  have hl : m.fns.length ≤ 9223372036854775807 := by have := h.nfns; unfold maxLen at this; omega
  have HF := Lib.hid h.fns
  clear h
  go_enter Try.func28, Try.ntmps28
  go_wp2_with fail
  go_loopw [10] (fun i wr => ∃ k : Nat, k ≤ m.fns.length ∧ i = .int .i64 (k : Nat) ∧ Below w.heap.size w wr ∧ ∀ j (hj : j < k) (hl : j < m.fns.length), (m.fns[j].name.toList == name.toList) = false) (fun i _ => m.fns.length - (intOf i).toNat)
  case atStart => exact ⟨0, by omega, rfl, (Below.refl _ _).alloc (Nat.le_refl _) _, fun j hj => by omega⟩
  case round =>
    obtain ⟨k, hk, rfl, hB, hn⟩ := hrel
    have HB := Lib.hid hB
    have HK := Lib.hid hn
    clear hB hn
    by_cases hlt : k < m.fns.length
    · obtain ⟨g, off, rfl, ht, hg, hcl⟩ := HF.out (by omega)
      obtain ⟨cs, hcs, hrd, hat⟩ := hcl k _ (List.getElem?_eq_getElem hlt)
      obtain ⟨hok, A1, c1, rfl, hsub⟩ := hrd
      have h0 := (HB.out.cell (p := ⟨g, off + k * 4 + 0, none⟩) hg).trans (hat 0 _ rfl)
      have h1 := (HB.out.cell (p := ⟨g, off + k * 4 + 1, none⟩) hg).trans (hat 1 _ rfl)
      have h2 := (HB.out.cell (p := ⟨g, off + k * 4 + 2, none⟩) hg).trans (hat 2 _ rfl)
      have h3 := (HB.out.cell (p := ⟨g, off + k * 4 + 3, none⟩) hg).trans (hat 3 _ rfl)
      rw [add00] at h0
      obtain ⟨f, hf⟩ : ∃ f, f = m.fns[k] := ⟨_, rfl⟩
      rw [← hf] at h0 h1 h2 h3
      clear hcl hat hok hsub ht hcs
      cases hb : (f.name.toList == name.toList) with
      | true =>
        have HFE := Lib.hid hf
        clear hf
        go_wp2_with fail
        go_ret
        refine ⟨ret_int ?_, ?_⟩
        · unfold fnAt
          rw [find_at _ _ k hlt (by rw [← HFE.out]; exact hb) (fun j hj => HK.out j hj (by omega))]
        · exact HB.out.alloc HB.out.size _
      | false =>
        have HFE := Lib.hid hf
        clear hf
        go_wp2_with fail
        go_roundw
        case rel =>
          refine ⟨k + 1, by omega, by go_num, HB.out.alloc HB.out.size _, fun j hj hl => ?_⟩
          rcases Nat.lt_succ_iff_lt_or_eq.1 hj with h | rfl
          · exact HK.out j h hl
          · rw [← HFE.out]; exact hb
        case measure => simp [intOf]; omega
    · obtain rfl : k = m.fns.length := by omega
      go_wp2_with fail
      go_ret
      refine ⟨ret_int ?_, HB.out⟩
      unfold fnAt
      rw [find_none _ _ (fun j hj => HK.out j hj hj)]
theorem GlobalAt_any (m : Mid) (A B : Option Addr) (c d : Nat) (name : ByteArray) (w : World) (h : RdMid w T m A c B d) :
    Calls Try.prog 27 #[.agg #[.slice A m.globals.length c, .slice B m.fns.length d], .string name] w fun e w' => e = .returned (.int .i64 (globAt m.globals name)) ∧ Below w.heap.size w w' := by
  have hl : m.globals.length ≤ 9223372036854775807 := by have := h.nglobals; unfold maxLen at this; omega
  have HF := Lib.hid h.globals
  clear h
  go_enter Try.func27, Try.ntmps27
  go_wp2_with fail
  go_loopw [10] (fun i wr => ∃ k : Nat, k ≤ m.globals.length ∧ i = .int .i64 (k : Nat) ∧ Below w.heap.size w wr ∧ ∀ j (hj : j < k) (hl : j < m.globals.length), (m.globals[j].name.toList == name.toList) = false) (fun i _ => m.globals.length - (intOf i).toNat)
  case atStart => exact ⟨0, by omega, rfl, (Below.refl _ _).alloc (Nat.le_refl _) _, fun j hj => by omega⟩
  case round =>
    obtain ⟨k, hk, rfl, hB, hn⟩ := hrel
    have HB := Lib.hid hB
    have HK := Lib.hid hn
    clear hB hn
    by_cases hlt : k < m.globals.length
    · obtain ⟨g, off, rfl, ht, hg, hcl⟩ := HF.out (by omega)
      obtain ⟨cs, hcs, hrd, hat⟩ := hcl k _ (List.getElem?_eq_getElem hlt)
      obtain ⟨hok, rfl⟩ := hrd
      have h0 := (HB.out.cell (p := ⟨g, off + k * 2 + 0, none⟩) hg).trans (hat 0 _ rfl)
      have h1 := (HB.out.cell (p := ⟨g, off + k * 2 + 1, none⟩) hg).trans (hat 1 _ rfl)
      rw [add00] at h0
      obtain ⟨f, hf⟩ : ∃ f, f = m.globals[k] := ⟨_, rfl⟩
      rw [← hf] at h0 h1
      clear hcl hat hok ht hcs
      cases hb : (f.name.toList == name.toList) with
      | true =>
        have HFE := Lib.hid hf
        clear hf
        go_wp2_with fail
        go_ret
        refine ⟨ret_int ?_, ?_⟩
        · unfold globAt
          rw [find_at _ _ k hlt (by rw [← HFE.out]; exact hb) (fun j hj => HK.out j hj (by omega))]
        · exact HB.out.alloc HB.out.size _
      | false =>
        have HFE := Lib.hid hf
        clear hf
        go_wp2_with fail
        go_roundw
        case rel =>
          refine ⟨k + 1, by omega, by go_num, HB.out.alloc HB.out.size _, fun j hj hl => ?_⟩
          rcases Nat.lt_succ_iff_lt_or_eq.1 hj with h | rfl
          · exact HK.out j h hl
          · rw [← HFE.out]; exact hb
        case measure => simp [intOf]; omega
    · obtain rfl : k = m.globals.length := by omega
      go_wp2_with fail
      go_ret
      refine ⟨ret_int ?_, HB.out⟩
      unfold globAt
      rw [find_none _ _ (fun j hj => HK.out j hj hj)]

end Go.Proofs.Ytlniohgnkihefaa
