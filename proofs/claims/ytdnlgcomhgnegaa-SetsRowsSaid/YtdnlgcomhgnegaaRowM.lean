/- A row in memory: find, Len, Get, Put, Drop. -/
import Derived.Test.YtdnlgcomhgnegaaRowL
import Derived.Test.YtdnlgcomhgnegaaRowIns
import Derived.BigQuiet
import Derived.Deep.QuietTactic
import Derived.Deep.RegionHeld3
namespace Go.Proofs.Ytdnlgcomhgnegaa
open Go.RowKit

abbrev strs (l : List ByteArray) : List Value := l.map Value.string
/-- A row in memory: block b holds the slices of its keys and of their values. -/
structure RAt (w : World) (b : Nat) (rk rv : Option Nat) (L : List Pr) : Prop where
  ex : ∃ kv vv, w.heap[b]? = some (.cells #[kv, vv] 35 (0, 0)) ∧ RowAt w 3 1 kv rk L.length (ints (keysP L)) ∧ RowAt w 9 1 vv rv L.length (strs (valsP L))
  rise : Rise L
  small : L.length ≤ 1000
def FootR (b : Nat) (rk rv : Option Nat) (k : Nat) : Prop := k = b ∨ some k = rk ∨ some k = rv
theorem RAt.kept {w w' : World} {b : Nat} {rk rv : Option Nat} {L : List Pr} {S : Nat → Prop} (h : RAt w b rk rv L) (hc : Chg S w w') (hS : ∀ k, FootR b rk rv k → ¬ S k) : RAt w' b rk rv L := by
  obtain ⟨kv, vv, h1, h2, h3⟩ := h.ex
  exact ⟨⟨kv, vv, hc.heap h1 (hS b (.inl rfl)), h2.kept hc fun k hk => hS k (.inr (.inl hk.symm)), h3.kept hc fun k hk => hS k (.inr (.inr hk.symm))⟩, h.rise, h.small⟩
theorem RAt.below {w w' : World} {b : Nat} {rk rv : Option Nat} {L : List Pr} (h : RAt w b rk rv L) (hB : Below w.heap.size w w') : RAt w' b rk rv L := h.kept (Chg.of_below hB (fun _ => False)) fun _ _ h => h
theorem RAt.lt {w : World} {b : Nat} {rk rv : Option Nat} {L : List Pr} (h : RAt w b rk rv L) : ∀ k, FootR b rk rv k → k < w.heap.size := by
  obtain ⟨kv, vv, h1, h2, h3⟩ := h.ex
  rintro k (rfl | hk | hk)
  · exact lt_of_heap h1
  · exact h2.lt k hk.symm
  · exact h3.lt k hk.symm
/-- Behind a turn: the row, and what may have turned. -/
structure RStep (w : World) (b : Nat) (rk rv : Option Nat) (w' : World) (rk' rv' : Option Nat) (L' : List Pr) : Prop where
  at_ : RAt w' b rk' rv' L'
  chg : Chg (FootR b rk rv) w w'
  nk : NewOr w rk rk'
  nv : NewOr w rv rv'
theorem row_blk_ne {w : World} {e e' n n' : Nat} {v v' : Value} {r r' : Option Nat} {xs xs' : List Value} (h : RowAt w e 1 v r n xs) (h' : RowAt w e' 1 v' r' n' xs') (hne : e ≠ e') : ∀ k, r = some k → r' ≠ some k := by
  intro k hk hk'
  rcases h.2 with ⟨_, h0, _⟩ | ⟨g, off, cap, cur, _, h0, hg, _⟩
  · rw [h0] at hk; cases hk
  · rcases h'.2 with ⟨_, h1, _⟩ | ⟨g', off', cap', cur', _, h1, hg', _⟩
    · rw [h1] at hk'; cases hk'
    · rw [h0] at hk; cases hk
      rw [h1] at hk'; cases hk'
      rw [hg] at hg'
      injection hg' with hg'
      injection hg' with _ ht _
      exact hne ht
theorem row_box_ne {w : World} {e t n b : Nat} {v : Value} {r : Option Nat} {xs : List Value} {c : Array Value} {f : Nat × Nat} (h : RowAt w e 1 v r n xs) (hb : w.heap[b]? = some (.cells c t f)) (hne : t ≠ e) : r ≠ some b := by
  intro hr
  rcases h.2 with ⟨_, h0, _⟩ | ⟨g, off, cap, cur, hv, h0, hg, _⟩
  · rw [h0] at hr; cases hr
  · rw [h0] at hr; cases hr
    rw [hg] at hb
    injection hb with hb
    injection hb with _ ht _
    exact hne ht.symm

theorem find_any {w : World} {b : Nat} {rk rv : Option Nat} {L : List Pr} (h : RAt w b rk rv L) (x : Int) :
    Calls Try.prog 23 #[.pointer (some ⟨b, 0, none⟩), .int .i64 x] w fun e w' => e = .returned (.tuple #[.int .i64 (posP L x : Nat), .bool (inP L x)]) ∧ Below w.heap.size w w' := by
  obtain ⟨kv, vv, h1, h2, h3⟩ := h.ex
  obtain ⟨A, c, rfl, _⟩ := h2.shape
  have hS := search_int (keysP L) A c x
  rw [show (keysP L).length = L.length from List.length_map _] at hS
  have hrd := h2.reads
  have HS := Lib.hid fun W hr => hS W (by have := h.small; omega) hr (keys_sorted h.rise)
  have HR := Lib.hid hrd
  have hc : w.cell? ⟨b, 0, none⟩ = some (.slice A L.length c) := by simp [World.cell?, h1]
  obtain ⟨l, hl⟩ : ∃ l, l = L.length := ⟨_, rfl⟩
  rw [← hl] at HS hc
  obtain ⟨p, hp⟩ : ∃ p, p = posP L x := ⟨_, rfl⟩
  obtain ⟨q, hq⟩ : ∃ q, q = inP L x := ⟨_, rfl⟩
  rw [← hp, ← hq]
  have HPQ := Lib.hid (And.intro hp hq)
  clear h1 h2 h3 hS hrd h hl hp hq
  go_enter Try.func23, Try.ntmps23
  go_wp2_with fail
  refine (HS.out _ HR.out).mono ?_
  rintro e w' ⟨rfl, hb⟩
  have HB := Lib.hid hb
  have hpq := HPQ.out
  unfold posP inP at hpq
  rw [← hpq.1, ← hpq.2]
  clear hb hpq
  go_wp2_with fail
  go_ret2
  exact ⟨rfl, HB.out⟩
theorem len_row {w : World} {b : Nat} {rk rv : Option Nat} {L : List Pr} (h : RAt w b rk rv L) :
    Calls Try.prog 13 #[.pointer (some ⟨b, 0, none⟩)] w fun e w' => e = .returned (.int .i64 (L.length : Nat)) ∧ w = w' := by
  obtain ⟨kv, vv, h1, h2, h3⟩ := h.ex
  obtain ⟨A, c, rfl, _⟩ := h2.shape
  have hc : w.cell? ⟨b, 0, none⟩ = some (.slice A L.length c) := by simp [World.cell?, h1]
  clear h1 h2 h3 h
  go_enter Try.func13, Try.ntmps13
  go_wp2
  go_ret
  exact ⟨rfl, rfl⟩
theorem get_there {w : World} {b : Nat} {rk rv : Option Nat} {L : List Pr} (h : RAt w b rk rv L) (x : Int) (u : ByteArray) (hm : (x, u) ∈ L) :
    Calls Try.prog 12 #[.pointer (some ⟨b, 0, none⟩), .int .i64 x] w fun e w' => e = .returned (.tuple #[.string u, .bool true]) ∧ Below w.heap.size w w' := by
  have hF := find_any h x
  rw [inP_iff.2 ⟨u, hm⟩] at hF
  obtain ⟨hp, hat⟩ := at_pos h.rise hm
  have HH := Lib.hid h
  have hsm := h.small
  have HF := Lib.hid hF
  obtain ⟨p, hpe⟩ : ∃ p, p = posP L x := ⟨_, rfl⟩
  rw [← hpe] at HF hp hat
  obtain ⟨l, hl⟩ : ∃ l, l = L.length := ⟨_, rfl⟩
  rw [← hl] at hp hsm
  have HL := Lib.hid hl
  have HAT := Lib.hid hat
  clear hF h hpe hl hat
  go_enter Try.func12, Try.ntmps12
  go_wp2_with fail
  refine HF.out.mono ?_
  rintro e w' ⟨rfl, hb⟩
  obtain ⟨kv, vv, h1, h2, h3⟩ := (HH.out.below hb).ex
  rw [← HL.out] at h3
  obtain ⟨g, off, cap, rfl, _, _, _, _, hcell, _⟩ := h3.form (by omega)
  have hc : w'.cell? ⟨b, 1, none⟩ = some (.slice (some ⟨g, off, none⟩) l cap) := by simp [World.cell?, h1]
  have hv : w'.cell? ⟨g, off + p, none⟩ = some (.string u) := hcell p _ (by rw [List.getElem?_map, List.getElem?_map, HAT.out]; rfl)
  have HB := Lib.hid hb
  have hq1 : (0 : Int) ≤ (p : Int) := by omega
  have hq2 : (p : Int) < (l : Int) := by omega
  clear hb h1 h2 h3 hcell
  go_wp2_with fail
  go_ret2
  exact ⟨rfl, HB.out⟩
theorem get_out {w : World} {b : Nat} {rk rv : Option Nat} {L : List Pr} (h : RAt w b rk rv L) (x : Int) (hx : inP L x = false) :
    Calls Try.prog 12 #[.pointer (some ⟨b, 0, none⟩), .int .i64 x] w fun e w' => e = .returned (.tuple #[.string ⟨#[]⟩, .bool false]) ∧ Below w.heap.size w w' := by
  have hF := find_any h x
  rw [hx] at hF
  have HF := Lib.hid hF
  obtain ⟨p, hpe⟩ : ∃ p, p = posP L x := ⟨_, rfl⟩
  rw [← hpe] at HF
  clear hF h hpe hx
  go_enter Try.func12, Try.ntmps12
  go_wp2_with fail
  refine HF.out.mono ?_
  rintro e w' ⟨rfl, hb⟩
  have HB := Lib.hid hb
  clear hb
  go_wp2_with fail
  go_ret2
  exact ⟨rfl, HB.out⟩
set_option maxHeartbeats 1000000 in
theorem rput_there {w : World} {b : Nat} {rk rv : Option Nat} {L : List Pr} (h : RAt w b rk rv L) (x : Int) (u v : ByteArray) (hm : (x, u) ∈ L) :
    Calls Try.prog 9 #[.pointer (some ⟨b, 0, none⟩), .int .i64 x, .string v] w fun e w' => e = .returned (.bool false) ∧ RStep w b rk rv w' rk rv (putP L x v) := by
  have hF := find_any h x
  rw [inP_iff.2 ⟨u, hm⟩] at hF
  obtain ⟨hp, hat⟩ := at_pos h.rise hm
  have HH := Lib.hid h
  have hsm := h.small
  have HF := Lib.hid hF
  have HM := Lib.hid hm
  obtain ⟨p, hpe⟩ : ∃ p, p = posP L x := ⟨_, rfl⟩
  rw [← hpe] at HF hp hat
  obtain ⟨l, hl⟩ : ∃ l, l = L.length := ⟨_, rfl⟩
  rw [← hl] at hp hsm
  have HL := Lib.hid hl
  have HP := Lib.hid hpe
  clear hF h hpe hl hat hm
  go_enter Try.func9, Try.ntmps9
  go_wp2_with fail
  refine HF.out.mono ?_
  rintro e w' ⟨rfl, hb⟩
  have hR := HH.out.below hb
  obtain ⟨kv, vv, h1, h2, h3⟩ := hR.ex
  rw [← HL.out] at h2 h3
  obtain ⟨g, off, cap, rfl, hrv, _, _, _, hcell, hfz⟩ := h3.form (by omega)
  have hc : w'.cell? ⟨b, 1, none⟩ = some (.slice (some ⟨g, off, none⟩) l cap) := by simp [World.cell?, h1]
  have hfp := hfz (off + p)
  have hv : ∃ z, w'.cell? ⟨g, off + p, none⟩ = some z := by
    obtain ⟨z, hz⟩ : ∃ z, (strs (valsP L))[p]? = some z := ⟨_, List.getElem?_eq_getElem (by have := h3.len; omega)⟩
    exact ⟨z, hcell p z hz⟩
  obtain ⟨z, hz⟩ := hv
  have HB := Lib.hid hb
  have HR := Lib.hid hR
  have H1 := Lib.hid h1
  have H2 := Lib.hid h2
  have H3 := Lib.hid h3
  have HRV := Lib.hid hrv
  have hq1 : (0 : Int) ≤ (p : Int) := by omega
  have hq2 : (p : Int) < (l : Int) := by omega
  clear hb h1 h2 h3 hcell hfz hR hrv
  go_wp2_with fail
  go_ret
  have hrk : rk ≠ some g := fun e => row_blk_ne H2.out H3.out (by decide) g e HRV.out
  have hbg : b ≠ g := fun e => row_box_ne H3.out H1.out (by decide) (by rw [e]; exact HRV.out)
  have hch : Chg (fun k => k = g) w' (w'.setCell ⟨g, off + p, none⟩ (.string v)) := Chg.store w' g (off + p) _
  have hst := H3.out.stored p (.string v) (by omega)
  have hkp := keys_there HH.out.rise HM.out v
  have hlen : (putP L x v).length = L.length := by have := congrArg List.length hkp; simpa using this
  refine ⟨rfl, ⟨⟨_, _, hch.heap H1.out (fun e => hbg e), ?_, ?_⟩, rise_put HH.out.rise x v, by rw [hlen]; exact HH.out.small⟩, ?_, .refl _ _, .refl _ _⟩
  · rw [hkp, hlen, ← HL.out]
    exact H2.out.kept hch fun k hk e => hrk (by rw [hk, e])
  · rw [hlen, ← HL.out]
    have he : strs (valsP (putP L x v)) = (strs (valsP L)).set p (.string v) := by
      rw [← put_there_eq HH.out.rise HM.out v, ← HP.out]
      unfold strs valsP
      rw [List.map_set, List.map_set]
    rw [he]
    exact hst
  · exact (Chg.of_below HB.out (FootR b rk rv)).trans hch fun i _ e => .inr (.inr (by rw [e]; exact HRV.out.symm))
end Go.Proofs.Ytdnlgcomhgnegaa
