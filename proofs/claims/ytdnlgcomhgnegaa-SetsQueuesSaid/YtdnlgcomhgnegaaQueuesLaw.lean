/- SetsQueues: the walk. -/
import Derived.Test.YtdnlgcomhgnegaaLives
import Derived.Test.YtdnlgcomhgnegaaQueueS
namespace Go.Proofs.Ytdnlgcomhgnegaa
open Go.RowKit
open QS (El encs enc QAt FootQ QStep)

/-- What stands between two rounds. -/
structure LoopQ (w wr : World) (k : Nat) (v : Value) (rx r m : Option Nat) (n : Nat) (l : List El) : Prop where
  q : QAt wr w.heap.size r m n l
  x : RowAt wr 9 1 v rx l.length (encs l)
  nk : n ≤ k
  lk : l.length ≤ k
  below : Below w.heap.size w wr
  gx : ∀ j, rx = some j → w.heap.size ≤ j
  gq : ∀ j, FootQ w.heap.size r m j → w.heap.size ≤ j
  apart : ∀ j, rx = some j → ¬ FootQ w.heap.size r m j

theorem bytes_eq (x y : ByteArray) : (x.toList == y.toList) = true ↔ x = y := by
  rw [beq_iff_eq, ByteArray.toList_eq, ByteArray.toList_eq, Array.toList_inj]
  exact ⟨ByteArray.ext, fun h => by rw [h]⟩
theorem isIn_step (s : ByteArray) (l : List ByteArray) (y : ByteArray) : QS.isIn s (l ++ [y]) = (QS.isIn s l || y.toList == s.toList) := by
  rw [Bool.eq_iff_iff, QS.isIn_true, Bool.or_eq_true, QS.isIn_true, bytes_eq, List.mem_append, List.mem_singleton]
  constructor
  · rintro (h | h)
    · exact .inl h
    · exact .inr h.symm
  · rintro (h | h)
    · exact .inl h
    · exact .inr h.symm
theorem row_trim {w : World} {e n cap : Nat} {A : Option Addr} {r : Option Nat} {xs : List Value} (h : RowAt w e 1 (.slice A n cap) r n xs) : RowAt w e 1 (.slice A n n) r n xs := by
  refine ⟨h.1, ?_⟩
  rcases h.2 with ⟨h0, hr, hn⟩ | ⟨g, off, cap', cur, hv, hr, hg, h1, h2, h3, h4⟩
  · injection h0 with ha _ _
    subst hn; subst ha
    exact .inl ⟨rfl, hr, rfl⟩
  · injection hv with ha _ hc
    subst ha
    exact .inr ⟨g, off, n, cur, rfl, hr, hg, Nat.le_refl _, Nat.le_trans h1 h2, by omega, h4⟩

set_option maxRecDepth 100000 in
set_option maxHeartbeats 4000000 in
theorem queues_any (A : Option Addr) (c : Nat) (ss : List ByteArray) (w : World) (hl : ss.length ≤ 9223372036854775807) (hs : ∀ s ∈ ss, s.size ≤ maxLen) (hr : ReadsAt w A (encs ss)) :
    Calls Try.prog 3 #[.slice A ss.length c] w fun e w' => e = .returned (.bool true) ∧ Below w.heap.size w w' := by
  have HR := Lib.hid hr
  have HS := Lib.hid hs
  clear hr hs
  go_enter Try.func3, Try.ntmps3
  go_wp2_with fail
  go_loopw [4, 14] (fun v i wr => ∃ k rx r m n l, k ≤ ss.length ∧ k ≤ 100 ∧ i = .int .i64 (k : Nat) ∧ LoopQ w wr k v rx r m n l) (fun _ i _ => ss.length - (intOf i).toNat)
  case atStart =>
    refine ⟨0, none, none, none, 0, [], Nat.zero_le _, by decide, rfl, ⟨QAt.made (heap_alloc_new w _), RowAt.nil _ _ _, Nat.le_refl _, Nat.le_refl _, (Below.refl _ _).alloc (Nat.le_refl _) _, by simp, ?_, by simp⟩⟩
    rintro j (e | e | e)
    · omega
    · cases e
    · cases e
  case round =>
    obtain ⟨k, rx, r, m, n, l, hk, hk1, rfl, hL⟩ := hrel
    obtain ⟨Ax, cx, rfl, _⟩ := hL.x.shape
    have hlk := hL.lk
    have HL := Lib.hid hL
    clear hL
    by_cases hlt : k < ss.length
    · obtain ⟨g, off, rfl, hg, hcl⟩ := HR.out (by simp [encs]; omega)
      have hx := (HL.out.below.cell (p := ⟨g, off + k, none⟩) hg).trans (hcl k (.string ss[k]) (by simp [encs, enc, hlt]))
      obtain ⟨s, hse⟩ : ∃ s, s = ss[k] := ⟨_, rfl⟩
      rw [← hse] at hx
      have hsz : s.size ≤ maxLen := by rw [hse]; exact HS.out _ (List.getElem_mem hlt)
      have HSZ := Lib.hid hsz
      clear hcl hse hsz
      by_cases h100 : k = 100
      · subst h100
        go_wp2_with fail
        refine (QS.len_any HL.out.q).mono ?_
        rintro e w5 ⟨rfl, rfl⟩
        go_wp2_with fail
        refine (lives_any _).mono ?_
        rintro e w7 ⟨rfl, hb⟩
        have HB := Lib.hid (HL.out.below.trans (hb.mono HL.out.below.size))
        clear hb
        go_wp2_with fail
        go_ret
        exact ⟨rfl, HB.out⟩
      · have h99 : k < 100 := by omega
        clear h100
        cases hemp : s.toList.isEmpty with
        | true =>
          cases l with
          | nil =>
            have hp := QS.pop_empty HL.out.q
            go_wp2_with fail
            refine hp.mono ?_
            rintro e w5 ⟨rfl, rfl⟩
            clear hp
            go_wp2_with fail
            go_roundw
            case rel =>
              have hL := HL.out
              exact ⟨k + 1, rx, r, m, n, [], by omega, by omega, by go_num, ⟨hL.q, hL.x, by have := hL.nk; omega, by simp, hL.below, hL.gx, hL.gq, hL.apart⟩⟩
            case measure => simp [intOf]; omega
          | cons y0 l' =>
            obtain ⟨gx, ox, cx', hv, hrx, _, _, _, hcx, _⟩ := HL.out.x.form (by simp)
            injection hv with hA _ hce
            subst hA; subst hce
            have hx0 := hcx 0 (.string y0) rfl
            rw [Nat.add_zero] at hx0
            clear hcx
            have hp := QS.pop_some HL.out.q
            unfold enc at hp
            go_wp2_with fail
            refine hp.mono ?_
            rintro e w5 ⟨rfl, hS⟩
            have hx0' := hS.chg.cell hx0 (HL.out.apart gx hrx)
            have HS5 := Lib.hid hS
            clear hp hx0 hS
            have hrx' := Lib.hid hrx
            clear hrx
            simp only [List.length_cons] at hlk
            go_wp2_with fail
            go_roundw
            case rel =>
              have hL := HL.out
              have hS := HS5.out
              have hge : ∀ j, FootQ w.heap.size r m j → w.heap.size ≤ j := hL.gq
              refine ⟨k + 1, rx, r, m, n, l', by omega, by omega, by go_num, ⟨hS.at_, ?_, by have := hL.nk; omega, by omega, hL.below.trans (hS.chg.below hL.below.size hge), hL.gx, hL.gq, hL.apart⟩⟩
              have e1 : (if (1 : Int) < (l'.length : Int) + 1 then 1 else (l'.length : Int) + 1).toNat = 1 := by split <;> omega
              rw [e1, Nat.add_sub_cancel]
              exact (QS.row_if hL.x).kept hS.chg hL.apart
            case measure => simp [intOf]; omega
        | false =>
          go_wp2_with fail
          obtain ⟨wo, rfl⟩ : ∃ wo : World, wo = wr := ⟨_, rfl⟩
          go_loop [9, 57] (fun t i => ∃ j : Nat, j ≤ l.length ∧ i = .int .i64 (j : Nat) ∧ t = .bool (QS.isIn s (l.take j))) (fun _ i => l.length - (intOf i).toNat)
          case atStart => exact ⟨0, Nat.zero_le _, rfl, by rw [QS.isIn_not (by simp)]⟩
          case round =>
            obtain ⟨j, hj, rfl, rfl⟩ := hrel
            by_cases hjl : j < l.length
            · obtain ⟨gx, ox, cx', hv, hrx, _, _, _, hcx, _⟩ := HL.out.x.form (by omega)
              injection hv with hA _ hce
              subst hA; subst hce
              obtain ⟨y, hye⟩ : ∃ y, y = l[j] := ⟨_, rfl⟩
              have hxj := hcx j (.string y) (by simp [encs, enc, hjl, hye])
              clear hcx
              have hstep : QS.isIn s (l.take (j + 1)) = (QS.isIn s (l.take j) || y.toList == s.toList) := by
                rw [hye, List.take_succ_eq_append_getElem hjl]
                exact isIn_step s (l.take j) l[j]
              have HY := Lib.hid hye
              have HST := Lib.hid hstep
              clear hye hstep
              obtain ⟨t0, ht0⟩ : ∃ t0, t0 = QS.isIn s (l.take j) := ⟨_, rfl⟩
              rw [← ht0]
              have HT := Lib.hid ht0
              clear ht0
              cases t0 with
              | true =>
                go_wp2_with fail
                go_round
                case rel => exact ⟨j + 1, by omega, by go_num, by rw [HST.out, ← HT.out]; rfl⟩
                case measure => simp [intOf]; omega
              | false =>
                go_wp2_with fail
                go_round
                case rel => exact ⟨j + 1, by omega, by go_num, by rw [HST.out, ← HT.out]; rfl⟩
                case measure => simp [intOf]; omega
            · obtain rfl : j = l.length := by omega
              rw [List.take_length]
              cases hin : QS.isIn s l with
              | true =>
                have hp := QS.push_there HL.out.q s HSZ.out (QS.isIn_true.1 hin)
                unfold enc at hp
                have HP := Lib.hid hp
                clear hp
                go_wp2_with fail
                refine HP.out.mono ?_
                rintro e w5 ⟨rfl, rfl⟩
                go_wp2_with fail
                refine (QS.len_any HL.out.q).mono ?_
                rintro e w5 ⟨rfl, rfl⟩
                go_wp2_with fail
                go_roundw
                case rel =>
                  have hL := HL.out
                  exact ⟨k + 1, rx, r, m, n, l, by omega, by omega, by go_num, ⟨hL.q, hL.x, by have := hL.nk; omega, by omega, hL.below, hL.gx, hL.gq, hL.apart⟩⟩
                case measure => simp [intOf]; omega
              | false =>
                have hout : s ∉ l := fun h => by rw [QS.isIn_of h] at hin; cases hin
                have hp := QS.push_out HL.out.q s HSZ.out (by have := HL.out.nk; omega) (by omega) hout
                unfold enc at hp
                have HP := Lib.hid hp
                clear hp hout
                go_wp2_with fail
                refine HP.out.mono ?_
                rintro e w5 ⟨rfl, r5, m5, hS5⟩
                have hcap := HL.out.x.cap_le
                have hx5 := row_trim (HL.out.x.kept hS5.chg HL.out.apart)
                have HS5 := Lib.hid hS5
                have HX5 := Lib.hid hx5
                clear hS5 hx5
                go_wp2_with (at_builtin; refine wpList_append_one _ rfl _ _ 22 9 (.string ByteArray.empty) 16 rfl Try.underlying22 QS.info_el rfl HX5.out _ rfl rfl rfl (by omega) (by unfold maxLen; omega) ?_; intro v' r' w6 hR6 hC6 hN6; obtain ⟨A', c', rfl, _⟩ := hR6.shape)
                have hsep : ∀ j, FootQ w.heap.size r5 m5 j → ¬ some j = rx := by
                  intro j hf hrx
                  have hjo := HL.out.x.lt j hrx.symm
                  refine HL.out.apart j hrx.symm ?_
                  rcases hf with hf | hf | hf
                  · exact .inl hf
                  · exact .inr (.inl (HS5.out.nr.old hjo hf.symm).symm)
                  · exact .inr (.inr (HS5.out.nm.old hjo hf.symm).symm)
                have hq6 := HS5.out.at_.kept hC6 hsep
                have hpl := QS.len_any hq6
                simp only [List.length_append, List.length_cons, List.length_nil, Nat.zero_add] at hpl
                have hb5 : Below w.heap.size w w5 := HL.out.below.trans (HS5.out.chg.below HL.out.below.size HL.out.gq)
                have hb6 : Below w.heap.size w w6 := hb5.trans (hC6.below hb5.size fun i hi => HL.out.gx i hi.symm)
                have hg5 : ∀ j, FootQ w.heap.size r5 m5 j → w.heap.size ≤ j := by
                  have h1 := HS5.out.nr.ge HL.out.below.size (fun j hj => HL.out.gq j (.inr (.inl hj.symm)))
                  have h2 := HS5.out.nm.ge HL.out.below.size (fun j hj => HL.out.gq j (.inr (.inr hj.symm)))
                  rintro j (hj | hj | hj)
                  · omega
                  · exact h1 j hj.symm
                  · exact h2 j hj.symm
                have hgx6 := hN6.ge hb5.size HL.out.gx
                have hap6 : ∀ j, r' = some j → ¬ FootQ w.heap.size r5 m5 j := by
                  intro j hj hf
                  rcases hN6 with h | ⟨i, h, hi⟩
                  · exact hsep j hf (by rw [← h]; exact hj.symm)
                  · have := HS5.out.at_.lt j hf
                    rw [h] at hj; cases hj; omega
                have hL' : LoopQ w w6 (k + 1) (.slice A' (l.length + 1) c') r' r5 m5 (n + 1) (l ++ [s]) :=
                  ⟨hq6, by rw [List.length_append, QS.encs_snoc]; exact hR6, by have := HL.out.nk; omega, by simp; omega, hb6, hgx6, hg5, hap6⟩
                have HPL := Lib.hid hpl
                have HL' := Lib.hid hL'
                clear hsep hq6 hpl hb5 hb6 hg5 hgx6 hap6 hL' hR6 hC6 hN6
                refine HPL.out.mono ?_
                rintro e w7 ⟨rfl, rfl⟩
                go_wp2_with fail
                go_roundw
                case rel => exact ⟨k + 1, r', r5, m5, n + 1, l ++ [s], by omega, by omega, by go_num, HL'.out⟩
                case measure => simp [intOf]; omega
    · obtain rfl : k = ss.length := by omega
      go_wp2_with fail
      refine (QS.len_any HL.out.q).mono ?_
      rintro e w5 ⟨rfl, rfl⟩
      go_wp2_with fail
      refine (lives_any _).mono ?_
      rintro e w7 ⟨rfl, hb⟩
      have HB := Lib.hid (HL.out.below.trans (hb.mono HL.out.below.size))
      clear hb
      go_wp2_with fail
      go_ret
      exact ⟨rfl, HB.out⟩
end Go.Proofs.Ytdnlgcomhgnegaa
