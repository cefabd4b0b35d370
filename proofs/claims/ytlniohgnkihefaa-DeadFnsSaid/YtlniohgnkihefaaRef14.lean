/- brazierref14: Has, Put. -/
import Derived.Test.YtlniohgnkihefaaBitsC
import Derived.Test.YtlniohgnkihefaaRow
import Derived.BigQuiet
import Derived.Deep.QuietTactic
namespace Go.Proofs.Ytlniohgnkihefaa
open Go.RowKit

def hasL (l : List Int) (n : Int) : Bool := l.any fun x => decide (x = n)
def putL (l : List Int) (n : Int) : List Int := if n < 0 ∨ hasL l n = true then l else l.filter (fun x => decide (x < n)) ++ [n] ++ l.filter (fun x => decide (n < x))
/-- A row that a call hands back. -/
def GiveL (w : World) (A0 : Option Addr) (l : List Int) (e : Ending) (w' : World) : Prop := ∃ A c, e = .returned (.slice A l.length c) ∧ Below w.heap.size w w' ∧ ReadsAt w' A (ints l) ∧ ∀ g off, A = some ⟨g, off, none⟩ → (w.heap.size ≤ g ∧ g < w'.heap.size) ∨ A0 = some ⟨g, off, none⟩

theorem hasL_none {l : List Int} {n : Int} (h : ∀ j (hj : j < l.length), l[j] ≠ n) : hasL l n = false := by
  unfold hasL
  rw [List.any_eq_false]
  intro x hx
  obtain ⟨j, hj, rfl⟩ := List.getElem_of_mem hx
  simpa using h j hj
theorem hasL_at {l : List Int} {n : Int} (k : Nat) (hk : k < l.length) (h : l[k] = n) : hasL l n = true := by
  unfold hasL
  exact List.any_eq_true.2 ⟨_, List.getElem_mem hk, by simpa using h⟩
theorem reads_len0 {w : World} {A : Option Addr} {l : List Int} (h : ReadsAt w A (ints l)) (k : Nat) (hk : k < l.length) (x : Int) (hx : x = l[k]) : ∃ g off, A = some ⟨g, off, none⟩ ∧ g < w.heap.size ∧ w.cell? ⟨g, off + k, none⟩ = some (.int .i64 x) := by
  obtain ⟨g, off, hA, hg, hc⟩ := h (by rw [ints_length]; omega)
  exact ⟨g, off, hA, hg, by rw [hx]; exact hc k _ (by simp [ints, hk])⟩

theorem has14_any (l : List Int) (A : Option Addr) (c : Nat) (n : Int) (w : World) (hl : l.length ≤ 9223372036854775807) (hr : ReadsAt w A (ints l)) :
    Calls Try.prog 21 #[.slice A l.length c, .int .i64 n] w fun e w' => e = .returned (.bool (hasL l n)) ∧ w = w' := by
  have HR := Lib.hid hr
  clear hr
  go_enter Try.func21, Try.ntmps21
  go_wp2_with fail
  go_loop [9] (fun i => ∃ k : Nat, k ≤ l.length ∧ i = .int .i64 (k : Nat) ∧ ∀ j (hj : j < l.length), j < k → l[j] ≠ n) (fun i => l.length - (intOf i).toNat)
  case atStart => exact ⟨0, by omega, rfl, fun j hj h => by omega⟩
  case round =>
    obtain ⟨k, hk, rfl, hn⟩ := hrel
    have HN := Lib.hid hn
    clear hn
    by_cases hlt : k < l.length
    · obtain ⟨x, hxe⟩ : ∃ x, x = l[k] := ⟨_, rfl⟩
      obtain ⟨g, off, rfl, hg, hx⟩ := reads_len0 HR.out k hlt x hxe
      have HX := Lib.hid hxe
      clear hxe
      by_cases q : x = n
      · have qf : (x == n) = true := by rw [q]; simp
        have HQ := Lib.hid q
        clear q
        go_wp2_with fail
        go_ret
        exact ⟨ret_bool (hasL_at k hlt (by rw [← HX.out]; exact HQ.out)).symm, rfl⟩
      · have qf : (x == n) = false := beq_eq_false_iff_ne.2 q
        have HQ := Lib.hid q
        clear q
        go_wp2_with fail
        go_round
        case rel => exact ⟨k + 1, by omega, by go_num, fun j hj h => by
          rcases Nat.lt_succ_iff_lt_or_eq.1 h with h | rfl
          · exact HN.out j hj h
          · rw [← HX.out]; exact HQ.out⟩
        case measure => simp [intOf]; omega
    · obtain rfl : k = l.length := by omega
      go_wp2_with fail
      go_ret
      exact ⟨ret_bool (hasL_none fun j hj => HN.out j hj hj).symm, rfl⟩
/-- What a loop has gathered so far. -/
structure Gath (w : World) (l : List Int) (v : Value) (wr : World) : Prop where
  below : Below w.heap.size w wr
  row : ∃ r, RowAt wr 3 1 v r l.length (ints l) ∧ ∀ k, r = some k → w.heap.size ≤ k
theorem Gath.nil (w : World) : Gath w [] (.slice none 0 0) w := ⟨Below.refl _ _, none, .nil _ _ _, by simp⟩
theorem Gath.add {w wr w2 : World} {l : List Int} {v v' : Value} {r r' : Option Nat} (h : Gath w l v wr) (x : Int) (hr : ∀ k, r = some k → w.heap.size ≤ k)
    (hR : RowAt w2 3 1 v' r' (l.length + 1) (ints l ++ [.int .i64 x])) (hC : Chg (fun k => some k = r) wr w2) (hN : NewOr wr r r') : Gath w (l ++ [x]) v' w2 :=
  ⟨h.below.trans (hC.below h.below.size fun k e => hr k e.symm), r', by simpa [ints] using hR, hN.ge h.below.size hr⟩
theorem Gath.give {w wr : World} {l : List Int} {A A0 : Option Addr} {c : Nat} (h : Gath w l (.slice A l.length c) wr) : GiveL w A0 l (.returned (.slice A l.length c)) wr := by
  obtain ⟨r, h1, h2⟩ := h.row
  refine ⟨A, c, rfl, h.below, h1.reads, fun g off hA => .inl ?_⟩
  rcases h1.2 with ⟨h0, _⟩ | ⟨g', off', cap, cur, hv, hr, _⟩
  · injection h0 with h0 _ _; rw [h0] at hA; cases hA
  · injection hv with hv _ _
    rw [hv] at hA; cases hA
    exact ⟨h2 _ hr, h1.lt _ hr⟩
/-- The same, with the capacity. -/
def GiveC (C : Prop) (w : World) (A0 : Option Addr) (l : List Int) (e : Ending) (w' : World) : Prop := ∃ A c, e = .returned (.slice A l.length c) ∧ Below w.heap.size w w' ∧ ReadsAt w' A (ints l) ∧ (∀ g off, A = some ⟨g, off, none⟩ → (w.heap.size ≤ g ∧ g < w'.heap.size) ∨ A0 = some ⟨g, off, none⟩) ∧ (C → l.length ≤ c)
theorem GiveC.give {C : Prop} {w : World} {A0 : Option Addr} {l : List Int} {e : Ending} {w' : World} (h : GiveC C w A0 l e w') : GiveL w A0 l e w' := by
  obtain ⟨A, c, h1, h2, h3, h4, _⟩ := h
  exact ⟨A, c, h1, h2, h3, h4⟩
theorem Gath.giveC {w wr : World} {l : List Int} {A A0 : Option Addr} {c : Nat} (C : Prop) (h : Gath w l (.slice A l.length c) wr) : GiveC C w A0 l (.returned (.slice A l.length c)) wr := by
  obtain ⟨A', c', h1, h2, h3, h4⟩ := h.give (A0 := A0)
  cases h1
  obtain ⟨r, h5, _⟩ := h.row
  exact ⟨A, c, rfl, h2, h3, h4, fun _ => h5.cap_le⟩
theorem Gath.shape {w wr : World} {l : List Int} {v : Value} (h : Gath w l v wr) : ∃ A c, v = .slice A l.length c := by
  obtain ⟨r, h1, _⟩ := h.row
  obtain ⟨A, c, e, _⟩ := h1.shape
  exact ⟨A, c, e⟩
theorem bd8 {n : Nat} (h : n ≤ 100000) : (n + 1) * 8 ≤ 140737488355328 := by omega
theorem bdm {n : Nat} (h : n ≤ 100000) : n < maxLen := by unfold maxLen; omega
theorem bd8' {n : Nat} (h : n ≤ 300000) : (n + 1) * 8 ≤ 140737488355328 := by omega
theorem bdm' {n : Nat} (h : n ≤ 300000) : n < maxLen := by unfold maxLen; omega
theorem ret_int3 : (Try.prog.info? 3).map (fun i => (i.zero, i.size, i.bytes)) = some (some (.int .i64 0), 1, 8) := by kernel_rfl
theorem take_keep (p : Int → Bool) (l : List Int) (k : Nat) (h : k < l.length) (x : Int) (hx : x = l[k]) (hp : p x = true) : (l.take (k + 1)).filter p = (l.take k).filter p ++ [x] := by
  subst hx
  rw [List.take_succ_eq_append_getElem h, List.filter_append]; simp [hp]
theorem take_skip (p : Int → Bool) (l : List Int) (k : Nat) (h : k < l.length) (x : Int) (hx : x = l[k]) (hp : p x = false) : (l.take (k + 1)).filter p = (l.take k).filter p := by
  subst hx
  rw [List.take_succ_eq_append_getElem h, List.filter_append]; simp [hp]
theorem filter_take_len (p : Int → Bool) (l : List Int) (k : Nat) : ((l.take k).filter p).length ≤ l.length := by
  have h1 := List.length_filter_le p (l.take k)
  have h2 : (l.take k).length ≤ l.length := by rw [List.length_take]; omega
  omega

set_option maxHeartbeats 2000000 in
set_option maxRecDepth 100000 in
theorem put14_anyC (l : List Int) (A : Option Addr) (c : Nat) (n : Int) (w : World) (hl : l.length ≤ 100000) (hr : ReadsAt w A (ints l)) :
    Calls Try.prog 35 #[.slice A l.length c, .int .i64 n] w (GiveC (l.length ≤ c) w A (putL l n)) := by
  have HHAS := Lib.hid fun w' hl hr => has14_any l A c n w' hl hr
  have HR := Lib.hid hr
  clear hr
  by_cases h0 : n < 0
  · have he : putL l n = l := by unfold putL; rw [if_pos (.inl h0)]
    rw [he]
    clear he
    go_enter Try.func35, Try.ntmps35
    go_wp2_with fail
    go_ret
    exact ⟨A, c, rfl, Below.refl _ _, HR.out, fun _ _ h => .inr h, id⟩
  have HH := HHAS.out w (by omega) HR.out
  clear HHAS
  cases hh : hasL l n with
  | true =>
    have he : putL l n = l := by unfold putL; rw [if_pos (.inr hh)]
    rw [he]
    rw [hh] at HH
    have HHH := Lib.hid HH
    clear he HH hh
    go_enter Try.func35, Try.ntmps35
    go_wp2_with fail
    refine HHH.out.mono ?_
    rintro e w' ⟨rfl, rfl⟩
    go_wp2_with fail
    go_ret
    exact ⟨A, c, rfl, Below.refl _ _, HR.out, fun _ _ h => .inr h, id⟩
  | false =>
    have he : putL l n = l.filter (fun x => decide (x < n)) ++ [n] ++ l.filter (fun x => decide (n < x)) := by
      unfold putL
      rw [if_neg]
      intro h
      rcases h with h | h
      · exact h0 h
      · rw [hh] at h; cases h
    have HE := Lib.hid he
    rw [hh] at HH
    have HHH := Lib.hid HH
    clear he HH hh
    go_enter Try.func35, Try.ntmps35
    go_wp2_with fail
    refine HHH.out.mono ?_
    rintro e w' ⟨rfl, rfl⟩
    go_wp2_with fail
    go_loopw [5, 20] (fun v i wr => ∃ k : Nat, k ≤ l.length ∧ i = .int .i64 (k : Nat) ∧ Gath w ((l.take k).filter fun x => decide (x < n)) v wr) (fun _ i _ => l.length - (intOf i).toNat)
    case atStart => exact ⟨0, by omega, rfl, Gath.nil w⟩
    case round =>
      obtain ⟨k, hk, rfl, hG⟩ := hrel
      have hfl := filter_take_len (fun x => decide (x < n)) l k
      obtain ⟨m, hme⟩ : ∃ m, m = (l.take k).filter fun x => decide (x < n) := ⟨_, rfl⟩
      have hml : m.length ≤ 300000 := by rw [hme]; omega
      rw [← hme] at hG
      obtain ⟨Av, cv, rfl⟩ := hG.shape
      obtain ⟨r, hrow, hrn⟩ := hG.row
      have HME := Lib.hid hme
      have HG := Lib.hid hG
      have HROW := Lib.hid hrow
      have HRN := Lib.hid hrn
      clear hme hG hrow hrn hfl
      by_cases hlt : k < l.length
      · obtain ⟨x, hxe⟩ : ∃ x, x = l[k] := ⟨_, rfl⟩
        obtain ⟨g, off, rfl, hg, hx⟩ := reads_len0 HR.out k hlt x hxe
        have hx2 := (HG.out.below.cell (p := ⟨g, off + k, none⟩) hg).trans hx
        have HX := Lib.hid hxe
        have HB1 : Hid ((m.length + 1) * 8 ≤ 140737488355328) := Lib.hid (bd8' hml)
        have HB2 : Hid (m.length < maxLen) := Lib.hid (bdm' hml)
        clear hxe hx hml
        by_cases q : x < n
        · have HQ := Lib.hid q
          go_wp2_with (at_builtin; refine wpList_append_one _ rfl _ _ 46 3 (.int .i64 0) 8 rfl Try.underlying46 ret_int3 rfl HROW.out _ rfl rfl rfl HB1.out HB2.out ?_; intro v' r' w' hR' hC hN; obtain ⟨A', c', rfl, _⟩ := hR'.shape; have HR' := Lib.hid hR'; have HC := Lib.hid hC; have HN := Lib.hid hN; clear hR' hC hN)
          go_roundw
          case rel => exact ⟨k + 1, by omega, by go_num, by rw [take_keep (fun x => decide (x < n)) l k hlt x HX.out (decide_eq_true HQ.out), ← HME.out]; exact HG.out.add x HRN.out HR'.out HC.out HN.out⟩
          case measure => simp [intOf]; omega
        · have HQ := Lib.hid q
          have q' : n ≤ x := by omega
          clear q
          go_wp2_with fail
          go_roundw
          case rel => exact ⟨k + 1, by omega, by go_num, by rw [take_skip (fun x => decide (x < n)) l k hlt x HX.out (decide_eq_false HQ.out), ← HME.out]; exact HG.out⟩
          case measure => simp [intOf]; omega
      · obtain rfl : k = l.length := by omega
        have hm1 : m = l.filter (fun x => decide (x < n)) := by rw [HME.out, List.take_length]
        have HM1 := Lib.hid hm1
        have HB1 : Hid ((m.length + 1) * 8 ≤ 140737488355328) := Lib.hid (bd8' hml)
        have HB2 : Hid (m.length < maxLen) := Lib.hid (bdm' hml)
        clear hm1 hml
        go_wp2_with (at_builtin; refine wpList_append_one _ rfl _ _ 46 3 (.int .i64 0) 8 rfl Try.underlying46 ret_int3 rfl HROW.out _ rfl rfl rfl HB1.out HB2.out ?_; intro v' r' w' hR' hC hN; obtain ⟨A', c', rfl, _⟩ := hR'.shape; have HR' := Lib.hid hR'; have HC := Lib.hid hC; have HN := Lib.hid hN; clear hR' hC hN)
        have HG9 : Hid (Gath w (l.filter (fun x => decide (x < n)) ++ [n]) (.slice A' (m.length + 1) c') w') := Lib.hid (by rw [← HM1.out]; exact HG.out.add n HRN.out HR'.out HC.out HN.out)
        clear hlt
        go_loopw [5, 38] (fun v i wr => ∃ k : Nat, k ≤ l.length ∧ i = .int .i64 (k : Nat) ∧ Gath w (l.filter (fun x => decide (x < n)) ++ [n] ++ (l.take k).filter fun x => decide (n < x)) v wr) (fun _ i _ => l.length - (intOf i).toNat)
        case atStart => exact ⟨0, by omega, rfl, by rw [List.take_zero, List.filter_nil, List.append_nil]; exact HG9.out⟩
        case round =>
          obtain ⟨k, hk, rfl, hG⟩ := hrel
          have hfl := filter_take_len (fun x => decide (n < x)) l k
          obtain ⟨m, hme⟩ : ∃ m, m = l.filter (fun x => decide (x < n)) ++ [n] ++ (l.take k).filter fun x => decide (n < x) := ⟨_, rfl⟩
          have hml : m.length ≤ 300000 := by rw [hme]; rw [List.length_append, List.length_append, List.length_singleton]; have := List.length_filter_le (fun x => decide (x < n)) l; omega
          rw [← hme] at hG
          obtain ⟨Av, cv, rfl⟩ := hG.shape
          obtain ⟨r, hrow, hrn⟩ := hG.row
          have HME := Lib.hid hme
          have HG := Lib.hid hG
          have HROW := Lib.hid hrow
          have HRN := Lib.hid hrn
          clear hme hG hrow hrn hfl
          by_cases hlt : k < l.length
          · obtain ⟨x, hxe⟩ : ∃ x, x = l[k] := ⟨_, rfl⟩
            obtain ⟨g, off, rfl, hg, hx⟩ := reads_len0 HR.out k hlt x hxe
            have hx2 := (HG.out.below.cell (p := ⟨g, off + k, none⟩) hg).trans hx
            have HX := Lib.hid hxe
            have HB1 : Hid ((m.length + 1) * 8 ≤ 140737488355328) := Lib.hid (bd8' hml)
            have HB2 : Hid (m.length < maxLen) := Lib.hid (bdm' hml)
            clear hxe hx hml
            by_cases q : n < x
            · have HQ := Lib.hid q
              go_wp2_with (at_builtin; refine wpList_append_one _ rfl _ _ 46 3 (.int .i64 0) 8 rfl Try.underlying46 ret_int3 rfl HROW.out _ rfl rfl rfl HB1.out HB2.out ?_; intro v' r' w' hR' hC hN; obtain ⟨A', c', rfl, _⟩ := hR'.shape; have HR' := Lib.hid hR'; have HC := Lib.hid hC; have HN := Lib.hid hN; clear hR' hC hN)
              go_roundw
              case rel => exact ⟨k + 1, by omega, by go_num, by rw [take_keep (fun x => decide (n < x)) l k hlt x HX.out (decide_eq_true HQ.out), ← List.append_assoc, ← HME.out]; exact HG.out.add x HRN.out HR'.out HC.out HN.out⟩
              case measure => simp [intOf]; omega
            · have HQ := Lib.hid q
              have q' : x ≤ n := by omega
              clear q
              go_wp2_with fail
              go_roundw
              case rel => exact ⟨k + 1, by omega, by go_num, by rw [take_skip (fun x => decide (n < x)) l k hlt x HX.out (decide_eq_false HQ.out), ← HME.out]; exact HG.out⟩
              case measure => simp [intOf]; omega
          · obtain rfl : k = l.length := by omega
            have he2 : l.filter (fun x => decide (x < n)) ++ [n] ++ l.filter (fun x => decide (n < x)) = m := by rw [HME.out, List.take_length]
            have HE2 := Lib.hid he2
            clear he2
            go_wp2_with fail
            go_ret
            rw [HE.out, HE2.out]
            exact HG.out.giveC _
theorem put14_any (l : List Int) (A : Option Addr) (c : Nat) (n : Int) (w : World) (hl : l.length ≤ 100000) (hr : ReadsAt w A (ints l)) :
    Calls Try.prog 35 #[.slice A l.length c, .int .i64 n] w (GiveL w A (putL l n)) := (put14_anyC l A c n w hl hr).mono fun _ _ h => h.give
end Go.Proofs.Ytlniohgnkihefaa
