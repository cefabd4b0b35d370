/- A row's pairs, by rising keys: plain laws. -/
import Derived.Test.YtdnlgcomhgnegaaDrop03
import Derived.Test.YtdnlgcomhgnegaaMap
namespace Go.Proofs.Ytdnlgcomhgnegaa
open Go.RowKit

abbrev Pr := Int × ByteArray
abbrev keysP (L : List Pr) : List Int := L.map (·.1)
abbrev valsP (L : List Pr) : List ByteArray := L.map (·.2)
def Rise (L : List Pr) : Prop := L.Pairwise fun a b => a.1 < b.1
/-- Where a key stands, or should. -/
def posP (L : List Pr) (x : Int) : Nat := (keysP L).countP (· < x)
def putP (L : List Pr) (x : Int) (v : ByteArray) : List Pr := L.filter (fun p => decide (p.1 < x)) ++ [(x, v)] ++ L.filter (fun p => decide (x < p.1))
def dropP (L : List Pr) (x : Int) : List Pr := L.filter fun p => decide (p.1 ≠ x)
def inP (L : List Pr) (x : Int) : Bool := (keysP L).contains x

theorem inP_iff {L : List Pr} {x : Int} : inP L x = true ↔ ∃ v, (x, v) ∈ L := by
  unfold inP keysP
  simp
theorem posP_cons (a : Pr) (L : List Pr) (x : Int) : posP (a :: L) x = (if a.1 < x then 1 else 0) + posP L x := by
  unfold posP keysP
  rw [List.map_cons, List.countP_cons]
  by_cases h : a.1 < x <;> simp [h] <;> omega
theorem posP_zero {L : List Pr} {x : Int} (h : ∀ p ∈ L, x ≤ p.1) : posP L x = 0 := by
  unfold posP keysP
  rw [List.countP_eq_zero]
  intro k hk
  obtain ⟨p, hp, rfl⟩ := List.mem_map.1 hk
  have := h p hp
  simp; omega
theorem posP_le (L : List Pr) (x : Int) : posP L x ≤ L.length := by
  unfold posP keysP
  have := List.countP_le_length (p := fun k : Int => decide (k < x)) (l := L.map (·.1))
  simpa using this
/-- The row, cut at a key. -/
theorem cut_at {L : List Pr} (h : Rise L) (x : Int) : L.take (posP L x) = L.filter (fun p => decide (p.1 < x)) ∧ L.drop (posP L x) = L.filter (fun p => decide (x ≤ p.1)) := by
  induction L with
  | nil => exact ⟨rfl, rfl⟩
  | cons a L ih =>
    have h2 : Rise L := (List.pairwise_cons.1 h).2
    have h1 := (List.pairwise_cons.1 h).1
    rw [posP_cons]
    by_cases c : a.1 < x
    · rw [if_pos c, Nat.add_comm]
      obtain ⟨i1, i2⟩ := ih h2
      rw [List.take_succ_cons, List.drop_succ_cons, i1, i2]
      rw [List.filter_cons_of_pos (by simpa using c), List.filter_cons_of_neg (by simp; omega)]
      exact ⟨rfl, rfl⟩
    · have hz : posP L x = 0 := posP_zero fun p hp => by have := h1 p hp; omega
      rw [if_neg c, hz]
      constructor
      · rw [List.take_zero, List.filter_cons_of_neg (by simpa using c)]
        symm
        rw [List.filter_eq_nil_iff]
        intro p hp
        have := h1 p hp
        simp; omega
      · rw [List.drop_zero]
        symm
        rw [List.filter_eq_self]
        intro p hp
        rcases List.mem_cons.1 hp with rfl | hp
        · simp; omega
        · have := h1 p hp
          simp; omega
theorem ge_split {L : List Pr} (h : Rise L) (x : Int) : L.filter (fun p => decide (x ≤ p.1)) = L.filter (fun p => decide (p.1 = x)) ++ L.filter (fun p => decide (x < p.1)) := by
  induction L with
  | nil => rfl
  | cons a L ih =>
    have h2 : Rise L := (List.pairwise_cons.1 h).2
    have h1 := (List.pairwise_cons.1 h).1
    rcases Int.lt_trichotomy a.1 x with c | c | c
    · rw [List.filter_cons_of_neg (by simp; omega), List.filter_cons_of_neg (by simp; omega), List.filter_cons_of_neg (by simp; omega), ih h2]
    · rw [List.filter_cons_of_pos (by simp; omega), List.filter_cons_of_pos (by simpa using c), List.filter_cons_of_neg (by simp; omega), ih h2]
      rfl
    · have hn : L.filter (fun p => decide (p.1 = x)) = [] := by
        rw [List.filter_eq_nil_iff]
        intro p hp
        have := h1 p hp
        simp; omega
      rw [List.filter_cons_of_pos (by simp; omega), List.filter_cons_of_neg (by simp; omega), List.filter_cons_of_pos (by simpa using c), ih h2, hn]
      rfl
theorem none_at {L : List Pr} {x : Int} (h : inP L x = false) : L.filter (fun p => decide (p.1 = x)) = [] := by
  rw [List.filter_eq_nil_iff]
  intro p hp e
  have : inP L x = true := inP_iff.2 ⟨p.2, by have e2 : p.1 = x := by simpa using e
                                              rw [← e2]; exact hp⟩
  rw [h] at this; cases this
theorem one_at {L : List Pr} (h : Rise L) {x : Int} {v : ByteArray} (hm : (x, v) ∈ L) : L.filter (fun p => decide (p.1 = x)) = [(x, v)] := by
  induction L with
  | nil => cases hm
  | cons a L ih =>
    have h2 : Rise L := (List.pairwise_cons.1 h).2
    have h1 := (List.pairwise_cons.1 h).1
    rcases List.mem_cons.1 hm with rfl | hm
    · rw [List.filter_cons_of_pos (by simp)]
      congr 1
      rw [List.filter_eq_nil_iff]
      intro p hp
      have := h1 p hp
      simp only at this
      simp; omega
    · have := h1 _ hm
      rw [List.filter_cons_of_neg (by simp at this ⊢; omega)]
      exact ih h2 hm
/-- A new key. -/
theorem put_new_eq {L : List Pr} (h : Rise L) {x : Int} (hx : inP L x = false) (v : ByteArray) : L.take (posP L x) ++ [(x, v)] ++ L.drop (posP L x) = putP L x v := by
  obtain ⟨h1, h2⟩ := cut_at h x
  unfold putP
  rw [h1, h2, ge_split h, none_at hx, List.nil_append]
/-- A key that is there. -/
theorem at_pos {L : List Pr} (h : Rise L) {x : Int} {v : ByteArray} (hm : (x, v) ∈ L) : posP L x < L.length ∧ L[posP L x]? = some (x, v) := by
  obtain ⟨h1, h2⟩ := cut_at h x
  rw [ge_split h, one_at h hm] at h2
  have h3 : L[posP L x]? = some (x, v) := by
    have : (L.drop (posP L x))[0]? = some (x, v) := by rw [h2]; rfl
    rwa [List.getElem?_drop, Nat.add_zero] at this
  exact ⟨(List.getElem?_eq_some_iff.1 h3).1, h3⟩
theorem put_there_eq {L : List Pr} (h : Rise L) {x : Int} {u : ByteArray} (hm : (x, u) ∈ L) (v : ByteArray) : L.set (posP L x) (x, v) = putP L x v := by
  obtain ⟨h1, h2⟩ := cut_at h x
  obtain ⟨h3, _⟩ := at_pos h hm
  rw [ge_split h, one_at h hm] at h2
  rw [List.set_eq_take_append_cons_drop, if_pos h3, h1]
  have : L.drop (posP L x + 1) = L.filter (fun p => decide (x < p.1)) := by
    rw [← List.drop_drop, h2]; rfl
  rw [this]
  unfold putP
  simp
theorem drop_there_eq {L : List Pr} (h : Rise L) {x : Int} {u : ByteArray} (hm : (x, u) ∈ L) : L.eraseIdx (posP L x) = dropP L x := by
  obtain ⟨h1, h2⟩ := cut_at h x
  rw [ge_split h, one_at h hm] at h2
  rw [List.eraseIdx_eq_take_drop_succ, h1]
  have h3 : L.drop (posP L x + 1) = L.filter (fun p => decide (x < p.1)) := by
    rw [← List.drop_drop, h2]; rfl
  rw [h3]
  unfold dropP
  clear h1 h2 h3 hm
  induction L with
  | nil => rfl
  | cons a L ih =>
    have h2 : Rise L := (List.pairwise_cons.1 h).2
    have h1 := (List.pairwise_cons.1 h).1
    rcases Int.lt_trichotomy a.1 x with c | c | c
    · rw [List.filter_cons_of_pos (by simpa using c), List.filter_cons_of_neg (by simp; omega), List.filter_cons_of_pos (by simp; omega), ← ih h2]
      rfl
    · rw [List.filter_cons_of_neg (by simp; omega), List.filter_cons_of_neg (by simp; omega), List.filter_cons_of_neg (by simp; omega), ih h2]
    · have hn : L.filter (fun p => decide (p.1 < x)) = [] := by
        rw [List.filter_eq_nil_iff]
        intro p hp
        have := h1 p hp
        simp; omega
      rw [List.filter_cons_of_neg (by simp; omega), List.filter_cons_of_pos (by simpa using c), List.filter_cons_of_pos (by simp; omega), ← ih h2, hn]
      rfl
theorem drop_out_eq {L : List Pr} {x : Int} (hx : inP L x = false) : dropP L x = L := by
  unfold dropP
  rw [List.filter_eq_self]
  intro p hp
  simp only [decide_eq_true_eq]
  intro e
  have : inP L x = true := inP_iff.2 ⟨p.2, by rw [← e]; exact hp⟩
  rw [hx] at this; cases this
theorem rise_put {L : List Pr} (h : Rise L) (x : Int) (v : ByteArray) : Rise (putP L x v) := by
  unfold putP Rise
  rw [List.pairwise_append, List.pairwise_append]
  refine ⟨⟨h.filter _, List.pairwise_singleton _ _, ?_⟩, h.filter _, ?_⟩
  · intro a ha b hb
    rw [List.mem_filter] at ha
    rw [List.mem_singleton] at hb
    subst hb
    simpa using ha.2
  · intro a ha b hb
    rw [List.mem_filter] at hb
    rw [List.mem_append, List.mem_filter, List.mem_singleton] at ha
    have h2 : x < b.1 := by simpa using hb.2
    rcases ha with ha | rfl
    · have h1 : a.1 < x := by simpa using ha.2
      omega
    · exact h2
theorem rise_drop {L : List Pr} (h : Rise L) (x : Int) : Rise (dropP L x) := h.filter _
theorem mem_put {L : List Pr} {x : Int} {v : ByteArray} {p : Pr} : p ∈ putP L x v ↔ p = (x, v) ∨ (p ∈ L ∧ p.1 ≠ x) := by
  unfold putP
  simp only [List.mem_append, List.mem_filter, List.mem_singleton, decide_eq_true_eq]
  constructor
  · rintro ((h | h) | h)
    · exact .inr ⟨h.1, by omega⟩
    · exact .inl h
    · exact .inr ⟨h.1, by omega⟩
  · rintro (h | ⟨h, hne⟩)
    · exact .inl (.inr h)
    · rcases Int.lt_trichotomy p.1 x with c | c | c
      · exact .inl (.inl ⟨h, c⟩)
      · exact absurd c hne
      · exact .inr ⟨h, c⟩
theorem mem_drop {L : List Pr} {x : Int} {p : Pr} : p ∈ dropP L x ↔ p ∈ L ∧ p.1 ≠ x := by
  unfold dropP
  simp [List.mem_filter]
theorem rise_one {L : List Pr} (h : Rise L) {x : Int} {u v : ByteArray} (hu : (x, u) ∈ L) (hv : (x, v) ∈ L) : u = v := by
  have h1 := one_at h hu
  rw [one_at h hv] at h1
  simp at h1
  exact h1.symm

/-- What the map beside the row says. -/
def strLit (b : ByteArray) : Lit := .string b.data.toList
noncomputable def mapP (L : List Pr) : Lit → Option Lit := fun k => @dite _ (∃ p ∈ L, k = .int .i64 p.1) (Classical.propDecidable _) (fun h => some (strLit h.choose.2)) fun _ => none
theorem mapP_in {L : List Pr} (h : Rise L) {x : Int} {v : ByteArray} (hm : (x, v) ∈ L) : mapP L (.int .i64 x) = some (strLit v) := by
  have hx : ∃ p ∈ L, (Lit.int .i64 x) = .int .i64 p.1 := ⟨_, hm, rfl⟩
  unfold mapP
  rw [dif_pos hx]
  obtain ⟨h1, h2⟩ := hx.choose_spec
  generalize hx.choose = q at h1 h2
  obtain ⟨qx, qv⟩ := q
  obtain rfl : x = qx := by injection h2
  rw [rise_one h h1 hm]
theorem mapP_out {L : List Pr} {x : Int} (hx : inP L x = false) : mapP L (.int .i64 x) = none := by
  unfold mapP
  rw [dif_neg]
  rintro ⟨p, hp, e⟩
  have e2 : x = p.1 := by injection e
  have : inP L x = true := inP_iff.2 ⟨p.2, by rw [e2]; exact hp⟩
  rw [hx] at this; cases this
theorem mapP_odd {L : List Pr} {k : Lit} (h : ∀ x, k ≠ .int .i64 x) : mapP L k = none := by
  unfold mapP
  rw [dif_neg]
  rintro ⟨p, _, e⟩
  exact h _ e
theorem mapP_put {L : List Pr} (h : Rise L) (x : Int) (v : ByteArray) (k : Lit) : upd (mapP L) (.int .i64 x) (some (strLit v)) k = mapP (putP L x v) k := by
  by_cases e : k = .int .i64 x
  · subst e
    rw [upd_same, mapP_in (rise_put h x v) (mem_put.2 (.inl rfl))]
  · rw [upd_other _ _ e]
    by_cases hk : ∃ y, k = .int .i64 y
    · obtain ⟨y, rfl⟩ := hk
      have hne : y ≠ x := fun e2 => e (by rw [e2])
      cases hy : inP L y with
      | true =>
        obtain ⟨u, hu⟩ := inP_iff.1 hy
        rw [mapP_in h hu, mapP_in (rise_put h x v) (mem_put.2 (.inr ⟨hu, hne⟩))]
      | false =>
        rw [mapP_out hy, mapP_out]
        cases hz : inP (putP L x v) y with
        | false => rfl
        | true =>
          obtain ⟨u, hu⟩ := inP_iff.1 hz
          rcases mem_put.1 hu with hu | ⟨hu, _⟩
          · injection hu with hu; exact absurd hu hne
          · rw [inP_iff.2 ⟨u, hu⟩] at hy; cases hy
    · rw [mapP_odd fun y hy => hk ⟨y, hy⟩, mapP_odd fun y hy => hk ⟨y, hy⟩]
theorem mapP_drop {L : List Pr} (h : Rise L) (x : Int) (k : Lit) : upd (mapP L) (.int .i64 x) none k = mapP (dropP L x) k := by
  by_cases e : k = .int .i64 x
  · subst e
    rw [upd_same, mapP_out]
    cases hz : inP (dropP L x) x with
    | false => rfl
    | true =>
      obtain ⟨u, hu⟩ := inP_iff.1 hz
      exact absurd rfl (mem_drop.1 hu).2
  · rw [upd_other _ _ e]
    by_cases hk : ∃ y, k = .int .i64 y
    · obtain ⟨y, rfl⟩ := hk
      have hne : y ≠ x := fun e2 => e (by rw [e2])
      cases hy : inP L y with
      | true =>
        obtain ⟨u, hu⟩ := inP_iff.1 hy
        rw [mapP_in h hu, mapP_in (rise_drop h x) (mem_drop.2 ⟨hu, hne⟩)]
      | false =>
        rw [mapP_out hy, mapP_out]
        cases hz : inP (dropP L x) y with
        | false => rfl
        | true =>
          obtain ⟨u, hu⟩ := inP_iff.1 hz
          rw [inP_iff.2 ⟨u, (mem_drop.1 hu).1⟩] at hy; cases hy
    · rw [mapP_odd fun y hy => hk ⟨y, hy⟩, mapP_odd fun y hy => hk ⟨y, hy⟩]
theorem mapP_nil : mapP [] = fun _ => none := by
  funext k
  unfold mapP
  rw [dif_neg]
  rintro ⟨p, hp, _⟩; cases hp

/-- The keys that the law keeps beside, in the order in which they came. -/
theorem keys_put {L : List Pr} {K : List Int} (h : Rise L) (hp : K.Perm (keysP L)) {x : Int} (hx : inP L x = false) (v : ByteArray) : (K ++ [x]).Perm (keysP (putP L x v)) := by
  rw [← put_new_eq h hx v]
  unfold keysP
  rw [List.map_append, List.map_append]
  have h1 : ((L.take (posP L x)).map (·.1) ++ (L.drop (posP L x)).map (·.1)) = L.map (·.1) := by rw [← List.map_append, List.take_append_drop]
  refine (hp.append_right _).trans ?_
  rw [show keysP L = _ from h1.symm]
  rw [List.append_assoc, List.append_assoc]
  exact (List.perm_append_comm).append_left _
theorem keys_there {L : List Pr} (h : Rise L) {x : Int} {u : ByteArray} (hm : (x, u) ∈ L) (v : ByteArray) : keysP (putP L x v) = keysP L := by
  obtain ⟨h1, h2⟩ := at_pos h hm
  rw [← put_there_eq h hm v]
  unfold keysP
  rw [List.map_set]
  have : (L.map (·.1))[posP L x]? = some x := by rw [List.getElem?_map, h2]; rfl
  obtain ⟨h3, h4⟩ := List.getElem?_eq_some_iff.1 this
  have h5 := List.set_getElem_self h3
  rw [h4] at h5
  exact h5
theorem keys_drop {L : List Pr} {K : List Int} (hp : K.Perm (keysP L)) (x : Int) : (dropL K x).Perm (keysP (dropP L x)) := by
  refine (hp.filter (fun y => decide (y ≠ x))).trans ?_
  unfold keysP dropP
  rw [List.filter_map]
  exact .refl _
theorem len_put {L : List Pr} (h : Rise L) {x : Int} (v : ByteArray) : (putP L x v).length ≤ L.length + 1 := by
  cases hx : inP L x with
  | true =>
    obtain ⟨u, hu⟩ := inP_iff.1 hx
    rw [← put_there_eq h hu v, List.length_set]; omega
  | false =>
    rw [← put_new_eq h hx v]
    have := posP_le L x
    simp; omega
theorem len_drop (L : List Pr) (x : Int) : (dropP L x).length ≤ L.length := List.length_filter_le _ _
theorem keys_sorted {L : List Pr} (h : Rise L) : (keysP L).Pairwise (· ≤ ·) := by
  unfold keysP
  rw [List.pairwise_map]
  exact h.imp fun h => by omega
end Go.Proofs.Ytdnlgcomhgnegaa
