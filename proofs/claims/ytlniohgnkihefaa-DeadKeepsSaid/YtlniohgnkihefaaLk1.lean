/- Plain facts on blocks of memory: what a call may have turned, and rows that a slice (at whatever place of its block) stands over. Nothing is asked of the program. -/
import Derived.WalkKit
import Derived.Handy
import Derived.KernelRfl
import Derived.Deep.Draws
import Derived.ProofKit
import Derived.OpenShut
import Derived.ShutString
import Derived.ChangeOld
import Derived.SliceStrings
import Derived.Laws.BitsAllLaws
import Derived.Test.YtlniohgnkihefaaProg
import Derived.RegionTactic
import Derived.ChangeAlike
import Derived.BigRegion
import Derived.Lib.Hide
namespace Go.Proofs.Ytlniohgnkihefaa
open Go.RowKit

/-- Of what was there, blocks outside S are as they were. -/
structure Chg (S : Nat → Prop) (w w' : World) : Prop where
  os : w'.os = w.os
  tape : w'.tape = w.tape
  output : w'.output = w.output
  size : w.heap.size ≤ w'.heap.size
  block : ∀ k, k < w.heap.size → ¬ S k → w'.heap[k]? = w.heap[k]?

theorem Chg.refl (S : Nat → Prop) (w : World) : Chg S w w := ⟨rfl, rfl, rfl, Nat.le_refl _, fun _ _ _ => rfl⟩
theorem Chg.trans {S T : Nat → Prop} {a b c : World} (h : Chg S a b) (k : Chg T b c) (hT : ∀ i, i < a.heap.size → T i → S i) : Chg S a c :=
  ⟨k.os.trans h.os, k.tape.trans h.tape, k.output.trans h.output, Nat.le_trans h.size k.size,
    fun i hi hS => (k.block i (Nat.lt_of_lt_of_le hi h.size) (fun hT' => hS (hT i hi hT'))).trans (h.block i hi hS)⟩
theorem Chg.mono {S T : Nat → Prop} {a b : World} (h : Chg S a b) (hS : ∀ i, i < a.heap.size → S i → T i) : Chg T a b :=
  ⟨h.os, h.tape, h.output, h.size, fun i hi hT => h.block i hi (fun hs => hT (hS i hi hs))⟩
theorem Chg.alloc {S : Nat → Prop} {a b : World} (h : Chg S a b) (o : Obj) : Chg S a (b.alloc o) :=
  h.trans (T := fun _ => False) ⟨rfl, rfl, rfl, by simp, fun k hk _ => Below.heap_alloc b o k hk⟩ (fun _ _ h => h.elim)
theorem Chg.drew {S : Nat → Prop} {a b : World} (h : Chg S a b) : Chg S a b.drew := ⟨h.os, h.tape, h.output, h.size, h.block⟩
theorem Chg.drewN {S : Nat → Prop} {a b : World} (h : Chg S a b) (n : Nat) : Chg S a (b.drewN n) := ⟨h.os, h.tape, h.output, h.size, h.block⟩
theorem Chg.setCell {S : Nat → Prop} {a b : World} (h : Chg S a b) (p : Addr) (hp : p.block < a.heap.size → S p.block) (v : Value) : Chg S a (b.setCell p v) :=
  h.trans (T := fun k => k = p.block) ⟨rfl, rfl, rfl, by simp [World.setCell], fun k _ hk => Below.heap_setCell b p v k hk⟩ (fun i hi e => by subst e; exact hp hi)
theorem Chg.store (w : World) (b off : Nat) (v : Value) : Chg (fun k => k = b) w (w.setCell ⟨b, off, none⟩ v) :=
  ⟨rfl, rfl, rfl, by simp [World.setCell], fun k _ hk => Below.heap_setCell w ⟨b, off, none⟩ v k hk⟩
theorem Chg.of_below {a b : World} (h : Below a.heap.size a b) (S : Nat → Prop) : Chg S a b := ⟨h.os, h.tape, h.output, h.size, fun k hk _ => h.block k hk⟩
theorem Chg.below {S : Nat → Prop} {a b : World} (h : Chg S a b) {B : Nat} (hB : B ≤ a.heap.size) (hS : ∀ i, S i → B ≤ i) : Below B a b :=
  ⟨h.os, h.tape, h.output, h.size, fun k hk => h.block k (by omega) (fun hs => by have := hS k hs; omega)⟩
theorem Chg.of_grownBy {w w' : World} {row : Option Nat} (h : w.grownBy w' row) : Chg (fun k => some k = row) w w' := ⟨h.os, h.tape, h.output, h.size, fun k hk hn => h.block k hk hn⟩
theorem Chg.heap {S : Nat → Prop} {a b : World} (h : Chg S a b) {k : Nat} {o : Obj} (hk : a.heap[k]? = some o) (hn : ¬ S k) : b.heap[k]? = some o :=
  (h.block k (Array.getElem?_eq_some_iff.1 hk).1 hn).trans hk
theorem Chg.cell {S : Nat → Prop} {a b : World} (h : Chg S a b) {p : Addr} {v : Value} (hk : a.cell? p = some v) (hn : ¬ S p.block) : b.cell? p = some v :=
  (World.cell?_of_block (h.block p.block (World.block_lt_of_cell? a p hk) hn)).trans hk

theorem lt_of_heap {w : World} {b : Nat} {o : Obj} (h : w.heap[b]? = some o) : b < w.heap.size := (Array.getElem?_eq_some_iff.1 h).1

/-- v is a slice of n elements (size cells each, of type e), the cells xs; r: its block, if it has one. -/
def RowAt (w : World) (e : TypeId) (size : Nat) (v : Value) (r : Option Nat) (n : Nat) (xs : List Value) : Prop :=
  xs.length = n * size ∧
  ((v = .slice none 0 0 ∧ r = none ∧ n = 0) ∨
   ∃ g off cap cur, v = .slice (some ⟨g, off, none⟩) n cap ∧ r = some g ∧ w.heap[g]? = some (.cells cur e (0, 0)) ∧ n ≤ cap ∧ cap ≤ maxLen ∧ off + cap * size ≤ cur.size ∧ (cur.toList.drop off).take (n * size) = xs)

section
variable {w w' : World} {e size n : Nat} {v : Value} {r : Option Nat} {xs : List Value}

theorem RowAt.nil (w : World) (e size : Nat) : RowAt w e size (.slice none 0 0) none 0 [] := ⟨by simp, .inl ⟨rfl, rfl, rfl⟩⟩
theorem RowAt.len (h : RowAt w e size v r n xs) : xs.length = n * size := h.1
theorem RowAt.lt (h : RowAt w e size v r n xs) : ∀ k, r = some k → k < w.heap.size := by
  intro k hk
  rcases h.2 with ⟨_, rfl, _⟩ | ⟨g, off, cap, cur, rfl, rfl, hg, _⟩
  · cases hk
  · cases hk; exact lt_of_heap hg
theorem RowAt.kept {S : Nat → Prop} (h : RowAt w e size v r n xs) (hc : Chg S w w') (hn : ∀ k, r = some k → ¬ S k) : RowAt w' e size v r n xs := by
  refine ⟨h.1, ?_⟩
  rcases h.2 with h2 | ⟨g, off, cap, cur, hv, hr, hg, rest⟩
  · exact .inl h2
  · exact .inr ⟨g, off, cap, cur, hv, hr, hc.heap hg (hn g hr), rest⟩
theorem RowAt.alloc (h : RowAt w e size v r n xs) (o : Obj) : RowAt (w.alloc o) e size v r n xs := h.kept ((Chg.refl (fun _ => False) w).alloc o) (fun _ _ h => h)
theorem RowAt.drew (h : RowAt w e size v r n xs) : RowAt w.drew e size v r n xs := h
theorem RowAt.drewN (h : RowAt w e size v r n xs) (k : Nat) : RowAt (w.drewN k) e size v r n xs := h
/-- The slice's own shape. -/
theorem RowAt.shape (h : RowAt w e size v r n xs) : ∃ A cap, v = .slice A n cap ∧ n ≤ maxLen := by
  rcases h.2 with ⟨rfl, _, rfl⟩ | ⟨g, off, cap, cur, rfl, _, _, h1, h2, _⟩
  · exact ⟨none, 0, rfl, Nat.zero_le _⟩
  · exact ⟨_, cap, rfl, Nat.le_trans h1 h2⟩
theorem RowAt.cap_le {A : Option Addr} {cap : Nat} (h : RowAt w e size (.slice A n cap) r n xs) : n ≤ cap := by
  rcases h.2 with ⟨h0, _, rfl⟩ | ⟨g, off, cap', cur, hv, _, _, h1, _⟩
  · exact Nat.zero_le _
  · injection hv with _ _ hc; omega
/-- A row that has an element: where it lies, what its cells hold. -/
theorem RowAt.form (h : RowAt w e size v r n xs) (hp : 0 < n) : ∃ g off cap, v = .slice (some ⟨g, off, none⟩) n cap ∧ r = some g ∧ n ≤ cap ∧ cap ≤ maxLen ∧ g < w.heap.size ∧
    (∀ j u, xs[j]? = some u → w.cell? ⟨g, off + j, none⟩ = some u) ∧ (∀ j, w.frozen? ⟨g, j, none⟩ = false) := by
  rcases h.2 with ⟨_, _, rfl⟩ | ⟨g, off, cap, cur, rfl, rfl, hg, h1, h2, h3, h4⟩
  · omega
  · refine ⟨g, off, cap, rfl, rfl, h1, h2, lt_of_heap hg, fun j u hu => ?_, fun j => by simp [World.frozen?, hg]⟩
    rw [cell_of_row w g (off + j) cur e (0, 0) hg, ← Array.getElem?_toList]
    rw [← h4, List.getElem?_take] at hu
    split at hu
    · rw [List.getElem?_drop] at hu; exact hu
    · cases hu
/-- A store into one of its cells. -/
theorem RowAt.stored {g off cap : Nat} (h : RowAt w e size (.slice (some ⟨g, off, none⟩) n cap) r n xs) (j : Nat) (u : Value) (hj : j < n * size) :
    RowAt (w.setCell ⟨g, off + j, none⟩ u) e size (.slice (some ⟨g, off, none⟩) n cap) r n (xs.set j u) := by
  refine ⟨by rw [List.length_set]; exact h.1, ?_⟩
  rcases h.2 with ⟨h0, _⟩ | ⟨g', off', cap', cur, hv, hr, hg, h1, h2, h3, h4⟩
  · cases h0
  · injection hv with ha _ hc
    injection ha with ha
    injection ha with hgg ho
    subst hgg; subst ho; subst hc
    have hcap : n * size ≤ cap * size := Nat.mul_le_mul_right _ h1
    refine .inr ⟨g, off, cap, cur.setIfInBounds (off + j) u, rfl, hr, heap_setCell_same w g (off + j) cur e u hg, h1, h2, by simpa using h3, ?_⟩
    rw [Array.toList_setIfInBounds, ← h4]
    apply List.ext_getElem?
    intro q
    simp only [List.getElem?_take, List.getElem?_drop, List.getElem?_set, List.length_take, List.length_drop, Array.length_toList]
    by_cases hq : q < n * size
    · rw [if_pos hq]
      by_cases hqj : j = q
      · subst hqj
        rw [if_pos rfl, if_pos rfl, if_pos (by omega), if_pos (by omega)]
      · rw [if_neg (by omega), if_neg hqj, if_pos hq]
    · rw [if_neg hq, if_neg (by omega), if_neg hq]
/-- s[k:]: the rest of it. -/
theorem RowAt.rest {A : Option Addr} {cap k : Nat} (h : RowAt w e size (.slice A n cap) r n xs) (hk : k ≤ n) (hkc : k < cap) :
    RowAt w e size (.slice (A.map fun a => ⟨a.block, a.off + k * size, none⟩) (n - k) (cap - k)) r (n - k) (xs.drop (k * size)) := by
  refine ⟨by rw [List.length_drop, h.1, Nat.sub_mul], ?_⟩
  rcases h.2 with ⟨h0, _⟩ | ⟨g, off, cap', cur, hv, hr, hg, h1, h2, h3, h4⟩
  · injection h0; omega
  · injection hv with ha _ hc
    subst ha; subst hc
    have hcap : k * size + (cap - k) * size = cap * size := by rw [← Nat.add_mul]; congr 1; omega
    have hnn : k * size + (n - k) * size = n * size := by rw [← Nat.add_mul]; congr 1; omega
    refine .inr ⟨g, off + k * size, cap - k, cur, rfl, hr, hg, by omega, by omega, by omega, ?_⟩
    rw [← h4, ← List.drop_drop, List.drop_take]
    congr 1
    omega
end

/-- What a slice at A shows: these cells. -/
def ReadsAt (w : World) (A : Option Addr) (xs : List Value) : Prop :=
  0 < xs.length → ∃ g off, A = some ⟨g, off, none⟩ ∧ g < w.heap.size ∧ ∀ j u, xs[j]? = some u → w.cell? ⟨g, off + j, none⟩ = some u
theorem ReadsAt.below {w w' : World} {A : Option Addr} {xs : List Value} (h : ReadsAt w A xs) {B : Nat} (hb : Below B w w') (hB : ∀ g off, A = some ⟨g, off, none⟩ → g < B) : ReadsAt w' A xs := by
  intro hp
  obtain ⟨g, off, hA, hg, hc⟩ := h hp
  exact ⟨g, off, hA, Nat.lt_of_lt_of_le hg hb.size, fun j u hu => (hb.cell (p := ⟨g, off + j, none⟩) (hB g off hA)).trans (hc j u hu)⟩
theorem ReadsAt.kept {w w' : World} {A : Option Addr} {xs : List Value} (h : ReadsAt w A xs) {S : Nat → Prop} (hb : Chg S w w') (hS : ∀ g off, A = some ⟨g, off, none⟩ → g < w.heap.size → ¬ S g) : ReadsAt w' A xs := by
  intro hp
  obtain ⟨g, off, hA, hg, hc⟩ := h hp
  exact ⟨g, off, hA, Nat.lt_of_lt_of_le hg hb.size, fun j u hu => hb.cell (p := ⟨g, off + j, none⟩) (hc j u hu) (hS g off hA hg)⟩
theorem ReadsAt.lt {w : World} {A : Option Addr} {xs : List Value} (h : ReadsAt w A xs) (hp : 0 < xs.length) {g off : Nat} (hA : A = some ⟨g, off, none⟩) : g < w.heap.size := by
  obtain ⟨g', off', hA', hg, _⟩ := h hp
  rw [hA] at hA'; cases hA'; exact hg
theorem RowAt.reads {w : World} {e size n cap : Nat} {A : Option Addr} {r : Option Nat} {xs : List Value} (h : RowAt w e size (.slice A n cap) r n xs) : ReadsAt w A xs := by
  intro hp
  have hn : 0 < n := by
    rcases Nat.eq_zero_or_pos n with h0 | h0
    · subst h0; have := h.1; omega
    · exact h0
  obtain ⟨g, off, cap', hv, _, _, _, hg, hc, _⟩ := h.form hn
  injection hv with ha _ _
  exact ⟨g, off, ha, hg, hc⟩

/-- Is the new row the old one, or in a block that is new? -/
def NewOr (w : World) (r r' : Option Nat) : Prop := r' = r ∨ ∃ k, r' = some k ∧ w.heap.size ≤ k
theorem NewOr.refl (w : World) (r : Option Nat) : NewOr w r r := .inl rfl
theorem NewOr.trans {w w' : World} {r r' r'' : Option Nat} (h : NewOr w r r') (k : NewOr w' r' r'') (hs : w.heap.size ≤ w'.heap.size) : NewOr w r r'' := by
  rcases k with rfl | ⟨j, rfl, hj⟩
  · exact h
  · exact .inr ⟨j, rfl, by omega⟩
theorem NewOr.mono {w w' : World} {r r' : Option Nat} (h : NewOr w' r r') (hs : w.heap.size ≤ w'.heap.size) : NewOr w r r' := by
  rcases h with rfl | ⟨j, rfl, hj⟩
  · exact .inl rfl
  · exact .inr ⟨j, rfl, by omega⟩
theorem NewOr.old {w : World} {r r' : Option Nat} (h : NewOr w r r') {k : Nat} (hk : k < w.heap.size) (he : r' = some k) : r = some k := by
  rcases h with rfl | ⟨j, rfl, hj⟩
  · exact he
  · cases he; omega
theorem NewOr.ge {w : World} {r r' : Option Nat} {B : Nat} (h : NewOr w r r') (hB : B ≤ w.heap.size) (hr : ∀ k, r = some k → B ≤ k) : ∀ k, r' = some k → B ≤ k := by
  intro k hk
  rcases h with rfl | ⟨j, rfl, hj⟩
  · exact hr k hk
  · cases hk; omega

section
variable {P : Program} (w : World)
/-- append onto a row, whatever it is: m elements more. -/
theorem run_append_row (t ty e : Nat) (i : TypeInfo) (z : Value) (size bytes : Nat) (ht : P.underlying t = some (.slice e)) (hi : P.info? e = some i) (hz : i.zero = some z)
    (hsize : i.size = size) (hby : i.bytes = bytes) (hzs : z.cells.size = size)
    (v : Value) (r : Option Nat) (n : Nat) (xs : List Value) (hown : RowAt w e size v r n xs)
    (a : Addr) (m c : Nat) (news : List Value) (hl : news.length = m * size) (hnews : ∀ j u, news[j]? = some u → w.cell? (a.add j) = some u) (h1 : ∀ u ∈ news, u.oneCell' = true)
    (h63 : n + m ≤ maxLen) (hbytes : (n + m) * bytes ≤ 140737488355328) (hm : 0 < m) :
    ∃ v' r' w', (Builtin.append_ #[t, t] ty #[v, .slice (some a) m c]).run P w = .ok v' w' ∧ RowAt w' e size v' r' (n + m) (xs ++ news) ∧ Chg (fun k => some k = r) w w' ∧ NewOr w r r' := by
  subst hsize
  subst hby
  have hsmall : n + m ≤ 9223372036854775807 := by simp only [maxLen] at h63; omega
  have hlen : (xs ++ news).length = (n + m) * i.size := by rw [List.length_append, hown.1, hl, Nat.add_mul]
  have grown : ∀ (old : Nat), old < n + m →
      RowAt (w.drew.alloc (.cells (xs.toArray ++ news.toArray ++ Builtin.zeroCells z.cells (grownCap w (n + m) old e - (n + m))) e)) e i.size
        (.slice (some ⟨w.heap.size, 0, none⟩) (n + m) (grownCap w (n + m) old e)) (some w.heap.size) (n + m) (xs ++ news) ∧
      Chg (fun k => some k = r) w (w.drew.alloc (.cells (xs.toArray ++ news.toArray ++ Builtin.zeroCells z.cells (grownCap w (n + m) old e - (n + m))) e)) := by
    intro old ho
    have hge := grownCap_ge w (n + m) old e
    have hcm : grownCap w (n + m) old e ≤ maxLen := grownCap_le_maxLen w (n + m) old e h63
    refine ⟨⟨hlen, .inr ⟨w.heap.size, 0, _, _, rfl, rfl, heap_alloc_new w.drew _, hge, hcm, ?_, ?_⟩⟩, (Chg.refl _ w).drew.alloc _⟩
    · simp only [Array.size_append, List.size_toArray, size_zeroCells, hzs, hown.1, hl, ← Nat.add_mul]
      rw [Nat.zero_add]
      apply Nat.mul_le_mul_right
      omega
    · simp only [Array.toList_append, List.append_assoc, List.drop_zero]
      rw [← List.append_assoc, ← hlen]
      exact List.take_left
  rcases hown.2 with ⟨rfl, rfl, rfl⟩ | ⟨g, off, cap, cur, rfl, rfl, hg, hnc, hcm, hcs, htake⟩
  · have hx : xs = [] := List.eq_nil_of_length_eq_zero (by simpa using hown.1)
    subst hx
    have hr := run_append_nil (P := P) w t ty e i z ht hi hz a m c news hl hnews (by omega) (by omega) (by have hb := hbytes; simp only [Nat.zero_add] at hb; omega)
    have hgr := grown 0 (by omega)
    simp only [Nat.zero_add, List.nil_append, Array.empty_append] at hgr ⊢
    exact ⟨_, _, _, hr, hgr.1, hgr.2, .inr ⟨_, rfl, Nat.le_refl _⟩⟩
  · by_cases hroom : n + m ≤ cap
    · have hcap : (n + m) * i.size ≤ cap * i.size := Nat.mul_le_mul_right _ hroom
      have hfit : off + n * i.size + news.length ≤ cur.size := by rw [hl]; rw [Nat.add_mul] at hcap; omega
      have hst := run_storeCells_at P g (off + n * i.size) e news 0 cur w hg (by simpa using hfit) h1
      simp only [Nat.add_zero] at hst
      have hf := run_firstCells_some (P := P) w i.size m a m c news hl hnews
      have hr : (Builtin.append_ #[t, t] ty #[.slice (some ⟨g, off, none⟩) n cap, .slice (some a) m c]).run P w = .ok (.slice (some ⟨g, off, none⟩) (n + m) cap)
          (w.setRow g (cur.toList.take (off + n * i.size) ++ news ++ cur.toList.drop (off + n * i.size + news.length)).toArray) := by
        simp [Builtin.append_, run_underlying ht, sizeOf, typeInfo, hi, Builtin.lenOf, hroom, hf, Addr.add_lit, hst]
      refine ⟨_, some g, _, hr, ⟨hlen, .inr ⟨g, off, cap, _, rfl, rfl, setRow_heap w g cur _ e _ hg, hroom, hcm, ?_, ?_⟩⟩, ⟨rfl, rfl, rfl, by simp, fun k _ hk => setRow_other w g k _ (fun e => hk (by simp [e]))⟩, .inl rfl⟩
      · simp only [List.size_toArray, List.length_append, List.length_take, List.length_drop, Array.length_toList]
        omega
      · have e1 : ((cur.toList.take (off + n * i.size) ++ news ++ cur.toList.drop (off + n * i.size + news.length)).drop off).take ((n + m) * i.size) = xs ++ news := by
          rw [← htake]
          have hxl := hown.1
          apply List.ext_getElem?
          intro q
          rw [List.getElem?_take, List.getElem?_drop]
          by_cases hq : q < (n + m) * i.size
          · rw [if_pos hq]
            rw [Nat.add_mul, ← hl] at hq
            by_cases hq1 : q < n * i.size
            · rw [List.append_assoc, List.getElem?_append_left (by rw [List.length_take, Array.length_toList]; omega), List.getElem?_take, if_pos (by omega),
                List.getElem?_append_left (by rw [List.length_take, List.length_drop, Array.length_toList]; omega), List.getElem?_take, if_pos hq1, List.getElem?_drop]
            · rw [List.append_assoc, List.getElem?_append_right (by rw [List.length_take]; omega), List.getElem?_append_left (by rw [List.length_take, Array.length_toList]; omega),
                List.getElem?_append_right (by rw [List.length_take]; omega)]
              simp only [List.length_take, List.length_drop, Array.length_toList]
              congr 1
              omega
          · rw [if_neg hq, List.getElem?_eq_none]
            rw [List.length_append, List.length_take, List.length_drop, Array.length_toList]
            rw [Nat.add_mul, ← hl] at hq
            omega
        simpa using e1
    · have holds : ∀ j u, xs[j]? = some u → w.cell? ((⟨g, off, none⟩ : Addr).add j) = some u := by
        intro j u hu
        have hp : 0 < n := by
          rcases Nat.eq_zero_or_pos n with h0 | h0
          · subst h0
            have := hown.1
            rw [Nat.zero_mul] at this
            rw [List.eq_nil_of_length_eq_zero this] at hu
            cases hu
          · exact h0
        obtain ⟨g', off', cap', hv, _, _, _, _, hc, _⟩ := hown.form hp
        injection hv with ha _ _
        injection ha with ha
        injection ha with hgg ho
        subst hgg; subst ho
        rw [Addr.add_lit]
        exact hc j u hu
      have hr := run_append_grow (P := P) w t ty e i z ht hi hz ⟨g, off, none⟩ n cap xs hown.1 holds a m c news hl hnews (by omega) (by omega) (growslice_fits (by omega) hbytes)
      have hgr := grown cap (by omega)
      exact ⟨_, _, _, hr, hgr.1, hgr.2, .inr ⟨_, rfl, Nat.le_refl _⟩⟩

/-- append(v, y) of one element of one cell: behind 'at_builtin'; the goal's world is the one behind the variadic's box. -/
theorem wpList_append_one {ops : Array Oper} {rest : List Oper} {o : Oper} {a : Act} {Q : Exit → Act → World → Prop} (hgd : o.guard = none) (s x : Operand) (t e : Nat) (z : Value) (bytes : Nat)
    (ho : o.op = .call { callee := .builtin .append, args := #[s, x], argTypes := #[t, t] })
    (ht : P.underlying t = some (.slice e)) (hinfo : (P.info? e).map (fun i => (i.zero, i.size, i.bytes)) = some (some z, 1, bytes)) (hz : z.cells.size = 1)
    {v : Value} {r : Option Nat} {n : Nat} {xs : List Value} (HO : RowAt w e 1 v r n xs) (y : Value) (hs : a.eval s = v) (hx : a.eval x = .slice (some ⟨w.heap.size, 0, none⟩) 1 1) (h1 : y.oneCell' = true)
    (hl : (n + 1) * bytes ≤ 140737488355328) (hn : n < maxLen)
    (h : ∀ v' r' w', RowAt w' e 1 v' r' (n + 1) (xs ++ [y]) → Chg (fun k => some k = r) w w' → NewOr w r r' → wpList P ops Q rest (a.put o.dst v') w') :
    wpList P ops Q (o :: rest) a (w.alloc (.cells #[y] e)) := by
  obtain ⟨i0, hi, hz0, hz1, hz2⟩ := info_parts hinfo
  have hnew : ∀ j u, [y][j]? = some u → (w.alloc (.cells #[y] e)).cell? ((⟨w.heap.size, 0, none⟩ : Addr).add j) = some u := by
    intro j u hu
    match j, hu with
    | 0, hu =>
      rw [Addr.add_lit, cell_of_row _ _ _ _ _ _ (heap_alloc_new w _)]
      exact hu
  obtain ⟨v', r', w', hrun, hR, hC, hN⟩ := run_append_row (P := P) (w.alloc (.cells #[y] e)) t o.type e i0 z 1 bytes ht hi hz0 hz1 hz2 hz v r n xs (HO.alloc _)
    ⟨w.heap.size, 0, none⟩ 1 1 [y] rfl hnew (by simpa using h1) (by omega) hl (by omega)
  refine wpList_plain hgd fun K hK' => ?_
  unfold Oper.wp execOp
  simp only [ho, resolve, invoke, builtin, Sem.run_bind, Sem.run_pure, Result.andThen_ok, List.map_toArray, List.map_cons, List.map_nil, hs, hx, hrun]
  exact hK' _ _ (h v' r' w' hR (((Chg.refl _ w).alloc _).trans hC (fun _ _ h => h)) (hN.mono (by simp)))
end
end Go.Proofs.Ytlniohgnkihefaa
namespace Go.Proofs.Ytlniohgnkihefaa
open Go.ChangeShapes Go.WideShapes Go.ChangeAt Go.RowKit

theorem plain_of_cell {w : World} {a : Addr} {v : Value} (h : w.cell? (a.add 0) = some v) : ∃ g off, a = ⟨g, off, none⟩ := by
  obtain ⟨g, off, spot⟩ := a
  cases spot with
  | none => exact ⟨g, off, rfl⟩
  | some s =>
    exfalso
    unfold World.cell? at h
    split at h
    · rename_i hh
      simp [Addr.add] at h
    · cases h
theorem reads_of {w : World} {a : Addr} {xs : List Value} (h : ∀ i u, xs[i]? = some u → w.cell? (a.add i) = some u) : ReadsAt w (some a) xs := by
  intro hp
  have h0 := h 0 xs[0] (by simp [hp])
  obtain ⟨g, off, rfl⟩ := plain_of_cell h0
  refine ⟨g, off, rfl, ?_, fun j u hu => by have := h j u hu; rw [Addr.add_lit] at this; exact this⟩
  exact World.block_lt_of_cell? w ⟨g, off, none⟩ (by rw [Addr.add_lit] at h0; simpa using h0)
theorem reads_none {w : World} {a : Option Addr} : ReadsAt w a [] := fun h => by simp at h

section
variable {H : Type} {enc : TypeId × Value → H} {P : Program} {w : World} {base : Nat} {spare : Nat → Bool} {held : Bool}
/-- A slice of strings that came in. -/
theorem arg_strings {t e : TypeId} {fuel : Nat} {a : Option Addr} {n c : Nat} {x : DataW H × List MemPlace} (ht : P.underlying t = some (.slice e)) (he : P.underlying e = some .string) (hc : P.cellsOf e = 1)
    (h : DataW.trod enc P w base spare held fuel t (Value.slice a n c).cells.toList = some x) :
    ∃ ss : List ByteArray, ss.length = n ∧ n ≤ maxLen ∧ (∀ s ∈ ss, s.size ≤ maxLen) ∧ ReadsAt w a (ss.map Value.string) := by
  rcases open_strings ht he hc h with ⟨hcs, _⟩ | ⟨a', len, cap, ss, hcs, _, hl, hm, hz, _, hcell, hsz⟩
  · simp [Value.cells] at hcs
    obtain ⟨rfl, rfl, rfl⟩ := hcs
    exact ⟨[], rfl, Nat.zero_le _, by simp, reads_none⟩
  · simp [Value.cells] at hcs
    obtain ⟨rfl, rfl, rfl⟩ := hcs
    have hle : n ≤ ss.length := by rw [hz]; split <;> omega
    refine ⟨ss.take n, by simp [hle], Nat.le_trans hl hm, fun s hs => hsz s (List.mem_of_mem_take hs), reads_of fun i u hu => ?_⟩
    rw [List.getElem?_map, List.getElem?_take] at hu
    split at hu
    · rename_i hi
      rw [List.getElem?_eq_getElem (by omega)] at hu
      simp at hu
      rw [hcell i (by omega), ← hu]
      simp [show i < ss.length by omega]
    · simp at hu
/-- A slice of ints that came in. -/
theorem arg_ints {t e : TypeId} {k : IntKind} {fuel : Nat} {a : Option Addr} {n c : Nat} {x : DataW H × List MemPlace} (ht : P.underlying t = some (.slice e)) (he : P.underlying e = some (.int k)) (hc : P.cellsOf e = 1)
    (h : DataW.trod enc P w base spare held fuel t (Value.slice a n c).cells.toList = some x) :
    ∃ zs : List Int, zs.length = n ∧ n ≤ maxLen ∧ (∀ z ∈ zs, (Lit.int k z).wf = true) ∧ ReadsAt w a (zs.map (Value.int k)) := by
  rcases open_ints ht he hc h with ⟨hcs, _⟩ | ⟨a', len, cap, zs, hcs, _, hl, hm, hz, _, hcell, hwz⟩
  · simp [Value.cells] at hcs
    obtain ⟨rfl, rfl, rfl⟩ := hcs
    exact ⟨[], rfl, Nat.zero_le _, by simp, reads_none⟩
  · simp [Value.cells] at hcs
    obtain ⟨rfl, rfl, rfl⟩ := hcs
    have hle : n ≤ zs.length := by rw [hz]; split <;> omega
    refine ⟨zs.take n, by simp [hle], Nat.le_trans hl hm, fun z h => hwz z (List.mem_of_mem_take h), reads_of fun i u hu => ?_⟩
    rw [List.getElem?_map, List.getElem?_take] at hu
    split at hu
    · rename_i hi
      rw [List.getElem?_eq_getElem (by omega)] at hu
      simp at hu
      rw [hcell i (by omega), ← hu]
      simp [show i < zs.length by omega]
    · simp at hu
end
theorem i64_of_wf {z : Int} (h : (Lit.int .i64 z).wf = true) : -9223372036854775808 ≤ z ∧ z ≤ 9223372036854775807 := by
  simp [Lit.wf, IntKind.min, IntKind.max, IntKind.signed, IntKind.bits] at h
  omega
end Go.Proofs.Ytlniohgnkihefaa
namespace Go.Proofs.Ytlniohgnkihefaa
open Go

/-- Is bit n set? -/
def memW (ws : List Nat) (n : Nat) : Bool := (ws.getD (n / 64) 0).testBit (n % 64)
def big64 : Nat := 18446744073709551616
theorem big64_eq : big64 = 2 ^ 64 := by decide

theorem memW_none (ws : List Nat) (n : Nat) (h : ws.length ≤ n / 64) : memW ws n = false := by
  unfold memW
  rw [List.getD_eq_getElem?_getD, List.getElem?_eq_none h]
  simp

theorem memW_zeros (ws : List Nat) (k n : Nat) : memW (ws ++ List.replicate k 0) n = memW ws n := by
  unfold memW
  by_cases h : n / 64 < ws.length
  · simp [List.getD_eq_getElem?_getD, List.getElem?_append_left h]
  · rw [List.getD_eq_getElem?_getD, List.getElem?_append_right (by omega), List.getD_eq_getElem?_getD, List.getElem?_eq_none (l := ws) (by omega)]
    simp only [List.getElem?_replicate]
    split <;> simp

theorem memW_snoc (ws : List Nat) (n : Nat) : memW (ws ++ [0]) n = memW ws n := memW_zeros ws 1 n

theorem memW_set (ws : List Nat) (i x n : Nat) (hi : i < ws.length) : memW (ws.set i x) n = if n / 64 = i then x.testBit (n % 64) else memW ws n := by
  unfold memW
  simp only [List.getD_eq_getElem?_getD]
  by_cases h : n / 64 = i
  · rw [if_pos h, h, List.getElem?_set_self hi]; rfl
  · rw [if_neg h, List.getElem?_set_ne (by omega)]

theorem memW_put (ws : List Nat) (k n : Nat) (hi : k / 64 < ws.length) : memW (ws.set (k / 64) (ws.getD (k / 64) 0 ||| 2 ^ (k % 64))) n = (memW ws n || n == k) := by
  rw [memW_set _ _ _ _ hi]
  by_cases h : n / 64 = k / 64
  · rw [if_pos h, Nat.testBit_or, Nat.testBit_two_pow]
    unfold memW
    rw [h]
    congr 1
    rw [Bool.eq_iff_iff]
    simp
    omega
  · rw [if_neg h]
    have : (n == k) = false := by simp; intro e; exact h (by rw [e])
    rw [this, Bool.or_false]

theorem testBit_not64 (x i : Nat) (hx : x < big64) (hi : i < 64) : (big64 - 1 - x).testBit i = !x.testBit i := by
  rw [big64_eq] at *
  rw [Nat.sub_sub, Nat.add_comm 1 x, Nat.testBit_two_pow_sub_succ hx]
  simp [hi]

theorem memW_drop (ws : List Nat) (k n : Nat) (hi : k / 64 < ws.length) : memW (ws.set (k / 64) (ws.getD (k / 64) 0 &&& (big64 - 1 - 2 ^ (k % 64)))) n = (memW ws n && !(n == k)) := by
  rw [memW_set _ _ _ _ hi]
  by_cases h : n / 64 = k / 64
  · rw [if_pos h, Nat.testBit_and, testBit_not64 _ _ (by rw [big64_eq]; exact Nat.pow_lt_pow_right (by omega) (by omega)) (by omega), Nat.testBit_two_pow]
    unfold memW
    rw [h]
    congr 1
    rw [Bool.eq_iff_iff]
    simp
    omega
  · rw [if_neg h]
    have : (n == k) = false := by simp; intro e; exact h (by rw [e])
    simp [this]

theorem or_lt64 {a b : Nat} (ha : a < big64) (hb : b < big64) : a ||| b < big64 := by rw [big64_eq] at *; exact Nat.or_lt_two_pow ha hb
theorem and_lt64 {a b : Nat} (ha : a < big64) : a &&& b < big64 := Nat.lt_of_le_of_lt Nat.and_le_left ha
theorem pow_lt64 {j : Nat} (hj : j < 64) : 2 ^ j < big64 := by rw [big64_eq]; exact Nat.pow_lt_pow_right (by omega) hj

/-- A word is 0 just where none of its bits is set. -/
theorem word_zero (x : Nat) (hx : x < big64) : x = 0 ↔ ∀ i, i < 64 → x.testBit i = false := by
  constructor
  · intro h i _; subst h; simp
  · intro h
    apply Nat.eq_of_testBit_eq
    intro i
    rw [Nat.zero_testBit]
    by_cases hi : i < 64
    · exact h i hi
    · rw [big64_eq] at hx
      exact Nat.testBit_lt_two_pow (Nat.lt_of_lt_of_le hx (Nat.pow_le_pow_right (by omega) (by omega)))
end Go.Proofs.Ytlniohgnkihefaa
namespace Go.Proofs.Ytlniohgnkihefaa
open Go.RowKit

def cells64 (ws : List Nat) : List Value := ws.map fun (x : Nat) => Value.int .u64 (x : Int)
theorem cells64_at (ws : List Nat) (i : Nat) (h : i < ws.length) : (cells64 ws)[i]? = some (.int .u64 ((ws.getD i 0 : Nat) : Int)) := by
  simp [cells64, h]
theorem cells64_snoc (ws : List Nat) (x : Nat) : cells64 (ws ++ [x]) = cells64 ws ++ [.int .u64 (x : Int)] := by simp [cells64]
theorem cells64_set (ws : List Nat) (i x : Nat) : (cells64 ws).set i (.int .u64 (x : Int)) = cells64 (ws.set i x) := by simp [cells64, List.map_set]

/-- A set in memory: block b holds the slice of its words ws; r: their block. -/
structure BitsAt (w : World) (b : Nat) (r : Option Nat) (ws : List Nat) : Prop where
  ex : ∃ v, w.heap[b]? = some (.cells #[v] 81 (0, 0)) ∧ RowAt w 101 1 v r ws.length (cells64 ws)
  lt : ∀ x ∈ ws, x < big64
  len : ws.length ≤ 1024

def FootB (b : Nat) (r : Option Nat) (k : Nat) : Prop := k = b ∨ some k = r

theorem BitsAt.kept {w w' : World} {b : Nat} {r : Option Nat} {ws : List Nat} {S : Nat → Prop} (h : BitsAt w b r ws) (hc : Chg S w w') (hb : ¬ S b) (hr : ∀ k, r = some k → ¬ S k) : BitsAt w' b r ws := by
  obtain ⟨v, h1, h2⟩ := h.ex
  exact ⟨⟨v, hc.heap h1 hb, h2.kept hc hr⟩, h.lt, h.len⟩
theorem BitsAt.blt {w : World} {b : Nat} {r : Option Nat} {ws : List Nat} (h : BitsAt w b r ws) : b < w.heap.size := by
  obtain ⟨v, h1, h2⟩ := h.ex
  exact lt_of_heap h1
theorem BitsAt.rlt {w : World} {b : Nat} {r : Option Nat} {ws : List Nat} (h : BitsAt w b r ws) : ∀ k, r = some k → k < w.heap.size := by
  obtain ⟨v, h1, h2⟩ := h.ex
  exact h2.lt
theorem row_ne_of_type {w : World} {e size n b : Nat} {v : Value} {r : Option Nat} {xs : List Value} {c : Array Value} {t : Nat} {f : Nat × Nat} (h : RowAt w e size v r n xs) (hb : w.heap[b]? = some (.cells c t f)) (hne : t ≠ e) : r ≠ some b := by
  intro hr
  rcases h.2 with ⟨_, h0, _⟩ | ⟨g, off, cap, cur, hv, h0, hg, _⟩
  · rw [h0] at hr; cases hr
  · rw [h0] at hr; cases hr
    rw [hg] at hb
    injection hb with hb
    injection hb with _ ht _
    exact hne ht.symm
theorem BitsAt.ne {w : World} {b : Nat} {r : Option Nat} {ws : List Nat} (h : BitsAt w b r ws) : r ≠ some b := by
  obtain ⟨v, h1, h2⟩ := h.ex
  exact row_ne_of_type h2 h1 (by decide)
theorem getD_lt {ws : List Nat} (h : ∀ x ∈ ws, x < big64) (i : Nat) : ws.getD i 0 < big64 := by
  rw [List.getD_eq_getElem?_getD]
  cases e : ws[i]? with
  | none => exact (by decide : 0 < big64)
  | some x => exact h x (List.mem_of_getElem? e)

theorem words_cell (b : Nat) (v : Value) (w : World) (hc : w.cell? ⟨b, 0, none⟩ = some v) :
    Calls Try.prog 55 #[.pointer (some ⟨b, 0, none⟩)] w fun e w' => e = .returned v ∧ w = w' := by
  go_enter Try.func55, Try.ntmps55
  go_wp2
  go_ret
  exact ⟨rfl, rfl⟩
theorem words_nil (w : World) :
    Calls Try.prog 55 #[.pointer none] w fun e w' => e = .returned (.slice none 0 0) ∧ w = w' := by
  go_enter Try.func55, Try.ntmps55
  go_wp2
  go_ret
  exact ⟨rfl, rfl⟩

theorem ret_bool {a b : Bool} (h : a = b) : Ending.returned (.bool a) = .returned (.bool b) := by rw [h]
theorem ret_int {k : IntKind} {a b : Int} (h : a = b) : Ending.returned (.int k a) = .returned (.int k b) := by rw [h]

theorem bit_test (x j : Nat) (hx : x < big64) : (bits BinOp.and .u64 ((x : Int) / 2 ^ j) 1 == 1) = x.testBit j := by
  have e1 : ((x : Int) / 2 ^ j) = ((x / 2 ^ j : Nat) : Int) := by simp
  have hlt : x / 2 ^ j < 18446744073709551616 := Nat.lt_of_le_of_lt (Nat.div_le_self _ _) hx
  rw [e1, show (1 : Int) = ((1 : Nat) : Int) from rfl, u64_and_nat _ _ hlt (by omega)]
  rw [nat_mask1, Nat.testBit_eq_decide_div_mod_eq, Bool.eq_iff_iff]
  simp
  omega

/-- Has, of any number. -/
def hasW (ws : List Nat) (k : Int) : Bool := decide (0 ≤ k) && memW ws k.toNat

theorem has_raw (b : Nat) (A : Option Addr) (c : Nat) (k : Int) (ws : List Nat) (w : World) (hl : ws.length ≤ 1024) (hk63 : k ≤ 9223372036854775807)
    (hlt : ∀ x ∈ ws, x < big64) (hc : w.cell? ⟨b, 0, none⟩ = some (.slice A ws.length c))
    (hw : 0 < ws.length → ∃ g off, A = some ⟨g, off, none⟩ ∧ ∀ i, i < ws.length → w.cell? ⟨g, off + i, none⟩ = some (.int .u64 ((ws.getD i 0 : Nat) : Int))) :
    Calls Try.prog 43 #[.pointer (some ⟨b, 0, none⟩), .int .i64 k] w fun e w' => e = .returned (.bool (hasW ws k)) ∧ w = w' := by
  by_cases h0 : 0 ≤ k
  · by_cases hk : k / 64 < ws.length
    · obtain ⟨g, off, rfl, hcell⟩ := hw (by omega)
      have hx := hcell (k / 64).toNat (by omega)
      obtain ⟨x, hxe⟩ : ∃ x, x = ws.getD (k / 64).toNat 0 := ⟨_, rfl⟩
      rw [← hxe] at hx
      have HX := Lib.hid hxe
      clear hxe hw hcell
      have HL := Lib.hid hlt
      clear hlt
      go_enter Try.func43, Try.ntmps43
      go_wp2_with (go_at_call 55; refine (words_cell _ _ _ hc).mono ?_; rintro e w' ⟨rfl, rfl⟩)
      go_ret
      refine ⟨ret_bool ?_, rfl⟩
      rw [bit_test _ _ (by rw [HX.out]; exact getD_lt HL.out _)]
      unfold hasW memW
      rw [HX.out, show (k / 64).toNat = k.toNat / 64 from by omega, show (k % 64).toNat = k.toNat % 64 from by omega]
      simp [h0]
    · have hk' : (ws.length : Int) ≤ k / 64 := by omega
      clear hw hlt
      go_enter Try.func43, Try.ntmps43
      go_wp2_with (go_at_call 55; refine (words_cell _ _ _ hc).mono ?_; rintro e w' ⟨rfl, rfl⟩)
      go_ret
      refine ⟨ret_bool ?_, rfl⟩
      unfold hasW
      rw [memW_none _ _ (by omega)]
      simp
  · clear hw hlt
    have h0' : k < 0 := by omega
    go_enter Try.func43, Try.ntmps43
    go_wp2_with (go_at_call 55; refine (words_cell _ _ _ hc).mono ?_; rintro e w' ⟨rfl, rfl⟩)
    go_ret
    refine ⟨ret_bool ?_, rfl⟩
    unfold hasW
    simp; omega
theorem has_any {w : World} {b : Nat} {r : Option Nat} {ws : List Nat} (h : BitsAt w b r ws) (k : Int) (hk63 : k ≤ 9223372036854775807) :
    Calls Try.prog 43 #[.pointer (some ⟨b, 0, none⟩), .int .i64 k] w fun e w' => e = .returned (.bool (hasW ws k)) ∧ w = w' := by
  obtain ⟨v, h1, h2⟩ := h.ex
  obtain ⟨A, c, rfl, _⟩ := h2.shape
  refine has_raw b A c k ws w h.len hk63 h.lt (cell_of_one h1) fun hp => ?_
  obtain ⟨g, off, cap, hv, _, _, _, _, hc, _⟩ := h2.form hp
  injection hv with ha _ _
  exact ⟨g, off, ha, fun i hi => hc i _ (cells64_at ws i hi)⟩
theorem has_nil (k : Int) (hk63 : k ≤ 9223372036854775807) (w : World) :
    Calls Try.prog 43 #[.pointer none, .int .i64 k] w fun e w' => e = .returned (.bool false) ∧ w = w' := by
  by_cases h0 : 0 ≤ k
  · have h1 : 0 ≤ k / 64 := by omega
    go_enter Try.func43, Try.ntmps43
    go_wp2_with (go_at_call 55; refine (words_nil _).mono ?_; rintro e w' ⟨rfl, rfl⟩)
    go_ret
    exact ⟨rfl, rfl⟩
  · have h0' : k < 0 := by omega
    go_enter Try.func43, Try.ntmps43
    go_wp2_with (go_at_call 55; refine (words_nil _).mono ?_; rintro e w' ⟨rfl, rfl⟩)
    go_ret
    exact ⟨rfl, rfl⟩
end Go.Proofs.Ytlniohgnkihefaa
namespace Go.Proofs.Ytlniohgnkihefaa
open Go.RowKit

theorem info_u64 : (Try.prog.info? 101).map (fun i => (i.zero, i.size, i.bytes)) = some (some (.int .u64 0), 1, 8) := by kernel_rfl

def lenAt (w : World) (b : Nat) : Nat := match w.cell? ⟨b, 0, none⟩ with | some (.slice _ n _) => n | _ => 0
theorem lenAt_of {w : World} {b n c : Nat} {A : Option Addr} (h : w.cell? ⟨b, 0, none⟩ = some (.slice A n c)) : lenAt w b = n := by simp [lenAt, h]

/-- A set's words, grown: what a loop holds of them. -/
structure GrowAt (w : World) (b : Nat) (r : Option Nat) (ws : List Nat) (w' : World) (r' : Option Nat) (ws' : List Nat) : Prop where
  at_ : BitsAt w' b r' ws'
  chg : Chg (FootB b r) w w'
  new : NewOr w r r'

theorem GrowAt.refl {w : World} {b : Nat} {r : Option Nat} {ws : List Nat} (h : BitsAt w b r ws) : GrowAt w b r ws w r ws := ⟨h, Chg.refl _ _, NewOr.refl _ _⟩
theorem GrowAt.trans {w w1 w2 : World} {b : Nat} {r r1 r2 : Option Nat} {ws ws1 ws2 : List Nat} (h : GrowAt w b r ws w1 r1 ws1) (k : GrowAt w1 b r1 ws1 w2 r2 ws2) : GrowAt w b r ws w2 r2 ws2 :=
  ⟨k.at_, h.chg.trans k.chg (fun i hi hf => by
    rcases hf with hf | hf
    · exact .inl hf
    · exact .inr (h.new.old hi hf.symm).symm), h.new.trans k.new h.chg.size⟩

/-- Behind 'b.w = append(b.w, 0)': append's law has given a row; the field takes its slice. -/
theorem GrowAt.appended {W w1 : World} {b : Nat} {v v1 : Value} {r r1 : Option Nat} {ws : List Nat} (h : BitsAt W b r ws)
    (hb : W.heap[b]? = some (.cells #[v] 81 (0, 0)))
    (hR : RowAt w1 101 1 v1 r1 (ws.length + 1) (cells64 ws ++ [.int .u64 0])) (hC : Chg (fun k => some k = r) W w1) (hN : NewOr W r r1) (hl : ws.length < 1024) :
    w1.heap[b]? = some (.cells #[v] 81 (0, 0)) ∧ GrowAt W b r ws (w1.setCell ⟨b, 0, none⟩ v1) r1 (ws ++ [0]) := by
  have hne := h.ne
  have hb1 := hC.heap hb (fun e => hne e.symm)
  have hne1 : r1 ≠ some b := row_ne_of_type hR hb1 (by decide)
  have hs : Chg (fun k => k = b) w1 (w1.setCell ⟨b, 0, none⟩ v1) := Chg.store w1 b 0 v1
  refine ⟨hb1, ⟨⟨v1, one_setCell hb1, ?_⟩, ?_, by simp; omega⟩, ?_, hN⟩
  · have := hR.kept hs (fun k hk e => hne1 (by rw [hk, e]))
    rw [show (0 : Int) = ((0 : Nat) : Int) from rfl, ← cells64_snoc] at this
    simpa using this
  · intro x hx
    rcases List.mem_append.1 hx with hx | hx
    · exact h.lt x hx
    · simp at hx; subst hx; decide
  · exact (hC.mono (fun i _ hi => .inr hi)).trans hs (fun i _ hi => .inl hi)

/-- Behind a store into a word. -/
theorem GrowAt.set {W : World} {b g off c : Nat} {r : Option Nat} {ws : List Nat} (h : BitsAt W b r ws) (hb : W.heap[b]? = some (.cells #[.slice (some ⟨g, off, none⟩) ws.length c] 81 (0, 0)))
    (i x : Nat) (hi : i < ws.length) (hx : x < big64) : GrowAt W b r ws (W.setCell ⟨g, off + i, none⟩ (.int .u64 (x : Int))) r (ws.set i x) := by
  obtain ⟨v, h1, h2⟩ := h.ex
  rw [hb] at h1
  injection h1 with h1
  injection h1 with h1
  have hv : v = .slice (some ⟨g, off, none⟩) ws.length c := by
    injection h1 with h1; injection h1 with h1; exact h1.symm
  subst hv
  obtain ⟨g', off', cap, hv, hr, _⟩ := h2.form (by omega)
  injection hv with ha _ _
  injection ha with ha
  injection ha with hg ho
  subst hg; subst ho
  have hs : Chg (fun k => k = g) W (W.setCell ⟨g, off + i, none⟩ (.int .u64 (x : Int))) := Chg.store W g (off + i) _
  have hne := h.ne
  refine ⟨⟨⟨_, hs.heap hb (fun e => hne (by rw [hr, e])), ?_⟩, ?_, by simpa using h.len⟩, hs.mono (fun k _ hk => .inr (by rw [hk, hr])), NewOr.refl _ _⟩
  · have := h2.stored i (.int .u64 (x : Int)) (by omega)
    rw [cells64_set] at this
    simpa using this
  · intro y hy
    rcases List.mem_or_eq_of_mem_set hy with hy | hy
    · exact h.lt y hy
    · subst hy; exact hx

theorem BitsAt.drew {w : World} {b : Nat} {r : Option Nat} {ws : List Nat} (h : BitsAt w b r ws) : BitsAt w.drew b r ws := ⟨h.ex, h.lt, h.len⟩
theorem GrowAt.drew {w w' : World} {b : Nat} {r r' : Option Nat} {ws ws' : List Nat} (h : GrowAt w b r ws w' r' ws') : GrowAt w b r ws w'.drew r' ws' := ⟨h.at_.drew, h.chg.drew, h.new⟩

theorem or_pow (x j : Nat) (hx : x < big64) (hj : j < 64) : bits BinOp.or .u64 (x : Int) (IntKind.u64.wrap (2 ^ j)) = ((x ||| 2 ^ j : Nat) : Int) := by
  have hp := pow_lt64 hj
  have e : IntKind.u64.wrap (2 ^ j) = ((2 ^ j : Nat) : Int) := by
    rw [IntKind.wrap_u64]
    rw [show ((2 : Int) ^ j) = ((2 ^ j : Nat) : Int) from by simp]
    generalize 2 ^ j = p at hp ⊢
    unfold big64 at hp
    omega
  rw [e]
  exact u64_or_nat _ _ hx hp

def putOk (ws : List Nat) (k : Int) : Bool := decide (0 ≤ k) && decide (k < 65536) && !memW ws k.toNat

set_option maxRecDepth 100000 in
set_option maxHeartbeats 1000000 in
theorem put_in {w : World} {b : Nat} {r : Option Nat} {ws : List Nat} (h : BitsAt w b r ws) (k : Int) (h0 : 0 ≤ k) (h1 : k < 65536) (hm : memW ws k.toNat = false) :
    Calls Try.prog 57 #[.pointer (some ⟨b, 0, none⟩), .int .i64 k] w fun e w' => e = .returned (.bool true) ∧
      ∃ r' ws', GrowAt w b r ws w' r' ws' ∧ ∀ n, memW ws' n = (memW ws n || n == k.toNat) := by
  have hhas := has_any h k (by omega)
  have hf : hasW ws k = false := by unfold hasW; simp [hm]
  rw [hf] at hhas
  have H := Lib.hid h
  have HM := Lib.hid hm
  have HF := Lib.hid hhas
  clear h hm hf hhas
  go_enter Try.func57, Try.ntmps57
  go_wp2_with (go_at_call 43; refine HF.out.mono ?_; rintro e w' ⟨rfl, rfl⟩)
  go_loopw [20] (fun _ wr => ∃ r1 m, GrowAt w b r ws wr r1 (ws ++ List.replicate m 0) ∧ (m = 0 ∨ (ws.length + m : Nat) ≤ k / 64 + 1)) (fun _ wr => (k / 64 + 1).toNat - lenAt wr b)
  case atStart => exact ⟨r, 0, by simpa using GrowAt.refl H.out, .inl rfl⟩
  case round =>
    obtain ⟨r1, m, hg, hm⟩ := hrel
    obtain ⟨ws1, hws⟩ : ∃ ws1, ws1 = ws ++ List.replicate m 0 := ⟨_, rfl⟩
    rw [← hws] at hg
    have hl1 : ws1.length = ws.length + m := by rw [hws]; simp
    have HW := Lib.hid hws
    have HL1 := Lib.hid hl1
    clear hws
    obtain ⟨v, hb, hR⟩ := hg.at_.ex
    obtain ⟨A, c, rfl, hmx⟩ := hR.shape
    have hc := cell_of_one hb
    have hfz := free_of_one hb
    have hle := hg.at_.len
    have hlen := lenAt_of hc
    by_cases ht : (ws1.length : Int) ≤ k / 64
    · have HGR := Lib.hid hg
      have HLN := Lib.hid hlen
      have HM := Lib.hid hm
      clear hg hlen hm hl1
      go_wp2_with (at_builtin; refine wpList_append_one _ rfl _ _ 79 101 (.int .u64 0) 8 rfl Try.underlying79 info_u64 rfl hR _ rfl rfl rfl (by omega) (by unfold maxLen; omega) ?_; intro v' r' w' hR' hC hN; obtain ⟨A', c', rfl, _⟩ := hR'.shape; obtain ⟨hb', hG⟩ := GrowAt.appended HGR.out.at_ hb hR' hC hN (by omega); have hc' := cell_of_one hb'; have hfz' := free_of_one hb')
      go_roundw
      case rel =>
        refine ⟨r', m + 1, ?_, .inr (by have := HL1.out; omega)⟩
        have e : ws ++ List.replicate (m + 1) 0 = ws1 ++ [0] := by rw [HW.out, List.replicate_succ', List.append_assoc]
        rw [e]
        exact HGR.out.trans hG
      case measure =>
        have hcs := cell_of_one (one_setCell (u := .slice A' (ws1.length + 1) c') hb')
        rw [HLN.out, lenAt_of hcs]
        omega
    · have hg' : k / 64 < ws1.length := by omega
      have HGR := Lib.hid hg
      have HM := Lib.hid hm
      clear hg hlen hm hl1 hmx ht
      obtain ⟨g, off, c', hv, _, _, _, _, hcl, hfz2⟩ := hR.form (by omega)
      injection hv with hA _ hcc
      subst hA; subst hcc
      have hx := hcl (k / 64).toNat _ (cells64_at ws1 _ (by omega))
      have hfx := hfz2 (off + (k / 64).toNat)
      clear hcl hfz2
      obtain ⟨x, hxe⟩ : ∃ x, x = ws1.getD (k / 64).toNat 0 := ⟨_, rfl⟩
      rw [← hxe] at hx
      have HX := Lib.hid hxe
      clear hxe
      go_wp2
      go_region
      go_wp2
      go_ret
      refine ⟨rfl, r1, ws1.set (k / 64).toNat (x ||| 2 ^ (k % 64).toNat), ?_, fun n => ?_⟩
      · have hxl : x < big64 := by rw [HX.out]; exact getD_lt HGR.out.at_.lt _
        rw [or_pow _ _ hxl (by omega)]
        exact (HGR.out.trans (GrowAt.set HGR.out.at_ hb _ _ (by omega) (or_lt64 hxl (pow_lt64 (by omega))))).drew
      · rw [HX.out, show (k / 64).toNat = k.toNat / 64 from by omega, show (k % 64).toNat = k.toNat % 64 from by omega, memW_put _ _ _ (by omega), HW.out, memW_zeros]

set_option maxRecDepth 100000 in
theorem put_out {w : World} {b : Nat} {r : Option Nat} {ws : List Nat} (h : BitsAt w b r ws) (k : Int) (h63 : -9223372036854775808 ≤ k ∧ k ≤ 9223372036854775807) (ho : putOk ws k = false) :
    Calls Try.prog 57 #[.pointer (some ⟨b, 0, none⟩), .int .i64 k] w fun e w' => e = .returned (.bool false) ∧ w = w' := by
  have HF := Lib.hid (has_any h k h63.2)
  clear h
  by_cases h0 : k < 0
  · clear ho
    go_enter Try.func57, Try.ntmps57
    go_wp2_with (go_at_call 43; refine HF.out.mono ?_; rintro e w' ⟨rfl, rfl⟩)
    go_ret
    exact ⟨rfl, rfl⟩
  · by_cases h1 : 65536 ≤ k
    · clear ho
      go_enter Try.func57, Try.ntmps57
      go_wp2_with (go_at_call 43; refine HF.out.mono ?_; rintro e w' ⟨rfl, rfl⟩)
      go_ret
      exact ⟨rfl, rfl⟩
    · have hh : hasW ws k = true := by
        unfold putOk at ho
        unfold hasW
        simp only [show decide (0 ≤ k) = true by simp; omega, show decide (k < 65536) = true by simp; omega, Bool.true_and] at ho ⊢
        simpa using ho
      have h0' : 0 ≤ k := by omega
      have h1' : k < 65536 := by omega
      have HF2 := HF.out
      rw [hh] at HF2
      have HF3 := Lib.hid HF2
      clear HF HF2 ho hh h0 h1
      go_enter Try.func57, Try.ntmps57
      go_wp2_with (go_at_call 43; refine HF3.out.mono ?_; rintro e w' ⟨rfl, rfl⟩)
      go_ret
      exact ⟨rfl, rfl⟩

/-- Put, of any number. -/
theorem put_any {w : World} {b : Nat} {r : Option Nat} {ws : List Nat} (h : BitsAt w b r ws) (k : Int) (h63 : -9223372036854775808 ≤ k ∧ k ≤ 9223372036854775807) :
    Calls Try.prog 57 #[.pointer (some ⟨b, 0, none⟩), .int .i64 k] w fun e w' => e = .returned (.bool (putOk ws k)) ∧
      ∃ r' ws', GrowAt w b r ws w' r' ws' ∧ ∀ n, memW ws' n = (memW ws n || (putOk ws k && n == k.toNat)) := by
  by_cases ho : putOk ws k = true
  · have ho' := ho
    unfold putOk at ho'
    simp only [Bool.and_eq_true, decide_eq_true_eq, Bool.not_eq_true'] at ho'
    refine (put_in h k ho'.1.1 ho'.1.2 ho'.2).mono ?_
    rintro e w' ⟨he, r', ws', hg, hm⟩
    rw [ho]
    exact ⟨he, r', ws', hg, fun n => by rw [hm]; simp⟩
  · have ho' : putOk ws k = false := by simpa using ho
    refine (put_out h k h63 ho').mono ?_
    rintro e w' ⟨he, rfl⟩
    rw [ho']
    exact ⟨he, r, ws, GrowAt.refl h, fun n => by simp⟩
theorem put_nil (k : Int) (w : World) :
    Calls Try.prog 57 #[.pointer none, .int .i64 k] w fun e w' => e = .returned (.bool false) ∧ w = w' := by
  go_enter Try.func57, Try.ntmps57
  go_wp2_with fail
  go_ret
  exact ⟨rfl, rfl⟩
end Go.Proofs.Ytlniohgnkihefaa
