/- Plain facts on blocks of memory: what a call may have turned, and rows that a slice (at whatever place of its block) stands over. Nothing is asked of the program. -/
import Derived.WalkKit
import Derived.Handy
import Derived.KernelRfl
import Derived.Deep.Draws
import Derived.ProofKit
import Derived.OpenShut
import Derived.ShutString
import Derived.ChangeOld
import Derived.SliceStrings
import Derived.OrdersHeld
import Derived.Deep.RegionHeld
namespace Go.Proofs.Ytnfneinonkpmeaa
open Go.RowKit

/-- Of what was there, blocks outside S are as they were. -/
structure Chg (S : Nat → Prop) (w w' : World) : Prop where
  os : w'.os = w.os
  tape : w'.tape = w.tape
  output : w'.output = w.output
  size : w.heap.size ≤ w'.heap.size
  block : ∀ k, k < w.heap.size → ¬ S k → w'.heap[k]? = w.heap[k]?

theorem Chg.refl (S : Nat → Prop) (w : World) : Chg S w w := ⟨rfl, rfl, rfl, Nat.le_refl _, fun _ _ _ => rfl⟩
theorem Chg.trans {S T : Nat → Prop} {a b c : World} (h : Chg S a b) (k : Chg T b c) (hT : ∀ i, i < a.heap.size → T i → S i) : Chg S a c :=
  ⟨k.os.trans h.os, k.tape.trans h.tape, k.output.trans h.output, Nat.le_trans h.size k.size,
    fun i hi hS => (k.block i (Nat.lt_of_lt_of_le hi h.size) (fun hT' => hS (hT i hi hT'))).trans (h.block i hi hS)⟩
theorem Chg.mono {S T : Nat → Prop} {a b : World} (h : Chg S a b) (hS : ∀ i, i < a.heap.size → S i → T i) : Chg T a b :=
  ⟨h.os, h.tape, h.output, h.size, fun i hi hT => h.block i hi (fun hs => hT (hS i hi hs))⟩
theorem Chg.alloc {S : Nat → Prop} {a b : World} (h : Chg S a b) (o : Obj) : Chg S a (b.alloc o) :=
  h.trans (T := fun _ => False) ⟨rfl, rfl, rfl, by simp, fun k hk _ => Below.heap_alloc b o k hk⟩ (fun _ _ h => h.elim)
theorem Chg.drew {S : Nat → Prop} {a b : World} (h : Chg S a b) : Chg S a b.drew := ⟨h.os, h.tape, h.output, h.size, h.block⟩
theorem Chg.drewN {S : Nat → Prop} {a b : World} (h : Chg S a b) (n : Nat) : Chg S a (b.drewN n) := ⟨h.os, h.tape, h.output, h.size, h.block⟩
theorem Chg.setCell {S : Nat → Prop} {a b : World} (h : Chg S a b) (p : Addr) (hp : p.block < a.heap.size → S p.block) (v : Value) : Chg S a (b.setCell p v) :=
  h.trans (T := fun k => k = p.block) ⟨rfl, rfl, rfl, by simp [World.setCell], fun k _ hk => Below.heap_setCell b p v k hk⟩ (fun i hi e => by subst e; exact hp hi)
theorem Chg.store (w : World) (b off : Nat) (v : Value) : Chg (fun k => k = b) w (w.setCell ⟨b, off, none⟩ v) :=
  ⟨rfl, rfl, rfl, by simp [World.setCell], fun k _ hk => Below.heap_setCell w ⟨b, off, none⟩ v k hk⟩
theorem Chg.of_below {a b : World} (h : Below a.heap.size a b) (S : Nat → Prop) : Chg S a b := ⟨h.os, h.tape, h.output, h.size, fun k hk _ => h.block k hk⟩
theorem Chg.below {S : Nat → Prop} {a b : World} (h : Chg S a b) {B : Nat} (hB : B ≤ a.heap.size) (hS : ∀ i, S i → B ≤ i) : Below B a b :=
  ⟨h.os, h.tape, h.output, h.size, fun k hk => h.block k (by omega) (fun hs => by have := hS k hs; omega)⟩
theorem Chg.of_grownBy {w w' : World} {row : Option Nat} (h : w.grownBy w' row) : Chg (fun k => some k = row) w w' := ⟨h.os, h.tape, h.output, h.size, fun k hk hn => h.block k hk hn⟩
theorem Chg.heap {S : Nat → Prop} {a b : World} (h : Chg S a b) {k : Nat} {o : Obj} (hk : a.heap[k]? = some o) (hn : ¬ S k) : b.heap[k]? = some o :=
  (h.block k (Array.getElem?_eq_some_iff.1 hk).1 hn).trans hk
theorem Chg.cell {S : Nat → Prop} {a b : World} (h : Chg S a b) {p : Addr} {v : Value} (hk : a.cell? p = some v) (hn : ¬ S p.block) : b.cell? p = some v :=
  (World.cell?_of_block (h.block p.block (World.block_lt_of_cell? a p hk) hn)).trans hk

theorem lt_of_heap {w : World} {b : Nat} {o : Obj} (h : w.heap[b]? = some o) : b < w.heap.size := (Array.getElem?_eq_some_iff.1 h).1

/-- v is a slice of n elements (size cells each, of type e), the cells xs; r: its block, if it has one. -/
def RowAt (w : World) (e : TypeId) (size : Nat) (v : Value) (r : Option Nat) (n : Nat) (xs : List Value) : Prop :=
  xs.length = n * size ∧
  ((v = .slice none 0 0 ∧ r = none ∧ n = 0) ∨
   ∃ g off cap cur, v = .slice (some ⟨g, off, none⟩) n cap ∧ r = some g ∧ w.heap[g]? = some (.cells cur e (0, 0)) ∧ n ≤ cap ∧ cap ≤ maxLen ∧ off + cap * size ≤ cur.size ∧ (cur.toList.drop off).take (n * size) = xs)

section
variable {w w' : World} {e size n : Nat} {v : Value} {r : Option Nat} {xs : List Value}

theorem RowAt.nil (w : World) (e size : Nat) : RowAt w e size (.slice none 0 0) none 0 [] := ⟨by simp, .inl ⟨rfl, rfl, rfl⟩⟩
theorem RowAt.len (h : RowAt w e size v r n xs) : xs.length = n * size := h.1
theorem RowAt.lt (h : RowAt w e size v r n xs) : ∀ k, r = some k → k < w.heap.size := by
  intro k hk
  rcases h.2 with ⟨_, rfl, _⟩ | ⟨g, off, cap, cur, rfl, rfl, hg, _⟩
  · cases hk
  · cases hk; exact lt_of_heap hg
theorem RowAt.kept {S : Nat → Prop} (h : RowAt w e size v r n xs) (hc : Chg S w w') (hn : ∀ k, r = some k → ¬ S k) : RowAt w' e size v r n xs := by
  refine ⟨h.1, ?_⟩
  rcases h.2 with h2 | ⟨g, off, cap, cur, hv, hr, hg, rest⟩
  · exact .inl h2
  · exact .inr ⟨g, off, cap, cur, hv, hr, hc.heap hg (hn g hr), rest⟩
theorem RowAt.alloc (h : RowAt w e size v r n xs) (o : Obj) : RowAt (w.alloc o) e size v r n xs := h.kept ((Chg.refl (fun _ => False) w).alloc o) (fun _ _ h => h)
theorem RowAt.drew (h : RowAt w e size v r n xs) : RowAt w.drew e size v r n xs := h
theorem RowAt.drewN (h : RowAt w e size v r n xs) (k : Nat) : RowAt (w.drewN k) e size v r n xs := h
/-- The slice's own shape. -/
theorem RowAt.shape (h : RowAt w e size v r n xs) : ∃ A cap, v = .slice A n cap ∧ n ≤ maxLen := by
  rcases h.2 with ⟨rfl, _, rfl⟩ | ⟨g, off, cap, cur, rfl, _, _, h1, h2, _⟩
  · exact ⟨none, 0, rfl, Nat.zero_le _⟩
  · exact ⟨_, cap, rfl, Nat.le_trans h1 h2⟩
theorem RowAt.cap_le {A : Option Addr} {cap : Nat} (h : RowAt w e size (.slice A n cap) r n xs) : n ≤ cap := by
  rcases h.2 with ⟨h0, _, rfl⟩ | ⟨g, off, cap', cur, hv, _, _, h1, _⟩
  · exact Nat.zero_le _
  · injection hv with _ _ hc; omega
/-- A row that has an element: where it lies, what its cells hold. -/
theorem RowAt.form (h : RowAt w e size v r n xs) (hp : 0 < n) : ∃ g off cap, v = .slice (some ⟨g, off, none⟩) n cap ∧ r = some g ∧ n ≤ cap ∧ cap ≤ maxLen ∧ g < w.heap.size ∧
    (∀ j u, xs[j]? = some u → w.cell? ⟨g, off + j, none⟩ = some u) ∧ (∀ j, w.frozen? ⟨g, j, none⟩ = false) := by
  rcases h.2 with ⟨_, _, rfl⟩ | ⟨g, off, cap, cur, rfl, rfl, hg, h1, h2, h3, h4⟩
  · omega
  · refine ⟨g, off, cap, rfl, rfl, h1, h2, lt_of_heap hg, fun j u hu => ?_, fun j => by simp [World.frozen?, hg]⟩
    rw [cell_of_row w g (off + j) cur e (0, 0) hg, ← Array.getElem?_toList]
    rw [← h4, List.getElem?_take] at hu
    split at hu
    · rw [List.getElem?_drop] at hu; exact hu
    · cases hu
/-- A store into one of its cells. -/
theorem RowAt.stored {g off cap : Nat} (h : RowAt w e size (.slice (some ⟨g, off, none⟩) n cap) r n xs) (j : Nat) (u : Value) (hj : j < n * size) :
    RowAt (w.setCell ⟨g, off + j, none⟩ u) e size (.slice (some ⟨g, off, none⟩) n cap) r n (xs.set j u) := by
  refine ⟨by rw [List.length_set]; exact h.1, ?_⟩
  rcases h.2 with ⟨h0, _⟩ | ⟨g', off', cap', cur, hv, hr, hg, h1, h2, h3, h4⟩
  · cases h0
  · injection hv with ha _ hc
    injection ha with ha
    injection ha with hgg ho
    subst hgg; subst ho; subst hc
    have hcap : n * size ≤ cap * size := Nat.mul_le_mul_right _ h1
    refine .inr ⟨g, off, cap, cur.setIfInBounds (off + j) u, rfl, hr, heap_setCell_same w g (off + j) cur e u hg, h1, h2, by simpa using h3, ?_⟩
    rw [Array.toList_setIfInBounds, ← h4]
    apply List.ext_getElem?
    intro q
    simp only [List.getElem?_take, List.getElem?_drop, List.getElem?_set, List.length_take, List.length_drop, Array.length_toList]
    by_cases hq : q < n * size
    · rw [if_pos hq]
      by_cases hqj : j = q
      · subst hqj
        rw [if_pos rfl, if_pos rfl, if_pos (by omega), if_pos (by omega)]
      · rw [if_neg (by omega), if_neg hqj, if_pos hq]
    · rw [if_neg hq, if_neg (by omega), if_neg hq]
/-- s[k:]: the rest of it. -/
theorem RowAt.rest {A : Option Addr} {cap k : Nat} (h : RowAt w e size (.slice A n cap) r n xs) (hk : k ≤ n) (hkc : k < cap) :
    RowAt w e size (.slice (A.map fun a => ⟨a.block, a.off + k * size, none⟩) (n - k) (cap - k)) r (n - k) (xs.drop (k * size)) := by
  refine ⟨by rw [List.length_drop, h.1, Nat.sub_mul], ?_⟩
  rcases h.2 with ⟨h0, _⟩ | ⟨g, off, cap', cur, hv, hr, hg, h1, h2, h3, h4⟩
  · injection h0; omega
  · injection hv with ha _ hc
    subst ha; subst hc
    have hcap : k * size + (cap - k) * size = cap * size := by rw [← Nat.add_mul]; congr 1; omega
    have hnn : k * size + (n - k) * size = n * size := by rw [← Nat.add_mul]; congr 1; omega
    refine .inr ⟨g, off + k * size, cap - k, cur, rfl, hr, hg, by omega, by omega, by omega, ?_⟩
    rw [← h4, ← List.drop_drop, List.drop_take]
    congr 1
    omega
end

/-- What a slice at A shows: these cells. -/
def ReadsAt (w : World) (A : Option Addr) (xs : List Value) : Prop :=
  0 < xs.length → ∃ g off, A = some ⟨g, off, none⟩ ∧ g < w.heap.size ∧ ∀ j u, xs[j]? = some u → w.cell? ⟨g, off + j, none⟩ = some u
theorem ReadsAt.below {w w' : World} {A : Option Addr} {xs : List Value} (h : ReadsAt w A xs) {B : Nat} (hb : Below B w w') (hB : ∀ g off, A = some ⟨g, off, none⟩ → g < B) : ReadsAt w' A xs := by
  intro hp
  obtain ⟨g, off, hA, hg, hc⟩ := h hp
  exact ⟨g, off, hA, Nat.lt_of_lt_of_le hg hb.size, fun j u hu => (hb.cell (p := ⟨g, off + j, none⟩) (hB g off hA)).trans (hc j u hu)⟩
theorem ReadsAt.kept {w w' : World} {A : Option Addr} {xs : List Value} (h : ReadsAt w A xs) {S : Nat → Prop} (hb : Chg S w w') (hS : ∀ g off, A = some ⟨g, off, none⟩ → g < w.heap.size → ¬ S g) : ReadsAt w' A xs := by
  intro hp
  obtain ⟨g, off, hA, hg, hc⟩ := h hp
  exact ⟨g, off, hA, Nat.lt_of_lt_of_le hg hb.size, fun j u hu => hb.cell (p := ⟨g, off + j, none⟩) (hc j u hu) (hS g off hA hg)⟩
theorem ReadsAt.lt {w : World} {A : Option Addr} {xs : List Value} (h : ReadsAt w A xs) (hp : 0 < xs.length) {g off : Nat} (hA : A = some ⟨g, off, none⟩) : g < w.heap.size := by
  obtain ⟨g', off', hA', hg, _⟩ := h hp
  rw [hA] at hA'; cases hA'; exact hg
theorem RowAt.reads {w : World} {e size n cap : Nat} {A : Option Addr} {r : Option Nat} {xs : List Value} (h : RowAt w e size (.slice A n cap) r n xs) : ReadsAt w A xs := by
  intro hp
  have hn : 0 < n := by
    rcases Nat.eq_zero_or_pos n with h0 | h0
    · subst h0; have := h.1; omega
    · exact h0
  obtain ⟨g, off, cap', hv, _, _, _, hg, hc, _⟩ := h.form hn
  injection hv with ha _ _
  exact ⟨g, off, ha, hg, hc⟩

/-- Is the new row the old one, or in a block that is new? -/
def NewOr (w : World) (r r' : Option Nat) : Prop := r' = r ∨ ∃ k, r' = some k ∧ w.heap.size ≤ k
theorem NewOr.refl (w : World) (r : Option Nat) : NewOr w r r := .inl rfl
theorem NewOr.trans {w w' : World} {r r' r'' : Option Nat} (h : NewOr w r r') (k : NewOr w' r' r'') (hs : w.heap.size ≤ w'.heap.size) : NewOr w r r'' := by
  rcases k with rfl | ⟨j, rfl, hj⟩
  · exact h
  · exact .inr ⟨j, rfl, by omega⟩
theorem NewOr.mono {w w' : World} {r r' : Option Nat} (h : NewOr w' r r') (hs : w.heap.size ≤ w'.heap.size) : NewOr w r r' := by
  rcases h with rfl | ⟨j, rfl, hj⟩
  · exact .inl rfl
  · exact .inr ⟨j, rfl, by omega⟩
theorem NewOr.old {w : World} {r r' : Option Nat} (h : NewOr w r r') {k : Nat} (hk : k < w.heap.size) (he : r' = some k) : r = some k := by
  rcases h with rfl | ⟨j, rfl, hj⟩
  · exact he
  · cases he; omega
theorem NewOr.ge {w : World} {r r' : Option Nat} {B : Nat} (h : NewOr w r r') (hB : B ≤ w.heap.size) (hr : ∀ k, r = some k → B ≤ k) : ∀ k, r' = some k → B ≤ k := by
  intro k hk
  rcases h with rfl | ⟨j, rfl, hj⟩
  · exact hr k hk
  · cases hk; omega

section
variable {P : Program} (w : World)
/-- append onto a row, whatever it is: m elements more. -/
theorem run_append_row (t ty e : Nat) (i : TypeInfo) (z : Value) (size bytes : Nat) (ht : P.underlying t = some (.slice e)) (hi : P.info? e = some i) (hz : i.zero = some z)
    (hsize : i.size = size) (hby : i.bytes = bytes) (hzs : z.cells.size = size)
    (v : Value) (r : Option Nat) (n : Nat) (xs : List Value) (hown : RowAt w e size v r n xs)
    (a : Addr) (m c : Nat) (news : List Value) (hl : news.length = m * size) (hnews : ∀ j u, news[j]? = some u → w.cell? (a.add j) = some u) (h1 : ∀ u ∈ news, u.oneCell' = true)
    (h63 : n + m ≤ maxLen) (hbytes : (n + m) * bytes ≤ 140737488355328) (hm : 0 < m) :
    ∃ v' r' w', (Builtin.append_ #[t, t] ty #[v, .slice (some a) m c]).run P w = .ok v' w' ∧ RowAt w' e size v' r' (n + m) (xs ++ news) ∧ Chg (fun k => some k = r) w w' ∧ NewOr w r r' := by
  subst hsize
  subst hby
  have hsmall : n + m ≤ 9223372036854775807 := by simp only [maxLen] at h63; omega
  have hlen : (xs ++ news).length = (n + m) * i.size := by rw [List.length_append, hown.1, hl, Nat.add_mul]
  have grown : ∀ (old : Nat), old < n + m →
      RowAt (w.drew.alloc (.cells (xs.toArray ++ news.toArray ++ Builtin.zeroCells z.cells (grownCap w (n + m) old e - (n + m))) e)) e i.size
        (.slice (some ⟨w.heap.size, 0, none⟩) (n + m) (grownCap w (n + m) old e)) (some w.heap.size) (n + m) (xs ++ news) ∧
      Chg (fun k => some k = r) w (w.drew.alloc (.cells (xs.toArray ++ news.toArray ++ Builtin.zeroCells z.cells (grownCap w (n + m) old e - (n + m))) e)) := by
    intro old ho
    have hge := grownCap_ge w (n + m) old e
    have hcm : grownCap w (n + m) old e ≤ maxLen := grownCap_le_maxLen w (n + m) old e h63
    refine ⟨⟨hlen, .inr ⟨w.heap.size, 0, _, _, rfl, rfl, heap_alloc_new w.drew _, hge, hcm, ?_, ?_⟩⟩, (Chg.refl _ w).drew.alloc _⟩
    · simp only [Array.size_append, List.size_toArray, size_zeroCells, hzs, hown.1, hl, ← Nat.add_mul]
      rw [Nat.zero_add]
      apply Nat.mul_le_mul_right
      omega
    · simp only [Array.toList_append, List.append_assoc, List.drop_zero]
      rw [← List.append_assoc, ← hlen]
      exact List.take_left
  rcases hown.2 with ⟨rfl, rfl, rfl⟩ | ⟨g, off, cap, cur, rfl, rfl, hg, hnc, hcm, hcs, htake⟩
  · have hx : xs = [] := List.eq_nil_of_length_eq_zero (by simpa using hown.1)
    subst hx
    have hr := run_append_nil (P := P) w t ty e i z ht hi hz a m c news hl hnews (by omega) (by omega) (by have hb := hbytes; simp only [Nat.zero_add] at hb; omega)
    have hgr := grown 0 (by omega)
    simp only [Nat.zero_add, List.nil_append, Array.empty_append] at hgr ⊢
    exact ⟨_, _, _, hr, hgr.1, hgr.2, .inr ⟨_, rfl, Nat.le_refl _⟩⟩
  · by_cases hroom : n + m ≤ cap
    · have hcap : (n + m) * i.size ≤ cap * i.size := Nat.mul_le_mul_right _ hroom
      have hfit : off + n * i.size + news.length ≤ cur.size := by rw [hl]; rw [Nat.add_mul] at hcap; omega
      have hst := run_storeCells_at P g (off + n * i.size) e news 0 cur w hg (by simpa using hfit) h1
      simp only [Nat.add_zero] at hst
      have hf := run_firstCells_some (P := P) w i.size m a m c news hl hnews
      have hr : (Builtin.append_ #[t, t] ty #[.slice (some ⟨g, off, none⟩) n cap, .slice (some a) m c]).run P w = .ok (.slice (some ⟨g, off, none⟩) (n + m) cap)
          (w.setRow g (cur.toList.take (off + n * i.size) ++ news ++ cur.toList.drop (off + n * i.size + news.length)).toArray) := by
        simp [Builtin.append_, run_underlying ht, sizeOf, typeInfo, hi, Builtin.lenOf, hroom, hf, Addr.add_lit, hst]
      refine ⟨_, some g, _, hr, ⟨hlen, .inr ⟨g, off, cap, _, rfl, rfl, setRow_heap w g cur _ e _ hg, hroom, hcm, ?_, ?_⟩⟩, ⟨rfl, rfl, rfl, by simp, fun k _ hk => setRow_other w g k _ (fun e => hk (by simp [e]))⟩, .inl rfl⟩
      · simp only [List.size_toArray, List.length_append, List.length_take, List.length_drop, Array.length_toList]
        omega
      · have e1 : ((cur.toList.take (off + n * i.size) ++ news ++ cur.toList.drop (off + n * i.size + news.length)).drop off).take ((n + m) * i.size) = xs ++ news := by
          rw [← htake]
          have hxl := hown.1
          apply List.ext_getElem?
          intro q
          rw [List.getElem?_take, List.getElem?_drop]
          by_cases hq : q < (n + m) * i.size
          · rw [if_pos hq]
            rw [Nat.add_mul, ← hl] at hq
            by_cases hq1 : q < n * i.size
            · rw [List.append_assoc, List.getElem?_append_left (by rw [List.length_take, Array.length_toList]; omega), List.getElem?_take, if_pos (by omega),
                List.getElem?_append_left (by rw [List.length_take, List.length_drop, Array.length_toList]; omega), List.getElem?_take, if_pos hq1, List.getElem?_drop]
            · rw [List.append_assoc, List.getElem?_append_right (by rw [List.length_take]; omega), List.getElem?_append_left (by rw [List.length_take, Array.length_toList]; omega),
                List.getElem?_append_right (by rw [List.length_take]; omega)]
              simp only [List.length_take, List.length_drop, Array.length_toList]
              congr 1
              omega
          · rw [if_neg hq, List.getElem?_eq_none]
            rw [List.length_append, List.length_take, List.length_drop, Array.length_toList]
            rw [Nat.add_mul, ← hl] at hq
            omega
        simpa using e1
    · have holds : ∀ j u, xs[j]? = some u → w.cell? ((⟨g, off, none⟩ : Addr).add j) = some u := by
        intro j u hu
        have hp : 0 < n := by
          rcases Nat.eq_zero_or_pos n with h0 | h0
          · subst h0
            have := hown.1
            rw [Nat.zero_mul] at this
            rw [List.eq_nil_of_length_eq_zero this] at hu
            cases hu
          · exact h0
        obtain ⟨g', off', cap', hv, _, _, _, _, hc, _⟩ := hown.form hp
        injection hv with ha _ _
        injection ha with ha
        injection ha with hgg ho
        subst hgg; subst ho
        rw [Addr.add_lit]
        exact hc j u hu
      have hr := run_append_grow (P := P) w t ty e i z ht hi hz ⟨g, off, none⟩ n cap xs hown.1 holds a m c news hl hnews (by omega) (by omega) (growslice_fits (by omega) hbytes)
      have hgr := grown cap (by omega)
      exact ⟨_, _, _, hr, hgr.1, hgr.2, .inr ⟨_, rfl, Nat.le_refl _⟩⟩

/-- append(v, y) of one element of one cell: behind 'at_builtin'; the goal's world is the one behind the variadic's box. -/
theorem wpList_append_one {ops : Array Oper} {rest : List Oper} {o : Oper} {a : Act} {Q : Exit → Act → World → Prop} (hgd : o.guard = none) (s x : Operand) (t e : Nat) (z : Value) (bytes : Nat)
    (ho : o.op = .call { callee := .builtin .append, args := #[s, x], argTypes := #[t, t] })
    (ht : P.underlying t = some (.slice e)) (hinfo : (P.info? e).map (fun i => (i.zero, i.size, i.bytes)) = some (some z, 1, bytes)) (hz : z.cells.size = 1)
    {v : Value} {r : Option Nat} {n : Nat} {xs : List Value} (HO : RowAt w e 1 v r n xs) (y : Value) (hs : a.eval s = v) (hx : a.eval x = .slice (some ⟨w.heap.size, 0, none⟩) 1 1) (h1 : y.oneCell' = true)
    (hl : (n + 1) * bytes ≤ 140737488355328) (hn : n < maxLen)
    (h : ∀ v' r' w', RowAt w' e 1 v' r' (n + 1) (xs ++ [y]) → Chg (fun k => some k = r) w w' → NewOr w r r' → wpList P ops Q rest (a.put o.dst v') w') :
    wpList P ops Q (o :: rest) a (w.alloc (.cells #[y] e)) := by
  obtain ⟨i0, hi, hz0, hz1, hz2⟩ := info_parts hinfo
  have hnew : ∀ j u, [y][j]? = some u → (w.alloc (.cells #[y] e)).cell? ((⟨w.heap.size, 0, none⟩ : Addr).add j) = some u := by
    intro j u hu
    match j, hu with
    | 0, hu =>
      rw [Addr.add_lit, cell_of_row _ _ _ _ _ _ (heap_alloc_new w _)]
      exact hu
  obtain ⟨v', r', w', hrun, hR, hC, hN⟩ := run_append_row (P := P) (w.alloc (.cells #[y] e)) t o.type e i0 z 1 bytes ht hi hz0 hz1 hz2 hz v r n xs (HO.alloc _)
    ⟨w.heap.size, 0, none⟩ 1 1 [y] rfl hnew (by simpa using h1) (by omega) hl (by omega)
  refine wpList_plain hgd fun K hK' => ?_
  unfold Oper.wp execOp
  simp only [ho, resolve, invoke, builtin, Sem.run_bind, Sem.run_pure, Result.andThen_ok, List.map_toArray, List.map_cons, List.map_nil, hs, hx, hrun]
  exact hK' _ _ (h v' r' w' hR (((Chg.refl _ w).alloc _).trans hC (fun _ _ h => h)) (hN.mono (by simp)))
end
end Go.Proofs.Ytnfneinonkpmeaa
namespace Go.Proofs.Ytnfneinonkpmeaa
open Go.ChangeShapes Go.WideShapes Go.ChangeAt Go.RowKit

theorem plain_of_cell {w : World} {a : Addr} {v : Value} (h : w.cell? (a.add 0) = some v) : ∃ g off, a = ⟨g, off, none⟩ := by
  obtain ⟨g, off, spot⟩ := a
  cases spot with
  | none => exact ⟨g, off, rfl⟩
  | some s =>
    exfalso
    unfold World.cell? at h
    split at h
    · rename_i hh
      simp [Addr.add] at h
    · cases h
theorem reads_of {w : World} {a : Addr} {xs : List Value} (h : ∀ i u, xs[i]? = some u → w.cell? (a.add i) = some u) : ReadsAt w (some a) xs := by
  intro hp
  have h0 := h 0 xs[0] (by simp [hp])
  obtain ⟨g, off, rfl⟩ := plain_of_cell h0
  refine ⟨g, off, rfl, ?_, fun j u hu => by have := h j u hu; rw [Addr.add_lit] at this; exact this⟩
  exact World.block_lt_of_cell? w ⟨g, off, none⟩ (by rw [Addr.add_lit] at h0; simpa using h0)
theorem reads_none {w : World} {a : Option Addr} : ReadsAt w a [] := fun h => by simp at h

section
variable {H : Type} {enc : TypeId × Value → H} {P : Program} {w : World} {base : Nat} {spare : Nat → Bool} {held : Bool}
/-- A slice of strings that came in. -/
theorem arg_strings {t e : TypeId} {fuel : Nat} {a : Option Addr} {n c : Nat} {x : DataW H × List MemPlace} (ht : P.underlying t = some (.slice e)) (he : P.underlying e = some .string) (hc : P.cellsOf e = 1)
    (h : DataW.trod enc P w base spare held fuel t (Value.slice a n c).cells.toList = some x) :
    ∃ ss : List ByteArray, ss.length = n ∧ n ≤ maxLen ∧ (∀ s ∈ ss, s.size ≤ maxLen) ∧ ReadsAt w a (ss.map Value.string) := by
  rcases open_strings ht he hc h with ⟨hcs, _⟩ | ⟨a', len, cap, ss, hcs, _, hl, hm, hz, _, hcell, hsz⟩
  · simp [Value.cells] at hcs
    obtain ⟨rfl, rfl, rfl⟩ := hcs
    exact ⟨[], rfl, Nat.zero_le _, by simp, reads_none⟩
  · simp [Value.cells] at hcs
    obtain ⟨rfl, rfl, rfl⟩ := hcs
    have hle : n ≤ ss.length := by rw [hz]; split <;> omega
    refine ⟨ss.take n, by simp [hle], Nat.le_trans hl hm, fun s hs => hsz s (List.mem_of_mem_take hs), reads_of fun i u hu => ?_⟩
    rw [List.getElem?_map, List.getElem?_take] at hu
    split at hu
    · rename_i hi
      rw [List.getElem?_eq_getElem (by omega)] at hu
      simp at hu
      rw [hcell i (by omega), ← hu]
      simp [show i < ss.length by omega]
    · simp at hu
/-- A slice of ints that came in. -/
theorem arg_ints {t e : TypeId} {k : IntKind} {fuel : Nat} {a : Option Addr} {n c : Nat} {x : DataW H × List MemPlace} (ht : P.underlying t = some (.slice e)) (he : P.underlying e = some (.int k)) (hc : P.cellsOf e = 1)
    (h : DataW.trod enc P w base spare held fuel t (Value.slice a n c).cells.toList = some x) :
    ∃ zs : List Int, zs.length = n ∧ n ≤ maxLen ∧ (∀ z ∈ zs, (Lit.int k z).wf = true) ∧ ReadsAt w a (zs.map (Value.int k)) := by
  rcases open_ints ht he hc h with ⟨hcs, _⟩ | ⟨a', len, cap, zs, hcs, _, hl, hm, hz, _, hcell, hwz⟩
  · simp [Value.cells] at hcs
    obtain ⟨rfl, rfl, rfl⟩ := hcs
    exact ⟨[], rfl, Nat.zero_le _, by simp, reads_none⟩
  · simp [Value.cells] at hcs
    obtain ⟨rfl, rfl, rfl⟩ := hcs
    have hle : n ≤ zs.length := by rw [hz]; split <;> omega
    refine ⟨zs.take n, by simp [hle], Nat.le_trans hl hm, fun z h => hwz z (List.mem_of_mem_take h), reads_of fun i u hu => ?_⟩
    rw [List.getElem?_map, List.getElem?_take] at hu
    split at hu
    · rename_i hi
      rw [List.getElem?_eq_getElem (by omega)] at hu
      simp at hu
      rw [hcell i (by omega), ← hu]
      simp [show i < zs.length by omega]
    · simp at hu
end
theorem i64_of_wf {z : Int} (h : (Lit.int .i64 z).wf = true) : -9223372036854775808 ≤ z ∧ z ≤ 9223372036854775807 := by
  simp [Lit.wf, IntKind.min, IntKind.max, IntKind.signed, IntKind.bits] at h
  omega
end Go.Proofs.Ytnfneinonkpmeaa
namespace Go.Proofs.Ytnfneinonkpmeaa
open Go
section
variable {P : Program} {ops : Array Oper} {Q : Exit → Act → World → Prop} {md : Region.Mode} {S : World → Prop} {T : List Nat}

/-- As long as nothing late has come up, S holds. -/
def DL (T : List Nat) (S : World → Prop) (listed : Array Bool) (w : World) : Prop := (∀ t ∈ T, listed.getD t false = false) → S w
theorem getD_set_ne' {l : Array Bool} {i j : Nat} (h : i ≠ j) : (l.setIfInBounds i true).getD j false = l.getD j false := by
  simp [Array.getD_eq_getD_getElem?, Array.getElem?_setIfInBounds_ne h]
theorem DL.set_iff {listed : Array Bool} {i : Nat} {w : World} (hi : T.contains i = false) : DL T S (listed.setIfInBounds i true) w ↔ DL T S listed w := by
  have h : ∀ t ∈ T, (listed.setIfInBounds i true).getD t false = listed.getD t false := fun t ht => getD_set_ne' fun e => by
    subst e
    have : T.contains i = true := by simpa using ht
    rw [hi] at this; cases this
  constructor
  · intro hd hl; exact hd fun t ht => by rw [h t ht]; exact hl t ht
  · intro hd hl; exact hd fun t ht => by rw [← h t ht]; exact hl t ht
/-- Whatever order is picked from here on. -/
def wpAnyT (P : Program) (md : Region.Mode) (ops : Array Oper) (Q : Exit → Act → World → Prop) (S : World → Prop) (T : List Nat) : Nat → Array Bool → Act → World → Prop
  | 0, listed, a, w => Region.ready md ops listed = [] ∧ Q .normal a w
  | fuel + 1, listed, a, w =>
    (Region.ready md ops listed = [] → Q .normal a w) ∧
    ∀ i ∈ Region.ready md ops listed, wpOp P ops Q i (fun a' w' => DL T S (listed.setIfInBounds i true) w' ∧ wpAnyT P md ops Q S T fuel (listed.setIfInBounds i true) a' w') a w
theorem wpAny_of_T : ∀ (fuel : Nat) (listed : Array Bool) (a : Act) (w : World), wpAnyT P md ops Q S T fuel listed a w → wpAny P md ops Q fuel listed a w
  | 0, _, _, _, h => h
  | fuel + 1, _, _, _, h => ⟨h.1, fun i hi => wpOp_mono (fun a' w' h' => wpAny_of_T fuel _ a' w' h'.2) (h.2 i hi)⟩
/-- c: is it a load, for which the late ones wait? -/
theorem wpAnyT_first (c : Bool) {i : Nat} {oi : Oper} {v : Value} (hi : ops[i]? = some oi) (hsel : ∀ (j : Nat) (o : Oper) cs b, ops[j]? = some o → o.op ≠ .select cs b)
    (hQ : ∀ c a w, Q (.panic c) (a.put oi.dst v) w → Q (.panic c) a w) (hTi : T.contains i = false)
    (hwait : c = true → ∀ t ∈ T, ∀ ot, ops[t]? = some ot → ∃ e ∈ ot.after, Region.binds md e = true ∧ e.on = i) :
    ∀ (fuel : Nat) (listed : Array Bool) (a : Act) (w : World),
      (∀ j oj, ops[j]? = some oj → j ≠ i → listed.getD j true = false → (∀ e ∈ oj.after, Region.binds md e = true → e.on ≠ i) → oi.apart ops oj = true) →
      i ∈ Region.ready md ops listed → (c = true → ∀ t ∈ T, listed.getD t false = false) → YieldsIf P ops (fun w => c = true → S w) oi v a → DL T S listed w →
      wpAnyT P md ops Q S T fuel (listed.setIfInBounds i true) (a.put oi.dst v) w → wpAnyT P md ops Q S T (fuel + 1) listed a w := by
  intro fuel
  induction fuel with
  | zero =>
    intro listed a w _ hr hin hy hS H
    refine ⟨fun h => (by rw [h] at hr; cases hr), fun j hj => ?_⟩
    by_cases hji : j = i
    · subst hji; exact hy.wpOp hi (fun hc => hS (hin hc)) ⟨(DL.set_iff hTi).2 hS, H⟩
    · have := ready_mono hj hji
      rw [H.1] at this
      cases this
  | succ fuel ih =>
    intro listed a w hfree hr hin hy hS H
    refine ⟨fun h => (by rw [h] at hr; cases hr), fun j hj => ?_⟩
    by_cases hji : j = i
    · subst hji; exact hy.wpOp hi (fun hc => hS (hin hc)) ⟨(DL.set_iff hTi).2 hS, H⟩
    · have h1 := H.2 j (ready_mono hj hji)
      obtain ⟨hjun, oj, hoj, hall⟩ := mem_ready.1 hj
      have hnot : ∀ e ∈ oj.after, Region.binds md e = true → e.on ≠ i := fun e he hb heq => by
        have h1 := hall e he hb
        have h0 := (mem_ready.1 hr).1
        rw [heq] at h1
        rcases Nat.lt_or_ge i listed.size with h' | h'
        · simp [h'] at h0 h1; rw [h0] at h1; cases h1
        · simp [Array.getElem?_eq_none h'] at h1
      have h2 := wpOp_putIf hoj (hfree j oj hoj hji hjun hnot) (fun cs b => hsel i oi cs b hi) (fun cs b => hsel j oj cs b hoj) hQ hy h1
      have hfree' : ∀ k ok, ops[k]? = some ok → k ≠ i → (listed.setIfInBounds j true).getD k true = false →
          (∀ e ∈ ok.after, Region.binds md e = true → e.on ≠ i) → oi.apart ops ok = true := fun k ok hk hki hun hno => by
        refine hfree k ok hk hki ?_ hno
        by_cases hjk : j = k
        · subst hjk; exact hjun
        · rw [getD_set_ne true hjk] at hun; exact hun
      have hin' : c = true → ∀ t ∈ T, (listed.setIfInBounds j true).getD t false = false := fun hc t ht => by
        rw [getD_set_ne' fun e => ?_]
        · exact hin hc t ht
        · subst e
          obtain ⟨e, he, hb, he2⟩ := hwait hc j ht oj hoj
          exact hnot e he hb he2
      refine wpOp_mono (fun a' w' h3 => ?_) h2
      rw [Array.setIfInBounds_comm _ _ (Ne.symm hji)] at h3
      have h4 := (DL.set_iff hTi).1 h3.2.1
      exact ⟨h4, ih (listed.setIfInBounds j true) a' w' hfree' (ready_mono hr (Ne.symm hji)) hin' h3.1 h4 h3.2.2⟩

def waits (md : Region.Mode) (ops : Array Oper) (T : List Nat) (i : Nat) : Bool := T.all fun t => match ops[t]? with
  | some o => o.after.any fun e => Region.binds md e && e.on == i
  | none => true
theorem waits_spec {i : Nat} (h : waits md ops T i = true) : ∀ t ∈ T, ∀ ot, ops[t]? = some ot → ∃ e ∈ ot.after, Region.binds md e = true ∧ e.on = i := by
  intro t ht ot hot
  have h1 := List.all_eq_true.1 h t ht
  rw [hot] at h1
  simp only [Array.any_eq_true'] at h1
  obtain ⟨e, he, h2⟩ := h1
  simp only [Bool.and_eq_true, beq_iff_eq] at h2
  exact ⟨e, he, h2⟩
/-- A worldless operation, first. -/
theorem wpAnyT_take {i : Nat} {oi : Oper} {v : Value} {fuel : Nat} {listed : Array Bool} {a : Act} {w : World} (hi : ops[i]? = some oi)
    (hs : Region.noSelect ops = true) (hf : Region.free md ops listed i = true) (hr : (Region.ready md ops listed).contains i = true) (hT : T.contains i = false)
    (hQ : ∀ c a w, Q (.panic c) (a.put oi.dst v) w → Q (.panic c) a w) (hy : YieldsIf P ops (fun w => false = true → S w) oi v a) (hS : DL T S listed w)
    (h : wpAnyT P md ops Q S T fuel (listed.setIfInBounds i true) (a.put oi.dst v) w) : wpAnyT P md ops Q S T (fuel + 1) listed a w :=
  wpAnyT_first false hi (Region.noSelect_spec hs) hQ hT (fun h => by cases h) fuel listed a w (Region.free_spec hi hf) (by simpa using hr) (fun h => by cases h) hy hS h
/-- A load, first. -/
theorem wpAnyT_load {i : Nat} {oi : Oper} {v : Value} {fuel : Nat} {listed : Array Bool} {a : Act} {w : World} (hi : ops[i]? = some oi)
    (hs : Region.noSelect ops = true) (hf : Region.free md ops listed i = true) (hr : (Region.ready md ops listed).contains i = true) (hT : T.contains i = false) (hw : waits md ops T i = true) (hn : (T.all fun t => !listed.getD t false) = true)
    (hQ : ∀ c a w, Q (.panic c) (a.put oi.dst v) w → Q (.panic c) a w) (hy : YieldsIf P ops (fun w => true = true → S w) oi v a) (hS : DL T S listed w)
    (h : wpAnyT P md ops Q S T fuel (listed.setIfInBounds i true) (a.put oi.dst v) w) : wpAnyT P md ops Q S T (fuel + 1) listed a w :=
  wpAnyT_first true hi (Region.noSelect_spec hs) hQ hT (fun _ => waits_spec hw) fuel listed a w (Region.free_spec hi hf) (by simpa using hr) (fun _ t ht => by simpa using List.all_eq_true.1 hn t ht) hy hS h
def AllReadyT (P : Program) (md : Region.Mode) (ops : Array Oper) (Q : Exit → Act → World → Prop) (S : World → Prop) (T : List Nat) (fuel : Nat) (listed : Array Bool) (a : Act) (w : World) (rs : List Nat) : Prop :=
  ∀ i ∈ rs, wpOp P ops Q i (fun a' w' => DL T S (listed.setIfInBounds i true) w' ∧ wpAnyT P md ops Q S T fuel (listed.setIfInBounds i true) a' w') a w
theorem AllReadyT.nil {fuel : Nat} {listed : Array Bool} {a : Act} {w : World} : AllReadyT P md ops Q S T fuel listed a w [] := fun _ h => by cases h
theorem AllReadyT.cons {fuel : Nat} {listed : Array Bool} {a : Act} {w : World} {i : Nat} {o : Oper} {rs : List Nat} (ho : ops[i]? = some o)
    (h : ∀ K' : Act → World → Prop, Shut (∀ a w, DL T S (listed.setIfInBounds i true) w → (DL T S (listed.setIfInBounds i true) w → wpAnyT P md ops Q S T fuel (listed.setIfInBounds i true) a w) → K' a w) → if Region.wanted o (yielded ops a.tmps) = true then Oper.wp P o a w K' Q else K' (a.put o.dst undef) w)
    (hs : AllReadyT P md ops Q S T fuel listed a w rs) : AllReadyT P md ops Q S T fuel listed a w (i :: rs) := fun j hj => by
  rcases List.mem_cons.1 hj with rfl | hj
  · exact wpOp_step ho (fun K' hK => h K' (fun a w hS hW => hK a w ⟨hS, hW hS⟩))
  · exact hs j hj
theorem wpAnyT_ready {rs : List Nat} {fuel : Nat} {listed : Array Bool} {a : Act} {w : World} (hr : Region.ready md ops listed = rs) (hne : rs ≠ [])
    (h : AllReadyT P md ops Q S T fuel listed a w rs) : wpAnyT P md ops Q S T (fuel + 1) listed a w := ⟨fun h0 => absurd (hr ▸ h0) hne, hr ▸ h⟩
theorem wpAnyT_done {listed : Array Bool} {a : Act} {w : World} (hr : Region.ready md ops listed = []) (h : Q .normal a w) : ∀ fuel, wpAnyT P md ops Q S T fuel listed a w
  | 0 => ⟨hr, h⟩
  | _ + 1 => ⟨fun _ => h, by rw [hr]; simp⟩
theorem wp_region_T {id : Nat} {a : Act} {w : World} (S : World → Prop) (T : List Nat) (hm : P.follows .mixedOrders = true) (hS : S w.drew)
    (h : DL T S (Array.replicate ops.size false) w.drew → wpAnyT P .any ops Q S T ops.size (Array.replicate ops.size false) a w.drew) : (Code.region id ops true).wp P Q a w :=
  wp_region_any hm (wpAny_of_T _ _ _ _ (h fun _ => hS))
/-- Once something late has come up, nothing is asked of the world. -/
theorem DL.late {listed : Array Bool} {w : World} (h : (T.any fun t => listed.getD t false) = true) : DL T S listed w := fun hl => by
  obtain ⟨t, ht, h2⟩ := List.any_eq_true.1 h
  rw [hl t ht] at h2; cases h2
theorem DL.of {listed : Array Bool} {w : World} (h : S w) : DL T S listed w := fun _ => h
end
end Go.Proofs.Ytnfneinonkpmeaa
namespace Go.Proofs.Ytnfneinonkpmeaa

def I64 (z : Int) : Prop := -9223372036854775808 ≤ z ∧ z ≤ 9223372036854775807
def ints (zs : List Int) : List Value := zs.map fun z => Value.int .i64 z
theorem ints_length (zs : List Int) : (ints zs).length = zs.length := by simp [ints]
theorem ints_at (zs : List Int) (i : Nat) (h : i < zs.length) : (ints zs)[i]? = some (.int .i64 (zs.getD i 0)) := by simp [ints, h]
end Go.Proofs.Ytnfneinonkpmeaa
