/- Plain facts on blocks of memory: what a call may have turned, and rows that a slice (at whatever place of its block) stands over. Nothing is asked of the program. -/
import Derived.WalkKit
import Derived.Handy
import Derived.KernelRfl
import Derived.Deep.Draws
namespace Go.Proofs.Ytlniohgnkihefaa
open Go.RowKit

/-- Of what was there, blocks outside S are as they were. -/
structure Chg (S : Nat → Prop) (w w' : World) : Prop where
  os : w'.os = w.os
  tape : w'.tape = w.tape
  output : w'.output = w.output
  size : w.heap.size ≤ w'.heap.size
  block : ∀ k, k < w.heap.size → ¬ S k → w'.heap[k]? = w.heap[k]?

theorem Chg.refl (S : Nat → Prop) (w : World) : Chg S w w := ⟨rfl, rfl, rfl, Nat.le_refl _, fun _ _ _ => rfl⟩
theorem Chg.trans {S T : Nat → Prop} {a b c : World} (h : Chg S a b) (k : Chg T b c) (hT : ∀ i, i < a.heap.size → T i → S i) : Chg S a c :=
  ⟨k.os.trans h.os, k.tape.trans h.tape, k.output.trans h.output, Nat.le_trans h.size k.size,
    fun i hi hS => (k.block i (Nat.lt_of_lt_of_le hi h.size) (fun hT' => hS (hT i hi hT'))).trans (h.block i hi hS)⟩
theorem Chg.mono {S T : Nat → Prop} {a b : World} (h : Chg S a b) (hS : ∀ i, i < a.heap.size → S i → T i) : Chg T a b :=
  ⟨h.os, h.tape, h.output, h.size, fun i hi hT => h.block i hi (fun hs => hT (hS i hi hs))⟩
theorem Chg.alloc {S : Nat → Prop} {a b : World} (h : Chg S a b) (o : Obj) : Chg S a (b.alloc o) :=
  h.trans (T := fun _ => False) ⟨rfl, rfl, rfl, by simp, fun k hk _ => Below.heap_alloc b o k hk⟩ (fun _ _ h => h.elim)
theorem Chg.drew {S : Nat → Prop} {a b : World} (h : Chg S a b) : Chg S a b.drew := ⟨h.os, h.tape, h.output, h.size, h.block⟩
theorem Chg.drewN {S : Nat → Prop} {a b : World} (h : Chg S a b) (n : Nat) : Chg S a (b.drewN n) := ⟨h.os, h.tape, h.output, h.size, h.block⟩
theorem Chg.setCell {S : Nat → Prop} {a b : World} (h : Chg S a b) (p : Addr) (hp : p.block < a.heap.size → S p.block) (v : Value) : Chg S a (b.setCell p v) :=
  h.trans (T := fun k => k = p.block) ⟨rfl, rfl, rfl, by simp [World.setCell], fun k _ hk => Below.heap_setCell b p v k hk⟩ (fun i hi e => by subst e; exact hp hi)
theorem Chg.store (w : World) (b off : Nat) (v : Value) : Chg (fun k => k = b) w (w.setCell ⟨b, off, none⟩ v) :=
  ⟨rfl, rfl, rfl, by simp [World.setCell], fun k _ hk => Below.heap_setCell w ⟨b, off, none⟩ v k hk⟩
theorem Chg.of_below {a b : World} (h : Below a.heap.size a b) (S : Nat → Prop) : Chg S a b := ⟨h.os, h.tape, h.output, h.size, fun k hk _ => h.block k hk⟩
theorem Chg.below {S : Nat → Prop} {a b : World} (h : Chg S a b) {B : Nat} (hB : B ≤ a.heap.size) (hS : ∀ i, S i → B ≤ i) : Below B a b :=
  ⟨h.os, h.tape, h.output, h.size, fun k hk => h.block k (by omega) (fun hs => by have := hS k hs; omega)⟩
theorem Chg.of_grownBy {w w' : World} {row : Option Nat} (h : w.grownBy w' row) : Chg (fun k => some k = row) w w' := ⟨h.os, h.tape, h.output, h.size, fun k hk hn => h.block k hk hn⟩
theorem Chg.heap {S : Nat → Prop} {a b : World} (h : Chg S a b) {k : Nat} {o : Obj} (hk : a.heap[k]? = some o) (hn : ¬ S k) : b.heap[k]? = some o :=
  (h.block k (Array.getElem?_eq_some_iff.1 hk).1 hn).trans hk
theorem Chg.cell {S : Nat → Prop} {a b : World} (h : Chg S a b) {p : Addr} {v : Value} (hk : a.cell? p = some v) (hn : ¬ S p.block) : b.cell? p = some v :=
  (World.cell?_of_block (h.block p.block (World.block_lt_of_cell? a p hk) hn)).trans hk

theorem lt_of_heap {w : World} {b : Nat} {o : Obj} (h : w.heap[b]? = some o) : b < w.heap.size := (Array.getElem?_eq_some_iff.1 h).1

/-- v is a slice of n elements (size cells each, of type e), the cells xs; r: its block, if it has one. -/
def RowAt (w : World) (e : TypeId) (size : Nat) (v : Value) (r : Option Nat) (n : Nat) (xs : List Value) : Prop :=
  xs.length = n * size ∧
  ((v = .slice none 0 0 ∧ r = none ∧ n = 0) ∨
   ∃ g off cap cur, v = .slice (some ⟨g, off, none⟩) n cap ∧ r = some g ∧ w.heap[g]? = some (.cells cur e (0, 0)) ∧ n ≤ cap ∧ cap ≤ maxLen ∧ off + cap * size ≤ cur.size ∧ (cur.toList.drop off).take (n * size) = xs)

section
variable {w w' : World} {e size n : Nat} {v : Value} {r : Option Nat} {xs : List Value}

theorem RowAt.nil (w : World) (e size : Nat) : RowAt w e size (.slice none 0 0) none 0 [] := ⟨by simp, .inl ⟨rfl, rfl, rfl⟩⟩
theorem RowAt.len (h : RowAt w e size v r n xs) : xs.length = n * size := h.1
theorem RowAt.lt (h : RowAt w e size v r n xs) : ∀ k, r = some k → k < w.heap.size := by
  intro k hk
  rcases h.2 with ⟨_, rfl, _⟩ | ⟨g, off, cap, cur, rfl, rfl, hg, _⟩
  · cases hk
  · cases hk; exact lt_of_heap hg
theorem RowAt.kept {S : Nat → Prop} (h : RowAt w e size v r n xs) (hc : Chg S w w') (hn : ∀ k, r = some k → ¬ S k) : RowAt w' e size v r n xs := by
  refine ⟨h.1, ?_⟩
  rcases h.2 with h2 | ⟨g, off, cap, cur, hv, hr, hg, rest⟩
  · exact .inl h2
  · exact .inr ⟨g, off, cap, cur, hv, hr, hc.heap hg (hn g hr), rest⟩
theorem RowAt.alloc (h : RowAt w e size v r n xs) (o : Obj) : RowAt (w.alloc o) e size v r n xs := h.kept ((Chg.refl (fun _ => False) w).alloc o) (fun _ _ h => h)
theorem RowAt.drew (h : RowAt w e size v r n xs) : RowAt w.drew e size v r n xs := h
theorem RowAt.drewN (h : RowAt w e size v r n xs) (k : Nat) : RowAt (w.drewN k) e size v r n xs := h
/-- The slice's own shape. -/
theorem RowAt.shape (h : RowAt w e size v r n xs) : ∃ A cap, v = .slice A n cap ∧ n ≤ maxLen := by
  rcases h.2 with ⟨rfl, _, rfl⟩ | ⟨g, off, cap, cur, rfl, _, _, h1, h2, _⟩
  · exact ⟨none, 0, rfl, Nat.zero_le _⟩
  · exact ⟨_, cap, rfl, Nat.le_trans h1 h2⟩
theorem RowAt.cap_le {A : Option Addr} {cap : Nat} (h : RowAt w e size (.slice A n cap) r n xs) : n ≤ cap := by
  rcases h.2 with ⟨h0, _, rfl⟩ | ⟨g, off, cap', cur, hv, _, _, h1, _⟩
  · exact Nat.zero_le _
  · injection hv with _ _ hc; omega
/-- A row that has an element: where it lies, what its cells hold. -/
theorem RowAt.form (h : RowAt w e size v r n xs) (hp : 0 < n) : ∃ g off cap, v = .slice (some ⟨g, off, none⟩) n cap ∧ r = some g ∧ n ≤ cap ∧ cap ≤ maxLen ∧ g < w.heap.size ∧
    (∀ j u, xs[j]? = some u → w.cell? ⟨g, off + j, none⟩ = some u) ∧ (∀ j, w.frozen? ⟨g, j, none⟩ = false) := by
  rcases h.2 with ⟨_, _, rfl⟩ | ⟨g, off, cap, cur, rfl, rfl, hg, h1, h2, h3, h4⟩
  · omega
  · refine ⟨g, off, cap, rfl, rfl, h1, h2, lt_of_heap hg, fun j u hu => ?_, fun j => by simp [World.frozen?, hg]⟩
    rw [cell_of_row w g (off + j) cur e (0, 0) hg, ← Array.getElem?_toList]
    rw [← h4, List.getElem?_take] at hu
    split at hu
    · rw [List.getElem?_drop] at hu; exact hu
    · cases hu
/-- A store into one of its cells. -/
theorem RowAt.stored {g off cap : Nat} (h : RowAt w e size (.slice (some ⟨g, off, none⟩) n cap) r n xs) (j : Nat) (u : Value) (hj : j < n * size) :
    RowAt (w.setCell ⟨g, off + j, none⟩ u) e size (.slice (some ⟨g, off, none⟩) n cap) r n (xs.set j u) := by
  refine ⟨by rw [List.length_set]; exact h.1, ?_⟩
  rcases h.2 with ⟨h0, _⟩ | ⟨g', off', cap', cur, hv, hr, hg, h1, h2, h3, h4⟩
  · cases h0
  · injection hv with ha _ hc
    injection ha with ha
    injection ha with hgg ho
    subst hgg; subst ho; subst hc
    have hcap : n * size ≤ cap * size := Nat.mul_le_mul_right _ h1
    refine .inr ⟨g, off, cap, cur.setIfInBounds (off + j) u, rfl, hr, heap_setCell_same w g (off + j) cur e u hg, h1, h2, by simpa using h3, ?_⟩
    rw [Array.toList_setIfInBounds, ← h4]
    apply List.ext_getElem?
    intro q
    simp only [List.getElem?_take, List.getElem?_drop, List.getElem?_set, List.length_take, List.length_drop, Array.length_toList]
    by_cases hq : q < n * size
    · rw [if_pos hq]
      by_cases hqj : j = q
      · subst hqj
        rw [if_pos rfl, if_pos rfl, if_pos (by omega), if_pos (by omega)]
      · rw [if_neg (by omega), if_neg hqj, if_pos hq]
    · rw [if_neg hq, if_neg (by omega), if_neg hq]
/-- s[k:]: the rest of it. -/
theorem RowAt.rest {A : Option Addr} {cap k : Nat} (h : RowAt w e size (.slice A n cap) r n xs) (hk : k ≤ n) (hkc : k < cap) :
    RowAt w e size (.slice (A.map fun a => ⟨a.block, a.off + k * size, none⟩) (n - k) (cap - k)) r (n - k) (xs.drop (k * size)) := by
  refine ⟨by rw [List.length_drop, h.1, Nat.sub_mul], ?_⟩
  rcases h.2 with ⟨h0, _⟩ | ⟨g, off, cap', cur, hv, hr, hg, h1, h2, h3, h4⟩
  · injection h0; omega
  · injection hv with ha _ hc
    subst ha; subst hc
    have hcap : k * size + (cap - k) * size = cap * size := by rw [← Nat.add_mul]; congr 1; omega
    have hnn : k * size + (n - k) * size = n * size := by rw [← Nat.add_mul]; congr 1; omega
    refine .inr ⟨g, off + k * size, cap - k, cur, rfl, hr, hg, by omega, by omega, by omega, ?_⟩
    rw [← h4, ← List.drop_drop, List.drop_take]
    congr 1
    omega
end

/-- What a slice at A shows: these cells. -/
def ReadsAt (w : World) (A : Option Addr) (xs : List Value) : Prop :=
  0 < xs.length → ∃ g off, A = some ⟨g, off, none⟩ ∧ g < w.heap.size ∧ ∀ j u, xs[j]? = some u → w.cell? ⟨g, off + j, none⟩ = some u
theorem ReadsAt.below {w w' : World} {A : Option Addr} {xs : List Value} (h : ReadsAt w A xs) {B : Nat} (hb : Below B w w') (hB : ∀ g off, A = some ⟨g, off, none⟩ → g < B) : ReadsAt w' A xs := by
  intro hp
  obtain ⟨g, off, hA, hg, hc⟩ := h hp
  exact ⟨g, off, hA, Nat.lt_of_lt_of_le hg hb.size, fun j u hu => (hb.cell (p := ⟨g, off + j, none⟩) (hB g off hA)).trans (hc j u hu)⟩
theorem ReadsAt.kept {w w' : World} {A : Option Addr} {xs : List Value} (h : ReadsAt w A xs) {S : Nat → Prop} (hb : Chg S w w') (hS : ∀ g off, A = some ⟨g, off, none⟩ → g < w.heap.size → ¬ S g) : ReadsAt w' A xs := by
  intro hp
  obtain ⟨g, off, hA, hg, hc⟩ := h hp
  exact ⟨g, off, hA, Nat.lt_of_lt_of_le hg hb.size, fun j u hu => hb.cell (p := ⟨g, off + j, none⟩) (hc j u hu) (hS g off hA hg)⟩
theorem ReadsAt.lt {w : World} {A : Option Addr} {xs : List Value} (h : ReadsAt w A xs) (hp : 0 < xs.length) {g off : Nat} (hA : A = some ⟨g, off, none⟩) : g < w.heap.size := by
  obtain ⟨g', off', hA', hg, _⟩ := h hp
  rw [hA] at hA'; cases hA'; exact hg
theorem RowAt.reads {w : World} {e size n cap : Nat} {A : Option Addr} {r : Option Nat} {xs : List Value} (h : RowAt w e size (.slice A n cap) r n xs) : ReadsAt w A xs := by
  intro hp
  have hn : 0 < n := by
    rcases Nat.eq_zero_or_pos n with h0 | h0
    · subst h0; have := h.1; omega
    · exact h0
  obtain ⟨g, off, cap', hv, _, _, _, hg, hc, _⟩ := h.form hn
  injection hv with ha _ _
  exact ⟨g, off, ha, hg, hc⟩

/-- Is the new row the old one, or in a block that is new? -/
def NewOr (w : World) (r r' : Option Nat) : Prop := r' = r ∨ ∃ k, r' = some k ∧ w.heap.size ≤ k
theorem NewOr.refl (w : World) (r : Option Nat) : NewOr w r r := .inl rfl
theorem NewOr.trans {w w' : World} {r r' r'' : Option Nat} (h : NewOr w r r') (k : NewOr w' r' r'') (hs : w.heap.size ≤ w'.heap.size) : NewOr w r r'' := by
  rcases k with rfl | ⟨j, rfl, hj⟩
  · exact h
  · exact .inr ⟨j, rfl, by omega⟩
theorem NewOr.mono {w w' : World} {r r' : Option Nat} (h : NewOr w' r r') (hs : w.heap.size ≤ w'.heap.size) : NewOr w r r' := by
  rcases h with rfl | ⟨j, rfl, hj⟩
  · exact .inl rfl
  · exact .inr ⟨j, rfl, by omega⟩
theorem NewOr.old {w : World} {r r' : Option Nat} (h : NewOr w r r') {k : Nat} (hk : k < w.heap.size) (he : r' = some k) : r = some k := by
  rcases h with rfl | ⟨j, rfl, hj⟩
  · exact he
  · cases he; omega
theorem NewOr.ge {w : World} {r r' : Option Nat} {B : Nat} (h : NewOr w r r') (hB : B ≤ w.heap.size) (hr : ∀ k, r = some k → B ≤ k) : ∀ k, r' = some k → B ≤ k := by
  intro k hk
  rcases h with rfl | ⟨j, rfl, hj⟩
  · exact hr k hk
  · cases hk; omega

section
variable {P : Program} (w : World)
/-- append onto a row, whatever it is: m elements more. -/
theorem run_append_row (t ty e : Nat) (i : TypeInfo) (z : Value) (size bytes : Nat) (ht : P.underlying t = some (.slice e)) (hi : P.info? e = some i) (hz : i.zero = some z)
    (hsize : i.size = size) (hby : i.bytes = bytes) (hzs : z.cells.size = size)
    (v : Value) (r : Option Nat) (n : Nat) (xs : List Value) (hown : RowAt w e size v r n xs)
    (a : Addr) (m c : Nat) (news : List Value) (hl : news.length = m * size) (hnews : ∀ j u, news[j]? = some u → w.cell? (a.add j) = some u) (h1 : ∀ u ∈ news, u.oneCell' = true)
    (h63 : n + m ≤ maxLen) (hbytes : (n + m) * bytes ≤ 140737488355328) (hm : 0 < m) :
    ∃ v' r' w', (Builtin.append_ #[t, t] ty #[v, .slice (some a) m c]).run P w = .ok v' w' ∧ RowAt w' e size v' r' (n + m) (xs ++ news) ∧ Chg (fun k => some k = r) w w' ∧ NewOr w r r' := by
  subst hsize
  subst hby
  have hsmall : n + m ≤ 9223372036854775807 := by simp only [maxLen] at h63; omega
  have hlen : (xs ++ news).length = (n + m) * i.size := by rw [List.length_append, hown.1, hl, Nat.add_mul]
  have grown : ∀ (old : Nat), old < n + m →
      RowAt (w.drew.alloc (.cells (xs.toArray ++ news.toArray ++ Builtin.zeroCells z.cells (grownCap w (n + m) old e - (n + m))) e)) e i.size
        (.slice (some ⟨w.heap.size, 0, none⟩) (n + m) (grownCap w (n + m) old e)) (some w.heap.size) (n + m) (xs ++ news) ∧
      Chg (fun k => some k = r) w (w.drew.alloc (.cells (xs.toArray ++ news.toArray ++ Builtin.zeroCells z.cells (grownCap w (n + m) old e - (n + m))) e)) := by
    intro old ho
    have hge := grownCap_ge w (n + m) old e
    have hcm : grownCap w (n + m) old e ≤ maxLen := grownCap_le_maxLen w (n + m) old e h63
    refine ⟨⟨hlen, .inr ⟨w.heap.size, 0, _, _, rfl, rfl, heap_alloc_new w.drew _, hge, hcm, ?_, ?_⟩⟩, (Chg.refl _ w).drew.alloc _⟩
    · simp only [Array.size_append, List.size_toArray, size_zeroCells, hzs, hown.1, hl, ← Nat.add_mul]
      rw [Nat.zero_add]
      apply Nat.mul_le_mul_right
      omega
    · simp only [Array.toList_append, List.append_assoc, List.drop_zero]
      rw [← List.append_assoc, ← hlen]
      exact List.take_left
  rcases hown.2 with ⟨rfl, rfl, rfl⟩ | ⟨g, off, cap, cur, rfl, rfl, hg, hnc, hcm, hcs, htake⟩
  · have hx : xs = [] := List.eq_nil_of_length_eq_zero (by simpa using hown.1)
    subst hx
    have hr := run_append_nil (P := P) w t ty e i z ht hi hz a m c news hl hnews (by omega) (by omega) (by have hb := hbytes; simp only [Nat.zero_add] at hb; omega)
    have hgr := grown 0 (by omega)
    simp only [Nat.zero_add, List.nil_append, Array.empty_append] at hgr ⊢
    exact ⟨_, _, _, hr, hgr.1, hgr.2, .inr ⟨_, rfl, Nat.le_refl _⟩⟩
  · by_cases hroom : n + m ≤ cap
    · have hcap : (n + m) * i.size ≤ cap * i.size := Nat.mul_le_mul_right _ hroom
      have hfit : off + n * i.size + news.length ≤ cur.size := by rw [hl]; rw [Nat.add_mul] at hcap; omega
      have hst := run_storeCells_at P g (off + n * i.size) e news 0 cur w hg (by simpa using hfit) h1
      simp only [Nat.add_zero] at hst
      have hf := run_firstCells_some (P := P) w i.size m a m c news hl hnews
      have hr : (Builtin.append_ #[t, t] ty #[.slice (some ⟨g, off, none⟩) n cap, .slice (some a) m c]).run P w = .ok (.slice (some ⟨g, off, none⟩) (n + m) cap)
          (w.setRow g (cur.toList.take (off + n * i.size) ++ news ++ cur.toList.drop (off + n * i.size + news.length)).toArray) := by
        simp [Builtin.append_, run_underlying ht, sizeOf, typeInfo, hi, Builtin.lenOf, hroom, hf, Addr.add_lit, hst]
      refine ⟨_, some g, _, hr, ⟨hlen, .inr ⟨g, off, cap, _, rfl, rfl, setRow_heap w g cur _ e _ hg, hroom, hcm, ?_, ?_⟩⟩, ⟨rfl, rfl, rfl, by simp, fun k _ hk => setRow_other w g k _ (fun e => hk (by simp [e]))⟩, .inl rfl⟩
      · simp only [List.size_toArray, List.length_append, List.length_take, List.length_drop, Array.length_toList]
        omega
      · have e1 : ((cur.toList.take (off + n * i.size) ++ news ++ cur.toList.drop (off + n * i.size + news.length)).drop off).take ((n + m) * i.size) = xs ++ news := by
          rw [← htake]
          have hxl := hown.1
          apply List.ext_getElem?
          intro q
          rw [List.getElem?_take, List.getElem?_drop]
          by_cases hq : q < (n + m) * i.size
          · rw [if_pos hq]
            rw [Nat.add_mul, ← hl] at hq
            by_cases hq1 : q < n * i.size
            · rw [List.append_assoc, List.getElem?_append_left (by rw [List.length_take, Array.length_toList]; omega), List.getElem?_take, if_pos (by omega),
                List.getElem?_append_left (by rw [List.length_take, List.length_drop, Array.length_toList]; omega), List.getElem?_take, if_pos hq1, List.getElem?_drop]
            · rw [List.append_assoc, List.getElem?_append_right (by rw [List.length_take]; omega), List.getElem?_append_left (by rw [List.length_take, Array.length_toList]; omega),
                List.getElem?_append_right (by rw [List.length_take]; omega)]
              simp only [List.length_take, List.length_drop, Array.length_toList]
              congr 1
              omega
          · rw [if_neg hq, List.getElem?_eq_none]
            rw [List.length_append, List.length_take, List.length_drop, Array.length_toList]
            rw [Nat.add_mul, ← hl] at hq
            omega
        simpa using e1
    · have holds : ∀ j u, xs[j]? = some u → w.cell? ((⟨g, off, none⟩ : Addr).add j) = some u := by
        intro j u hu
        have hp : 0 < n := by
          rcases Nat.eq_zero_or_pos n with h0 | h0
          · subst h0
            have := hown.1
            rw [Nat.zero_mul] at this
            rw [List.eq_nil_of_length_eq_zero this] at hu
            cases hu
          · exact h0
        obtain ⟨g', off', cap', hv, _, _, _, _, hc, _⟩ := hown.form hp
        injection hv with ha _ _
        injection ha with ha
        injection ha with hgg ho
        subst hgg; subst ho
        rw [Addr.add_lit]
        exact hc j u hu
      have hr := run_append_grow (P := P) w t ty e i z ht hi hz ⟨g, off, none⟩ n cap xs hown.1 holds a m c news hl hnews (by omega) (by omega) (growslice_fits (by omega) hbytes)
      have hgr := grown cap (by omega)
      exact ⟨_, _, _, hr, hgr.1, hgr.2, .inr ⟨_, rfl, Nat.le_refl _⟩⟩

/-- append(v, y) of one element of one cell: behind 'at_builtin'; the goal's world is the one behind the variadic's box. -/
theorem wpList_append_one {ops : Array Oper} {rest : List Oper} {o : Oper} {a : Act} {Q : Exit → Act → World → Prop} (hgd : o.guard = none) (s x : Operand) (t e : Nat) (z : Value) (bytes : Nat)
    (ho : o.op = .call { callee := .builtin .append, args := #[s, x], argTypes := #[t, t] })
    (ht : P.underlying t = some (.slice e)) (hinfo : (P.info? e).map (fun i => (i.zero, i.size, i.bytes)) = some (some z, 1, bytes)) (hz : z.cells.size = 1)
    {v : Value} {r : Option Nat} {n : Nat} {xs : List Value} (HO : RowAt w e 1 v r n xs) (y : Value) (hs : a.eval s = v) (hx : a.eval x = .slice (some ⟨w.heap.size, 0, none⟩) 1 1) (h1 : y.oneCell' = true)
    (hl : (n + 1) * bytes ≤ 140737488355328) (hn : n < maxLen)
    (h : ∀ v' r' w', RowAt w' e 1 v' r' (n + 1) (xs ++ [y]) → Chg (fun k => some k = r) w w' → NewOr w r r' → wpList P ops Q rest (a.put o.dst v') w') :
    wpList P ops Q (o :: rest) a (w.alloc (.cells #[y] e)) := by
  obtain ⟨i0, hi, hz0, hz1, hz2⟩ := info_parts hinfo
  have hnew : ∀ j u, [y][j]? = some u → (w.alloc (.cells #[y] e)).cell? ((⟨w.heap.size, 0, none⟩ : Addr).add j) = some u := by
    intro j u hu
    match j, hu with
    | 0, hu =>
      rw [Addr.add_lit, cell_of_row _ _ _ _ _ _ (heap_alloc_new w _)]
      exact hu
  obtain ⟨v', r', w', hrun, hR, hC, hN⟩ := run_append_row (P := P) (w.alloc (.cells #[y] e)) t o.type e i0 z 1 bytes ht hi hz0 hz1 hz2 hz v r n xs (HO.alloc _)
    ⟨w.heap.size, 0, none⟩ 1 1 [y] rfl hnew (by simpa using h1) (by omega) hl (by omega)
  refine wpList_plain hgd fun K hK' => ?_
  unfold Oper.wp execOp
  simp only [ho, resolve, invoke, builtin, Sem.run_bind, Sem.run_pure, Result.andThen_ok, List.map_toArray, List.map_cons, List.map_nil, hs, hx, hrun]
  exact hK' _ _ (h v' r' w' hR (((Chg.refl _ w).alloc _).trans hC (fun _ _ h => h)) (hN.mono (by simp)))
end
end Go.Proofs.Ytlniohgnkihefaa
