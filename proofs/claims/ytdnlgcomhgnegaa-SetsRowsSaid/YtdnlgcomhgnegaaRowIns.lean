/- slices.Insert, Delete, Clone, BinarySearch over rows in memory. (Written by wip/genrow.py.) -/
import Derived.Test.YtdnlgcomhgnegaaBase
import Derived.Test.YtdnlgcomhgnegaaShelf
import Derived.Lib.RowBridge
import Derived.Laws.AppendOwn
namespace Go.Proofs.Ytdnlgcomhgnegaa
open Go.RowKit Go.Lib

def setL (cur : Array Value) : Nat → List Value → Array Value
  | _, [] => cur
  | o, v :: r => setL (cur.setIfInBounds o v) (o + 1) r
theorem setL_size (vs : List Value) : ∀ (cur : Array Value) (o : Nat), (setL cur o vs).size = cur.size := by
  induction vs with
  | nil => intro cur o; rfl
  | cons v vs ih => intro cur o; unfold setL; rw [ih]; simp
theorem setL_get (vs : List Value) : ∀ (cur : Array Value) (o k : Nat), o + vs.length ≤ cur.size → (setL cur o vs)[k]? = if o ≤ k ∧ k < o + vs.length then vs[k - o]? else cur[k]? := by
  induction vs with
  | nil => intro cur o k _; unfold setL; rw [if_neg (by simp)]
  | cons v vs ih =>
    intro cur o k h
    simp only [List.length_cons] at h ⊢
    unfold setL
    rw [ih _ _ _ (by simp; omega)]
    by_cases h1 : o + 1 ≤ k ∧ k < o + 1 + vs.length
    · rw [if_pos h1, if_pos (by omega), show k - o = (k - (o + 1)) + 1 from by omega, List.getElem?_cons_succ]
    · rw [if_neg h1]
      by_cases h2 : k = o
      · subst h2
        rw [if_pos (by omega), Nat.sub_self, List.getElem?_cons_zero, Array.getElem?_setIfInBounds_self_of_lt (by omega)]
      · rw [if_neg (by omega), Array.getElem?_setIfInBounds_ne (by omega)]
theorem heap_setCells (b : Nat) (e : TypeId) (vs : List Value) : ∀ (o : Nat) (w : World) (cur : Array Value), w.heap[b]? = some (.cells cur e (0, 0)) → (w.setCells b o vs).heap[b]? = some (.cells (setL cur o vs) e (0, 0)) := by
  induction vs with
  | nil => intro o w cur h; exact h
  | cons v vs ih => intro o w cur h; exact ih (o + 1) _ _ (heap_setCell_same w b o cur e v h)
theorem chg_setCells (b : Nat) (vs : List Value) : ∀ (o : Nat) (w : World), Chg (fun k => k = b) w (w.setCells b o vs) := by
  induction vs with
  | nil => intro o w; exact Chg.refl _ _
  | cons v vs ih => intro o w; exact (Chg.store w b o v).trans (ih (o + 1) _) fun i _ h => h
/-- A row of one-cell elements, by its cells. -/
theorem RowAt.of_cells {w : World} {e g off n cap : Nat} {cur : Array Value} {ys : List Value} (hg : w.heap[g]? = some (.cells cur e (0, 0))) (h1 : n ≤ cap) (h2 : cap ≤ maxLen) (h3 : off + cap ≤ cur.size) (hl : ys.length = n)
    (hc : ∀ q, q < n → cur[off + q]? = ys[q]?) : RowAt w e 1 (.slice (some ⟨g, off, none⟩) n cap) (some g) n ys := by
  refine ⟨by omega, .inr ⟨g, off, cap, cur, rfl, rfl, hg, h1, h2, by omega, ?_⟩⟩
  apply List.ext_getElem?
  intro q
  rw [List.getElem?_take, Nat.mul_one]
  by_cases hq : q < n
  · rw [if_pos hq, List.getElem?_drop, Array.getElem?_toList, hc q hq]
  · rw [if_neg hq, List.getElem?_eq_none (by omega)]
/-- The cells of a row that is there. -/
theorem RowAt.cells {w : World} {e n : Nat} {v : Value} {r : Option Nat} {xs : List Value} (h : RowAt w e 1 v r n xs) :
    xs.length = n ∧ ((v = .slice none 0 0 ∧ r = none ∧ n = 0 ∧ xs = []) ∨ ∃ g off cap cur, v = .slice (some ⟨g, off, none⟩) n cap ∧ r = some g ∧ w.heap[g]? = some (.cells cur e (0, 0)) ∧ n ≤ cap ∧ cap ≤ maxLen ∧ off + cap ≤ cur.size ∧ ∀ q, q < n → cur[off + q]? = xs[q]?) := by
  have hl : xs.length = n := by have := h.1; omega
  refine ⟨hl, ?_⟩
  rcases h.2 with ⟨rfl, rfl, rfl⟩ | ⟨g, off, cap, cur, rfl, rfl, hg, h1, h2, h3, h4⟩
  · exact .inl ⟨rfl, rfl, rfl, List.eq_nil_of_length_eq_zero hl⟩
  · refine .inr ⟨g, off, cap, cur, rfl, rfl, hg, h1, h2, by omega, fun q hq => ?_⟩
    rw [← h4, List.getElem?_take, if_pos (by omega), List.getElem?_drop, Array.getElem?_toList]
def insL (xs : List Value) (i : Nat) (x : Value) : List Value := xs.take i ++ [x] ++ xs.drop i
theorem insL_len (xs : List Value) (i : Nat) (x : Value) (hi : i ≤ xs.length) : (insL xs i x).length = xs.length + 1 := by unfold insL; simp; omega
theorem insL_get (xs : List Value) (i : Nat) (x : Value) (hi : i ≤ xs.length) (q : Nat) : (insL xs i x)[q]? = if q < i then xs[q]? else if q = i then some x else xs[q - 1]? := by
  unfold insL
  by_cases h1 : q < i
  · rw [if_pos h1, List.append_assoc, List.getElem?_append_left (by simp; omega), List.getElem?_take, if_pos h1]
  · rw [if_neg h1, List.append_assoc, List.getElem?_append_right (by simp; omega)]
    rw [List.length_take, Nat.min_eq_left hi]
    by_cases h2 : q = i
    · rw [if_pos h2, h2]; simp
    · rw [if_neg h2, show q - i = (q - i - 1) + 1 from by omega, List.singleton_append, List.getElem?_cons_succ, List.getElem?_drop]
      congr 1; omega
theorem zeroCells_size (z : Array Value) (n : Nat) (hz : z.size = 1) : (Builtin.zeroCells z n).size = n := by unfold Builtin.zeroCells; simp [hz]

set_option maxHeartbeats 1000000 in
/-- Insert one element, in each of its four roads. -/
theorem insert_int {v : Value} {r : Option Nat} {n : Nat} {xs : List Value} {w : World} (h : RowAt w 3 1 v r n xs) (h1 : ∀ u ∈ xs, u.oneCell' = true) (i : Nat) (hi : i ≤ n) (hn : n ≤ 100000) (tb : Nat) (x : Value) (hx1 : x.oneCell' = true) (ht : w.heap[tb]? = some (.cells #[x] 3 (0, 0))) (hne : r ≠ some tb) :
    Calls Try.prog 24 #[v, .int .i64 (i : Nat), .slice (some ⟨tb, 0, none⟩) 1 1] w fun e w' => ∃ v' r', e = .returned v' ∧ RowAt w' 3 1 v' r' (n + 1) (insL xs i x) ∧ Chg (fun k => some k = r) w w' ∧ NewOr w r r' := by
  obtain ⟨hl, hc⟩ := h.cells
  have hvs : ∀ j u, [x][j]? = some u → w.cell? ⟨tb, 0 + j, none⟩ = some u := by
    intro j u hu
    cases j with
    | zero => cases hu; simp [World.cell?, ht]
    | succ j => cases hu
  have h1v : ∀ u ∈ [x], u.oneCell' = true := by simpa using hx1
  have hml : n + 1 ≤ maxLen := by unfold maxLen; omega
  rcases hc with ⟨rfl, rfl, rfl, rfl⟩ | ⟨g, off, cap, cur, rfl, rfl, hg, hcap, hmax, hsz, hcell⟩
  · obtain rfl : i = 0 := by omega
    refine (Any2.slices_Insert_int_end_grow laysNm221 none 0 0 tb 0 1 1 [] [x] w (by omega) (by omega) (by omega) (by omega) rfl rfl (fun _ => rfl) (fun a ha => by cases ha) hvs h1v).mono ?_
    rintro e w' ⟨rfl, rfl⟩
    have hge := grownCap_ge w (0 + 1) 0 3
    refine ⟨_, some w.heap.size, rfl, RowAt.of_cells (cur := _) (heap_alloc_new w.drew _) hge (grownCap_le_maxLen w (0 + 1) 0 3 (by unfold maxLen; omega)) ?_ (insL_len [] 0 x (by simp)) ?_, ((Chg.refl _ w).drew).alloc _, .inr ⟨_, rfl, Nat.le_refl _⟩⟩
    · rw [Array.size_append, zeroCells_size _ _ rfl]; simp; omega
    · intro q hq
      obtain rfl : q = 0 := by omega
      rw [Array.getElem?_append_left (by simp)]
      simp [insL]
  · have hcs : ∀ j u, xs[j]? = some u → w.cell? ⟨g, off + j, none⟩ = some u := by
      intro j u hu
      have hj : j < n := by rw [← hl]; exact (List.getElem?_eq_some_iff.1 hu).1
      rw [cell_of_row w g (off + j) cur 3 (0, 0) hg, hcell j hj, hu]
    have hsp : ∀ k, k < cap → (w.cell? ⟨g, off + k, none⟩).isSome = true := by
      intro k hk
      rw [cell_of_row w g (off + k) cur 3 (0, 0) hg, Array.getElem?_eq_getElem (by omega)]
      rfl
    have hfz : ∀ k, w.frozen? ⟨g, k, none⟩ = false := fun k => by simp [World.frozen?, hg]
    have hgt : tb ≠ g := fun e => hne (by rw [e])
    by_cases hin : i = n
    · subst hin
      by_cases hroom : i + 1 ≤ cap
      · refine (Any2.slices_Insert_int_end_room laysNm221 g off i cap tb 0 1 1 [x] w (by omega) hroom (by unfold maxLen at hmax; omega) rfl (fun j hj => by rw [show off + i + j = off + (i + j) from by omega]; exact hsp _ (by omega)) (fun j hj => hfz _) hvs h1v).mono ?_
        rintro e w' ⟨rfl, rfl⟩
        refine ⟨_, some g, rfl, RowAt.of_cells (heap_setCells g _ [x] (off + i) w cur hg) hroom hmax (by rw [setL_size]; exact hsz) (by rw [insL_len xs i x (by omega), hl]) ?_, (chg_setCells g [x] _ w).mono fun k _ e => by rw [e], .refl _ _⟩
        intro q hq
        rw [setL_get _ _ _ _ (by simp; omega), insL_get xs i x (by omega)]
        by_cases h2 : q = i
        · rw [if_pos (by simp; omega), if_neg (by omega), if_pos h2, h2, Nat.sub_self]; rfl
        · rw [if_neg (by simp; omega), if_pos (by omega), hcell q (by omega)]
      · refine (Any2.slices_Insert_int_end_grow laysNm221 (some ⟨g, off, none⟩) i cap tb 0 1 1 xs [x] w (by omega) hcap (by omega) (by omega) hl rfl (fun h => by cases h) (fun a ha j u hu => by cases ha; rw [Addr.add_lit]; exact hcs j u hu) hvs h1v).mono ?_
        rintro e w' ⟨rfl, rfl⟩
        have hge := grownCap_ge w (i + 1) cap 3
        refine ⟨_, some w.heap.size, rfl, RowAt.of_cells (cur := _) (heap_alloc_new w.drew _) hge (grownCap_le_maxLen w (i + 1) cap 3 hml) ?_ (by rw [insL_len xs i x (by omega), hl]) ?_, ((Chg.refl _ w).drew).alloc _, .inr ⟨_, rfl, Nat.le_refl _⟩⟩
        · show 0 + grownCap w (i + 1) cap 3 ≤ (((xs ++ [x]).toArray ++ Builtin.zeroCells _ (grownCap w (i + 1) cap 3 - (i + 1)))).size
          rw [Array.size_append, zeroCells_size _ _ rfl]; simp; omega
        · intro q hq
          rw [Nat.zero_add, insL_get xs i x (by omega)]
          rw [Array.getElem?_append_left (by simp; omega), List.getElem?_toArray]
          by_cases h2 : q = i
          · rw [if_neg (by omega), if_pos h2, h2, List.getElem?_append_right (by omega), hl, Nat.sub_self]; rfl
          · rw [if_pos (by omega), List.getElem?_append_left (by omega)]
    · by_cases hroom : n + 1 ≤ cap
      · refine (Any2.slices_Insert_int_shift laysNm221 g off n cap i tb 0 1 1 xs [x] w (by omega) (by omega) hroom (by unfold maxLen at hmax; omega) hgt hl rfl hcs (fun j hj => hsp j (by omega)) (fun j _ => hfz _) hvs h1 h1v 3 3 1 cur.size (by simp [World.shape?, ht]) (by simp [World.shape?, hg]) (by omega) (by simp [World.frozen?, ht]) (by simp [World.frozen?, ht])).mono ?_
        rintro e w' ⟨rfl, rfl⟩
        have hg1 := heap_setCells g _ (xs.drop i) (off + (i + 1)) w.drew cur hg
        refine ⟨_, some g, rfl, RowAt.of_cells (heap_setCells g _ [x] (off + i) _ _ hg1) hroom hmax (by rw [setL_size, setL_size]; exact hsz) (by rw [insL_len xs i x (by omega), hl]) ?_, ?_, .refl _ _⟩
        · intro q hq
          rw [setL_get _ _ _ _ (by rw [setL_size]; simp; omega), setL_get _ _ _ _ (by simp; omega), insL_get xs i x (by omega)]
          by_cases h2 : q = i
          · rw [if_pos (by simp; omega), if_neg (by omega), if_pos h2, h2, Nat.sub_self]; rfl
          · rw [if_neg (by simp; omega)]
            by_cases h3 : q < i
            · rw [if_neg (by simp; omega), if_pos h3, hcell q (by omega)]
            · rw [if_pos (by simp; omega), if_neg h3, if_neg h2, List.getElem?_drop]
              congr 1; omega
        · exact (((Chg.refl (fun k => some k = some g) w).drew).trans (chg_setCells g (xs.drop i) _ _) fun k _ e => by rw [e]).trans (chg_setCells g [x] _ _) fun k _ e => by rw [e]
      · refine (Any2.slices_Insert_int_grow laysNm221 g off n cap i tb 0 1 1 xs [x] w (by omega) (by omega) hcap (by omega) (by omega) hl rfl hcs hvs h1 h1v).mono ?_
        rintro e w' ⟨rfl, rfl⟩
        have hge := grownCap_ge w (n + 1) cap 3
        have hsz2 : ((xs.take i).toArray ++ Builtin.zeroCells (Value.int .i64 0).cells (n + 1 - i) ++ Builtin.zeroCells (Value.int .i64 0).cells (grownCap w (n + 1) cap 3 - (n + 1))).size = grownCap w (n + 1) cap 3 := by
          rw [Array.size_append, Array.size_append, zeroCells_size _ _ rfl, zeroCells_size _ _ rfl]; simp; omega
        have hg0 := heap_alloc_new w (.cells ((xs.take i).toArray ++ Builtin.zeroCells (Value.int .i64 0).cells (n + 1 - i) ++ Builtin.zeroCells (Value.int .i64 0).cells (grownCap w (n + 1) cap 3 - (n + 1))) 3)
        have hg1 := heap_setCells w.heap.size _ [x] i (World.drew (w.alloc _)) _ hg0
        have hg2 := heap_setCells w.heap.size _ (xs.drop i) (i + 1) _ _ (show (World.drew ((World.drew (w.alloc _)).setCells w.heap.size i [x])).heap[w.heap.size]? = _ from hg1)
        refine ⟨_, some w.heap.size, rfl, RowAt.of_cells hg2 hge (grownCap_le_maxLen w (n + 1) cap 3 hml) (by rw [setL_size, setL_size]; exact Nat.le_of_eq ((Nat.zero_add _).trans hsz2.symm)) (by rw [insL_len xs i x (by omega), hl]) ?_, ?_, .inr ⟨_, rfl, Nat.le_refl _⟩⟩
        · intro q hq
          rw [Nat.zero_add, setL_get _ _ _ _ (by rw [setL_size, hsz2]; simp; omega), setL_get _ _ _ _ (by rw [hsz2]; simp; omega), insL_get xs i x (by omega)]
          by_cases h2 : q = i
          · rw [if_neg (by omega), if_pos (by simp; omega), if_neg (by omega), if_pos h2, h2, Nat.sub_self]; rfl
          · by_cases h3 : q < i
            · rw [if_neg (by omega), if_neg (by simp; omega), if_pos h3]
              rw [Array.append_assoc, Array.getElem?_append_left (by simp; omega), List.getElem?_toArray, List.getElem?_take, if_pos h3]
            · rw [if_pos (by simp; omega), if_neg h3, if_neg h2, List.getElem?_drop]
              congr 1; omega
        · refine (((((Chg.refl (fun k => some k = some g) w).alloc _).drew).trans (chg_setCells w.heap.size [x] _ _) fun k hk e => by omega).drew).trans (chg_setCells w.heap.size (xs.drop i) _ _) fun k hk e => by omega

/-- A row as it is read by Clone. -/
theorem owns_reads_int {w : World} {n₀ n : Nat} {v : Value} {xs : List Value} (h : w.ownsRow n₀ 3 1 v n xs) : ∃ A c, v = .slice A n c ∧ ReadsAt w A xs ∧ ∀ g off, A = some ⟨g, off, none⟩ → n₀ ≤ g := by
  rcases h.2 with ⟨rfl, rfl⟩ | ⟨g, cap, cur, rfl, hge, hg, _, _, _, ht⟩
  · have hx : xs = [] := List.eq_nil_of_length_eq_zero (by simpa using h.1)
    exact ⟨none, 0, rfl, (fun hp => by rw [hx] at hp; cases hp), fun _ _ e => by cases e⟩
  · refine ⟨_, cap, rfl, fun _ => ⟨g, 0, rfl, lt_of_heap hg, fun j u hu => ?_⟩, fun _ _ e => by cases e; exact hge⟩
    rw [Nat.zero_add, cell_of_row _ _ _ _ _ _ hg, ← Array.getElem?_toList]
    rw [← ht, List.getElem?_take] at hu
    split at hu
    · exact hu
    · cases hu
theorem clone_int (zs : List Int) (A : Option Addr) (c : Nat) (w : World) (hl : zs.length ≤ 100000) (h : ReadsAt w A (zs.map (Value.int .i64))) :
    Calls Try.prog 40 #[.slice A zs.length c] w fun e w' => ∃ A' c', e = .returned (.slice A' zs.length c') ∧ ReadsAt w' A' (zs.map (Value.int .i64)) ∧ Below w.heap.size w w' ∧ ∀ g off, A' = some ⟨g, off, none⟩ → w.heap.size ≤ g := by
  cases zs with
  | nil =>
    cases A with
    | none =>
      refine (Any.slices_Clone_int_nil laysNm215 0 c w).mono ?_
      rintro e w' ⟨rfl, rfl⟩
      exact ⟨none, 0, rfl, (fun hp => absurd hp (by simp)), Below.refl _ _, fun _ _ e => by cases e⟩
    | some a =>
      refine (Any.slices_Clone_int_zero laysNm215 a c w).mono ?_
      rintro e w' ⟨v, rfl, hown, _, hb⟩
      obtain ⟨A', c', rfl, hr, hn⟩ := owns_reads_int hown
      exact ⟨A', c', rfl, hr, hb, hn⟩
  | cons z zs =>
    obtain ⟨g, off, rfl, _, hc⟩ := h (by simp)
    refine (Any.slices_Clone_int laysNm215 g off (zs.length + 1) c (z :: zs) w (by simp) (by simp at hl; omega) (fun j hj => ?_)).mono ?_
    · refine hc j _ ?_
      rw [List.getElem?_map, List.getD_eq_getElem?_getD, List.getElem?_eq_getElem hj]
      rfl
    · rintro e w' ⟨v, rfl, hown, _, hb⟩
      rw [show (z :: zs).take (zs.length + 1) = z :: zs from List.take_of_length_le (by simp)] at hown
      obtain ⟨A', c', rfl, hr, hn⟩ := owns_reads_int hown
      exact ⟨A', c', rfl, hr, hb, hn⟩
theorem delete_int {v : Value} {r : Option Nat} {n : Nat} {w : World} (zs : List Int) (h : RowAt w 3 1 v r n (zs.map (Value.int .i64))) (i : Nat) (hi : i < n) (hn : n ≤ 100000) :
    Calls Try.prog 26 #[v, .int .i64 (i : Nat), .int .i64 ((i : Nat) + 1)] w fun e w' => ∃ v', e = .returned v' ∧ RowAt w' 3 1 v' r (n - 1) ((zs.eraseIdx i).map (Value.int .i64)) ∧ Chg (fun k => some k = r) w w' := by
  obtain ⟨hl, hc⟩ := h.cells
  rw [List.length_map] at hl
  rcases hc with ⟨_, _, rfl, _⟩ | ⟨g, off, cap, cur, rfl, rfl, hg, hcap, hmax, hsz, hcell⟩
  · omega
  have hH : Sort.Holds (Value.int .i64) w g off (zs).toArray := by
    intro j hj
    have hj2 : j < n := by simpa [hl] using hj
    refine ⟨?_, by simp [World.frozen?, hg]⟩
    rw [cell_of_row w g (off + j) cur 3 (0, 0) hg, hcell j hj2, List.getElem?_map, List.getElem?_eq_getElem (by omega)]
    simp [hl, hj2]
  have hzl : (zs).length = n := by simp [hl]
  have hD := Any.slices_Delete_int laysNm223 g off cap i (i + 1) (zs) w hH (by omega) (by unfold maxLen at hmax; omega) (by omega) (by omega)
  rw [hzl, show i + 1 - i = 1 from by omega] at hD
  refine hD.mono ?_
  rintro e w' ⟨rfl, q, rfl⟩
  have hys : ((zs).take i ++ (zs).drop (i + 1) ++ List.replicate 1 0).length = n := by simp [hl]; omega
  rw [putRow_eq_setCells (Value.int .i64) w g off (zs).toArray _ q hH (by simpa [hl] using hys)]
  refine ⟨_, rfl, RowAt.of_cells (heap_setCells g _ _ off (w.drewN q) cur hg) (by omega) hmax (by rw [setL_size]; exact hsz) (by rw [List.length_map, List.length_eraseIdx, if_pos (by omega)]; omega) ?_, ((Chg.refl (fun k => some k = some g) w).drewN q).trans (chg_setCells g _ _ _) fun k _ e => by rw [e]⟩
  intro k hk
  have hlen : (((zs).take i ++ (zs).drop (i + 1) ++ List.replicate 1 0).map (Value.int .i64)).length = n := by rw [List.length_map]; exact hys
  rw [setL_get _ _ _ _ (by rw [hlen]; omega), if_pos (by rw [hlen]; omega), Nat.add_sub_cancel_left]
  rw [List.map_append, List.getElem?_append_left (by rw [List.length_map]; simp [hl]; omega), ← List.eraseIdx_eq_take_drop_succ]

set_option maxHeartbeats 1000000 in
/-- Insert one element, in each of its four roads. -/
theorem insert_string {v : Value} {r : Option Nat} {n : Nat} {xs : List Value} {w : World} (h : RowAt w 9 1 v r n xs) (h1 : ∀ u ∈ xs, u.oneCell' = true) (i : Nat) (hi : i ≤ n) (hn : n ≤ 100000) (tb : Nat) (x : Value) (hx1 : x.oneCell' = true) (ht : w.heap[tb]? = some (.cells #[x] 9 (0, 0))) (hne : r ≠ some tb) :
    Calls Try.prog 25 #[v, .int .i64 (i : Nat), .slice (some ⟨tb, 0, none⟩) 1 1] w fun e w' => ∃ v' r', e = .returned v' ∧ RowAt w' 9 1 v' r' (n + 1) (insL xs i x) ∧ Chg (fun k => some k = r) w w' ∧ NewOr w r r' := by
  obtain ⟨hl, hc⟩ := h.cells
  have hvs : ∀ j u, [x][j]? = some u → w.cell? ⟨tb, 0 + j, none⟩ = some u := by
    intro j u hu
    cases j with
    | zero => cases hu; simp [World.cell?, ht]
    | succ j => cases hu
  have h1v : ∀ u ∈ [x], u.oneCell' = true := by simpa using hx1
  have hml : n + 1 ≤ maxLen := by unfold maxLen; omega
  rcases hc with ⟨rfl, rfl, rfl, rfl⟩ | ⟨g, off, cap, cur, rfl, rfl, hg, hcap, hmax, hsz, hcell⟩
  · obtain rfl : i = 0 := by omega
    refine (Any2.slices_Insert_string_end_grow laysNm222 none 0 0 tb 0 1 1 [] [x] w (by omega) (by omega) (by omega) (by omega) rfl rfl (fun _ => rfl) (fun a ha => by cases ha) hvs h1v).mono ?_
    rintro e w' ⟨rfl, rfl⟩
    have hge := grownCap_ge w (0 + 1) 0 9
    refine ⟨_, some w.heap.size, rfl, RowAt.of_cells (cur := _) (heap_alloc_new w.drew _) hge (grownCap_le_maxLen w (0 + 1) 0 9 (by unfold maxLen; omega)) ?_ (insL_len [] 0 x (by simp)) ?_, ((Chg.refl _ w).drew).alloc _, .inr ⟨_, rfl, Nat.le_refl _⟩⟩
    · rw [Array.size_append, zeroCells_size _ _ rfl]; simp; omega
    · intro q hq
      obtain rfl : q = 0 := by omega
      rw [Array.getElem?_append_left (by simp)]
      simp [insL]
  · have hcs : ∀ j u, xs[j]? = some u → w.cell? ⟨g, off + j, none⟩ = some u := by
      intro j u hu
      have hj : j < n := by rw [← hl]; exact (List.getElem?_eq_some_iff.1 hu).1
      rw [cell_of_row w g (off + j) cur 9 (0, 0) hg, hcell j hj, hu]
    have hsp : ∀ k, k < cap → (w.cell? ⟨g, off + k, none⟩).isSome = true := by
      intro k hk
      rw [cell_of_row w g (off + k) cur 9 (0, 0) hg, Array.getElem?_eq_getElem (by omega)]
      rfl
    have hfz : ∀ k, w.frozen? ⟨g, k, none⟩ = false := fun k => by simp [World.frozen?, hg]
    have hgt : tb ≠ g := fun e => hne (by rw [e])
    by_cases hin : i = n
    · subst hin
      by_cases hroom : i + 1 ≤ cap
      · refine (Any2.slices_Insert_string_end_room laysNm222 g off i cap tb 0 1 1 [x] w (by omega) hroom (by unfold maxLen at hmax; omega) rfl (fun j hj => by rw [show off + i + j = off + (i + j) from by omega]; exact hsp _ (by omega)) (fun j hj => hfz _) hvs h1v).mono ?_
        rintro e w' ⟨rfl, rfl⟩
        refine ⟨_, some g, rfl, RowAt.of_cells (heap_setCells g _ [x] (off + i) w cur hg) hroom hmax (by rw [setL_size]; exact hsz) (by rw [insL_len xs i x (by omega), hl]) ?_, (chg_setCells g [x] _ w).mono fun k _ e => by rw [e], .refl _ _⟩
        intro q hq
        rw [setL_get _ _ _ _ (by simp; omega), insL_get xs i x (by omega)]
        by_cases h2 : q = i
        · rw [if_pos (by simp; omega), if_neg (by omega), if_pos h2, h2, Nat.sub_self]; rfl
        · rw [if_neg (by simp; omega), if_pos (by omega), hcell q (by omega)]
      · refine (Any2.slices_Insert_string_end_grow laysNm222 (some ⟨g, off, none⟩) i cap tb 0 1 1 xs [x] w (by omega) hcap (by omega) (by omega) hl rfl (fun h => by cases h) (fun a ha j u hu => by cases ha; rw [Addr.add_lit]; exact hcs j u hu) hvs h1v).mono ?_
        rintro e w' ⟨rfl, rfl⟩
        have hge := grownCap_ge w (i + 1) cap 9
        refine ⟨_, some w.heap.size, rfl, RowAt.of_cells (cur := _) (heap_alloc_new w.drew _) hge (grownCap_le_maxLen w (i + 1) cap 9 hml) ?_ (by rw [insL_len xs i x (by omega), hl]) ?_, ((Chg.refl _ w).drew).alloc _, .inr ⟨_, rfl, Nat.le_refl _⟩⟩
        · show 0 + grownCap w (i + 1) cap 9 ≤ (((xs ++ [x]).toArray ++ Builtin.zeroCells _ (grownCap w (i + 1) cap 9 - (i + 1)))).size
          rw [Array.size_append, zeroCells_size _ _ rfl]; simp; omega
        · intro q hq
          rw [Nat.zero_add, insL_get xs i x (by omega)]
          rw [Array.getElem?_append_left (by simp; omega), List.getElem?_toArray]
          by_cases h2 : q = i
          · rw [if_neg (by omega), if_pos h2, h2, List.getElem?_append_right (by omega), hl, Nat.sub_self]; rfl
          · rw [if_pos (by omega), List.getElem?_append_left (by omega)]
    · by_cases hroom : n + 1 ≤ cap
      · refine (Any2.slices_Insert_string_shift laysNm222 g off n cap i tb 0 1 1 xs [x] w (by omega) (by omega) hroom (by unfold maxLen at hmax; omega) hgt hl rfl hcs (fun j hj => hsp j (by omega)) (fun j _ => hfz _) hvs h1 h1v 9 9 1 cur.size (by simp [World.shape?, ht]) (by simp [World.shape?, hg]) (by omega) (by simp [World.frozen?, ht]) (by simp [World.frozen?, ht])).mono ?_
        rintro e w' ⟨rfl, rfl⟩
        have hg1 := heap_setCells g _ (xs.drop i) (off + (i + 1)) w.drew cur hg
        refine ⟨_, some g, rfl, RowAt.of_cells (heap_setCells g _ [x] (off + i) _ _ hg1) hroom hmax (by rw [setL_size, setL_size]; exact hsz) (by rw [insL_len xs i x (by omega), hl]) ?_, ?_, .refl _ _⟩
        · intro q hq
          rw [setL_get _ _ _ _ (by rw [setL_size]; simp; omega), setL_get _ _ _ _ (by simp; omega), insL_get xs i x (by omega)]
          by_cases h2 : q = i
          · rw [if_pos (by simp; omega), if_neg (by omega), if_pos h2, h2, Nat.sub_self]; rfl
          · rw [if_neg (by simp; omega)]
            by_cases h3 : q < i
            · rw [if_neg (by simp; omega), if_pos h3, hcell q (by omega)]
            · rw [if_pos (by simp; omega), if_neg h3, if_neg h2, List.getElem?_drop]
              congr 1; omega
        · exact (((Chg.refl (fun k => some k = some g) w).drew).trans (chg_setCells g (xs.drop i) _ _) fun k _ e => by rw [e]).trans (chg_setCells g [x] _ _) fun k _ e => by rw [e]
      · refine (Any2.slices_Insert_string_grow laysNm222 g off n cap i tb 0 1 1 xs [x] w (by omega) (by omega) hcap (by omega) (by omega) hl rfl hcs hvs h1 h1v).mono ?_
        rintro e w' ⟨rfl, rfl⟩
        have hge := grownCap_ge w (n + 1) cap 9
        have hsz2 : ((xs.take i).toArray ++ Builtin.zeroCells (Value.string ByteArray.empty).cells (n + 1 - i) ++ Builtin.zeroCells (Value.string ByteArray.empty).cells (grownCap w (n + 1) cap 9 - (n + 1))).size = grownCap w (n + 1) cap 9 := by
          rw [Array.size_append, Array.size_append, zeroCells_size _ _ rfl, zeroCells_size _ _ rfl]; simp; omega
        have hg0 := heap_alloc_new w (.cells ((xs.take i).toArray ++ Builtin.zeroCells (Value.string ByteArray.empty).cells (n + 1 - i) ++ Builtin.zeroCells (Value.string ByteArray.empty).cells (grownCap w (n + 1) cap 9 - (n + 1))) 9)
        have hg1 := heap_setCells w.heap.size _ [x] i (World.drew (w.alloc _)) _ hg0
        have hg2 := heap_setCells w.heap.size _ (xs.drop i) (i + 1) _ _ (show (World.drew ((World.drew (w.alloc _)).setCells w.heap.size i [x])).heap[w.heap.size]? = _ from hg1)
        refine ⟨_, some w.heap.size, rfl, RowAt.of_cells hg2 hge (grownCap_le_maxLen w (n + 1) cap 9 hml) (by rw [setL_size, setL_size]; exact Nat.le_of_eq ((Nat.zero_add _).trans hsz2.symm)) (by rw [insL_len xs i x (by omega), hl]) ?_, ?_, .inr ⟨_, rfl, Nat.le_refl _⟩⟩
        · intro q hq
          rw [Nat.zero_add, setL_get _ _ _ _ (by rw [setL_size, hsz2]; simp; omega), setL_get _ _ _ _ (by rw [hsz2]; simp; omega), insL_get xs i x (by omega)]
          by_cases h2 : q = i
          · rw [if_neg (by omega), if_pos (by simp; omega), if_neg (by omega), if_pos h2, h2, Nat.sub_self]; rfl
          · by_cases h3 : q < i
            · rw [if_neg (by omega), if_neg (by simp; omega), if_pos h3]
              rw [Array.append_assoc, Array.getElem?_append_left (by simp; omega), List.getElem?_toArray, List.getElem?_take, if_pos h3]
            · rw [if_pos (by simp; omega), if_neg h3, if_neg h2, List.getElem?_drop]
              congr 1; omega
        · refine (((((Chg.refl (fun k => some k = some g) w).alloc _).drew).trans (chg_setCells w.heap.size [x] _ _) fun k hk e => by omega).drew).trans (chg_setCells w.heap.size (xs.drop i) _ _) fun k hk e => by omega

/-- A row as it is read by Clone. -/
theorem owns_reads_string {w : World} {n₀ n : Nat} {v : Value} {xs : List Value} (h : w.ownsRow n₀ 9 1 v n xs) : ∃ A c, v = .slice A n c ∧ ReadsAt w A xs ∧ ∀ g off, A = some ⟨g, off, none⟩ → n₀ ≤ g := by
  rcases h.2 with ⟨rfl, rfl⟩ | ⟨g, cap, cur, rfl, hge, hg, _, _, _, ht⟩
  · have hx : xs = [] := List.eq_nil_of_length_eq_zero (by simpa using h.1)
    exact ⟨none, 0, rfl, (fun hp => by rw [hx] at hp; cases hp), fun _ _ e => by cases e⟩
  · refine ⟨_, cap, rfl, fun _ => ⟨g, 0, rfl, lt_of_heap hg, fun j u hu => ?_⟩, fun _ _ e => by cases e; exact hge⟩
    rw [Nat.zero_add, cell_of_row _ _ _ _ _ _ hg, ← Array.getElem?_toList]
    rw [← ht, List.getElem?_take] at hu
    split at hu
    · exact hu
    · cases hu
theorem clone_string (zs : List ByteArray) (A : Option Addr) (c : Nat) (w : World) (hl : zs.length ≤ 100000) (h : ReadsAt w A (zs.map Value.string)) :
    Calls Try.prog 41 #[.slice A zs.length c] w fun e w' => ∃ A' c', e = .returned (.slice A' zs.length c') ∧ ReadsAt w' A' (zs.map Value.string) ∧ Below w.heap.size w w' ∧ ∀ g off, A' = some ⟨g, off, none⟩ → w.heap.size ≤ g := by
  cases zs with
  | nil =>
    cases A with
    | none =>
      refine (Any.slices_Clone_string_nil laysNm216 0 c w).mono ?_
      rintro e w' ⟨rfl, rfl⟩
      exact ⟨none, 0, rfl, (fun hp => absurd hp (by simp)), Below.refl _ _, fun _ _ e => by cases e⟩
    | some a =>
      refine (Any.slices_Clone_string_zero laysNm216 a c w).mono ?_
      rintro e w' ⟨v, rfl, hown, _, hb⟩
      obtain ⟨A', c', rfl, hr, hn⟩ := owns_reads_string hown
      exact ⟨A', c', rfl, hr, hb, hn⟩
  | cons z zs =>
    obtain ⟨g, off, rfl, _, hc⟩ := h (by simp)
    refine (Any.slices_Clone_string laysNm216 g off (zs.length + 1) c (z :: zs) w (by simp) (by simp at hl; omega) (fun j hj => ?_)).mono ?_
    · refine hc j _ ?_
      rw [List.getElem?_map, List.getD_eq_getElem?_getD, List.getElem?_eq_getElem hj]
      rfl
    · rintro e w' ⟨v, rfl, hown, _, hb⟩
      rw [show (z :: zs).take (zs.length + 1) = z :: zs from List.take_of_length_le (by simp)] at hown
      obtain ⟨A', c', rfl, hr, hn⟩ := owns_reads_string hown
      exact ⟨A', c', rfl, hr, hb, hn⟩
theorem delete_string {v : Value} {r : Option Nat} {n : Nat} {w : World} (zs : List ByteArray) (h : RowAt w 9 1 v r n (zs.map Value.string)) (i : Nat) (hi : i < n) (hn : n ≤ 100000) :
    Calls Try.prog 27 #[v, .int .i64 (i : Nat), .int .i64 ((i : Nat) + 1)] w fun e w' => ∃ v', e = .returned v' ∧ RowAt w' 9 1 v' r (n - 1) ((zs.eraseIdx i).map Value.string) ∧ Chg (fun k => some k = r) w w' := by
  obtain ⟨hl, hc⟩ := h.cells
  rw [List.length_map] at hl
  rcases hc with ⟨_, _, rfl, _⟩ | ⟨g, off, cap, cur, rfl, rfl, hg, hcap, hmax, hsz, hcell⟩
  · omega
  have hH : Sort.Holds encStr w g off (zs.map fun b : ByteArray => b.data.toList).toArray := by
    intro j hj
    have hj2 : j < n := by simpa [hl] using hj
    refine ⟨?_, by simp [World.frozen?, hg]⟩
    rw [cell_of_row w g (off + j) cur 9 (0, 0) hg, hcell j hj2, List.getElem?_map, List.getElem?_eq_getElem (by omega)]
    simp [hl, hj2, encStr]
  have hzl : (zs.map fun b : ByteArray => b.data.toList).length = n := by simp [hl]
  have hD := Any.slices_Delete_string laysNm224 g off cap i (i + 1) (zs.map fun b : ByteArray => b.data.toList) w hH (by omega) (by unfold maxLen at hmax; omega) (by omega) (by omega)
  rw [hzl, show i + 1 - i = 1 from by omega] at hD
  refine hD.mono ?_
  rintro e w' ⟨rfl, q, rfl⟩
  have hys : ((zs.map fun b : ByteArray => b.data.toList).take i ++ (zs.map fun b : ByteArray => b.data.toList).drop (i + 1) ++ List.replicate 1 []).length = n := by simp [hl]; omega
  rw [putRow_eq_setCells encStr w g off (zs.map fun b : ByteArray => b.data.toList).toArray _ q hH (by simpa [hl] using hys)]
  refine ⟨_, rfl, RowAt.of_cells (heap_setCells g _ _ off (w.drewN q) cur hg) (by omega) hmax (by rw [setL_size]; exact hsz) (by rw [List.length_map, List.length_eraseIdx, if_pos (by omega)]; omega) ?_, ((Chg.refl (fun k => some k = some g) w).drewN q).trans (chg_setCells g _ _ _) fun k _ e => by rw [e]⟩
  intro k hk
  have hlen : (((zs.map fun b : ByteArray => b.data.toList).take i ++ (zs.map fun b : ByteArray => b.data.toList).drop (i + 1) ++ List.replicate 1 []).map encStr).length = n := by rw [List.length_map]; exact hys
  rw [setL_get _ _ _ _ (by rw [hlen]; omega), if_pos (by rw [hlen]; omega), Nat.add_sub_cancel_left]
  rw [List.map_append, List.getElem?_append_left (by rw [List.length_map]; simp [hl]; omega), ← List.eraseIdx_eq_take_drop_succ]
  rw [List.getElem?_map, List.getElem?_map, List.getElem?_eraseIdx, List.getElem?_eraseIdx]; by_cases h : k < i <;> simp [h, Function.comp_def] <;> rfl

theorem search_int (ks : List Int) (A : Option Addr) (c : Nat) (x : Int) (w : World) (hl : ks.length ≤ 100000) (h : ReadsAt w A (ks.map (Value.int .i64))) (hs : ks.Pairwise (· ≤ ·)) :
    Calls Try.prog 34 #[.slice A ks.length c, .int .i64 x] w fun e w' => e = .returned (.tuple #[.int .i64 (ks.countP (· < x) : Nat), .bool (ks.contains x)]) ∧ Below w.heap.size w w' := by
  cases ks with
  | nil =>
    refine (Any.slices_BinarySearch_int_empty laysNm225 A c x w).mono ?_
    rintro e w' ⟨rfl, rfl⟩
    exact ⟨rfl, Below.refl _ _⟩
  | cons z zs =>
    obtain ⟨g, off, rfl, _, hc⟩ := h (by simp)
    have ht : (z :: zs).take (z :: zs).length = z :: zs := List.take_of_length_le (Nat.le_refl _)
    have hB := Any.slices_BinarySearch_int laysNm225 g off (z :: zs).length c (z :: zs) x w (Nat.le_refl _) (by omega) (fun j hj => by
      refine hc j _ ?_
      rw [List.getElem?_map, List.getD_eq_getElem?_getD, List.getElem?_eq_getElem hj]
      rfl) (by rw [ht]; exact hs)
    rw [ht] at hB
    refine hB.mono ?_
    rintro e w' ⟨rfl, q, rfl⟩
    exact ⟨rfl, ⟨rfl, rfl, rfl, Nat.le_refl _, fun _ _ => rfl⟩⟩
end Go.Proofs.Ytdnlgcomhgnegaa
