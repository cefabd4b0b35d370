/- SetsRows: what stands between two rounds. -/
import Derived.Test.YtdnlgcomhgnegaaRowG
import Derived.Test.YtdnlgcomhgnegaaLives
namespace Go.Proofs.Ytdnlgcomhgnegaa
open Go.RowKit Go.Maps

abbrev OpR := Int × Int × ByteArray
def opsV (l : List OpR) : List Value := l.flatMap fun o => [.int .u64 o.1, .int .i64 o.2.1, .string o.2.2]
/-- Where things lie. -/
structure GeoR (w : World) (n₀ b3 b4 b mb b7 : Nat) : Prop where
  n0 : w.heap.size ≤ n₀
  l3 : b3 < n₀
  l4 : b4 < n₀
  lb : b < n₀
  lm : mb < n₀
  l7 : b7 < n₀
  gb : w.heap.size ≤ b
  gm : w.heap.size ≤ mb
structure InR (w : World) (n₀ b3 b4 b mb b7 : Nat) (f : Int) (rk rv rq : Option Nat) (L Lm Lk : List Pr) (K : List Int) (vk : Value) (N : Nat) (W : World) : Prop where
  row : RAt W b rk rv L
  map : MapAt Try.prog 3 9 W mb N (mapP Lm)
  keys : RowAt W 3 1 vk rq K.length (ints K)
  perm : K.Perm (keysP Lk)
  hk : ∀ k, rk = some k → n₀ ≤ k
  hv : ∀ k, rv = some k → n₀ ≤ k
  hq : ∀ k, rq = some k → n₀ ≤ k
  ne : ∀ k, rk = some k → rq ≠ some k
  b3_ : Boxed W b3 3 (.int .i64 f)
  b4_ : Boxed W b4 4 (.bool false)
  b7_ : Boxed W b7 36 (.map (some mb))
  size : n₀ ≤ W.heap.size
  below : Below w.heap.size w W
section
variable {w W W' : World} {n₀ b3 b4 b mb b7 : Nat} {f : Int} {rk rv rq rk' rv' rq' : Option Nat} {L Lm Lk L' Lm' Lk' : List Pr} {K K' : List Int} {vk vk' : Value} {N N' : Nat} {S : Nat → Prop}
theorem InR.turn (h : InR w n₀ b3 b4 b mb b7 f rk rv rq L Lm Lk K vk N W) (hc : Chg S W W') (h3 : ¬ S b3) (h4 : ¬ S b4) (h7 : ¬ S b7) (hSw : ∀ i, S i → w.heap.size ≤ i)
    (row : RAt W' b rk' rv' L') (map : MapAt Try.prog 3 9 W' mb N' (mapP Lm')) (keys : RowAt W' 3 1 vk' rq' K'.length (ints K')) (perm : K'.Perm (keysP Lk'))
    (hk : ∀ k, rk' = some k → n₀ ≤ k) (hv : ∀ k, rv' = some k → n₀ ≤ k) (hq : ∀ k, rq' = some k → n₀ ≤ k) (ne : ∀ k, rk' = some k → rq' ≠ some k) :
    InR w n₀ b3 b4 b mb b7 f rk' rv' rq' L' Lm' Lk' K' vk' N' W' :=
  ⟨row, map, keys, perm, hk, hv, hq, ne, hc.heap h.b3_ h3, hc.heap h.b4_ h4, hc.heap h.b7_ h7, Nat.le_trans h.size hc.size, h.below.trans (hc.below h.below.size hSw)⟩
theorem RAt.obj (h : RAt W b rk rv L) : ∃ kv vv, W.heap[b]? = some (.cells #[kv, vv] 35 (0, 0)) := by
  obtain ⟨kv, vv, h1, _⟩ := h.ex
  exact ⟨kv, vv, h1⟩
theorem box_ne_row {t k : Nat} {u : Value} (h : RAt W b rk rv L) (hb : Boxed W k t u) (ht : t ≠ 35) : k ≠ b := by
  obtain ⟨kv, vv, h1⟩ := h.obj
  rintro rfl
  rw [show W.heap[k]? = _ from hb] at h1
  injection h1 with h1
  injection h1 with _ h2 _
  exact ht h2
/-- The world grew. -/
theorem InR.grow (h : InR w n₀ b3 b4 b mb b7 f rk rv rq L Lm Lk K vk N W) (hB : Below W.heap.size W W') : InR w n₀ b3 b4 b mb b7 f rk rv rq L Lm Lk K vk N W' := by
  have hc := Chg.of_below hB (fun _ => False)
  exact h.turn hc (fun h => h) (fun h => h) (fun h => h) (fun _ h => h.elim) (h.row.below hB) (h.map.kept hc (fun h => h)) (h.keys.kept hc fun _ _ h => h) h.perm h.hk h.hv h.hq h.ne
theorem InR.drew (h : InR w n₀ b3 b4 b mb b7 f rk rv rq L Lm Lk K vk N W) : InR w n₀ b3 b4 b mb b7 f rk rv rq L Lm Lk K vk N W.drew := h.grow (Below.refl _ W).drew
/-- The row turned. -/
theorem InR.rowed (G : GeoR w n₀ b3 b4 b mb b7) (h : InR w n₀ b3 b4 b mb b7 f rk rv rq L Lm Lk K vk N W) (st : RStep W b rk rv W' rk' rv' L') : InR w n₀ b3 b4 b mb b7 f rk' rv' rq L' Lm Lk K vk N W' := by
  have hge : ∀ i, FootR b rk rv i → i = b ∨ n₀ ≤ i := by
    rintro i (rfl | e | e)
    · exact .inl rfl
    · exact .inr (h.hk i e.symm)
    · exact .inr (h.hv i e.symm)
  have hbox : ∀ k t u, Boxed W k t u → t ≠ 35 → k < n₀ → ¬ FootR b rk rv k := fun k t u hb ht hk hf => by
    rcases hge k hf with e | e
    · exact box_ne_row h.row hb ht e
    · omega
  have hk' : ∀ k, rk' = some k → n₀ ≤ k := st.nk.ge h.size h.hk
  refine h.turn st.chg (hbox _ _ _ h.b3_ (by decide) G.l3) (hbox _ _ _ h.b4_ (by decide) G.l4) (hbox _ _ _ h.b7_ (by decide) G.l7) (fun i hi => by
      have := G.gb; have := G.n0
      rcases hge i hi with e | e <;> omega) st.at_ (h.map.kept st.chg fun hf => ?_) (h.keys.kept st.chg fun k hk hf => ?_) h.perm hk' (st.nv.ge h.size h.hv) h.hq fun k hk hq => ?_
  · obtain ⟨kv, vv, h1⟩ := h.row.obj
    rcases hge mb hf with e | e
    · exact h.map.ne_cells h1 e.symm
    · have := G.lm; omega
  · have hn := h.hq k hk
    rcases hf with e | e | e
    · have := G.lb; omega
    · exact h.ne k e.symm hk
    · obtain ⟨kv, vv, h1, h2, h3⟩ := h.row.ex
      exact row_blk_ne h.keys h3 (by decide) k hk e.symm
  · rcases st.nk with e | ⟨j, e, hj⟩
    · exact h.ne k (by rw [← e]; exact hk) hq
    · rw [e] at hk; cases hk
      have := h.keys.lt k hq
      omega
/-- The map turned. -/
theorem InR.mapped (G : GeoR w n₀ b3 b4 b mb b7) (h : InR w n₀ b3 b4 b mb b7 f rk rv rq L Lm Lk K vk N W) (hm : MapAt Try.prog 3 9 W' mb N' (mapP Lm')) (hc : Chg (fun k => k = mb) W W') : InR w n₀ b3 b4 b mb b7 f rk rv rq L Lm' Lk K vk N' W' := by
  have hb : ∀ k c t fr, W.heap[k]? = some (.cells c t fr) → ¬ k = mb := fun k c t fr hk e => h.map.ne_cells hk e
  obtain ⟨kv, vv, h1⟩ := h.row.obj
  have hlm := G.lm
  refine h.turn hc (hb _ _ _ _ h.b3_) (hb _ _ _ _ h.b4_) (hb _ _ _ _ h.b7_) (fun i e => by rw [e]; exact G.gm) (h.row.kept hc fun k hf e => ?_) hm (h.keys.kept hc fun k hk e => by have := h.hq k hk; omega) h.perm h.hk h.hv h.hq h.ne
  rcases hf with e1 | e1 | e1
  · exact hb _ _ _ _ h1 (e1 ▸ e)
  · have := h.hk k e1.symm; omega
  · have := h.hv k e1.symm; omega
theorem InR.reperm (h : InR w n₀ b3 b4 b mb b7 f rk rv rq L Lm Lk K vk N W) (hp : K.Perm (keysP Lk')) : InR w n₀ b3 b4 b mb b7 f rk rv rq L Lm Lk' K vk N W :=
  ⟨h.row, h.map, h.keys, hp, h.hk, h.hv, h.hq, h.ne, h.b3_, h.b4_, h.b7_, h.size, h.below⟩
/-- The keys beside turned. -/
theorem InR.keyed (G : GeoR w n₀ b3 b4 b mb b7) (h : InR w n₀ b3 b4 b mb b7 f rk rv rq L Lm Lk K vk N W) (hc : Chg (fun k => some k = rq) W W') (hr : RowAt W' 3 1 vk' rq' K'.length (ints K')) (hn : NewOr W rq rq') (hp : K'.Perm (keysP Lk')) : InR w n₀ b3 b4 b mb b7 f rk rv rq' L Lm Lk' K' vk' N W' := by
  have hlt : ∀ k, k < n₀ → ¬ some k = rq := fun k hk e => by have := h.hq k e.symm; omega
  obtain ⟨kv, vv, h1, h2, h3⟩ := h.row.ex
  refine h.turn hc (hlt _ G.l3) (hlt _ G.l4) (hlt _ G.l7) (fun i e => by have := h.hq i e.symm; have := G.n0; omega) (h.row.kept hc fun k hf e => ?_) (h.map.kept hc (hlt _ G.lm)) hr hp h.hk h.hv (hn.ge h.size h.hq) fun k hk hq => ?_
  · rcases hf with e1 | e1 | e1
    · subst e1; exact hlt _ G.lb e
    · exact h.ne k e1.symm e.symm
    · exact row_blk_ne h.keys h3 (by decide) k e.symm e1.symm
  · rcases hn with e | ⟨j, e, hj⟩
    · exact h.ne k hk (by rw [← e]; exact hq)
    · rw [e] at hq; cases hq
      have := h2.lt k hk
      omega
/-- The keys beside made anew. -/
theorem InR.fresh (h : InR w n₀ b3 b4 b mb b7 f rk rv rq L Lm Lk K vk N W) (hg : Gath W K' vk' W') (hp : K'.Perm (keysP Lk')) : ∃ rq', InR w n₀ b3 b4 b mb b7 f rk rv rq' L Lm Lk' K' vk' N W' := by
  obtain ⟨r, h1, h2⟩ := hg.row
  have hg2 := h.grow hg.below
  refine ⟨r, hg2.row, hg2.map, h1, hp, hg2.hk, hg2.hv, fun k hk => Nat.le_trans h.size (h2 k hk), fun k hk hq => ?_, hg2.b3_, hg2.b4_, hg2.b7_, hg2.size, hg2.below⟩
  obtain ⟨kv, vv, _, h3, _⟩ := h.row.ex
  have := h3.lt k hk
  have := h2 k hq
  omega
end
theorem reachA (b : Nat) (W : World) : Calls Try.prog 14 #[.pointer (some ⟨b, 0, none⟩)] W fun e w' => ∃ E1 E2, e = .returned (.func (.func 39) #[] #[.pointer (some ⟨E1, 0, none⟩), .pointer (some ⟨E2, 0, none⟩)]) ∧
    (w'.cell? ⟨E1, 0, none⟩ = some (.pointer (some ⟨b, 0, none⟩)) ∧ w'.cell? ⟨E2, 0, none⟩ = some (.func (.func 29) #[] #[])) ∧ Below W.heap.size W w' := by
  refine (reach_any _ W).mono ?_
  rintro e w' ⟨rfl, rfl⟩
  refine ⟨_, _, rfl, ⟨?_, ?_⟩, ((Below.refl _ W).alloc (Nat.le_refl _) _).alloc (by simp) _⟩
  · exact (cell_of_row _ _ 0 _ _ _ (heap_alloc_old2 W _ _)).trans rfl
  · exact (cell_of_row _ _ 0 _ _ _ (heap_alloc_new2 W _ _)).trans rfl
theorem rfromA (b : Nat) (x : Int) (W : World) : Calls Try.prog 15 #[.pointer (some ⟨b, 0, none⟩), .int .i64 x] W fun e w' => ∃ F1 F2 C1 C2, e = .returned (.func (.func 39) #[] #[.pointer (some ⟨F1, 0, none⟩), .pointer (some ⟨F2, 0, none⟩)]) ∧
    (w'.cell? ⟨F1, 0, none⟩ = some (.pointer (some ⟨b, 0, none⟩)) ∧ w'.cell? ⟨F2, 0, none⟩ = some (.func (.func 30) #[] #[.pointer (some ⟨C1, 0, none⟩), .pointer (some ⟨C2, 0, none⟩)]) ∧ w'.cell? ⟨C1, 0, none⟩ = some (.pointer (some ⟨b, 0, none⟩)) ∧ w'.cell? ⟨C2, 0, none⟩ = some (.int .i64 x) ∧ W.heap.size ≤ C2) ∧ Below W.heap.size W w' := by
  refine (rfrom_any _ x W).mono ?_
  rintro e w' ⟨rfl, rfl⟩
  have h1 := heap_alloc_old2 W (.cells #[.pointer (some ⟨b, 0, none⟩)] 58) (.cells #[.int .i64 x] 3)
  have h2 := heap_alloc_new2 W (.cells #[.pointer (some ⟨b, 0, none⟩)] 58) (.cells #[.int .i64 x] 3)
  refine ⟨_, _, W.heap.size, W.heap.size + 1, rfl, ⟨?_, ?_, ?_, ?_, Nat.le_succ _⟩, ((((Below.refl _ W).alloc (Nat.le_refl _) _).alloc (by simp) _).alloc (by simp; omega) _).alloc (by simp; omega) _⟩
  · have h := heap_alloc_old2 ((W.alloc (.cells #[.pointer (some ⟨b, 0, none⟩)] 58)).alloc (.cells #[.int .i64 x] 3)) (.cells #[.pointer (some ⟨b, 0, none⟩)] 58) (.cells #[.func (.func 30) #[] #[.pointer (some ⟨W.heap.size, 0, none⟩), .pointer (some ⟨W.heap.size + 1, 0, none⟩)]] 29)
    rw [World.size_alloc, World.size_alloc] at h
    exact (cell_of_row _ _ 0 _ _ _ h).trans rfl
  · have h := heap_alloc_new2 ((W.alloc (.cells #[.pointer (some ⟨b, 0, none⟩)] 58)).alloc (.cells #[.int .i64 x] 3)) (.cells #[.pointer (some ⟨b, 0, none⟩)] 58) (.cells #[.func (.func 30) #[] #[.pointer (some ⟨W.heap.size, 0, none⟩), .pointer (some ⟨W.heap.size + 1, 0, none⟩)]] 29)
    rw [World.size_alloc, World.size_alloc] at h
    exact (cell_of_row _ _ 0 _ _ _ h).trans rfl
  · exact (cell_of_row _ _ 0 _ _ _ ((heap_alloc_old _ _ _ (by simp; omega)).trans ((heap_alloc_old _ _ _ (by simp; omega)).trans h1))).trans rfl
  · exact (cell_of_row _ _ 0 _ _ _ ((heap_alloc_old _ _ _ (by simp)).trans ((heap_alloc_old _ _ _ (by simp)).trans h2))).trans rfl
/-- The last key so far. -/
def lastP (z : Int) (l : List Pr) : Int := match l.getLast? with | some p => p.1 | none => z
theorem lastP_snoc (z : Int) (l : List Pr) (x : Pr) : lastP z (l ++ [x]) = x.1 := by unfold lastP; rw [List.getLast?_concat]
theorem rise_snoc {l : List Pr} {x : Pr} {z : Int} (h : Rise l) (hx : 0 < l.length → lastP z l < x.1) : Rise (l ++ [x]) := by
  rcases List.eq_nil_or_concat l with rfl | ⟨l', y, rfl⟩
  · exact List.pairwise_singleton _ _
  · have h1 := hx (by simp)
    rw [List.concat_eq_append] at h h1 ⊢
    rw [lastP_snoc] at h1
    unfold Rise at h ⊢
    rw [List.pairwise_append] at h ⊢
    refine ⟨by rw [List.pairwise_append]; exact h, List.pairwise_singleton _ _, ?_⟩
    intro a ha c hc
    rw [List.mem_singleton] at hc
    subst hc
    rcases List.mem_append.1 ha with ha | ha
    · have := h.2.2 a ha y (by simp); omega
    · rw [List.mem_singleton] at ha; subst ha; exact h1
theorem not_rise_snoc {l : List Pr} {x : Pr} {z : Int} (hl : 0 < l.length) (hx : x.1 ≤ lastP z l) : ¬ Rise (l ++ [x]) := by
  intro h
  rcases List.eq_nil_or_concat l with rfl | ⟨l', y, rfl⟩
  · simp at hl
  · rw [List.concat_eq_append] at h hx
    rw [lastP_snoc] at hx
    unfold Rise at h
    rw [List.pairwise_append] at h
    have := h.2.2 y (by simp) x (by simp)
    omega
/-- How many from a key on. -/
def behP (f : Int) (l : List Pr) : Nat := l.countP fun p => decide (f ≤ p.1)
theorem behP_snoc (f : Int) (l : List Pr) (x : Pr) : behP f (l ++ [x]) = behP f l + (if f ≤ x.1 then 1 else 0) := by
  unfold behP
  rw [List.countP_append, List.countP_cons, List.countP_nil]
  by_cases h : f ≤ x.1 <;> simp [h]
theorem behP_le (f : Int) (l : List Pr) : behP f l ≤ l.length := List.countP_le_length
theorem behP_drop {L : List Pr} (h : Rise L) (f : Int) : behP f L = (L.drop (posP L f)).length := by
  rw [(cut_at h f).2]
  unfold behP
  rw [List.countP_eq_length_filter]
theorem drop_ge {L : List Pr} (h : Rise L) {f : Int} {x : Pr} (hx : x ∈ L.drop (posP L f)) : f ≤ x.1 := by
  rw [(cut_at h f).2, List.mem_filter] at hx
  simpa using hx.2
theorem boxed_eq {W : World} {c t : Nat} {x y : Int} (h : Boxed W c t (.int .i64 x)) (e : x = y) : Boxed W c t (.int .i64 y) := e ▸ h
theorem KpC.set {B c : Nat} {Z : World} (h : c < B) (v : Value) : KpC B Z (Z.setCell ⟨c, 0, none⟩ v) := by
  intro k o hk ho _
  have hlt := lt_of_heap ho
  rw [(Chg.store Z c 0 v).block k hlt (fun e => by omega)]
  exact ho
theorem two_set' {B c0 c3 : Nat} {Z : World} {u0 u3 : Value} (h0 : Boxed Z c0 3 u0) (h3 : Boxed Z c3 3 u3) (n03 : c0 ≠ c3) (b0 : c0 < B) (b3 : c3 < B) (v0 v3 : Value) :
    (Boxed ((Z.setCell ⟨c0, 0, none⟩ v0).setCell ⟨c3, 0, none⟩ v3) c0 3 v0 ∧ Boxed ((Z.setCell ⟨c0, 0, none⟩ v0).setCell ⟨c3, 0, none⟩ v3) c3 3 v3) ∧
    Chg (fun k => k = c0 ∨ k = c3) Z ((Z.setCell ⟨c0, 0, none⟩ v0).setCell ⟨c3, 0, none⟩ v3) ∧ (∀ B', KeepsFrom B' Z ((Z.setCell ⟨c0, 0, none⟩ v0).setCell ⟨c3, 0, none⟩ v3)) ∧ KpC B Z ((Z.setCell ⟨c0, 0, none⟩ v0).setCell ⟨c3, 0, none⟩ v3) :=
  ⟨⟨(h0.set v0).other n03 v3, (h3.other n03.symm v0).set v3⟩,
    ((Chg.store Z c0 0 v0).mono fun _ _ e => .inl e).trans (Chg.store _ c3 0 v3) fun _ _ e => .inr e,
    fun B' => ((KeepsOthers.setCell _ _ _).trans (KeepsOthers.setCell _ _ _)).from B', (KpC.set b0 v0).trans (KpC.set b3 v3)⟩
theorem two_set {B c0 c1 c2 : Nat} {Z : World} {u0 u1 u2 : Value} (h0 : Boxed Z c0 3 u0) (h1 : Boxed Z c1 3 u1) (h2 : Boxed Z c2 3 u2) (n01 : c0 ≠ c1) (n02 : c0 ≠ c2) (n12 : c1 ≠ c2) (b0 : c0 < B) (b1 : c1 < B) (v0 v1 : Value) :
    (Boxed ((Z.setCell ⟨c0, 0, none⟩ v0).setCell ⟨c1, 0, none⟩ v1) c0 3 v0 ∧ Boxed ((Z.setCell ⟨c0, 0, none⟩ v0).setCell ⟨c1, 0, none⟩ v1) c1 3 v1 ∧ Boxed ((Z.setCell ⟨c0, 0, none⟩ v0).setCell ⟨c1, 0, none⟩ v1) c2 3 u2) ∧
    Chg (fun k => k = c0 ∨ k = c1 ∨ k = c2) Z ((Z.setCell ⟨c0, 0, none⟩ v0).setCell ⟨c1, 0, none⟩ v1) ∧ (∀ B', KeepsFrom B' Z ((Z.setCell ⟨c0, 0, none⟩ v0).setCell ⟨c1, 0, none⟩ v1)) ∧ KpC B Z ((Z.setCell ⟨c0, 0, none⟩ v0).setCell ⟨c1, 0, none⟩ v1) :=
  ⟨⟨(h0.set v0).other n01 v1, (h1.other n01.symm v0).set v1, (h2.other n02.symm v0).other n12.symm v1⟩,
    ((Chg.store Z c0 0 v0).mono fun _ _ e => .inl e).trans (Chg.store _ c1 0 v1) fun _ _ e => .inr (.inl e),
    fun B' => ((KeepsOthers.setCell _ _ _).trans (KeepsOthers.setCell _ _ _)).from B', (KpC.set b0 v0).trans (KpC.set b1 v1)⟩
theorem three_set {B c0 c1 c2 : Nat} {Z : World} {u0 u1 u2 : Value} (h0 : Boxed Z c0 3 u0) (h1 : Boxed Z c1 3 u1) (h2 : Boxed Z c2 3 u2) (n01 : c0 ≠ c1) (n02 : c0 ≠ c2) (n12 : c1 ≠ c2) (b0 : c0 < B) (b1 : c1 < B) (b2 : c2 < B) (v0 v1 v2 : Value) :
    (Boxed (((Z.setCell ⟨c0, 0, none⟩ v0).setCell ⟨c1, 0, none⟩ v1).setCell ⟨c2, 0, none⟩ v2) c0 3 v0 ∧ Boxed (((Z.setCell ⟨c0, 0, none⟩ v0).setCell ⟨c1, 0, none⟩ v1).setCell ⟨c2, 0, none⟩ v2) c1 3 v1 ∧ Boxed (((Z.setCell ⟨c0, 0, none⟩ v0).setCell ⟨c1, 0, none⟩ v1).setCell ⟨c2, 0, none⟩ v2) c2 3 v2) ∧
    Chg (fun k => k = c0 ∨ k = c1 ∨ k = c2) Z (((Z.setCell ⟨c0, 0, none⟩ v0).setCell ⟨c1, 0, none⟩ v1).setCell ⟨c2, 0, none⟩ v2) ∧ (∀ B', KeepsFrom B' Z (((Z.setCell ⟨c0, 0, none⟩ v0).setCell ⟨c1, 0, none⟩ v1).setCell ⟨c2, 0, none⟩ v2)) ∧ KpC B Z (((Z.setCell ⟨c0, 0, none⟩ v0).setCell ⟨c1, 0, none⟩ v1).setCell ⟨c2, 0, none⟩ v2) := by
  obtain ⟨⟨g0, g1, g2⟩, hc, hk, hp⟩ := two_set (B := B) h0 h1 h2 n01 n02 n12 b0 b1 v0 v1
  exact ⟨⟨g0.other n02 v2, g1.other n12 v2, g2.set v2⟩, hc.trans (Chg.store _ c2 0 v2) fun _ _ e => .inr (.inr e), fun B' => (hk B').trans ((KeepsOthers.setCell _ _ _).from B'), hp.trans (KpC.set b2 v2)⟩
end Go.Proofs.Ytdnlgcomhgnegaa
