/- PickOne: the program of one block, one operator of two; plain; then the walk of the law. -/
import Derived.Test.YtnfneinonkpmeaaLv36
namespace Go.Proofs.Ytnfneinonkpmeaa

def numI (d z : Int) : Ins := ⟨1, 0, d, -1, -1, z, ⟨#[]⟩, []⟩
def readI (d : Int) : Ins := ⟨8, 0, d, -1, -1, 0, ⟨#[]⟩, []⟩
def oneF (k : Int) (x y : Ins) : Fn := ⟨mainN, 0, 3, [⟨[x, y, ⟨4, k, 2, 0, 1, 0, ⟨#[]⟩, []⟩], 3, 2, 0, 0⟩]⟩
def oneM (k : Int) (x y : Ins) : Mid := ⟨[], [oneF k x y]⟩
def oneX (h : Bool) (d z : Int) : Ins := if h then numI d z else readI d
def oneIn (hx hy : Bool) (a b : Int) : List Int := (if hx then [] else [a]) ++ (if hy then [] else [b])
def oneRd (hx hy : Bool) : Nat := (if hx then 0 else 1) + (if hy then 0 else 1)
def resOne (k a b : Int) (hx hy : Bool) : MS := match binO k a b with
  | some v => ⟨[], 1, v, [], 4, oneRd hx hy⟩
  | none => ⟨[], 2, 0, [], 3, oneRd hx hy⟩
theorem one_at (k : Int) (x y : Ins) : fnAt (oneM k x y).fns mainN = 0 := by
  unfold fnAt
  simp [oneM, oneF, List.findIdx?_cons]
theorem one_start (k : Int) (x y : Ins) : start (oneM k x y) = (⟨[], 0, 0, [], 0, 0⟩, [⟨oneF k x y, 0, 0, [0, 0, 0], -1⟩]) := by
  unfold start fnNamed
  rw [one_at]
  rfl
section
variable (k a b : Int) (hx hy : Bool)
theorem one_two (F : Int) (hF : F = 50 ∨ F = 100) : iterC (oneM k (oneX hx 0 a) (oneX hy 1 b)) (oneIn hx hy a b) F 2 (start (oneM k (oneX hx 0 a) (oneX hy 1 b))) = (⟨[], 0, 0, [], 2, oneRd hx hy⟩, [⟨oneF k (oneX hx 0 a) (oneX hy 1 b), 0, 2, [a, b, 0], -1⟩]) := by
  rw [one_start]
  rcases hF with rfl | rfl <;> cases hx <;> cases hy <;> rfl
theorem one_three (F : Int) (hF : F = 50 ∨ F = 100) : stepC (oneM k (oneX hx 0 a) (oneX hy 1 b)) (oneIn hx hy a b) F (⟨[], 0, 0, [], 2, oneRd hx hy⟩, [⟨oneF k (oneX hx 0 a) (oneX hy 1 b), 0, 2, [a, b, 0], -1⟩]) =
    match binO k a b with
    | some v => (⟨[], 0, 0, [], 3, oneRd hx hy⟩, [⟨oneF k (oneX hx 0 a) (oneX hy 1 b), 0, 3, [a, b, v], -1⟩])
    | none => (⟨[], 2, 0, [], 3, oneRd hx hy⟩, [⟨oneF k (oneX hx 0 a) (oneX hy 1 b), 0, 3, [a, b, 0], -1⟩]) := by
  rcases hF with rfl | rfl <;> rfl
theorem one_runs (F : Int) (hF : F = 50 ∨ F = 100) : RunsTo (oneM k (oneX hx 0 a) (oneX hy 1 b)) (oneIn hx hy a b) F (resOne k a b hx hy) := by
  have h2 := one_two k a b hx hy F hF
  have h3 := one_three k a b hx hy F hF
  unfold resOne
  cases hb : binO k a b with
  | none =>
    rw [hb] at h3
    refine ⟨by simp, [⟨oneF k (oneX hx 0 a) (oneX hy 1 b), 0, 3, [a, b, 0], -1⟩], 3, ?_⟩
    rw [show 3 = 2 + 1 from rfl, iterC_add, h2]
    exact h3
  | some v =>
    rw [hb] at h3
    refine ⟨by simp, [], 4, ?_⟩
    rw [show 4 = 2 + 2 from rfl, iterC_add, h2]
    show stepC _ _ _ (stepC _ _ _ _) = _
    rw [h3]
    rcases hF with rfl | rfl <;> rfl
theorem resOne_fin : (resOne k a b hx hy).fin ≠ 5 ∧ (resOne k a b hx hy).trace = [] := by
  unfold resOne
  cases binO k a b <;> simp
theorem one_insv (d z n : Int) (h : Bool) (hd : 0 ≤ d ∧ d < n) : InsV n (oneX h d z) := by
  have hr : regB d n false = true := by unfold regB; simp [hd.1, hd.2]
  unfold oneX
  cases h
  · exact .read d hr
  · exact .num d z hr
theorem one_fnv (hk : 1 ≤ k ∧ k ≤ 16) : FnV (oneF k (oneX hx 0 a) (oneX hy 1 b)) := by
  have r0 : ∀ d : Int, 0 ≤ d ∧ d < 3 → regB d 3 false = true := fun d hd => by unfold regB; simp [hd.1, hd.2]
  refine ⟨show isName mainN = true from by decide +kernel, show (0 : Int) ≤ 0 ∧ (0 : Int) ≤ 8 from by decide, show (0 : Int) ≤ 3 ∧ (3 : Int) ≤ 4096 from by decide, Nat.zero_lt_one, fun bl hb => ?_⟩
  rw [show bl = (⟨[oneX hx 0 a, oneX hy 1 b, ⟨4, k, 2, 0, 1, 0, ⟨#[]⟩, []⟩], 3, 2, 0, 0⟩ : Blk) from by simpa [oneF] using hb]
  refine .leave _ _ (fun x hm => ?_) (r0 2 (by decide))
  simp only [List.mem_cons, List.not_mem_nil, or_false] at hm
  rcases hm with rfl | rfl | rfl
  · exact one_insv 0 a 3 hx (by decide)
  · exact one_insv 1 b 3 hy (by decide)
  · exact .bin k 2 0 1 hk (r0 2 (by decide)) (r0 0 (by decide)) (r0 1 (by decide))
theorem one_mem {x : Ins} {bl : Blk} {f : Fn} (hf : f ∈ (oneM k (oneX hx 0 a) (oneX hy 1 b)).fns) (hb : bl ∈ f.blocks) (hm : x ∈ bl.ins) : x = oneX hx 0 a ∨ x = oneX hy 1 b ∨ x = ⟨4, k, 2, 0, 1, 0, ⟨#[]⟩, []⟩ := by
  rw [show f = oneF k (oneX hx 0 a) (oneX hy 1 b) from by simpa [oneM] using hf] at hb
  rw [show bl = (⟨[oneX hx 0 a, oneX hy 1 b, ⟨4, k, 2, 0, 1, 0, ⟨#[]⟩, []⟩], 3, 2, 0, 0⟩ : Blk) from by simpa [oneF] using hb] at hm
  simpa using hm
theorem one_kind {x : Ins} (h : x = oneX hx 0 a ∨ x = oneX hy 1 b ∨ x = ⟨4, k, 2, 0, 1, 0, ⟨#[]⟩, []⟩) : x.kind = 1 ∨ x.kind = 8 ∨ x.kind = 4 := by
  rcases h with rfl | rfl | rfl
  · cases hx
    · exact .inr (.inl rfl)
    · exact .inl rfl
  · cases hy
    · exact .inr (.inl rfl)
    · exact .inl rfl
  · exact .inr (.inr rfl)
theorem one_may (hk : 1 ≤ k ∧ k ≤ 16) : MayV (oneM k (oneX hx 0 a) (oneX hy 1 b)) := by
  refine ⟨Nat.zero_le _, show wordsL [] ≤ 16384 from by decide, fun i h => absurd h (Nat.not_lt_zero _), ⟨0, by simp [oneM], one_at _ _ _, Int.le_refl 0⟩, fun i h => ?_⟩
  have e : i = 0 := by simp [oneM] at h; exact h
  subst e
  refine ⟨one_fnv k a b hx hy hk, one_at _ _ _, rfl, fun bl hb x hm => ?_⟩
  have h1 := one_kind k a b hx hy (one_mem k a b hx hy (f := oneF k (oneX hx 0 a) (oneX hy 1 b)) (by simp [oneM]) hb hm)
  exact ⟨fun h => by omega, fun h => by omega⟩
theorem one_light : LightV (oneM k (oneX hx 0 a) (oneX hy 1 b)) := by
  refine ⟨show 1 ≤ 8 from by decide, fun f hf => ?_⟩
  rw [show f = oneF k (oneX hx 0 a) (oneX hy 1 b) from by simpa [oneM] using hf]
  refine ⟨show 1 ≤ 80 from by decide, fun bl hb => ?_⟩
  rw [show bl = (⟨[oneX hx 0 a, oneX hy 1 b, ⟨4, k, 2, 0, 1, 0, ⟨#[]⟩, []⟩], 3, 2, 0, 0⟩ : Blk) from by simpa [oneF] using hb]
  show 3 ≤ 100
  decide
theorem one_nums (ha : I32 a) (hb : I32 b) : ∀ f ∈ (oneM k (oneX hx 0 a) (oneX hy 1 b)).fns, ∀ bl ∈ f.blocks, ∀ x ∈ bl.ins, I32 x.num := fun f hf bl hbl x hm => by
  have z0 : I32 0 := by unfold I32; decide
  rcases one_mem k a b hx hy hf hbl hm with rfl | rfl | rfl
  · cases hx
    · exact z0
    · exact ha
  · cases hy
    · exact z0
    · exact hb
  · exact z0
theorem one_inp (ha : I32 a) (hb : I32 b) : ∀ z ∈ oneIn hx hy a b, I32 z := fun z hz => by
  unfold oneIn at hz
  cases hx <;> cases hy <;> simp at hz
  · rcases hz with rfl | rfl <;> assumption
  · subst hz; exact ha
  · subst hz; exact hb
theorem one_same (hk : 1 ≤ k ∧ k ≤ 16) (ha : I32 a) (hb : I32 b) {r r' : MS} (h : RunsTo (oneM k (oneX hx 0 a) (oneX hy 1 b)) (oneIn hx hy a b) 100 r) (h' : RunsToV (pickP (oneM k (oneX hx 0 a) (oneX hy 1 b))) (oneIn hx hy a b) 100 r') :
    r.fin = r'.fin ∧ r.value = r'.value ∧ r.reads = r'.reads ∧ r.trace = r'.trace := by
  have e := h.unique (one_runs k a b hx hy 100 (.inr rfl))
  have hK := pick_keeps ⟨one_may k a b hx hy hk, one_nums k a b hx hy ha hb, one_inp a b hx hy ha hb⟩ (one_runs k a b hx hy 50 (.inl rfl)) (r' := r') h'
  obtain ⟨h1, h2, h3, h4, _⟩ := hK.1 (resOne_fin k a b hx hy).1
  rw [e]
  exact ⟨h1.symm, h2.symm, h4.symm, h3.symm⟩
end
end Go.Proofs.Ytnfneinonkpmeaa
namespace Go.Proofs.Ytnfneinonkpmeaa
open Go.RowKit
set_option maxHeartbeats 1000000 in
theorem oneClo_any (kind d n : Int) (w : World) : Calls Try.prog 17 #[.int .i64 kind, .int .i64 d, .int .i32 n] w fun e w' => e = .returned (.agg #[.int .i64 kind, .int .i64 0, .int .i64 d, .int .i64 (-1), .int .i64 (-1), .int .i32 n, .string ⟨#[]⟩, .slice none 0 0]) ∧ Below w.heap.size w w' := by
  go_enter Try.func17, Try.ntmps17
  go_wp2
  go_returns
  exact ⟨rfl, (Below.refl _ _).alloc (Nat.le_refl _) _⟩
abbrev insArr (X : Ins) : Array Value := #[.int .i64 X.kind, .int .i64 X.op, .int .i64 X.d, .int .i64 X.a, .int .i64 X.b, .int .i32 X.num, .string X.name, .slice none 0 0]
abbrev ins3 (X Y Z : Ins) : Array Value := #[.int .i64 X.kind, .int .i64 X.op, .int .i64 X.d, .int .i64 X.a, .int .i64 X.b, .int .i32 X.num, .string X.name, .slice none 0 0, .int .i64 Y.kind, .int .i64 Y.op, .int .i64 Y.d, .int .i64 Y.a, .int .i64 Y.b, .int .i32 Y.num, .string Y.name, .slice none 0 0, .int .i64 Z.kind, .int .i64 Z.op, .int .i64 Z.d, .int .i64 Z.a, .int .i64 Z.b, .int .i32 Z.num, .string Z.name, .slice none 0 0]
/-- What stands while the program is made. -/
structure OneI (w : World) (qb qf qx qy : Nat) (X Y : Ins) (l : List Int) (vi : Value) (rr : Option Nat) (W : World) : Prop where
  below : Below w.heap.size w W
  b : W.heap[qb]? = some (.cells #[.slice none 0 0, .int .i64 3, .int .i64 2, .int .i64 0, .int .i64 0] 58 (0, 0))
  f : W.heap[qf]? = some (.cells #[.string mainN, .int .i64 0, .int .i64 3, .slice (some ⟨qb, 0, none⟩) 1 1] 30 (0, 0))
  x : W.heap[qx]? = some (.cells (insArr X) 54 (0, 0))
  y : W.heap[qy]? = some (.cells (insArr Y) 54 (0, 0))
  row : RowAt W 21 1 vi rr l.length (i32s l)
  low : ∀ q, rr = some q → w.heap.size ≤ q
  old : w.heap.size ≤ qb ∧ w.heap.size ≤ qf ∧ w.heap.size ≤ qx ∧ w.heap.size ≤ qy ∧ qx ≠ qy
section
variable {w W W' : World} {qb qf qx qy : Nat} {X Y : Ins} {l : List Int} {vi : Value} {rr : Option Nat}
theorem OneI.next (h : OneI w qb qf qx qy X Y l vi rr W) (hb : Below W.heap.size W W') : OneI w qb qf qx qy X Y l vi rr W' :=
  ⟨h.below.trans (hb.mono h.below.size), (hb.block _ (lt_of_heap h.b)).trans h.b, (hb.block _ (lt_of_heap h.f)).trans h.f, (hb.block _ (lt_of_heap h.x)).trans h.x, (hb.block _ (lt_of_heap h.y)).trans h.y, h.row.kept (S := fun _ => False) (Chg.of_below hb _) fun _ _ h => h, h.low, h.old⟩
theorem set8_chg (W : World) (q : Nat) (a0 a1 a2 a3 a4 a5 a6 a7 : Value) : Chg (fun k => k = q) W ((((((((W.setCell ⟨q, 0, none⟩ a0).setCell ⟨q, 1, none⟩ a1).setCell ⟨q, 2, none⟩ a2).setCell ⟨q, 3, none⟩ a3).setCell ⟨q, 4, none⟩ a4).setCell ⟨q, 5, none⟩ a5).setCell ⟨q, 6, none⟩ a6).setCell ⟨q, 7, none⟩ a7) :=
  ((((set4_chg W q a0 a1 a2 a3).setCell ⟨q, 4, none⟩ (fun _ => rfl) a4).setCell ⟨q, 5, none⟩ (fun _ => rfl) a5).setCell ⟨q, 6, none⟩ (fun _ => rfl) a6).setCell ⟨q, 7, none⟩ (fun _ => rfl) a7
theorem set8_box {W : World} {q : Nat} {a0 a1 a2 a3 a4 a5 a6 a7 b0 b1 b2 b3 b4 b5 b6 b7 : Value} {t : Nat} (h : W.heap[q]? = some (.cells #[b0, b1, b2, b3, b4, b5, b6, b7] t (0, 0))) :
    ((((((((W.setCell ⟨q, 0, none⟩ a0).setCell ⟨q, 1, none⟩ a1).setCell ⟨q, 2, none⟩ a2).setCell ⟨q, 3, none⟩ a3).setCell ⟨q, 4, none⟩ a4).setCell ⟨q, 5, none⟩ a5).setCell ⟨q, 6, none⟩ a6).setCell ⟨q, 7, none⟩ a7).heap[q]? = some (.cells #[a0, a1, a2, a3, a4, a5, a6, a7] t (0, 0)) := by
  have h0 := heap_setCell_same W q 0 _ t a0 h
  have h1 := heap_setCell_same _ q 1 _ t a1 h0
  have h2 := heap_setCell_same _ q 2 _ t a2 h1
  have h3 := heap_setCell_same _ q 3 _ t a3 h2
  have h4 := heap_setCell_same _ q 4 _ t a4 h3
  have h5 := heap_setCell_same _ q 5 _ t a5 h4
  have h6 := heap_setCell_same _ q 6 _ t a6 h5
  have h7 := heap_setCell_same _ q 7 _ t a7 h6
  rw [h7]; simp
theorem OneI.setx (h : OneI w qb qf qx qy X Y l vi rr W) (Z : Ins) (hc : Chg (fun k => k = qx) W W') (hx : W'.heap[qx]? = some (.cells (insArr Z) 54 (0, 0))) : OneI w qb qf qx qy Z Y l vi rr W' :=
  ⟨h.below.trans (hc.below h.below.size fun k e => by rw [e]; exact h.old.2.2.1), hc.heap h.b fun e => obj_ne h.b h.x (by decide) e, hc.heap h.f fun e => obj_ne h.f h.x (by decide) e, hx, hc.heap h.y fun e => h.old.2.2.2.2 e.symm, h.row.kept hc fun k hk e => row_not h.row h.x (by decide) (by rw [hk, e]), h.low, h.old⟩
theorem OneI.sety (h : OneI w qb qf qx qy X Y l vi rr W) (Z : Ins) (hc : Chg (fun k => k = qy) W W') (hy : W'.heap[qy]? = some (.cells (insArr Z) 54 (0, 0))) : OneI w qb qf qx qy X Z l vi rr W' :=
  ⟨h.below.trans (hc.below h.below.size fun k e => by rw [e]; exact h.old.2.2.2.1), hc.heap h.b fun e => obj_ne h.b h.y (by decide) e, hc.heap h.f fun e => obj_ne h.f h.y (by decide) e, hc.heap h.x fun e => h.old.2.2.2.2 e, hy, h.row.kept hc fun k hk e => row_not h.row h.y (by decide) (by rw [hk, e]), h.low, h.old⟩
theorem OneI.push (h : OneI w qb qf qx qy X Y l vi rr W) (z : Int) {v' : Value} {r' : Option Nat} (hR : RowAt W' 21 1 v' r' (l.length + 1) (i32s l ++ [.int .i32 z])) (hC : Chg (fun k => some k = rr) W W') (hN : NewOr W rr r') : OneI w qb qf qx qy X Y (l ++ [z]) v' r' W' :=
  ⟨h.below.trans (hC.below h.below.size fun k e => h.low k e.symm), hC.heap h.b fun e => row_not h.row h.b (by decide) e.symm, hC.heap h.f fun e => row_not h.row h.f (by decide) e.symm, hC.heap h.x fun e => row_not h.row h.x (by decide) e.symm, hC.heap h.y fun e => row_not h.row h.y (by decide) e.symm,
    by have e : i32s (l ++ [z]) = i32s l ++ [.int .i32 z] := by simp [i32s]
       rw [e, List.length_append]; exact hR, fun q hq => hN.ge h.below.size h.low q hq, h.old⟩
end
theorem oneX_ok (h : Bool) (d z : Int) (hd : I64 d) (hz : I32 z) : InsOk (oneX h d z) ∧ (oneX h d z).args = [] := by
  have e0 : I64 0 := by unfold I64; decide
  have e1 : I64 1 := by unfold I64; decide
  have e8 : I64 8 := by unfold I64; decide
  have em : I64 (-1) := by unfold I64; decide
  have z0 : I32 0 := by unfold I32; decide
  cases h
  · exact ⟨⟨e8, e0, hd, em, em, z0, Nat.zero_le _, Nat.zero_le _, fun z hz => by cases hz⟩, rfl⟩
  · exact ⟨⟨e1, e0, hd, em, em, hz, Nat.zero_le _, Nat.zero_le _, fun z hz => by cases hz⟩, rfl⟩
theorem one_rd {W : World} {qn qb qi : Nat} {k : Int} {X Y : Ins} (hk : 1 ≤ k ∧ k ≤ 16) (hX : InsOk X ∧ X.args = []) (hY : InsOk Y ∧ Y.args = [])
    (hn : W.heap[qn]? = some (.cells #[.string mainN, .int .i64 0, .int .i64 3, .slice (some ⟨qb, 0, none⟩) 1 1] 30 (0, 0)))
    (hb : W.heap[qb]? = some (.cells #[.slice (some ⟨qi, 0, none⟩) 3 3, .int .i64 3, .int .i64 2, .int .i64 0, .int .i64 0] 58 (0, 0)))
    (hi : W.heap[qi]? = some (.cells (ins3 X Y ⟨4, k, 2, 0, 1, 0, ⟨#[]⟩, []⟩) 54 (0, 0))) : RdMid W (fun _ => True) (oneM k X Y) none 0 (some ⟨qn, 0, none⟩) 1 := by
  have e0 : I64 0 := by unfold I64; decide
  have e1 : I64 1 := by unfold I64; decide
  have e2 : I64 2 := by unfold I64; decide
  have e3 : I64 3 := by unfold I64; decide
  have e4 : I64 4 := by unfold I64; decide
  have z0 : I32 0 := by unfold I32; decide
  have hZ : InsOk ⟨4, k, 2, 0, 1, 0, ⟨#[]⟩, []⟩ ∧ (⟨4, k, 2, 0, 1, 0, ⟨#[]⟩, []⟩ : Ins).args = [] := ⟨⟨e4, by unfold I64; dsimp only; omega, e2, e0, e1, z0, Nat.zero_le _, Nat.zero_le _, fun z hz => by cases hz⟩, rfl⟩
  generalize hZe : (⟨4, k, 2, 0, 1, 0, ⟨#[]⟩, []⟩ : Ins) = Z at hZ hi
  have hins : RdSl 8 (RdIns W fun _ => True) W (fun _ => True) (some ⟨qi, 0, none⟩) [X, Y, Z] := fun _ => by
    have R : ∀ V : Ins, InsOk V ∧ V.args = [] → RdIns W (fun _ => True) V (insCells V (.slice none 0 0)) := fun V hV => ⟨hV.1, none, 0, by rw [hV.2]; rfl, by rw [hV.2]; exact fun h => by cases h⟩
    refine ⟨qi, 0, rfl, trivial, lt_of_heap hi, fun i x hx => ⟨insCells x (.slice none 0 0), rfl, ?_, fun j u hu => ?_⟩⟩
    · match i, hx with
      | 0, hx => simp at hx; subst hx; exact R _ hX
      | 1, hx => simp at hx; subst hx; exact R _ hY
      | 2, hx => simp at hx; subst hx; exact R _ hZ
    · have hj : j < 8 := (List.getElem?_eq_some_iff.1 hu).1
      rw [cell_of_row _ _ _ _ _ _ hi]
      have hj8 : j = 0 ∨ j = 1 ∨ j = 2 ∨ j = 3 ∨ j = 4 ∨ j = 5 ∨ j = 6 ∨ j = 7 := by omega
      match i, hx with
      | 0, hx => simp at hx; subst hx; rcases hj8 with rfl | rfl | rfl | rfl | rfl | rfl | rfl | rfl <;> exact hu
      | 1, hx => simp at hx; subst hx; rcases hj8 with rfl | rfl | rfl | rfl | rfl | rfl | rfl | rfl <;> exact hu
      | 2, hx => simp at hx; subst hx; rcases hj8 with rfl | rfl | rfl | rfl | rfl | rfl | rfl | rfl <;> exact hu
  have hblk : RdSl 5 (RdBlk W fun _ => True) W (fun _ => True) (some ⟨qb, 0, none⟩) [⟨[X, Y, Z], 3, 2, 0, 0⟩] := fun _ => by
    refine ⟨qb, 0, rfl, trivial, lt_of_heap hb, fun i x hx => ?_⟩
    match i, hx with
    | 0, hx =>
      simp at hx; subst hx
      refine ⟨blkCells _ (.slice (some ⟨qi, 0, none⟩) 3 3), rfl, ⟨⟨e3, e2, e0, e0, show 3 ≤ maxLen from by unfold maxLen; decide⟩, _, _, rfl, hins⟩, fun j u hu => ?_⟩
      rw [cell_of_row _ _ _ _ _ _ hb, show 0 + 0 * 5 + j = j from by omega, ← Array.getElem?_toList]
      exact hu
  refine ⟨(fun h => by cases h), fun _ => ?_, Nat.zero_le _, show 1 ≤ maxLen from by unfold maxLen; decide⟩
  refine ⟨qn, 0, rfl, trivial, lt_of_heap hn, fun i x hx => ?_⟩
  match i, hx with
  | 0, hx =>
    rw [show x = oneF k X Y from by simpa [oneM] using hx.symm]
    refine ⟨fnCells _ (.slice (some ⟨qb, 0, none⟩) 1 1), rfl, ⟨⟨show 4 ≤ maxLen from by unfold maxLen; decide, e0, e3, show 1 ≤ maxLen from by unfold maxLen; decide⟩, _, _, rfl, by unfold oneF; rw [hZe]; exact hblk⟩, fun j u hu => ?_⟩
    rw [cell_of_row _ _ _ _ _ _ hn, show 0 + 0 * 4 + j = j from by omega, ← Array.getElem?_toList]
    exact hu
set_option maxHeartbeats 8000000 in
set_option maxRecDepth 100000 in
theorem pickOne_any (op : Int) (hop : 0 ≤ op ∧ op ≤ 18446744073709551615) (a b : Int) (ha : I32 a) (hb : I32 b) (how : Int) (hhow : 0 ≤ how ∧ how ≤ 18446744073709551615) (w : World) :
    Calls Try.prog 5 #[.int .u64 op, .agg #[.int .i32 a, .int .i32 b], .int .u64 how] w fun e w' => e = .returned (.bool true) ∧ Below w.heap.size w w' := by
  obtain ⟨w1, hw1, hb1, hlt1, hc1⟩ := box_new w #[.int .i32 a, .int .i32 b] 51
  obtain ⟨q1, hq1⟩ : ∃ q1, q1 = w.heap.size := ⟨_, rfl⟩
  have x0 := hc1 0
  have x1 := hc1 1
  simp only [List.getElem?_toArray, List.getElem?_cons_succ, List.getElem?_cons_zero] at x0 x1
  rw [← hq1] at x0 x1
  have HW1 := Lib.hid hw1
  have HQ1 := Lib.hid hq1
  have HB1 := Lib.hid hb1
  have HA := Lib.hid (And.intro ha hb)
  obtain ⟨hop1, hop2⟩ := hop
  obtain ⟨hh1, hh2⟩ := hhow
  clear hw1 hq1 hb1 hlt1 hc1 ha hb
  go_enter Try.func5, Try.ntmps5
  go_upto_region 1 with (fail)
  rw [← HW1.out, ← HQ1.out]
  go_quiet (fail)
  obtain ⟨w2, hw2⟩ : ∃ w2, w2 = w1.drewN nq := ⟨_, rfl⟩
  rw [← hw2]
  have HB2 : Hid (Below w.heap.size w w2) := Lib.hid (by rw [hw2]; exact HB1.out.trans (drN.mono HB1.out.size))
  clear hw2 x0 x1
  go_upto_region 5 with (fail)
  obtain ⟨w3, hw3⟩ : ∃ w3, w3 = (w2.alloc (.cells #[.slice none 0 0, .int .i64 3, .int .i64 2, .int .i64 0, .int .i64 0] 58)).alloc (.cells #[.string ⟨#[109, 97, 105, 110]⟩, .int .i64 0, .int .i64 3, .slice (some ⟨w2.heap.size, 0, none⟩) 1 1] 30) := ⟨_, rfl⟩
  obtain ⟨qb, hqb⟩ : ∃ qb, qb = w2.heap.size := ⟨_, rfl⟩
  rw [← hw3, ← hqb]
  have hk1 : 1 ≤ 1 + op % 16 ∧ 1 + op % 16 ≤ 16 := by omega
  obtain ⟨k, hk⟩ : ∃ k, k = 1 + op % 16 := ⟨_, rfl⟩
  rw [← hk] at hk1 ⊢
  have HK := Lib.hid hk1
  clear hk hk1 hop1 hop2
  have hbA : Below w2.heap.size w2 w3 := by rw [hw3]; exact ((Below.refl _ w2).alloc (Nat.le_refl _) _).alloc (by simp) _
  have hwb : w3.heap[qb]? = some (.cells #[.slice none 0 0, .int .i64 3, .int .i64 2, .int .i64 0, .int .i64 0] 58 (0, 0)) := by
    rw [hw3, hqb]; exact (heap_alloc_old _ _ (by simp)).trans (heap_alloc_new w2 _)
  have hwf : w3.heap[qb + 1]? = some (.cells #[.string mainN, .int .i64 0, .int .i64 3, .slice (some ⟨qb, 0, none⟩) 1 1] 30 (0, 0)) := by
    rw [hw3, hqb]
    have h := heap_alloc_new (w2.alloc (.cells #[.slice none 0 0, .int .i64 3, .int .i64 2, .int .i64 0, .int .i64 0] 58)) (.cells #[.string ⟨#[109, 97, 105, 110]⟩, .int .i64 0, .int .i64 3, .slice (some ⟨w2.heap.size, 0, none⟩) 1 1] 30)
    rw [World.size_alloc] at h
    exact h
  have H3 : Hid (Below w.heap.size w w3 ∧ _ ∧ _ ∧ w.heap.size ≤ qb) := Lib.hid ⟨HB2.out.trans (hbA.mono HB2.out.size), hwb, hwf, by rw [hqb]; exact HB2.out.size⟩
  clear hw3 hqb hbA hwb hwf
  go_wp2_with fail
  refine (oneClo_any 8 0 0 _).mono ?_
  rintro e w4 ⟨rfl, hb4⟩
  have HB4 := Lib.hid hb4
  clear hb4
  go_wp2_with fail
  refine (oneClo_any 8 1 0 _).mono ?_
  rintro e w5 ⟨rfl, hb5⟩
  have HB5 : Hid (Below w3.heap.size w3 w5) := Lib.hid (HB4.out.trans (hb5.mono HB4.out.size))
  clear hb5
  go_upto_if 34 with (fail)
  obtain ⟨w6, hw6⟩ : ∃ w6, w6 = (w5.alloc (.cells #[.int .i64 8, .int .i64 0, .int .i64 0, .int .i64 (-1), .int .i64 (-1), .int .i32 0, .string ⟨#[]⟩, .slice none 0 0] 54)).alloc (.cells #[.int .i64 8, .int .i64 0, .int .i64 1, .int .i64 (-1), .int .i64 (-1), .int .i32 0, .string ⟨#[]⟩, .slice none 0 0] 54) := ⟨_, rfl⟩
  obtain ⟨qx, hqx⟩ : ∃ qx, qx = w5.heap.size := ⟨_, rfl⟩
  obtain ⟨qf, hqf⟩ : ∃ qf, qf = qb + 1 := ⟨_, rfl⟩
  obtain ⟨qy, hqy⟩ : ∃ qy, qy = qx + 1 := ⟨_, rfl⟩
  rw [← hw6, ← hqx, ← hqf, ← hqy]
  have hI6 : OneI w qb qf qx qy (readI 0) (readI 1) [] (.slice none 0 0) none w6 := by
    have hbB : Below w5.heap.size w5 w6 := by rw [hw6]; exact ((Below.refl _ w5).alloc (Nat.le_refl _) _).alloc (by simp) _
    have hb36 := HB5.out.trans (hbB.mono HB5.out.size)
    have hsz := HB5.out.size
    have hlf := lt_of_heap H3.out.2.2.1
    refine ⟨H3.out.1.trans (hb36.mono H3.out.1.size), (hb36.block _ (lt_of_heap H3.out.2.1)).trans H3.out.2.1, by rw [hqf]; exact (hb36.block _ hlf).trans H3.out.2.2.1, ?_, ?_, RowAt.nil _ _ _, (fun _ h => by cases h), H3.out.2.2.2, by have := H3.out.2.2.2; omega, by have := H3.out.1.size; omega, by have := H3.out.1.size; omega, by omega⟩
    · rw [hw6, hqx]; exact (heap_alloc_old _ _ (by simp)).trans (heap_alloc_new w5 _)
    · rw [hw6, hqy, hqx]
      have h := heap_alloc_new (w5.alloc (.cells #[.int .i64 8, .int .i64 0, .int .i64 0, .int .i64 (-1), .int .i64 (-1), .int .i32 0, .string ⟨#[]⟩, .slice none 0 0] 54)) (.cells #[.int .i64 8, .int .i64 0, .int .i64 1, .int .i64 (-1), .int .i64 (-1), .int .i32 0, .string ⟨#[]⟩, .slice none 0 0] 54)
      rw [World.size_alloc] at h
      exact h
  have HI6 := Lib.hid hI6
  clear hw6 hqx hqf hqy hI6 H3 HB4 HB5
  obtain ⟨hx, hhx⟩ : ∃ hx, (how % 2 == 1) = hx := ⟨_, rfl⟩
  obtain ⟨hy, hhy⟩ : ∃ hy, (how / 2 % 2 == 1) = hy := ⟨_, rfl⟩
  go_cut [14] (fun vi wx => ∃ rr, OneI w qb qf qx qy (oneX hx 0 a) (readI 1) (if hx then [] else [a]) vi rr wx)
  case first =>
    cases hx
    · go_wp2_with (at_builtin; refine wpList_append_one _ rfl (.tmp 38) (.tmp 40) 36 21 (.int .i32 0) 4 rfl Try.underlying36 info_i32 rfl HI6.out.row (.int .i32 a) rfl rfl rfl (by decide) (by unfold maxLen; decide) ?_; intro v' r' W3 hR3 hC3 hN3; have HR3 := Lib.hid hR3; have HC3 := Lib.hid hC3; have HN3 := Lib.hid hN3; clear hR3 hC3 hN3)
      go_meet
      exact ⟨r', HI6.out.push a HR3.out HC3.out HN3.out⟩
    · go_wp2_with fail
      refine (oneClo_any 1 0 a _).mono ?_
      rintro e w7 ⟨rfl, hb7⟩
      have HI7 := Lib.hid (HI6.out.next hb7)
      have hf := fun j => frozen_of_row w7 qx j _ _ HI7.out.x
      have hc := fun j => cell_of_row w7 qx j _ _ _ HI7.out.x
      have c0 := hc 0
      have c1 := hc 1
      have c2 := hc 2
      have c3 := hc 3
      have c4 := hc 4
      have c5 := hc 5
      have c6 := hc 6
      have c7 := hc 7
      simp only [List.getElem?_toArray, List.getElem?_cons_succ, List.getElem?_cons_zero] at c0 c1 c2 c3 c4 c5 c6 c7
      clear hb7 hc
      go_wp2_with fail
      go_meet
      exact ⟨none, HI7.out.setx (numI 0 a) (set8_chg _ _ _ _ _ _ _ _ _ _) (set8_box HI7.out.x)⟩
  case rest =>
  obtain ⟨rr, hI⟩ := hcut
  have HI := Lib.hid hI
  clear hI HI6
  go_upto_if 45 with (fail)
  go_cut [14] (fun vi wx => ∃ rr, OneI w qb qf qx qy (oneX hx 0 a) (oneX hy 1 b) (oneIn hx hy a b) vi rr wx)
  case first =>
    have hL : (if hx = true then [] else [a]).length ≤ 1 := by cases hx <;> simp
    have HI8 : Hid (∀ z : List Int, z = (if hx = true then [] else [a]) → OneI w qb qf qx qy (oneX hx 0 a) (readI 1) z u14 rr wc) := Lib.hid fun z hz => by rw [hz]; exact HI.out
    obtain ⟨z, hz⟩ : ∃ z, z = (if hx = true then [] else [a]) := ⟨_, rfl⟩
    have HI9 := Lib.hid (HI8.out z hz)
    rw [← hz] at hL
    have HZ := Lib.hid hz
    obtain ⟨lz, hlz⟩ : ∃ lz, lz = z.length := ⟨_, rfl⟩
    obtain ⟨Ai, ci, rfl, _⟩ := HI9.out.row.shape
    have hrow := HI9.out.row
    rw [← hlz] at hL hrow ⊢
    have HROW := Lib.hid hrow
    have HLZ := Lib.hid hlz
    clear hz hlz hrow
    cases hy
    · go_wp2_with (at_builtin; refine wpList_append_one _ rfl (.tmp 49) (.tmp 51) 36 21 (.int .i32 0) 4 rfl Try.underlying36 info_i32 rfl HROW.out (.int .i32 b) rfl rfl rfl (by omega) (by unfold maxLen; omega) ?_; intro v' r' W3 hR3 hC3 hN3; have HR3 := Lib.hid hR3; have HC3 := Lib.hid hC3; have HN3 := Lib.hid hN3; clear hR3 hC3 hN3)
      go_meet
      refine ⟨r', ?_⟩
      have h9 := HI9.out.push b (by rw [← HLZ.out]; exact HR3.out) HC3.out HN3.out
      rw [HZ.out] at h9
      exact h9
    · go_wp2_with fail
      refine (oneClo_any 1 1 b _).mono ?_
      rintro e w7 ⟨rfl, hb7⟩
      have HI7 := Lib.hid (HI9.out.next hb7)
      have hf := fun j => frozen_of_row w7 qy j _ _ HI7.out.y
      have hc := fun j => cell_of_row w7 qy j _ _ _ HI7.out.y
      have c0 := hc 0
      have c1 := hc 1
      have c2 := hc 2
      have c3 := hc 3
      have c4 := hc 4
      have c5 := hc 5
      have c6 := hc 6
      have c7 := hc 7
      simp only [List.getElem?_toArray, List.getElem?_cons_succ, List.getElem?_cons_zero] at c0 c1 c2 c3 c4 c5 c6 c7
      clear hb7 hc
      go_wp2_with fail
      go_meet
      refine ⟨rr, ?_⟩
      have h9 := HI7.out.sety (numI 1 b) (set8_chg _ _ _ _ _ _ _ _ _ _) (set8_box HI7.out.y)
      rw [HZ.out] at h9
      rw [HLZ.out, HZ.out]
      unfold oneIn
      rw [if_pos rfl, List.append_nil]
      exact h9
  case rest =>
  clear HI rr
  obtain ⟨rr, hI⟩ := hcut
  obtain ⟨X, hX⟩ : ∃ X, X = oneX hx 0 a := ⟨_, rfl⟩
  obtain ⟨Y, hY⟩ : ∃ Y, Y = oneX hy 1 b := ⟨_, rfl⟩
  obtain ⟨l, hl⟩ : ∃ l, l = oneIn hx hy a b := ⟨_, rfl⟩
  rw [← hX, ← hY, ← hl] at hI
  have HI := Lib.hid hI
  have HX := Lib.hid hX
  have HY := Lib.hid hY
  have HL := Lib.hid hl
  obtain ⟨Ai, ci, rfl, _⟩ := hI.row.shape
  have hc := fun j => cell_of_row wc qx j _ _ _ HI.out.x
  have c0 := hc 0
  have c1 := hc 1
  have c2 := hc 2
  have c3 := hc 3
  have c4 := hc 4
  have c5 := hc 5
  have c6 := hc 6
  have c7 := hc 7
  have hd := fun j => cell_of_row wc qy j _ _ _ HI.out.y
  have d0 := hd 0
  have d1 := hd 1
  have d2 := hd 2
  have d3 := hd 3
  have d4 := hd 4
  have d5 := hd 5
  have d6 := hd 6
  have d7 := hd 7
  have he := fun j => cell_of_row wc qf j _ _ _ HI.out.f
  have f0 := he 0
  have f1 := he 1
  have f2 := he 2
  have f3 := he 3
  have b0 := cell_of_row wc qb 0 _ _ _ HI.out.b
  have bf := fun j => frozen_of_row wc qb j _ _ HI.out.b
  simp only [List.getElem?_toArray, List.getElem?_cons_succ, List.getElem?_cons_zero] at c0 c1 c2 c3 c4 c5 c6 c7 d0 d1 d2 d3 d4 d5 d6 d7 f0 f1 f2 f3 b0
  have hfb : qf ≠ qb := obj_ne HI.out.f HI.out.b (by decide)
  have hqbl : qb < wc.heap.size := lt_of_heap HI.out.b
  clear hc hd he hI hX hY hl hhx hhy hh1 hh2
  go_upto_region 14 with (fail)
  obtain ⟨qi, hqi⟩ : ∃ qi, qi = wc.heap.size := ⟨_, rfl⟩
  obtain ⟨w8, hw8⟩ : ∃ w8, w8 = wc.setCell ⟨qb, 0, none⟩ (.slice (some ⟨qi, 0, none⟩) 3 3) := ⟨_, rfl⟩
  obtain ⟨w9, hw9⟩ : ∃ w9, w9 = w8.alloc (.cells (ins3 X Y ⟨4, k, 2, 0, 1, 0, ⟨#[]⟩, []⟩) 54) := ⟨_, rfl⟩
  have hww : (w8.alloc (.cells #[.int .i64 X.kind, .int .i64 X.op, .int .i64 X.d, .int .i64 X.a, .int .i64 X.b, .int .i32 X.num, .string X.name, .slice none 0 0, .int .i64 Y.kind, .int .i64 Y.op, .int .i64 Y.d, .int .i64 Y.a, .int .i64 Y.b, .int .i32 Y.num, .string Y.name, .slice none 0 0, .int .i64 4, .int .i64 k, .int .i64 2, .int .i64 0, .int .i64 1, .int .i32 0, .string ⟨#[]⟩, .slice none 0 0] 54)) = w9 := by rw [hw9]
  rw [← hqi, ← hw8, hww]
  have hsz8 : w8.heap.size = qi := by rw [hw8, hqi]; simp
  have hs8 : Chg (fun q => q = qb) wc w8 := by rw [hw8]; exact Chg.store wc qb 0 _
  have hb8 : w8.heap[qb]? = some (.cells #[.slice (some ⟨qi, 0, none⟩) 3 3, .int .i64 3, .int .i64 2, .int .i64 0, .int .i64 0] 58 (0, 0)) := by
    rw [hw8]; exact (heap_setCell_same wc qb 0 _ _ _ HI.out.b).trans (by simp)
  have hf8 := hs8.heap HI.out.f hfb
  have hr8 := HI.out.row.kept hs8 fun q hq e => row_not HI.out.row HI.out.b (by decide) (by rw [hq, e])
  have hbl9 : Below w8.heap.size w8 w9 := by rw [hw9]; exact (Below.refl _ w8).alloc (Nat.le_refl _) _
  have hb9 := (hbl9.block _ (lt_of_heap hb8)).trans hb8
  have hf9 := (hbl9.block _ (lt_of_heap hf8)).trans hf8
  have hi9 : w9.heap[qi]? = some (.cells (ins3 X Y ⟨4, k, 2, 0, 1, 0, ⟨#[]⟩, []⟩) 54 (0, 0)) := by rw [hw9, ← hsz8]; exact heap_alloc_new w8 _
  have hr9 := readsBelow7 hr8.reads hbl9
  have HB9 : Hid (Below w.heap.size w w9) := Lib.hid ((HI.out.below.trans (hs8.below HI.out.below.size fun q e => by rw [e]; exact HI.out.old.1)).trans (hbl9.mono (by rw [hsz8, hqi]; exact HI.out.below.size)))
  have H9 := Lib.hid (And.intro hb9 (And.intro hi9 (And.intro hf9 hr9)))
  have he := fun j => cell_of_row w9 qf j _ _ _ hf9
  have f0 := he 0
  have f1 := he 1
  have f2 := he 2
  have f3 := he 3
  simp only [List.getElem?_toArray, List.getElem?_cons_succ, List.getElem?_cons_zero] at f0 f1 f2 f3
  have hqfl : qf < w9.heap.size := lt_of_heap hf9
  clear c0 c1 c2 c3 c4 c5 c6 c7 d0 d1 d2 d3 d4 d5 d6 d7 b0 bf hw8 hqi hw9 hww hb8 hsz8 hs8 hf8 hr8 hbl9 hb9 hi9 hf9 hr9 he hfb hqbl
  go_upto_region 15 with (fail)
  obtain ⟨w10, hw10⟩ : ∃ w10, w10 = (w9.alloc (.cells #[.string mainN, .int .i64 0, .int .i64 3, .slice (some ⟨qb, 0, none⟩) 1 1] 30)).alloc (.cells #[.slice none 0 0, .slice (some ⟨w9.heap.size, 0, none⟩) 1 1] 25) := ⟨_, rfl⟩
  obtain ⟨qn, hqn⟩ : ∃ qn, qn = w9.heap.size := ⟨_, rfl⟩
  obtain ⟨qm, hqm⟩ : ∃ qm, qm = qn + 1 := ⟨_, rfl⟩
  rw [← hw10, ← hqn, ← hqm]
  have hb10 : Below w9.heap.size w9 w10 := by rw [hw10]; exact ((Below.refl _ w9).alloc (Nat.le_refl _) _).alloc (by simp) _
  have hn10 : w10.heap[qn]? = some (.cells #[.string mainN, .int .i64 0, .int .i64 3, .slice (some ⟨qb, 0, none⟩) 1 1] 30 (0, 0)) := by
    rw [hw10, hqn]; exact (heap_alloc_old _ _ (by simp)).trans (heap_alloc_new w9 _)
  have hm10 : w10.heap[qm]? = some (.cells #[.slice none 0 0, .slice (some ⟨qn, 0, none⟩) 1 1] 25 (0, 0)) := by
    rw [hw10, hqm, hqn]
    have h := heap_alloc_new (w9.alloc (.cells #[.string mainN, .int .i64 0, .int .i64 3, .slice (some ⟨qb, 0, none⟩) 1 1] 30)) (.cells #[.slice none 0 0, .slice (some ⟨w9.heap.size, 0, none⟩) 1 1] 25)
    rw [World.size_alloc] at h
    exact h
  have hXo : InsOk X ∧ X.args = [] := by rw [HX.out]; exact oneX_ok hx 0 a (by unfold I64; decide) HA.out.1
  have hYo : InsOk Y ∧ Y.args = [] := by rw [HY.out]; exact oneX_ok hy 1 b (by unfold I64; decide) HA.out.2
  have hRM : RdMid w10 (fun _ => True) (oneM k X Y) none 0 (some ⟨qn, 0, none⟩) 1 := one_rd HK.out hXo hYo hn10 ((hb10.block _ (lt_of_heap H9.out.1)).trans H9.out.1) ((hb10.block _ (lt_of_heap H9.out.2.1)).trans H9.out.2.1)
  have HRM := Lib.hid hRM
  have HB10 : Hid (Below w.heap.size w w10) := Lib.hid (HB9.out.trans (hb10.mono HB9.out.size))
  have HIN : Hid (ReadsAt w10 Ai (i32s l)) := Lib.hid (readsBelow7 H9.out.2.2.2 hb10)
  have HM10 := Lib.hid hm10
  have HMAY : Hid (MayV (oneM k X Y)) := Lib.hid (by rw [HX.out, HY.out]; exact one_may k a b hx hy HK.out)
  have HLT : Hid (LightV (oneM k X Y)) := Lib.hid (by rw [HX.out, HY.out]; exact one_light k a b hx hy)
  have HNM : Hid (∀ f ∈ (oneM k X Y).fns, ∀ bl ∈ f.blocks, ∀ x ∈ bl.ins, I32 x.num) := Lib.hid (by rw [HX.out, HY.out]; exact one_nums k a b hx hy HA.out.1 HA.out.2)
  have HFV : Hid (FnV (oneF k X Y)) := Lib.hid (by rw [HX.out, HY.out]; exact one_fnv k a b hx hy HK.out)
  have HAL : Hid (Calls Try.prog 12 #[.agg #[.slice none 0 0, .slice (some ⟨qn, 0, none⟩) 1 1]] w10 (AllD w10 (oneM k X Y) none 0)) := Lib.hid (vAll_any (oneM k X Y) (fun f hf => by
    rw [show f = oneF k X Y from by simpa [oneM] using hf]
    exact ⟨HFV.out, HLT.out.fns _ (by simp [oneM])⟩) HLT.out.nf none (some ⟨qn, 0, none⟩) 0 1 w10 HRM.out)
  have m0 : w10.cell? ⟨qm, 0, none⟩ = some (.slice none 0 0) := cell_of_row _ _ _ _ _ _ hm10
  have m1 : w10.cell? ⟨qm, 1, none⟩ = some (.slice (some ⟨qn, 0, none⟩) 1 1) := cell_of_row _ _ _ _ _ _ hm10
  clear hw10 hqn hqm hb10 hn10 hm10 hXo hYo hRM f0 f1 f2 f3 hqfl
  go_wp2_with fail
  refine HAL.out.mono ?_
  rintro e w11 ⟨Bx, dx, rfl, hB11, hfx⟩
  have HB11 := Lib.hid hB11
  have HFX := Lib.hid hfx
  have HM11 := Lib.hid ((hB11.block _ (lt_of_heap HM10.out)).trans HM10.out)
  clear hB11 hfx m0 m1
  rw [show (oneM k X Y).globals.length = 0 from rfl, show (oneM k X Y).fns.length = 1 from rfl]
  go_upto_region 16 with (fail)
  obtain ⟨w12, hw12⟩ : ∃ w12, w12 = w11.alloc (.cells #[.slice none 0 0, .slice Bx 1 dx] 41) := ⟨_, rfl⟩
  obtain ⟨qp, hqp⟩ : ∃ qp, qp = w11.heap.size := ⟨_, rfl⟩
  rw [← hw12, ← hqp]
  have hb12 : Below w11.heap.size w11 w12 := by rw [hw12]; exact (Below.refl _ w11).alloc (Nat.le_refl _) _
  have hp12 : w12.heap[qp]? = some (.cells #[.slice none 0 0, .slice Bx 1 dx] 41 (0, 0)) := by rw [hw12, hqp]; exact heap_alloc_new w11 _
  have hm12 := (hb12.block _ (lt_of_heap HM11.out)).trans HM11.out
  have hb02 : Below w10.heap.size w10 w12 := HB11.out.trans (hb12.mono HB11.out.size)
  have HB12 : Hid (Below w.heap.size w w12) := Lib.hid (HB10.out.trans (hb02.mono HB10.out.size))
  have HP12 : Hid (RdProg w12 (fun _ => True) (pickP (oneM k X Y)) none 0 Bx dx) := Lib.hid (RdProg.below ⟨(fun h => by cases h), HFX.out, Nat.zero_le _, show 1 ≤ maxLen from by unfold maxLen; decide⟩ hb12)
  have HD12 : Hid (RdMid w12 (fun _ => True) (oneM k X Y) none 0 (some ⟨qn, 0, none⟩) 1) := Lib.hid (mid_below HRM.out hb02)
  have HI12 := Lib.hid (readsBelow7 HIN.out hb02)
  have HCC : Hid (∀ W, Below w12.heap.size w12 W → W.cell? ⟨qp, 0, none⟩ = some (.slice none 0 0) ∧ W.cell? ⟨qp, 1, none⟩ = some (.slice Bx 1 dx) ∧ W.cell? ⟨qm, 0, none⟩ = some (.slice none 0 0) ∧ W.cell? ⟨qm, 1, none⟩ = some (.slice (some ⟨qn, 0, none⟩) 1 1)) := Lib.hid fun W hW =>
    ⟨cellB7 hW (cell_of_row _ _ _ _ _ _ hp12), cellB7 hW (cell_of_row _ _ _ _ _ _ hp12), cellB7 hW (cell_of_row _ _ _ _ _ _ hm12), cellB7 hW (cell_of_row _ _ _ _ _ _ hm12)⟩
  have HLL : Hid (l.length ≤ 2 ∧ ∀ z ∈ l, I32 z) := Lib.hid ⟨by rw [HL.out]; cases hx <;> cases hy <;> simp [oneIn], by rw [HL.out]; exact one_inp a b hx hy HA.out.1 HA.out.2⟩
  have HRT : Hid (∀ W, Below w12.heap.size w12 W → Calls Try.prog 13 #[.agg #[.slice none 0 0, .slice Bx 1 dx], .agg #[.slice none 0 0, .slice (some ⟨qn, 0, none⟩) 1 1]] W fun e w' => e = .returned (.bool true) ∧ Below W.heap.size W w') := Lib.hid fun W hW =>
    vRight_any (oneM k X Y) HMAY.out HLT.out HNM.out none Bx none (some ⟨qn, 0, none⟩) 0 dx 0 1 W (HP12.out.below hW) (mid_below HD12.out hW)
  have HR5 : Hid (∀ W, Below w12.heap.size w12 W → Calls Try.prog 15 #[.agg #[.slice none 0 0, .slice Bx 1 dx], .slice Ai l.length ci, .int .i64 100] W (RunPostV (pickP (oneM k X Y)) l 100 W)) := Lib.hid fun W hW =>
    vrun_any (pickP (oneM k X Y)) (pick_vmain HMAY.out HLT.out HNM.out) none Bx 0 dx l Ai ci 100 (by unfold I64; decide) (by decide) (by have := HLL.out.1; unfold maxLen; omega) HLL.out.2 W (HP12.out.below hW) (readsBelow7 HI12.out hW)
  have HR4 : Hid (∀ W, Below w12.heap.size w12 W → Calls Try.prog 14 #[.agg #[.slice none 0 0, .slice (some ⟨qn, 0, none⟩) 1 1], .slice Ai l.length ci, .int .i64 100] W (RunPost (oneM k X Y) l 100 W)) := Lib.hid fun W hW =>
    run_any (oneM k X Y) HMAY.out none (some ⟨qn, 0, none⟩) 0 1 l Ai ci 100 (by unfold I64; decide) (by decide) (by have := HLL.out.1; unfold maxLen; omega) HLL.out.2 W (mid_below HD12.out hW) (readsBelow7 HI12.out hW)
  have HSAME : Hid (∀ (r rv : MS), RunsTo (oneM k X Y) l 100 r → RunsToV (pickP (oneM k X Y)) l 100 rv → r.fin = rv.fin ∧ r.value = rv.value ∧ r.reads = rv.reads ∧ r.trace = rv.trace) := Lib.hid fun r rv h h' => by
    rw [HX.out, HY.out, HL.out] at h h'
    exact one_same k a b hx hy HK.out HA.out.1 HA.out.2 h h'
  have HSM : Hid (∀ (r rv : MS) (At Bt : Option Addr) (ct dt : Nat) (W : World), RunsTo (oneM k X Y) l 100 r → RunsToV (pickP (oneM k X Y)) l 100 rv → r.trace.length ≤ 100000 → ReadsAt W At (i32s r.trace) → ReadsAt W Bt (i32s rv.trace) →
      Calls Try.prog 18 #[.agg #[.int .i64 rv.fin, .int .i32 rv.value, .slice Bt rv.trace.length dt, .int .i64 rv.steps, .int .i64 rv.reads], .agg #[.int .i64 r.fin, .int .i32 r.value, .slice At r.trace.length ct, .int .i64 r.steps, .int .i64 r.reads]] W fun e w' => e = .returned (.bool true) ∧ Below W.heap.size W w') := Lib.hid fun r rv At Bt ct dt W h h' hl hA hB => by
    obtain ⟨s1, s2, s3, s4⟩ := HSAME.out r rv h h'
    exact same10_true r rv At Bt ct dt W s1.symm s2.symm s3.symm s4.symm hl hA hB
  clear hw12 hqp hb12 hp12 hm12 hb02
  have ST : Hid (Below w12.heap.size w12 w12.drew) := Lib.hid dr
  obtain ⟨p0, p1, m0, m1⟩ := HCC.out _ ST.out
  go_region_held3 (fun W => W.cell? ⟨qp, 0, none⟩ = some (.slice none 0 0) ∧ W.cell? ⟨qp, 1, none⟩ = some (.slice Bx 1 dx) ∧ W.cell? ⟨qm, 0, none⟩ = some (.slice none 0 0) ∧ W.cell? ⟨qm, 1, none⟩ = some (.slice (some ⟨qn, 0, none⟩) 1 1)) (first | with_reducible exact ⟨p0, p1, m0, m1⟩ | go_keep)
    (first
    | (go_at_call 13; (with_reducible refine (HRT.out _ ST.out).mono ?_); rintro e wv ⟨rfl, hBv⟩; have ST := Lib.hid (ST.out.trans (hBv.mono ST.out.size)); clear hBv; obtain ⟨p0, p1, m0, m1⟩ := HCC.out _ ST.out)
    | (go_at_call 15; (with_reducible refine (HR5.out _ ST.out).mono ?_); rintro e wv ⟨rv, Bt, dt, h1, rfl, h2, h3, h4⟩; have ST := Lib.hid (ST.out.trans (h3.mono ST.out.size)); have HTB := Lib.hid h2; have HRV := Lib.hid h1; clear h1 h2 h3 h4; obtain ⟨p0, p1, m0, m1⟩ := HCC.out _ ST.out)
    | (go_at_call 14; (with_reducible refine (HR4.out _ ST.out).mono ?_); rintro e wv ⟨r, At, ct, h1, rfl, h2, h3, h4⟩; have ST := Lib.hid (ST.out.trans (h3.mono ST.out.size)); have HTB := Lib.hid (readsBelow7 HTB.out h3); have HTA := Lib.hid h2; have HR := Lib.hid h1; have HRL : Hid (r.trace.length ≤ 100000) := Lib.hid (by omega); clear h1 h2 h3 h4; obtain ⟨p0, p1, m0, m1⟩ := HCC.out _ ST.out)
    | (go_at_call 18; (with_reducible refine (HSM.out r rv At Bt ct dt _ HR.out HRV.out HRL.out HTA.out HTB.out).mono ?_); rintro e wv ⟨rfl, hBv⟩; have ST := Lib.hid (ST.out.trans (hBv.mono ST.out.size)); clear hBv; obtain ⟨p0, p1, m0, m1⟩ := HCC.out _ ST.out)
    | (go_at_call 7; (with_reducible refine (lives_any _).mono ?_); rintro e wv ⟨rfl, hBv⟩; have ST := Lib.hid (ST.out.trans (hBv.mono ST.out.size)); clear hBv; obtain ⟨p0, p1, m0, m1⟩ := HCC.out _ ST.out)
    | (fail "no arm"))
  all_goals
    go_wp2_with fail
    go_ret
    exact ⟨rfl, HB12.out.trans (ST.out.mono HB12.out.size)⟩
end Go.Proofs.Ytnfneinonkpmeaa
