/- The picker: a whole function. -/
import Derived.Test.YtnfneinonkpmeaaPickN
import Derived.Test.YtnfneinonkpmeaaPickE
namespace Go.Proofs.Ytnfneinonkpmeaa
open Go.RowKit Go.Maps
variable {T : Nat → Prop}

def K0 : Int → Option Int := fun _ => none
def labelS (i : Int) : Vins := ⟨50, -1, -1, -1, i, ⟨#[]⟩, []⟩
def knownAfter (K : Int → Option Int) (xs : List Ins) : Int → Option Int := xs.foldl nextK K
def insL (K : Int → Option Int) : List Ins → List Vins
  | [] => []
  | x :: xs => insS K x ++ insL (nextK K x) xs
theorem insL_snoc (K : Int → Option Int) (xs : List Ins) (x : Ins) : insL K (xs ++ [x]) = insL K xs ++ insS (knownAfter K xs) x := by
  induction xs generalizing K with
  | nil => simp [insL, knownAfter]
  | cons y ys ih => simp only [List.cons_append, insL, ih, knownAfter, List.foldl_cons, List.append_assoc]
theorem knownAfter_snoc (K : Int → Option Int) (xs : List Ins) (x : Ins) : knownAfter K (xs ++ [x]) = nextK (knownAfter K xs) x := by simp [knownAfter]
def blkS (i : Nat) (b : Blk) : List Vins := labelS i :: (insL K0 b.ins ++ endS b ((i : Int) + 1))
def codeFrom (i : Nat) : List Blk → List Vins
  | [] => []
  | b :: bs => blkS i b ++ codeFrom (i + 1) bs
theorem codeFrom_snoc (i : Nat) (bs : List Blk) (b : Blk) : codeFrom i (bs ++ [b]) = codeFrom i bs ++ blkS (i + bs.length) b := by
  induction bs generalizing i with
  | nil => simp [codeFrom]
  | cons y ys ih => simp only [List.cons_append, codeFrom, ih, List.append_assoc, List.length_cons]; rw [show i + 1 + ys.length = i + (ys.length + 1) from by omega]
/-- The code of a function's blocks. -/
def codeS (bs : List Blk) : List Vins := codeFrom 0 bs
def codeTo (bs : List Blk) (k : Nat) : List Vins := codeS (bs.take k)
theorem codeTo_succ (bs : List Blk) (k : Nat) (h : k < bs.length) (b : Blk) (hb : b = bs[k]) : codeTo bs (k + 1) = codeTo bs k ++ blkS k b := by
  subst hb
  unfold codeTo codeS
  rw [List.take_succ_eq_append_getElem h, codeFrom_snoc, Nat.zero_add, List.length_take, Nat.min_eq_left (by omega)]
theorem codeTo_all (bs : List Blk) : codeTo bs bs.length = codeS bs := by unfold codeTo; rw [List.take_length]

theorem firstOf_len (o : Option Vins) (l : List Vins) (h : l.length ≤ 2) : (firstOf o l).length ≤ 2 := by
  cases o with
  | none => exact h
  | some y => simp [firstOf]
theorem binRest_len (op d a b : Int) : (binRest op d a b).length ≤ 2 := by unfold binRest; (repeat' split) <;> simp
theorem insS_len (K : Int → Option Int) (x : Ins) : (insS K x).length ≤ 2 := by
  unfold insS
  have h : (binS K x.op x.d x.a x.b).length ≤ 2 := firstOf_len _ _ (firstOf_len _ _ (binRest_len _ _ _ _))
  split
  · simp
  split
  · simp
  split
  · simp
  split
  · exact h
  repeat' split
  all_goals simp
theorem endS_len (b : Blk) (n : Int) : (endS b n).length ≤ 2 := by unfold endS; (repeat' split) <;> simp
theorem insL_len (K : Int → Option Int) (xs : List Ins) : (insL K xs).length ≤ 2 * xs.length := by
  induction xs generalizing K with
  | nil => simp [insL]
  | cons x xs ih =>
    have h1 := insS_len K x
    have h2 := ih (nextK K x)
    simp only [insL, List.length_append, List.length_cons]; omega
theorem blkS_len (i : Nat) (b : Blk) (h : b.ins.length ≤ 100) : (blkS i b).length ≤ 203 := by
  have h1 := insL_len K0 b.ins
  have h2 := endS_len b ((i : Int) + 1)
  simp only [blkS, List.length_cons, List.length_append]; omega
theorem codeFrom_len (i : Nat) (bs : List Blk) (h : ∀ b ∈ bs, b.ins.length ≤ 100) : (codeFrom i bs).length ≤ bs.length * 203 := by
  induction bs generalizing i with
  | nil => simp [codeFrom]
  | cons b bs ih =>
    have h1 := blkS_len i b (h b (by simp))
    have h2 := ih (i + 1) fun x hx => h x (by simp [hx])
    simp only [codeFrom, List.length_append, List.length_cons]; omega
theorem codeTo_len (bs : List Blk) (k : Nat) (h : ∀ b ∈ bs, b.ins.length ≤ 100) (h80 : bs.length ≤ 80) : (codeTo bs k).length ≤ 16240 := by
  have h1 := codeFrom_len 0 (bs.take k) fun b hb => h b (List.mem_of_mem_take hb)
  have h2 : (bs.take k).length ≤ 80 := by rw [List.length_take]; omega
  have h3 : (bs.take k).length * 203 ≤ 80 * 203 := Nat.mul_le_mul_right _ h2
  unfold codeTo codeS; omega
theorem kok_next {K : Int → Option Int} (h : KOk K) (x : Ins) (N : Int) (hx : InsV N x) (ho : InsOk x) : KOk (nextK K x) := by
  have upd : ∀ d o, (∀ n, o = some n → I32 n ∧ 0 ≤ d) → KOk (updK K d o) := by
    intro d o hd r n hn
    unfold updK at hn
    split at hn
    · rename_i e; subst e; exact hd n hn
    · exact h r n hn
  unfold nextK
  split
  · refine upd _ _ fun n hn => ?_
    cases hn
    cases hx with
    | num d z hd => exact ⟨ho.num, reg_nn hd⟩
    | _ => simp_all
  · exact upd _ _ fun n hn => by cases hn
theorem kok0 : KOk K0 := fun r n h => by cases h

/-- What came of a function: its code, in memory, in a block from N on. -/
def VfnAt (w : World) (N : Nat) (v : Value) (f : Fn) (l : List Vins) : Prop :=
  ∃ A c, v = .agg #[.string f.name, .int .i64 f.params, .int .i64 f.regs, .slice A l.length c] ∧ RdSl 7 (RdVins w fun _ => True) w (fun k => N ≤ k) A l
def VfnMade (w : World) (f : Fn) (l : List Vins) (e : Ending) (w' : World) : Prop := ∃ v, e = .returned v ∧ Below w.heap.size w w' ∧ VfnAt w' w.heap.size v f l
theorem row_code {w : World} {T : Nat → Prop} {v : Value} {r : Option Nat} {l : List Vins} {xs : List Value} (h : RowAt w 61 7 v r l.length xs) (hX : CodeCells w T l xs) (N : Nat) (hN : ∀ q, r = some q → N ≤ q) :
    ∃ A c, v = .slice A l.length c ∧ RdSl 7 (RdVins w fun _ => True) w (fun k => N ≤ k) A l := by
  obtain ⟨A, c, rfl, _⟩ := h.shape
  refine ⟨A, c, rfl, fun hp => ?_⟩
  obtain ⟨g, off, cap, hv, hr, _, _, hg, hc, _⟩ := h.form hp
  injection hv with hA _ _
  refine ⟨g, off, hA, hN g hr, hg, fun i x hx => ?_⟩
  obtain ⟨A1, c1, h1, h2⟩ := hX.at_ i x hx
  refine ⟨_, rfl, ⟨A1, c1, rfl, h1.mono fun _ _ => trivial⟩, fun j u hu => ?_⟩
  rw [Nat.add_assoc]
  exact hc _ _ (h2 j u hu)

/-- The picker between two blocks. -/
structure HeadP (w1 wr : World) (pb : Nat) (f : Fn) (l : List Vins) : Prop where
  row : ∃ v r mv xs, wr.heap[pb]? = some (.cells #[.string f.name, .int .i64 f.params, .int .i64 f.regs, v, mv] 65 (0, 0)) ∧ (∀ q, r = some q → w1.heap.size ≤ q) ∧ RowAt wr 61 7 v r l.length xs ∧ CodeCells wr (fun q => ¬ (q = pb ∨ some q = r) ∧ q + 1 ≠ pb) l xs
  chg : Chg (fun q => q = pb) w1 wr
theorem head_start {wr : World} {pb : Nat} {v mv : Value} {r : Option Nat} {f : Fn} {l : List Vins} {xs : List Value}
    (hp : wr.heap[pb]? = some (.cells #[.string f.name, .int .i64 f.params, .int .i64 f.regs, v, mv] 65 (0, 0))) (hR : RowAt wr 61 7 v r l.length xs) (hX : CodeCells wr (fun q => ¬ (q = pb ∨ some q = r) ∧ q + 1 ≠ pb) l xs) (cs : Array Value) (e : Nat) :
    ∃ W, W = ((wr.setCell ⟨pb, 4, none⟩ (.map (some (wr.heap.size + 1)))).alloc (.cells cs e)).alloc (.map #[] 0) ∧ PickAt W pb (wr.heap.size + 1) v r f l 0 (kl K0) ∧ Chg (fun q => q = pb) wr W ∧ (∀ j, W.cell? ⟨wr.heap.size, j, none⟩ = cs[j]?) ∧ wr.heap.size < W.heap.size ∧ ¬ FootP pb (wr.heap.size + 1) r wr.heap.size := by
  have hlt := lt_of_heap hp
  have hst := Chg.store wr pb 4 (.map (some (wr.heap.size + 1)))
  have hp1 := heap_setCell_same wr pb 4 _ _ (.map (some (wr.heap.size + 1))) hp
  have hne : r ≠ some pb := row_not hR hp (by decide)
  have hz : (wr.setCell ⟨pb, 4, none⟩ (.map (some (wr.heap.size + 1)))).heap.size = wr.heap.size := by simp
  generalize wr.setCell ⟨pb, 4, none⟩ (.map (some (wr.heap.size + 1))) = w0 at hst hp1 hz ⊢
  have hb1 : Below w0.heap.size w0 (w0.alloc (.cells cs e)) := (Below.refl _ _).alloc (Nat.le_refl _) _
  have hb : Below w0.heap.size w0 ((w0.alloc (.cells cs e)).alloc (.map #[] 0)) := hb1.alloc hb1.size _
  have hs : (w0.alloc (.cells cs e)).heap.size = wr.heap.size + 1 := by simp [hz]
  have hm := MapAt.made (w0.alloc (.cells cs e)) Try.prog 3 21
  rw [hs] at hm
  have hcw := chg_of_below hb
  have hno : ∀ k, k < wr.heap.size → ¬ (w0.heap.size ≤ k) := fun k h h' => by omega
  have hR1 := hR.kept hst fun k hk e => hne (by rw [hk, e])
  refine ⟨_, rfl, ⟨?_, ⟨xs, ?_, ?_⟩, hm.congr kl_none⟩, ?_, fun j => ?_, ?_, ?_⟩
  · exact hcw.heap hp1 (hno _ hlt)
  · exact hR1.kept hcw fun k hk => by have := hR1.lt k hk; omega
  · have h1 : CodeCells wr (CodeT pb (wr.heap.size + 1) r) l xs := hX.mono fun k hk hl => ⟨fun hf => by
      rcases hf with hf | hf | hf
      · exact hk.1 (.inl hf)
      · omega
      · exact hk.1 (.inr hf), hk.2⟩
    exact (h1.kept hst fun k hk _ e => hk.1 (.inl e)).kept hcw fun k _ hk => by omega
  · exact hst.trans (Chg.of_below hb (fun q => q = pb)) fun _ _ h => h
  · have h5 : ((w0.alloc (.cells cs e)).alloc (.map #[] 0)).heap[wr.heap.size]? = some (.cells cs e (0, 0)) := by
      rw [Below.heap_alloc _ _ _ (by omega), ← hz]; exact heap_alloc_new w0 _
    exact cell_of_row _ _ _ _ _ _ h5
  · simp only [World.size_alloc]; omega
  · rintro (h | h | h)
    · omega
    · omega
    · exact Nat.lt_irrefl _ (hR.lt _ h.symm)
end Go.Proofs.Ytnfneinonkpmeaa
