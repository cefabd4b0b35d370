/- Where what stands in the picked code; plain. -/
import Derived.Test.YtnfneinonkpmeaaLv18
import Derived.Test.YtnfneinonkpmeaaLv11
namespace Go.Proofs.Ytnfneinonkpmeaa

theorem insS_op (n : Int) (K : Int → Option Int) (x : Ins) (h : InsV n x) : ∀ y ∈ insS K x, y.op ≠ 50 := by
  unfold insS
  cases h with
  | num d z hd => intro y hy; simp at hy; subst hy; simp
  | copy d a hd ha => intro y hy; simp at hy; subst hy; simp
  | un op d a hop hd ha =>
    intro y hy
    simp only [Int.reduceEq, if_false, if_true, List.mem_singleton] at hy
    subst hy
    (repeat' split) <;> simp [threeS, withS]
  | bin op d a b hop hd ha hb =>
    intro y hy
    simp only [Int.reduceEq, if_false, if_true] at hy
    have := binS_op K op d a b (by omega) y hy
    omega
  | _ =>
    intro y hy
    simp at hy
    subst hy
    first
      | (simp; done)
      | (show (if _ then _ else _) ≠ (50 : Int); split <;> simp)
theorem endS_op (b : Blk) (n : Int) : ∀ y ∈ endS b n, y.op ≠ 50 := by
  unfold endS
  intro y hy
  repeat' split at hy
  all_goals simp [jumpS, threeS] at hy
  all_goals first
    | (subst hy; simp; done)
    | (rcases hy with rfl | rfl <;> simp; done)
theorem insL_op (n : Int) : ∀ (K : Int → Option Int) (xs : List Ins), (∀ x ∈ xs, InsV n x) → ∀ y ∈ insL K xs, y.op ≠ 50
  | _, [], _ => fun y hy => by cases hy
  | K, x :: xs, h => fun y hy => by
    rcases List.mem_append.1 hy with hy | hy
    · exact insS_op n K x (h x (by simp)) y hy
    · exact insL_op n _ xs (fun z hz => h z (by simp [hz])) y hy
theorem code_labels (n : Int) : ∀ (i : Nat) (bs : List Blk), (∀ b ∈ bs, ∀ x ∈ b.ins, InsV n x) → ∀ y ∈ codeFrom i bs, y.op = 50 → ∃ j : Nat, i ≤ j ∧ j < i + bs.length ∧ y.num = j
  | _, [], _ => fun y hy => by cases hy
  | i, b :: bs, h => fun y hy e => by
    rcases List.mem_append.1 hy with hy | hy
    · rcases List.mem_cons.1 hy with rfl | hy
      · exact ⟨i, by omega, by simp only [List.length_cons]; omega, rfl⟩
      · rcases List.mem_append.1 hy with hy | hy
        · exact absurd e (insL_op n _ _ (h b (by simp)) y hy)
        · exact absurd e (endS_op _ _ y hy)
    · obtain ⟨j, h1, h2, h3⟩ := code_labels n (i + 1) bs (fun z hz => h z (by simp [hz])) y hy e
      exact ⟨j, by omega, by simp only [List.length_cons]; omega, h3⟩
theorem codeFrom_split : ∀ (i : Nat) (bs : List Blk) (k : Nat) (h : k < bs.length), codeFrom i bs = codeFrom i (bs.take k) ++ (blkS (i + k) bs[k] ++ codeFrom (i + k + 1) (bs.drop (k + 1)))
  | i, b :: bs, 0, _ => by simp [codeFrom]
  | i, b :: bs, k + 1, h => by
    have := codeFrom_split (i + 1) bs k (by simpa using h)
    simp only [codeFrom, List.take_succ_cons, List.drop_succ_cons, List.getElem_cons_succ, List.append_assoc]
    rw [this, show i + 1 + k = i + (k + 1) from by omega]
/-- Where a block's label is. -/
def offB (bs : List Blk) (k : Nat) : Nat := (codeFrom 0 (bs.take k)).length
theorem code_split (bs : List Blk) (k : Nat) (h : k < bs.length) : codeS bs = codeFrom 0 (bs.take k) ++ (labelS k :: (insL K0 bs[k].ins ++ (endS bs[k] ((k : Int) + 1) ++ codeFrom (k + 1) (bs.drop (k + 1))))) := by
  unfold codeS
  rw [codeFrom_split 0 bs k h, Nat.zero_add]
  simp [blkS]
theorem findV_at {α : Type} {p : α → Bool} {pre post : List α} {y : α} (h : ∀ x ∈ pre, p x = false) (hy : p y = true) : (pre ++ y :: post).findIdx? p = some pre.length := by
  rw [List.findIdx?_append, List.findIdx?_eq_none_iff.2 h]
  simp [List.findIdx?_cons, hy]
theorem place_at {n : Int} {bs : List Blk} (hv : ∀ b ∈ bs, ∀ x ∈ b.ins, InsV n x) {k : Nat} (h : k < bs.length) : place (codeS bs) k = offB bs k := by
  unfold place
  rw [code_split bs k h, findV_at (p := isLabel k) (y := labelS k) ?_ ?_]
  · rfl
  · intro x hx
    unfold isLabel
    by_cases e : x.op = 50
    · obtain ⟨j, _, h2, h3⟩ := code_labels n 0 _ (fun b hb => hv b (List.mem_of_mem_take hb)) x hx e
      have : j < k := by rw [List.length_take] at h2; omega
      simp [e, h3]; omega
    · simp [e]
  · simp [isLabel, labelS]
/-- Where an instruction's code begins. -/
def posI (bs : List Blk) (k i : Nat) : Nat := offB bs k + 1 + (insL K0 ((bs.getD k noBlk).ins.take i)).length
theorem insL_append (K : Int → Option Int) (xs ys : List Ins) : insL K (xs ++ ys) = insL K xs ++ insL (knownAfter K xs) ys := by
  induction xs generalizing K with
  | nil => simp [insL, knownAfter]
  | cons x xs ih => simp [insL, ih, knownAfter]
theorem code_label {bs : List Blk} {k : Nat} (h : k < bs.length) : (codeS bs).getD (offB bs k) noVins = labelS k := by
  rw [code_split bs k h, List.getD_eq_getElem?_getD, List.getElem?_append_right (by unfold offB; omega)]
  simp [offB]
/-- The code from an instruction on. -/
theorem code_ins {bs : List Blk} {k i : Nat} (h : k < bs.length) (j : Nat) (y : Vins)
    (hy : ((insL (knownAfter K0 ((bs.getD k noBlk).ins.take i)) ((bs.getD k noBlk).ins.drop i)) ++ endS (bs.getD k noBlk) ((k : Int) + 1))[j]? = some y) : (codeS bs).getD (posI bs k i + j) noVins = y := by
  have hb : bs.getD k noBlk = bs[k] := by rw [List.getD_eq_getElem?_getD, List.getElem?_eq_getElem h]; rfl
  have e : insL K0 (bs.getD k noBlk).ins = insL K0 ((bs.getD k noBlk).ins.take i) ++ insL (knownAfter K0 ((bs.getD k noBlk).ins.take i)) ((bs.getD k noBlk).ins.drop i) := by
    rw [← insL_append, List.take_append_drop]
  have hj := (List.getElem?_eq_some_iff.1 hy).1
  rw [code_split bs k h, ← hb, e, List.getD_eq_getElem?_getD, List.getElem?_append_right (by unfold posI offB; omega)]
  have e2 : posI bs k i + j - (codeFrom 0 (bs.take k)).length = (insL K0 ((bs.getD k noBlk).ins.take i)).length + j + 1 := by unfold posI offB; omega
  rw [e2, List.getElem?_cons_succ, List.append_assoc, List.getElem?_append_right (by omega), Nat.add_sub_cancel_left, ← List.append_assoc, List.getElem?_append_left hj, hy]
  rfl
end Go.Proofs.Ytnfneinonkpmeaa
namespace Go.Proofs.Ytnfneinonkpmeaa
open Go.RowKit
variable {T : Nat → Prop} {w w' : World}
def vfnCells (v : VFn) (c : Value) : List Value := [.string v.name, .int .i64 v.params, .int .i64 v.regs, c]
def RdCode (w : World) (T : Nat → Prop) (A : Option Addr) (l : List Vins) : Prop := RdSl 7 (RdVins w T) w T A l
def RdVfn (w : World) (T : Nat → Prop) (v : VFn) (cs : List Value) : Prop := v.code.length ≤ maxLen ∧ ∃ A c, cs = vfnCells v (.slice A v.code.length c) ∧ RdCode w T A v.code
/-- A picked program, as the two slices that it is. -/
structure RdProg (w : World) (T : Nat → Prop) (p : VProg) (A : Option Addr) (c : Nat) (B : Option Addr) (d : Nat) : Prop where
  globals : RdSl 2 RdGlob w T A p.globals
  fns : RdSl 4 (RdVfn w T) w T B p.fns
  nglobals : p.globals.length ≤ maxLen
  nfns : p.fns.length ≤ maxLen
theorem find_k {α : Type} (p : α → Bool) (l : List α) (k : Nat) (hk : k < l.length) (h : p l[k] = true) (hn : ∀ j (_ : j < k) (hl : j < l.length), p l[j] = false) : l.findIdx? p = some k :=
  List.findIdx?_eq_some_iff_getElem.2 ⟨hk, h, fun j hj => by simp [hn j hj (by omega)]⟩
theorem find_no {α : Type} (p : α → Bool) (l : List α) (hn : ∀ j (hl : j < l.length), p l[j] = false) : l.findIdx? p = none :=
  List.findIdx?_eq_none_iff.2 fun x hx => by obtain ⟨j, hj, rfl⟩ := List.getElem_of_mem hx; exact hn j hj
theorem vadd0 (g off : Nat) : (⟨g, off + 0, none⟩ : Addr) = ⟨g, off, none⟩ := rfl
set_option maxHeartbeats 1000000 in
theorem vFnAt_any (p : VProg) (A B : Option Addr) (c d : Nat) (name : ByteArray) (w : World) (h : RdProg w T p A c B d) :
    Calls Try.prog 27 #[.agg #[.slice A p.globals.length c, .slice B p.fns.length d], .string name] w fun e w' => e = .returned (.int .i64 (vfnAt p.fns name)) ∧ Below w.heap.size w w' := by
  have hl : p.fns.length ≤ 9223372036854775807 := by have := h.nfns; unfold maxLen at this; omega
  have HF := Lib.hid h.fns
  clear h
  go_enter Try.func27, Try.ntmps27
  go_wp2_with fail
  go_loopw [10] (fun i wr => ∃ k : Nat, k ≤ p.fns.length ∧ i = .int .i64 (k : Nat) ∧ Below w.heap.size w wr ∧ ∀ j (hj : j < k) (hl : j < p.fns.length), (p.fns[j].name.toList == name.toList) = false) (fun i _ => p.fns.length - (intOf i).toNat)
  case atStart => exact ⟨0, by omega, rfl, (Below.refl _ _).alloc (Nat.le_refl _) _, fun j hj => by omega⟩
  case round =>
    obtain ⟨k, hk, rfl, hB, hn⟩ := hrel
    have HB := Lib.hid hB
    have HK := Lib.hid hn
    clear hB hn
    by_cases hlt : k < p.fns.length
    · obtain ⟨g, off, rfl, ht, hg, hcl⟩ := HF.out (by omega)
      obtain ⟨cs, hcs, hrd, hat⟩ := hcl k _ (List.getElem?_eq_getElem hlt)
      obtain ⟨hok, A1, c1, rfl, hsub⟩ := hrd
      have h0 := (HB.out.cell (p := ⟨g, off + k * 4 + 0, none⟩) hg).trans (hat 0 _ rfl)
      have h1 := (HB.out.cell (p := ⟨g, off + k * 4 + 1, none⟩) hg).trans (hat 1 _ rfl)
      have h2 := (HB.out.cell (p := ⟨g, off + k * 4 + 2, none⟩) hg).trans (hat 2 _ rfl)
      have h3 := (HB.out.cell (p := ⟨g, off + k * 4 + 3, none⟩) hg).trans (hat 3 _ rfl)
      rw [vadd0] at h0
      obtain ⟨f, hf⟩ : ∃ f, f = p.fns[k] := ⟨_, rfl⟩
      rw [← hf] at h0 h1 h2 h3
      clear hcl hat hok hsub ht hcs
      cases hb : (f.name.toList == name.toList) with
      | true =>
        have HFE := Lib.hid hf
        clear hf
        go_wp2_with fail
        go_ret
        refine ⟨?_, ?_⟩
        · unfold vfnAt
          rw [find_k _ _ k hlt (by rw [← HFE.out]; exact hb) (fun j hj => HK.out j hj)]
          rfl
        · exact HB.out.alloc HB.out.size _
      | false =>
        have HFE := Lib.hid hf
        clear hf
        go_wp2_with fail
        go_roundw
        case rel =>
          refine ⟨k + 1, by omega, by go_num, HB.out.alloc HB.out.size _, fun j hj hl => ?_⟩
          rcases Nat.lt_succ_iff_lt_or_eq.1 hj with h' | rfl
          · exact HK.out j h' hl
          · rw [← HFE.out]; exact hb
        case measure => simp [intOf]; omega
    · obtain rfl : k = p.fns.length := by omega
      go_wp2_with fail
      go_ret
      refine ⟨?_, HB.out⟩
      unfold vfnAt
      rw [find_no _ _ fun j hl => HK.out j hl hl]
      rfl
/-- An instruction's cells. -/
theorem vins_cells {A : Option Addr} {l : List Vins} (h : RdCode w T A l) (k : Nat) (hk : k < l.length) (x : Vins) (hx : x = l[k]) : ∃ (g off : Nat) (B : Option Addr) (c : Nat), A = some ⟨g, off, none⟩ ∧ g < w.heap.size ∧ RdT w T B (ints x.args) ∧
    w.cell? ⟨g, off + k * 7, none⟩ = some (.int .i64 x.op) ∧ w.cell? ⟨g, off + k * 7 + 1, none⟩ = some (.int .i64 x.d) ∧ w.cell? ⟨g, off + k * 7 + 2, none⟩ = some (.int .i64 x.a) ∧ w.cell? ⟨g, off + k * 7 + 3, none⟩ = some (.int .i64 x.b) ∧ w.cell? ⟨g, off + k * 7 + 4, none⟩ = some (.int .i32 x.num) ∧ w.cell? ⟨g, off + k * 7 + 5, none⟩ = some (.string x.name) ∧ w.cell? ⟨g, off + k * 7 + 6, none⟩ = some (.slice B x.args.length c) := by
  subst hx
  obtain ⟨g, off, hA, _, hg, hc⟩ := h (by omega)
  obtain ⟨cs, _, ⟨B, c, rfl, hr⟩, hat⟩ := hc k _ (List.getElem?_eq_getElem hk)
  exact ⟨g, off, B, c, hA, hg, hr, hat 0 _ rfl, hat 1 _ rfl, hat 2 _ rfl, hat 3 _ rfl, hat 4 _ rfl, hat 5 _ rfl, hat 6 _ rfl⟩
theorem RdCode.below {A : Option Addr} {l : List Vins} (h : RdCode w T A l) (hb : Below w.heap.size w w') : RdCode w' T A l := by
  intro hp
  obtain ⟨g, off, hA, ht, hg, hc⟩ := h hp
  refine ⟨g, off, hA, ht, Nat.lt_of_lt_of_le hg hb.size, fun i x hx => ?_⟩
  obtain ⟨cs, h1, ⟨B, c, h2, h3⟩, h4⟩ := hc i x hx
  refine ⟨cs, h1, ⟨B, c, h2, fun hp2 => ?_⟩, fun j u hu => (hb.cell (p := ⟨g, off + i * 7 + j, none⟩) hg).trans (h4 j u hu)⟩
  obtain ⟨g2, o2, e, t2, hg2, hx2⟩ := h3 hp2
  exact ⟨g2, o2, e, t2, Nat.lt_of_lt_of_le hg2 hb.size, fun j u hu => (hb.cell (p := ⟨g2, o2 + j, none⟩) hg2).trans (hx2 j u hu)⟩
/-- Where a label is, as the code looks for it: -1: nowhere. -/
def placeI (code : List Vins) (n : Int) : Int := match code.findIdx? (isLabel n) with | some i => (i : Int) | none => -1
end Go.Proofs.Ytnfneinonkpmeaa
namespace Go.Proofs.Ytnfneinonkpmeaa
open Go.RowKit
variable {T : Nat → Prop} {w w' : World}
theorem glob_of {l : List Glob} {name : ByteArray} {k : Nat} (h : l.findIdx? (fun f => f.name.toList == name.toList) = some k) : (globAt l name).toNat = k := by unfold globAt; rw [h]; rfl
theorem glob_no {l : List Glob} {name : ByteArray} (h : l.findIdx? (fun f => f.name.toList == name.toList) = none) : (globAt l name).toNat = 0 := by unfold globAt; rw [h]; rfl
set_option maxHeartbeats 1000000 in
theorem vGlob_any (p : VProg) (A B : Option Addr) (c d : Nat) (name : ByteArray) (w : World) (h : RdProg w T p A c B d) :
    Calls Try.prog 63 #[.agg #[.slice A p.globals.length c, .slice B p.fns.length d], .string name] w fun e w' => e = .returned (.int .i64 ((globAt p.globals name).toNat : Nat)) ∧ Below w.heap.size w w' := by
  have hl : p.globals.length ≤ 9223372036854775807 := by have := h.nglobals; unfold maxLen at this; omega
  have HF := Lib.hid h.globals
  clear h
  go_enter Try.func63, Try.ntmps63
  go_wp2_with fail
  go_loopw [10] (fun i wr => ∃ k : Nat, k ≤ p.globals.length ∧ i = .int .i64 (k : Nat) ∧ Below w.heap.size w wr ∧ ∀ j (hj : j < k) (hl : j < p.globals.length), (p.globals[j].name.toList == name.toList) = false) (fun i _ => p.globals.length - (intOf i).toNat)
  case atStart => exact ⟨0, by omega, rfl, (Below.refl _ _).alloc (Nat.le_refl _) _, fun j hj => by omega⟩
  case round =>
    obtain ⟨k, hk, rfl, hB, hn⟩ := hrel
    have HB := Lib.hid hB
    have HK := Lib.hid hn
    clear hB hn
    by_cases hlt : k < p.globals.length
    · obtain ⟨g, off, rfl, ht, hg, hcl⟩ := HF.out (by omega)
      obtain ⟨cs, hcs, ⟨_, rfl⟩, hat⟩ := hcl k _ (List.getElem?_eq_getElem hlt)
      have h0 := (HB.out.cell (p := ⟨g, off + k * 2 + 0, none⟩) hg).trans (hat 0 _ rfl)
      have h1 := (HB.out.cell (p := ⟨g, off + k * 2 + 1, none⟩) hg).trans (hat 1 _ rfl)
      rw [vadd0] at h0
      obtain ⟨f, hf⟩ : ∃ f, f = p.globals[k] := ⟨_, rfl⟩
      rw [← hf] at h0 h1
      clear hcl hat ht hcs
      cases hb : (f.name.toList == name.toList) with
      | true =>
        have HFE := Lib.hid hf
        clear hf
        go_wp2_with fail
        go_ret
        refine ⟨?_, ?_⟩
        · rw [glob_of (find_k _ _ k hlt (by rw [← HFE.out]; exact hb) (fun j hj => HK.out j hj))]
          rfl
        · exact HB.out.alloc HB.out.size _
      | false =>
        have HFE := Lib.hid hf
        clear hf
        go_wp2_with fail
        go_roundw
        case rel =>
          refine ⟨k + 1, by omega, by go_num, HB.out.alloc HB.out.size _, fun j hj hl => ?_⟩
          rcases Nat.lt_succ_iff_lt_or_eq.1 hj with h' | rfl
          · exact HK.out j h' hl
          · rw [← HFE.out]; exact hb
        case measure => simp [intOf]; omega
    · obtain rfl : k = p.globals.length := by omega
      go_wp2_with fail
      go_ret
      refine ⟨?_, HB.out⟩
      rw [glob_no (find_no _ _ fun j hl => HK.out j hl hl)]
      rfl
end Go.Proofs.Ytnfneinonkpmeaa
namespace Go.Proofs.Ytnfneinonkpmeaa
open Go.RowKit
variable {T : Nat → Prop} {w w' : World}
set_option maxHeartbeats 2000000 in
theorem vPlace_any (v : VFn) (A : Option Addr) (c : Nat) (n : Int) (w : World) (h : RdCode w T A v.code) (hl : v.code.length ≤ maxLen) :
    Calls Try.prog 43 #[.agg #[.string v.name, .int .i64 v.params, .int .i64 v.regs, .slice A v.code.length c], .int .i32 n] w fun e w' => e = .returned (.int .i64 (placeI v.code n)) ∧ Below w.heap.size w w' := by
  have hl' : v.code.length ≤ 9223372036854775807 := by unfold maxLen at hl; omega
  have HF := Lib.hid h
  clear h hl
  go_enter Try.func43, Try.ntmps43
  go_wp2_with fail
  go_loopw [10] (fun i wr => ∃ k : Nat, k ≤ v.code.length ∧ i = .int .i64 (k : Nat) ∧ Below w.heap.size w wr ∧ ∀ j (hj : j < k) (hl : j < v.code.length), isLabel n v.code[j] = false) (fun i _ => v.code.length - (intOf i).toNat)
  case atStart => exact ⟨0, by omega, rfl, (Below.refl _ _).alloc (Nat.le_refl _) _, fun j hj => by omega⟩
  case round =>
    obtain ⟨k, hk, rfl, hB, hn⟩ := hrel
    have HB := Lib.hid hB
    have HK := Lib.hid hn
    clear hB hn
    by_cases hlt : k < v.code.length
    · obtain ⟨x, hxe⟩ : ∃ x, x = v.code[k] := ⟨_, rfl⟩
      obtain ⟨g, off, B, c1, rfl, hg, _, h0, h1, h2, h3, h4, h5, h6⟩ := vins_cells (HF.out) k hlt x hxe
      have h0 := (HB.out.cell (p := ⟨g, off + k * 7, none⟩) hg).trans h0
      have h1 := (HB.out.cell (p := ⟨g, off + k * 7 + 1, none⟩) hg).trans h1
      have h2 := (HB.out.cell (p := ⟨g, off + k * 7 + 2, none⟩) hg).trans h2
      have h3 := (HB.out.cell (p := ⟨g, off + k * 7 + 3, none⟩) hg).trans h3
      have h4 := (HB.out.cell (p := ⟨g, off + k * 7 + 4, none⟩) hg).trans h4
      have h5 := (HB.out.cell (p := ⟨g, off + k * 7 + 5, none⟩) hg).trans h5
      have h6 := (HB.out.cell (p := ⟨g, off + k * 7 + 6, none⟩) hg).trans h6
      have HXE := Lib.hid hxe
      clear hxe hg
      by_cases hop : x.op = 50
      · have qo : (x.op == 50) = true := by simp [hop]
        by_cases hnm : x.num = n
        · have qn : (x.num == n) = true := by simp [hnm]
          have HON := Lib.hid (And.intro hop hnm)
          clear hop hnm
          go_wp2_with fail
          go_ret
          refine ⟨?_, ?_⟩
          · unfold placeI
            rw [find_k _ _ k hlt (by rw [← HXE.out]; simp [isLabel, HON.out.1, HON.out.2]) (fun j hj => HK.out j hj)]
            rfl
          · exact HB.out.alloc HB.out.size _
        · have qn : (x.num == n) = false := beq_eq_false_iff_ne.2 hnm
          have HON : Hid (isLabel n x = false) := Lib.hid (by simp [isLabel, hnm])
          clear hop hnm
          go_wp2_with fail
          go_roundw
          case rel =>
            refine ⟨k + 1, by omega, by go_num, HB.out.alloc HB.out.size _, fun j hj hl => ?_⟩
            rcases Nat.lt_succ_iff_lt_or_eq.1 hj with h' | rfl
            · exact HK.out j h' hl
            · rw [← HXE.out]; exact HON.out
          case measure => simp [intOf]; omega
      · have qo : (x.op == 50) = false := beq_eq_false_iff_ne.2 hop
        have HON : Hid (isLabel n x = false) := Lib.hid (by simp [isLabel, hop])
        clear hop
        go_wp2_with fail
        go_roundw
        case rel =>
          refine ⟨k + 1, by omega, by go_num, HB.out.alloc HB.out.size _, fun j hj hl => ?_⟩
          rcases Nat.lt_succ_iff_lt_or_eq.1 hj with h' | rfl
          · exact HK.out j h' hl
          · rw [← HXE.out]; exact HON.out
        case measure => simp [intOf]; omega
    · obtain rfl : k = v.code.length := by omega
      go_wp2_with fail
      go_ret
      refine ⟨?_, HB.out⟩
      unfold placeI
      rw [find_no _ _ fun j hl => HK.out j hl hl]
      rfl
end Go.Proofs.Ytnfneinonkpmeaa
namespace Go.Proofs.Ytnfneinonkpmeaa
open Go.RowKit
section
variable {w w' : World} {S T T' : Nat → Prop}
theorem RdVins.kept7 {x : Vins} {cs : List Value} (h : RdVins w T x cs) (hc : Chg S w w') (hT : ∀ k, T k → k < w.heap.size → ¬ S k) : RdVins w' T x cs := h.kept hc hT
theorem RdVfn.kept {x : VFn} {cs : List Value} (h : RdVfn w T x cs) (hc : Chg S w w') (hT : ∀ k, T k → k < w.heap.size → ¬ S k) : RdVfn w' T x cs := by
  obtain ⟨h1, A, c, h2, h3⟩ := h; exact ⟨h1, A, c, h2, RdSl.kept h3 hc hT fun _ _ h => h.kept hc hT⟩
theorem RdProg.kept {m : VProg} {A B : Option Addr} {c d : Nat} (h : RdProg w T m A c B d) (hc : Chg S w w') (hT : ∀ k, T k → k < w.heap.size → ¬ S k) : RdProg w' T m A c B d :=
  ⟨h.globals.kept hc hT fun _ _ h => h, h.fns.kept hc hT fun _ _ h => h.kept hc hT, h.nglobals, h.nfns⟩
end
/-- What a run goes by. -/
structure EnvV where
  m : VProg
  A : Option Addr
  c : Nat
  B : Option Addr
  d : Nat
  AD : Option Addr
  cD : Nat
  bs : List Nat
  inp : List Int
  Ai : Option Addr
  ci : Nat
  fuel : Int
  mb : Nat
  base : Nat
def FootV (E : EnvV) (r : Option Nat) (k : Nat) : Prop := k = E.mb ∨ k ∈ E.bs ∨ some k = r
def EnvV.row (E : EnvV) (k : Nat) : Prop := ∃ off, E.AD = some ⟨k, off, none⟩
/-- Where the machine's parts lie. -/
structure EnvVOk (E : EnvV) : Prop where
  nodup : E.bs.Nodup
  nb : E.bs.length = E.m.globals.length
  mbs : E.mb ∉ E.bs
  base : E.base ≤ E.mb
  bbs : ∀ b ∈ E.bs, E.base ≤ b
  row : ∀ k, E.row k → k ≠ E.mb ∧ k ∉ E.bs
  fuel : I64 E.fuel ∧ E.fuel ≤ 100000
  inpL : E.inp.length ≤ maxLen
  inpW : ∀ z ∈ E.inp, I32 z
structure MacV (E : EnvV) (s : MS) (calls : Nat) (r : Option Nat) (w : World) : Prop where
  obj : ∃ vT, w.heap[E.mb]? = some (.cells #[.slice E.A E.m.globals.length E.c, .slice E.B E.m.fns.length E.d, .slice E.AD E.m.globals.length E.cD, .slice E.Ai E.inp.length E.ci, .int .i64 E.fuel, .int .i64 calls, .int .i64 s.fin, .int .i32 s.value, vT, .int .i64 s.steps, .int .i64 s.reads] 87 (0, 0)) ∧
    RowAt w 21 1 vT r s.trace.length (i32s s.trace)
  nd : s.data.length = E.m.globals.length
  dlen : ∀ i (h : i < E.m.globals.length), (dataRow s i).length = (max 1 E.m.globals[i].size).toNat
  words : ∀ i (h : i < E.bs.length), WordsAt w E.bs[i] (dataRow s i)
  dat : ∀ l ∈ s.data, ∀ z ∈ l, I32 z
  outer : ∀ i (h : i < E.bs.length), ∃ g off, E.AD = some ⟨g, off, none⟩ ∧ w.cell? ⟨g, off + i, none⟩ = some (.slice (some ⟨E.bs[i], 0, none⟩) (dataRow s i).length (dataRow s i).length)
  mid : RdProg w (fun k => k < E.base) E.m E.A E.c E.B E.d
  inp : RdT w (fun k => k < E.base) E.Ai (i32s E.inp)
  tr : ∀ k, r = some k → E.base ≤ k ∧ k ≠ E.mb ∧ k ∉ E.bs ∧ ¬ E.row k
  trW : ∀ z ∈ s.trace, I32 z
  tl : s.trace.length ≤ s.steps
  sl : s.steps ≤ 100000
  rl : s.reads ≤ E.inp.length
  cl : calls ≤ 32
  rowlt : ∀ k, E.row k → k < w.heap.size

section
variable {E : EnvV} {s : MS} {calls : Nat} {r : Option Nat} {w w' : World}
theorem MacV.blt (h : MacV E s calls r w) : E.mb < w.heap.size := by obtain ⟨_, h1, _⟩ := h.obj; exact lt_of_heap h1
/-- What touches nothing of it. -/
theorem MacV.kept {S : Nat → Prop} (h : MacV E s calls r w) (hc : Chg S w w') (h1 : ∀ k, S k → k < w.heap.size → ¬ FootV E r k) (h2 : ∀ k, S k → k < w.heap.size → E.base ≤ k ∧ ¬ E.row k) : MacV E s calls r w' := by
  obtain ⟨vT, ho, ht⟩ := h.obj
  have hT : ∀ k, k < E.base → k < w.heap.size → ¬ S k := fun k hk hl hS => by have := (h2 k hS hl).1; omega
  refine ⟨⟨vT, hc.heap ho (fun hS => h1 _ hS (lt_of_heap ho) (.inl rfl)), ht.kept hc fun k hk hS => h1 k hS (ht.lt k hk) (.inr (.inr hk.symm))⟩, h.nd, h.dlen, fun i hi => ?_, h.dat, fun i hi => ?_, h.mid.kept hc hT, h.inp.kept hc hT, h.tr, h.trW, h.tl, h.sl, h.rl, h.cl, fun k hk => Nat.lt_of_lt_of_le (h.rowlt k hk) hc.size⟩
  · have hw := h.words i hi
    exact RowAt.kept hw hc fun k hk hS => by
      cases hk
      exact h1 _ hS (hw.lt _ rfl) (.inr (.inl (List.getElem_mem hi)))
  · obtain ⟨g, off, e, hcell⟩ := h.outer i hi
    exact ⟨g, off, e, hc.cell (p := ⟨g, off + i, none⟩) hcell fun hS => (h2 g hS (World.block_lt_of_cell? w ⟨g, off + i, none⟩ hcell)).2 ⟨off, e⟩⟩
theorem MacV.below (h : MacV E s calls r w) (hb : Below w.heap.size w w') : MacV E s calls r w' := h.kept (S := fun _ => False) (Chg.of_below hb _) (fun _ h => h.elim) fun _ h => h.elim
theorem MacV.drew (h : MacV E s calls r w) : MacV E s calls r w.drew := h.below ⟨rfl, rfl, rfl, Nat.le_refl _, fun _ _ => rfl⟩
theorem MacV.drewN (h : MacV E s calls r w) (n : Nat) : MacV E s calls r (w.drewN n) := h.below ⟨rfl, rfl, rfl, Nat.le_refl _, fun _ _ => rfl⟩
/-- A store into one of the machine's own cells. -/
theorem MacV.own (hE : EnvVOk E) (h : MacV E s calls r w) (j : Nat) (v : Value) (s' : MS) (calls' : Nat) (hd : s'.data = s.data) (htr : s'.trace = s.trace) (hs : s.steps ≤ s'.steps ∧ s'.steps ≤ 100000) (hr : s'.reads ≤ E.inp.length) (hcl : calls' ≤ 32)
    (ha : ∀ vT, (#[.slice E.A E.m.globals.length E.c, .slice E.B E.m.fns.length E.d, .slice E.AD E.m.globals.length E.cD, .slice E.Ai E.inp.length E.ci, .int .i64 E.fuel, .int .i64 calls, .int .i64 s.fin, .int .i32 s.value, vT, .int .i64 s.steps, .int .i64 s.reads] : Array Value).setIfInBounds j v = #[.slice E.A E.m.globals.length E.c, .slice E.B E.m.fns.length E.d, .slice E.AD E.m.globals.length E.cD, .slice E.Ai E.inp.length E.ci, .int .i64 E.fuel, .int .i64 calls', .int .i64 s'.fin, .int .i32 s'.value, vT, .int .i64 s'.steps, .int .i64 s'.reads]) :
    MacV E s' calls' r (w.setCell ⟨E.mb, j, none⟩ v) := by
  obtain ⟨vT, ho, ht⟩ := h.obj
  have hc := Chg.store w E.mb j v
  have hrow : ∀ i, dataRow s' i = dataRow s i := fun i => by unfold dataRow; rw [hd]
  have hT : ∀ k, k < E.base → k < w.heap.size → ¬ (k = E.mb) := fun k hk _ e => by have := hE.base; omega
  refine ⟨⟨vT, ?_, ?_⟩, by rw [hd]; exact h.nd, fun i hi => by rw [hrow]; exact h.dlen i hi, fun i hi => ?_, by rw [hd]; exact h.dat, fun i hi => ?_, h.mid.kept hc hT, h.inp.kept hc hT, h.tr, by rw [htr]; exact h.trW, by rw [htr]; have := h.tl; omega, hs.2, hr, hcl, fun k hk => Nat.lt_of_lt_of_le (h.rowlt k hk) hc.size⟩
  · rw [heap_setCell_same w E.mb j _ _ v ho, ha vT]
  · rw [htr]; exact ht.kept hc fun k hk e => (h.tr k hk).2.1 e
  · rw [hrow]; exact RowAt.kept (h.words i hi) hc fun k hk e => by cases hk; exact hE.mbs (e ▸ List.getElem_mem hi)
  · rw [hrow]
    obtain ⟨g, off, e, hcell⟩ := h.outer i hi
    exact ⟨g, off, e, hc.cell (p := ⟨g, off + i, none⟩) hcell fun e' => (hE.row g ⟨off, e⟩).1 e'⟩
/-- The machine's cells. -/
theorem MacV.cells (h : MacV E s calls r w) : w.cell? ⟨E.mb, 0, none⟩ = some (.slice E.A E.m.globals.length E.c) ∧ w.cell? ⟨E.mb, 1, none⟩ = some (.slice E.B E.m.fns.length E.d) ∧ w.cell? ⟨E.mb, 2, none⟩ = some (.slice E.AD E.m.globals.length E.cD) ∧ w.cell? ⟨E.mb, 3, none⟩ = some (.slice E.Ai E.inp.length E.ci) ∧
    w.cell? ⟨E.mb, 4, none⟩ = some (.int .i64 E.fuel) ∧ w.cell? ⟨E.mb, 5, none⟩ = some (.int .i64 calls) ∧ w.cell? ⟨E.mb, 6, none⟩ = some (.int .i64 s.fin) ∧ w.cell? ⟨E.mb, 9, none⟩ = some (.int .i64 s.steps) ∧ w.cell? ⟨E.mb, 10, none⟩ = some (.int .i64 s.reads) ∧ ∀ j, w.frozen? ⟨E.mb, j, none⟩ = false := by
  obtain ⟨vT, ho, _⟩ := h.obj
  refine ⟨?_, ?_, ?_, ?_, ?_, ?_, ?_, ?_, ?_, fun j => frozen_of_row w _ j _ _ ho⟩ <;> exact cell_of_row _ _ _ _ _ _ ho
/-- A store into a word of a global. -/
theorem MacV.word (hE : EnvVOk E) (h : MacV E s calls r w) (i : Nat) (hi : i < E.bs.length) (j : Nat) (hj : j < (dataRow s i).length) (v : Int) (hv : I32 v) :
    MacV E { s with data := s.data.set i ((dataRow s i).set j v) } calls r (w.setCell ⟨E.bs[i], j, none⟩ (.int .i32 v)) := by
  obtain ⟨vT, ho, ht⟩ := h.obj
  have hc := Chg.store w E.bs[i] j (.int .i32 v)
  have hmem := List.getElem_mem hi
  have hT : ∀ k, k < E.base → k < w.heap.size → ¬ (k = E.bs[i]) := fun k hk _ e => by have := hE.bbs _ hmem; omega
  have hin : i < s.data.length := by have := h.nd; have := hE.nb; omega
  have hsame : dataRow { s with data := s.data.set i ((dataRow s i).set j v) } i = (dataRow s i).set j v := by
    unfold dataRow; simp [List.getD, hin]
  have hoth : ∀ q, q ≠ i → dataRow { s with data := s.data.set i ((dataRow s i).set j v) } q = dataRow s q := fun q hq => by
    unfold dataRow; simp [List.getD, List.getElem?_set_ne (Ne.symm hq)]
  have hlen : ∀ q, (dataRow { s with data := s.data.set i ((dataRow s i).set j v) } q).length = (dataRow s q).length := fun q => by
    by_cases e : q = i
    · rw [e, hsame, List.length_set]
    · rw [hoth q e]
  refine ⟨⟨vT, hc.heap ho fun e => hE.mbs (e ▸ hmem), ht.kept hc fun k hk e => (h.tr k hk).2.2.1 (e ▸ hmem)⟩, by simp [h.nd], fun q hq => by rw [hlen]; exact h.dlen q hq, fun q hq => ?_, fun l hl z hz => ?_, fun q hq => ?_, h.mid.kept hc hT, h.inp.kept hc hT, h.tr, h.trW, h.tl, h.sl, h.rl, h.cl, fun k hk => Nat.lt_of_lt_of_le (h.rowlt k hk) hc.size⟩
  · by_cases e : q = i
    · subst e; rw [hsame]; exact words_set (h.words q hq) j hj v
    · rw [hoth q e]
      exact RowAt.kept (h.words q hq) hc fun k hk e' => by
        cases hk
        exact e ((List.getElem_inj hE.nodup).1 e')
  · rcases List.mem_or_eq_of_mem_set hl with hl | rfl
    · exact h.dat l hl z hz
    · rcases List.mem_or_eq_of_mem_set hz with hz | rfl
      · exact h.dat _ (by unfold dataRow at hz ⊢; rw [List.getD_eq_getElem?_getD, List.getElem?_eq_getElem hin]; exact List.getElem_mem hin) z hz
      · exact hv
  · rw [hlen]
    obtain ⟨g, off, e, hcell⟩ := h.outer q hq
    exact ⟨g, off, e, hc.cell (p := ⟨g, off + q, none⟩) hcell fun e' => (hE.row g ⟨off, e⟩).2 (by rw [show g = E.bs[i] from e']; exact hmem)⟩
/-- One word more in the trace. -/
theorem MacV.traced (hE : EnvVOk E) (h : MacV E s calls r w) {vT v' : Value} {r' : Option Nat} {va : Int} (hC : Chg (fun k => some k = r) w w')
    (ho : w'.heap[E.mb]? = some (.cells #[.slice E.A E.m.globals.length E.c, .slice E.B E.m.fns.length E.d, .slice E.AD E.m.globals.length E.cD, .slice E.Ai E.inp.length E.ci, .int .i64 E.fuel, .int .i64 calls, .int .i64 s.fin, .int .i32 s.value, vT, .int .i64 s.steps, .int .i64 s.reads] 87 (0, 0)))
    (hR : RowAt w' 21 1 v' r' (s.trace.length + 1) (i32s s.trace ++ [.int .i32 va])) (hN : NewOr w r r') (hva : I32 va) (htl : s.trace.length + 1 ≤ s.steps) :
    MacV E { s with trace := s.trace ++ [va] } calls r' (w'.setCell ⟨E.mb, 8, none⟩ v') := by
  have hnew : ∀ k, r' = some k → E.base ≤ k ∧ k ≠ E.mb ∧ k ∉ E.bs ∧ ¬ E.row k := fun k hk => by
    rcases hN with rfl | ⟨j, hj, hjl⟩
    · exact h.tr k hk
    · rw [hj] at hk; cases hk
      have hb := h.blt
      refine ⟨by have := hE.base; omega, by omega, fun hm => ?_, fun hm => ?_⟩
      · obtain ⟨i, hi, e⟩ := List.getElem_of_mem hm
        have := RowAt.lt (h.words i hi) _ rfl
        omega
      · have := h.rowlt _ hm; omega
  have hc1 := Chg.store w' E.mb 8 v'
  have hrow : ∀ i, dataRow { s with trace := s.trace ++ [va] } i = dataRow s i := fun i => rfl
  have hc : Chg (fun k => k = E.mb ∨ some k = r) w (w'.setCell ⟨E.mb, 8, none⟩ v') := (hC.mono fun _ _ e => .inr e).setCell ⟨E.mb, 8, none⟩ (fun _ => .inl rfl) _
  have hT : ∀ k, k < E.base → k < w.heap.size → ¬ (k = E.mb ∨ some k = r) := fun k hk _ e => by
    rcases e with e | e
    · have := hE.base; omega
    · have := (h.tr k e.symm).1; omega
  refine ⟨⟨v', ?_, ?_⟩, h.nd, h.dlen, fun i hi => ?_, h.dat, fun i hi => ?_, h.mid.kept hc hT, h.inp.kept hc hT, hnew, fun z hz => ?_, by simpa using htl, h.sl, h.rl, h.cl, fun k hk => Nat.lt_of_lt_of_le (h.rowlt k hk) hc.size⟩
  · rw [heap_setCell_same w' E.mb 8 _ _ v' ho]; simp
  · have h2 := hR.kept hc1 fun k hk e => (hnew k hk).2.1 e
    simpa [i32s] using h2
  · exact RowAt.kept (h.words i hi) hc fun k hk e => by
      cases hk
      rcases e with e | e
      · exact hE.mbs (e ▸ List.getElem_mem hi)
      · exact (h.tr _ e.symm).2.2.1 (List.getElem_mem hi)
  · obtain ⟨g, off, e, hcell⟩ := h.outer i hi
    exact ⟨g, off, e, hc.cell (p := ⟨g, off + i, none⟩) hcell fun e' => by
      rcases e' with e' | e'
      · exact (hE.row g ⟨off, e⟩).1 e'
      · exact (h.tr g e'.symm).2.2.2 ⟨off, e⟩⟩
  · rcases List.mem_append.1 hz with hz | hz
    · exact h.trW z hz
    · rw [List.mem_singleton.1 hz]; exact hva
end
end Go.Proofs.Ytnfneinonkpmeaa
namespace Go.Proofs.Ytnfneinonkpmeaa

def pickFn (f : Fn) : VFn := ⟨f.name, f.params, f.regs, codeS f.blocks⟩
def pickP (m : Mid) : VProg := ⟨m.globals, m.fns.map pickFn⟩
theorem vfnAt_pick (m : Mid) (name : ByteArray) : vfnAt (pickP m).fns name = fnAt m.fns name := by
  unfold vfnAt fnAt pickP
  rw [List.findIdx?_map]
  rfl
theorem vNamed_pick {m : Mid} {name : ByteArray} {k : Nat} (hk : k < m.fns.length) (hn : fnAt m.fns name = k) : vNamed (pickP m) name = pickFn (fnNamed m name) := by
  unfold vNamed fnNamed
  rw [vfnAt_pick, hn]
  simp [pickP, List.getD, hk]
/-- The frame of the picked code beside the one of the blocks. -/
structure VS (m : Mid) (fr : Fr) (vf : VFr) : Prop where
  mem : fr.fn ∈ m.fns
  v : vf.v = pickFn fr.fn
  atl : fr.at_ < fr.fn.blocks.length
  il : fr.i ≤ fr.blk.ins.length
  at_ : vf.at_ = posI fr.fn.blocks fr.at_ fr.i
  regs : vf.regs = fr.regs
  dst : vf.dst = fr.dst
  rl : (fr.regs.length : Int) = fr.fn.regs
  i32 : AllI fr.regs
  known : Knows (knownAfter K0 (fr.blk.ins.take fr.i)) fr.regs
inductive StV (m : Mid) : Int → List Fr → List VFr → Prop
  | nil (d : Int) : StV m d [] []
  | cons (d : Int) (fr : Fr) (vf : VFr) (K : List Fr) (K' : List VFr) (h : VS m fr vf) (hd : 0 ≤ d → knownAfter K0 (fr.blk.ins.take fr.i) d = none) (k : StV m fr.dst K K') : StV m d (fr :: K) (vf :: K')
theorem StV.len {m : Mid} {d : Int} {K : List Fr} {K' : List VFr} (h : StV m d K K') : K'.length = K.length := by
  induction h with
  | nil => rfl
  | cons _ _ _ _ _ _ _ _ ih => simp [ih]
structure MsV (m : Mid) (s s' : MS) : Prop where
  data : s'.data = s.data
  fin : s'.fin = s.fin
  value : s'.value = s.value
  trace : s'.trace = s.trace
  reads : s'.reads = s.reads
  steps : s'.steps ≤ 2 * s.steps
  dat : ∀ l ∈ s.data, AllI l
  nd : s.data.length = m.globals.length
  rows : ∀ i, i < m.globals.length → 0 < (dataRow s i).length
/-- The two runs stand at one place. -/
def CV (m : Mid) (c : Cfg) (c' : VCfg) : Prop := ∃ s fr K s' vf K', c = (s, fr :: K) ∧ c' = (s', vf :: K') ∧ s.fin = 0 ∧ MsV m s s' ∧ VS m fr vf ∧ StV m fr.dst K K'
def EndV (s s' : MS) : Prop := s.fin ≠ 0 ∧ s'.fin = s.fin ∧ s'.value = s.value ∧ s'.trace = s.trace ∧ s'.reads = s.reads ∧ s'.steps ≤ 2 * s.steps
def OutV (m : Mid) (c : Cfg) (c' : VCfg) : Prop := CV m c c' ∨ EndV c.1 c'.1
/-- What holds of all that is met. -/
structure RightV (m : Mid) (inp : List Int) : Prop where
  may : MayV m
  nums : ∀ f ∈ m.fns, ∀ b ∈ f.blocks, ∀ x ∈ b.ins, I32 x.num
  inp : AllI inp
section
variable {m : Mid} {inp : List Int} {fuel : Int} {fr : Fr} {vf : VFr} {s s' : MS} {K : List Fr} {K' : List VFr}
theorem VS.fnV (hm : MayV m) (h : VS m fr vf) : FnV fr.fn ∧ ∀ b ∈ fr.fn.blocks, ∀ x ∈ b.ins, InsM m x := by
  obtain ⟨i, hi, e⟩ := List.getElem_of_mem h.mem
  rw [← e]; exact ⟨(hm.fns i hi).fn, (hm.fns i hi).ins⟩
theorem blk_at7 (h : fr.at_ < fr.fn.blocks.length) : fr.blk = fr.fn.blocks[fr.at_] := by
  unfold Fr.blk; rw [List.getD_eq_getElem?_getD, List.getElem?_eq_getElem h]; rfl
theorem blk_mem7 (h : fr.at_ < fr.fn.blocks.length) : fr.blk ∈ fr.fn.blocks := by rw [blk_at7 h]; exact List.getElem_mem h
theorem blkV_ins7 {nb : Nat} {n : Int} {b : Blk} (h : BlkV nb n b) : ∀ x ∈ b.ins, InsV n x := by
  cases h with
  | jump _ _ hx _ => exact hx
  | branch _ _ _ _ hx _ _ _ => exact hx
  | leave _ _ hx _ => exact hx
theorem VS.insV (hm : MayV m) (h : VS m fr vf) : ∀ b ∈ fr.fn.blocks, ∀ x ∈ b.ins, InsV fr.fn.regs x := fun b hb x hx => blkV_ins7 ((h.fnV hm).1.blocks b hb) x hx
/-- The code from here on. -/
theorem VS.code (h : VS m fr vf) (j : Nat) (y : Vins) (hy : ((insL (knownAfter K0 (fr.blk.ins.take fr.i)) (fr.blk.ins.drop fr.i)) ++ endS fr.blk ((fr.at_ : Int) + 1))[j]? = some y) : vf.v.code.getD (vf.at_ + j) noVins = y := by
  rw [h.v, h.at_]
  exact code_ins h.atl j y hy
/-- One instruction ahead: its code, then what is behind it. -/
theorem VS.code_x (h : VS m fr vf) {x : Ins} (hx : fr.blk.ins[fr.i]? = some x) (j : Nat) (y : Vins) (hy : (insS (knownAfter K0 (fr.blk.ins.take fr.i)) x)[j]? = some y) : vf.v.code.getD (vf.at_ + j) noVins = y := by
  refine h.code j y ?_
  obtain ⟨hl, e⟩ := List.getElem?_eq_some_iff.1 hx
  have hj := (List.getElem?_eq_some_iff.1 hy).1
  rw [List.drop_eq_getElem_cons hl, e]
  show ((insS _ x ++ insL _ _) ++ _)[j]? = _
  rw [List.append_assoc, List.getElem?_append_left hj, hy]
theorem pos_next (h : VS m fr vf) {x : Ins} (hx : fr.blk.ins[fr.i]? = some x) : posI fr.fn.blocks fr.at_ (fr.i + 1) = vf.at_ + (insS (knownAfter K0 (fr.blk.ins.take fr.i)) x).length ∧ knownAfter K0 (fr.blk.ins.take (fr.i + 1)) = nextK (knownAfter K0 (fr.blk.ins.take fr.i)) x := by
  obtain ⟨hl, e⟩ := List.getElem?_eq_some_iff.1 hx
  have e1 : fr.blk.ins.take (fr.i + 1) = fr.blk.ins.take fr.i ++ [x] := by rw [List.take_succ_eq_append_getElem hl, e]
  rw [h.at_]
  unfold posI
  rw [show fr.fn.blocks.getD fr.at_ noBlk = fr.blk from rfl, e1, insL_snoc, knownAfter_snoc, List.length_append]
  exact ⟨by omega, rfl⟩
end
end Go.Proofs.Ytnfneinonkpmeaa
