/- slices.Reverse of instructions. -/
import Derived.Test.YtlniohgnkihefaaDeadM
namespace Go.Proofs.Ytlniohgnkihefaa
open Go.RowKit
def Elt (W : World) (g o : Nat) (x : InsQ) : Prop := W.cell? ⟨g, o, none⟩ = some (.int .i64 x.k.kind) ∧ W.cell? ⟨g, o + 1, none⟩ = some (.int .i64 x.k.op) ∧ W.cell? ⟨g, o + 2, none⟩ = some (.int .i64 x.k.d) ∧ W.cell? ⟨g, o + 3, none⟩ = some (.int .i64 x.k.a) ∧
  W.cell? ⟨g, o + 4, none⟩ = some (.int .i64 x.k.b) ∧ W.cell? ⟨g, o + 5, none⟩ = some (.int .i32 x.k.num) ∧ W.cell? ⟨g, o + 6, none⟩ = some (.string x.k.name) ∧ W.cell? ⟨g, o + 7, none⟩ = some (.slice x.A x.k.args.length x.c)
theorem elt_of_row {W : World} {g off c n : Nat} {r : Option Nat} {ys : List InsQ} (h : RowAt W 48 8 (.slice (some ⟨g, off, none⟩) n c) r n (insRowC ys)) (hp : 0 < n) (i : Nat) (x : InsQ) (hi : ys[i]? = some x) : Elt W g (off + i * 8) x := by
  obtain ⟨g', off', cap, hv, _, _, _, _, hc, _⟩ := h.form hp
  cases hv
  obtain ⟨hi', rfl⟩ := List.getElem?_eq_some_iff.1 hi
  have k : ∀ j u, (insQ ys[i])[j]? = some u → W.cell? ⟨g, off + i * 8 + j, none⟩ = some u := fun j u hu => by rw [Nat.add_assoc]; exact hc _ _ (insRowC_at ys i hi' j u hu)
  exact ⟨k 0 _ rfl, k 1 _ rfl, k 2 _ rfl, k 3 _ rfl, k 4 _ rfl, k 5 _ rfl, k 6 _ rfl, k 7 _ rfl⟩
/-- One element's cells in a list of cells. -/
def putE (cs : List Value) (o : Nat) (x : InsQ) : List Value := (((((((cs.set o (.int .i64 x.k.kind)).set (o + 1) (.int .i64 x.k.op)).set (o + 2) (.int .i64 x.k.d)).set (o + 3) (.int .i64 x.k.a)).set (o + 4) (.int .i64 x.k.b)).set (o + 5) (.int .i32 x.k.num)).set (o + 6) (.string x.k.name)).set (o + 7) (.slice x.A x.k.args.length x.c)
theorem putE_row (ys : List InsQ) (i : Nat) (h : i < ys.length) (x : InsQ) : putE (insRowC ys) (i * 8) x = insRowC (ys.set i x) := by
  have hl : (insRowC ys).length = ys.length * 8 := insRowC_len ys
  apply List.ext_getElem?
  intro p
  have hdiv := Nat.div_add_mod p 8
  have hlt := Nat.mod_lt p (show 0 < 8 by omega)
  obtain ⟨q, hq⟩ : ∃ q, q = p / 8 := ⟨_, rfl⟩
  obtain ⟨j, hj⟩ : ∃ j, j = p % 8 := ⟨_, rfl⟩
  rw [← hq, ← hj] at hdiv
  rw [← hj] at hlt
  obtain rfl : p = q * 8 + j := by omega
  have hR : ∀ (zs : List InsQ), (insRowC zs)[q * 8 + j]? = (zs[q]?).bind fun x => (insQ x)[j]? := fun zs => by
    unfold insRowC
    rw [flat_at (insRow_all zs) q j hlt, List.getElem?_map]
    cases zs[q]? <;> rfl
  rw [hR]
  unfold putE
  simp only [List.getElem?_set, List.length_set, hl]
  by_cases e : i = q
  · subst e
    rw [if_pos h, if_pos rfl, Option.bind_some]
    have h8 : j = 0 ∨ j = 1 ∨ j = 2 ∨ j = 3 ∨ j = 4 ∨ j = 5 ∨ j = 6 ∨ j = 7 := by omega
    rcases h8 with rfl | rfl | rfl | rfl | rfl | rfl | rfl | rfl <;> simp [insQ, insCells] <;> omega
  · rw [if_neg e, ← hR ys]
    repeat rw [if_neg (by omega)]
section
variable {W : World} {g off c n : Nat} {r : Option Nat}
/-- One element is stored. -/
theorem RowAt.putE {cs : List Value} (h : RowAt W 48 8 (.slice (some ⟨g, off, none⟩) n c) r n cs) (i : Nat) (hi : i < n) (x : InsQ) :
    RowAt ((((((((W.setCell ⟨g, off + i * 8, none⟩ (.int .i64 x.k.kind)).setCell ⟨g, off + i * 8 + 1, none⟩ (.int .i64 x.k.op)).setCell ⟨g, off + i * 8 + 2, none⟩ (.int .i64 x.k.d)).setCell ⟨g, off + i * 8 + 3, none⟩ (.int .i64 x.k.a)).setCell ⟨g, off + i * 8 + 4, none⟩ (.int .i64 x.k.b)).setCell ⟨g, off + i * 8 + 5, none⟩ (.int .i32 x.k.num)).setCell ⟨g, off + i * 8 + 6, none⟩ (.string x.k.name)).setCell ⟨g, off + i * 8 + 7, none⟩ (.slice x.A x.k.args.length x.c))
      48 8 (.slice (some ⟨g, off, none⟩) n c) r n (Go.Proofs.Ytlniohgnkihefaa.putE cs (i * 8) x) := by
  have h0 := h.stored (i * 8) (.int .i64 x.k.kind) (by omega)
  have h1 := h0.stored (i * 8 + 1) (.int .i64 x.k.op) (by omega)
  have h2 := h1.stored (i * 8 + 2) (.int .i64 x.k.d) (by omega)
  have h3 := h2.stored (i * 8 + 3) (.int .i64 x.k.a) (by omega)
  have h4 := h3.stored (i * 8 + 4) (.int .i64 x.k.b) (by omega)
  have h5 := h4.stored (i * 8 + 5) (.int .i32 x.k.num) (by omega)
  have h6 := h5.stored (i * 8 + 6) (.string x.k.name) (by omega)
  have h7 := h6.stored (i * 8 + 7) (.slice x.A x.k.args.length x.c) (by omega)
  simp only [← Nat.add_assoc] at h1 h2 h3 h4 h5 h6 h7
  exact h7
theorem chg_put8 (o : Nat) (u0 u1 u2 u3 u4 u5 u6 u7 : Value) : Chg (fun k => some k = some g) W ((((((((W.setCell ⟨g, o, none⟩ u0).setCell ⟨g, o + 1, none⟩ u1).setCell ⟨g, o + 2, none⟩ u2).setCell ⟨g, o + 3, none⟩ u3).setCell ⟨g, o + 4, none⟩ u4).setCell ⟨g, o + 5, none⟩ u5).setCell ⟨g, o + 6, none⟩ u6).setCell ⟨g, o + 7, none⟩ u7) := by
  have h := Chg.refl (fun k => some k = some g) W
  replace h := h.setCell ⟨g, o, none⟩ (fun _ => rfl) u0
  replace h := h.setCell ⟨g, o + 1, none⟩ (fun _ => rfl) u1
  replace h := h.setCell ⟨g, o + 2, none⟩ (fun _ => rfl) u2
  replace h := h.setCell ⟨g, o + 3, none⟩ (fun _ => rfl) u3
  replace h := h.setCell ⟨g, o + 4, none⟩ (fun _ => rfl) u4
  replace h := h.setCell ⟨g, o + 5, none⟩ (fun _ => rfl) u5
  replace h := h.setCell ⟨g, o + 6, none⟩ (fun _ => rfl) u6
  replace h := h.setCell ⟨g, o + 7, none⟩ (fun _ => rfl) u7
  exact h
end
end Go.Proofs.Ytlniohgnkihefaa
