/- The picker's 'put', and the makers of one instruction. -/
import Derived.Test.YtnfneinonkpmeaaVins
namespace Go.Proofs.Ytnfneinonkpmeaa
open Go.RowKit

theorem put_end {w w2 : World} {pb mb m : Nat} {v v' : Value} {r r' : Option Nat} {f : Fn} {l l2 : List Vins} {n : Nat} {kn : Lit → Option Lit} {xs ys : List Value} (h : PickAt w pb mb v r f l n kn)
    (hR : RowAt w 61 7 v r l.length xs) (hX : CodeCells w (CodeT pb mb r) l xs) (hY : CodeCells w (CodeT pb mb r) l2 ys) (hml : l2.length = m)
    (hp : w.heap[pb]? = some (.cells #[.string f.name, .int .i64 f.params, .int .i64 f.regs, v, .map (some mb)] 65 (0, 0)))
    (hp2 : w2.heap[pb]? = some (.cells #[.string f.name, .int .i64 f.params, .int .i64 f.regs, v, .map (some mb)] 65 (0, 0)))
    (hR2 : RowAt w2 61 7 v' r' (l.length + m) (xs ++ ys)) (hC2 : Chg (fun k => some k = r) w w2) (hN : NewOr w r r') :
    ∃ v'' r'', PickAt (w2.setCell ⟨pb, 3, none⟩ v') pb mb v'' r'' f (l ++ l2) n kn ∧ PStep w pb mb r (w2.setCell ⟨pb, 3, none⟩ v') r'' := by
  have hs := Chg.store w2 pb 3 v'
  have hne : r' ≠ some pb := row_not hR2 hp2 (by decide)
  have hpm : pb ≠ mb := MapAt.ne_cells h.map hp
  have hrm : r ≠ some mb := row_not_map hR h.map
  have hmap2 := h.map.kept hC2 (fun e => hrm e.symm)
  have hfoot : ∀ k, CodeT pb mb r k → k < w.heap.size → CodeT pb mb r' k := by
    rintro k ⟨hk, hk1⟩ hlt
    refine ⟨?_, hk1⟩
    rintro (e | e | e)
    · exact hk (.inl e)
    · exact hk (.inr (.inl e))
    · exact hk (.inr (.inr (hN.old hlt e.symm).symm))
  have hc : ∀ (q : List Vins) zs, CodeCells w (CodeT pb mb r) q zs → CodeCells (w2.setCell ⟨pb, 3, none⟩ v') (CodeT pb mb r') q zs := fun q zs hq => by
    have h1 : CodeCells w (fun k => CodeT pb mb r' k ∧ CodeT pb mb r k) q zs := hq.mono fun k hk hlt => ⟨hfoot k hk hlt, hk⟩
    have h2 := h1.kept hC2 fun k hk _ e => hk.2.1 (.inr (.inr e))
    have h3 := h2.kept hs fun k hk _ e => hk.1.1 (.inl e)
    exact h3.mono fun k hk _ => hk.1
  refine ⟨v', r', ⟨?_, ⟨xs ++ ys, ?_, ?_⟩, ?_⟩, ?_, ?_⟩
  · rw [heap_setCell_same w2 pb 3 _ _ v' hp2]; rfl
  · rw [List.length_append, hml]; exact hR2.kept hs fun k hk e => hne (by rw [hk, e])
  · exact (hc _ _ hX).append (hc _ _ hY)
  · exact hmap2.kept hs fun e => hpm e.symm
  · exact (hC2.mono (T := FootP pb mb r) fun i _ e => .inr (.inr e)).trans hs fun i _ e => .inl e
  · exact hN

set_option maxHeartbeats 1000000 in
set_option maxRecDepth 100000 in
theorem put_any {w : World} {pb mb : Nat} {v : Value} {r : Option Nat} {f : Fn} {l : List Vins} {n : Nat} {kn : Lit → Option Lit} (h : PickAt w pb mb v r f l n kn) (g off m c : Nat) (l2 : List Vins) (ys : List Value)
    (hcells : ∀ j u, ys[j]? = some u → w.cell? ⟨g, off + j, none⟩ = some u) (hC : CodeCells w (CodeT pb mb r) l2 ys) (hml : l2.length = m) (hm : 0 < m) (hb : l.length + m ≤ 1000000000) :
    Calls Try.prog 20 #[.pointer (some ⟨pb, 0, none⟩), .slice (some ⟨g, off, none⟩) m c] w
      fun e w' => e = .returned (.tuple #[]) ∧ ∃ v' r', PickAt w' pb mb v' r' f (l ++ l2) n kn ∧ PStep w pb mb r w' r' := by
  obtain ⟨xs, hR, hX⟩ := h.code
  have hh := h.heap
  obtain ⟨A, cap, rfl, _⟩ := hR.shape
  have hc3 : w.cell? ⟨pb, 3, none⟩ = some (.slice A l.length cap) := by simp [World.cell?, hh]
  have hyl : ys.length = m * 7 := by rw [hC.len, hml]
  have HH := Lib.hid h
  have HR := Lib.hid hR
  have HX := Lib.hid hX
  have HY := Lib.hid hC
  have HCS := Lib.hid hcells
  have HYL := Lib.hid hyl
  have HHP := Lib.hid hh
  have HML := Lib.hid hml
  clear h hR hX hC hcells hyl hh hml
  go_enter Try.func20, Try.ntmps20
  go_wp2_with (at_builtin; go_must (refine wpList_append_row _ rfl _ _ 32 61 _ 7 80 rfl Try.underlying32 info_vins rfl HR.out ⟨g, off, none⟩ m c ys HYL.out (fun j u hu => by rw [Addr.add_lit]; exact HCS.out j u hu) HY.out.plain rfl rfl (by omega) (by unfold maxLen; omega) hm ?_); intro v' r' w2 hR' hC2 hN; have hp2 := hC2.heap HHP.out (fun e => row_not HR.out HHP.out (by decide) e.symm); have hf3 : w2.frozen? ⟨pb, 3, none⟩ = false := (by simp [World.frozen?, hp2]); have hc32 : w2.cell? ⟨pb, 3, none⟩ = some (.slice A l.length cap) := (by simp [World.cell?, hp2]); obtain ⟨A', c', rfl, _⟩ := hR'.shape; have HR2 := Lib.hid hR'; have HC2 := Lib.hid hC2; have HN := Lib.hid hN; have HP2 := Lib.hid hp2; clear hR' hC2 hN hp2)
  refine bodyPost_end (results_none rfl _ _ _) rfl ?_
  exact ⟨rfl, put_end HH.out HR.out HX.out HY.out HML.out HHP.out HP2.out HR2.out HC2.out HN.out⟩
end Go.Proofs.Ytnfneinonkpmeaa
