/- Each and From as what a range over a function asks. -/
import Derived.Test.YtdnlgcomhgnegaaRowF
namespace Go.Proofs.Ytdnlgcomhgnegaa
open Go.RowKit Go.Shelf

abbrev El (M : List Pr) := { q : Pr // q ∈ M }
def prs {M : List Pr} (q : List (El M)) : List Pr := q.map (·.1)
theorem prs_snoc {M : List Pr} (q : List (El M)) (x : El M) : prs (q ++ [x]) = prs q ++ [x.1] := by simp [prs]
theorem prs_len {M : List Pr} (q : List (El M)) : (prs q).length = q.length := by simp [prs]
theorem loopE_stops (n : Nat) (hn : 1 ≤ n) (B1 B2 b : Nat) (rk rv : Option Nat) (L : List Pr) (w : World) (hB1 : w.cell? ⟨B1, 0, none⟩ = some (.pointer (some ⟨b, 0, none⟩))) (hB2 : w.cell? ⟨B2, 0, none⟩ = some (.func (.func 29) #[] #[])) (hR : RAt w b rk rv L) :
    SeqStopsK Fence.wide n Try.prog 39 #[.pointer (some ⟨B1, 0, none⟩), .pointer (some ⟨B2, 0, none⟩)] (fun x : El L => #[Value.int .i64 x.1.1, .string x.1.2]) (KpC w.heap.size) (fun ys => prs ys = L) (fun pre => prs pre <+: L) L.length w := fun l J Jx W hW hJ _ hY h0 => by
  refine (loopE_in n hn l w.heap.size B1 B2 b rk rv L 0 (fun pre W => ∃ q : List (El L), prs q = pre ∧ J q W) (fun pre W => ∃ q : List (El L), prs q = pre ∧ Jx q W) rfl L rfl ?_ W ?_ hW.size ((hW.cell (p := ⟨B1, 0, none⟩) (World.block_lt_of_cell? w _ hB1)).trans hB1) ((hW.cell (p := ⟨B2, 0, none⟩) (World.block_lt_of_cell? w _ hB2)).trans hB2) (hR.below hW) ⟨[], rfl, h0⟩).mono ?_
  · rintro pre x W ⟨q, rfl, hq⟩ hp
    have hx : x ∈ L := hp.subset (by simp)
    refine (hY q ⟨x, hx⟩ W hq (by have := hp.length_le; rw [List.length_append, prs_len] at this; simp at this; omega)).mono ?_
    rintro e W' (⟨he, h1, h2⟩ | ⟨he, h1⟩)
    · exact .inl ⟨he, ⟨_, prs_snoc q _, h1⟩, h2⟩
    · exact .inr ⟨he, ⟨_, prs_snoc q _, h1⟩⟩
  · rintro s W W' row ⟨q, hq, h⟩ hg hr
    exact ⟨q, hq, hJ q W W' row h hg hr⟩
  · rintro e W' ⟨hv, ⟨ys, rfl, q, hq, h⟩ | ⟨pre, hp, q, rfl, h⟩⟩
    · exact ⟨hv, .inl ⟨q, hq, h⟩⟩
    · exact ⟨hv, .inr ⟨q, hp, h⟩⟩
theorem loopF_stops (n : Nat) (hn : 1 ≤ n) (B1 B2 C1 C2 b : Nat) (x0 : Int) (rk rv : Option Nat) (L M : List Pr) (hM : M = L.drop (posP L x0)) (w : World) (hB1 : w.cell? ⟨B1, 0, none⟩ = some (.pointer (some ⟨b, 0, none⟩))) (hB2 : w.cell? ⟨B2, 0, none⟩ = some (.func (.func 30) #[] #[.pointer (some ⟨C1, 0, none⟩), .pointer (some ⟨C2, 0, none⟩)])) (hC1 : w.cell? ⟨C1, 0, none⟩ = some (.pointer (some ⟨b, 0, none⟩))) (hC2 : w.cell? ⟨C2, 0, none⟩ = some (.int .i64 x0)) (hR : RAt w b rk rv L) :
    SeqStopsK Fence.wide n Try.prog 39 #[.pointer (some ⟨B1, 0, none⟩), .pointer (some ⟨B2, 0, none⟩)] (fun x : El M => #[Value.int .i64 x.1.1, .string x.1.2]) (KpC w.heap.size) (fun ys => prs ys = M) (fun pre => prs pre <+: M) M.length w := fun l J Jx W hW hJ _ hY h0 => by
  refine (loopF_in n hn l w.heap.size B1 B2 b rk rv L (posP L x0) (fun pre W => ∃ q : List (El M), prs q = pre ∧ J q W) (fun pre W => ∃ q : List (El M), prs q = pre ∧ Jx q W) x0 C1 C2 rfl M hM ?_ W ?_ hW.size ((hW.cell (p := ⟨B1, 0, none⟩) (World.block_lt_of_cell? w _ hB1)).trans hB1) ((hW.cell (p := ⟨B2, 0, none⟩) (World.block_lt_of_cell? w _ hB2)).trans hB2) (hR.below hW) ((hW.cell (p := ⟨C1, 0, none⟩) (World.block_lt_of_cell? w _ hC1)).trans hC1) ((hW.cell (p := ⟨C2, 0, none⟩) (World.block_lt_of_cell? w _ hC2)).trans hC2) ⟨[], rfl, h0⟩).mono ?_
  · rintro pre x W ⟨q, rfl, hq⟩ hp
    have hx : x ∈ M := hp.subset (by simp)
    refine (hY q ⟨x, hx⟩ W hq (by have := hp.length_le; rw [List.length_append, prs_len] at this; simp at this; omega)).mono ?_
    rintro e W' (⟨he, h1, h2⟩ | ⟨he, h1⟩)
    · exact .inl ⟨he, ⟨_, prs_snoc q _, h1⟩, h2⟩
    · exact .inr ⟨he, ⟨_, prs_snoc q _, h1⟩⟩
  · rintro s W W' row ⟨q, hq, h⟩ hg hr
    exact ⟨q, hq, hJ q W W' row h hg hr⟩
  · rintro e W' ⟨hv, ⟨ys, rfl, q, hq, h⟩ | ⟨pre, hp, q, rfl, h⟩⟩
    · exact ⟨hv, .inl ⟨q, hq, h⟩⟩
    · exact ⟨hv, .inr ⟨q, hp, h⟩⟩
end Go.Proofs.Ytdnlgcomhgnegaa
