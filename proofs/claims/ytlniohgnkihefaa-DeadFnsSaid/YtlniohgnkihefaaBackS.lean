/- slices.Backward as a word that a range takes: rounds over elements that are there. -/
import Derived.Test.YtlniohgnkihefaaSetsM
namespace Go.Proofs.Ytlniohgnkihefaa
open Go.RowKit

def ElR {β : Type} (bs : List β) : Type := {q : Nat × β // q ∈ revI bs}
def valsR {β : Type} {bs : List β} (l : List (ElR bs)) : List (Nat × β) := l.map (·.1)
theorem valsR_snoc {β : Type} {bs : List β} (l : List (ElR bs)) (x : ElR bs) : valsR (l ++ [x]) = valsR l ++ [x.1] := by simp [valsR]
theorem revI_mem {β : Type} {bs : List β} {q : Nat × β} (h : q ∈ revI bs) : ∃ hl : q.1 < bs.length, bs[q.1] = q.2 := by
  unfold revI at h
  rw [List.mem_reverse] at h
  obtain ⟨j, hj, e⟩ := List.getElem_of_mem h
  rw [List.length_zip, List.length_range] at hj
  simp only [List.getElem_zip, List.getElem_range] at e
  subst e
  exact ⟨by omega, rfl⟩
theorem revI_has {β : Type} (bs : List β) (i : Nat) (h : i < bs.length) : (i, bs[i]) ∈ revI bs := by
  unfold revI
  rw [List.mem_reverse]
  have : ((List.range bs.length).zip bs)[i]'(by simp; omega) = (i, bs[i]) := by simp
  rw [← this]; exact List.getElem_mem _
def encB (x : Nat × BlkQ) : Array Value := #[.int .i64 (x.1 : Nat), blkAgg x.2.k x.2.A x.2.c]
def encI (x : Nat × InsQ) : Array Value := #[.int .i64 (x.1 : Nat), insAgg x.2.k x.2.A x.2.c]
theorem backB_stops (n : Nat) (hn : 1 ≤ n) (Bn : Nat) (A : Option Addr) (c : Nat) (bs : List BlkQ) (hl : bs.length ≤ 9223372036854775807) (w : World) (hBn : w.cell? ⟨Bn, 0, none⟩ = some (.slice A bs.length c)) (hR : BlkRow w A bs) :
    SeqStopsK Fence.wide n Try.prog 54 #[.pointer (some ⟨Bn, 0, none⟩)] (fun x : ElR bs => encB x.1) (KpW Bn A) (fun ys => valsR ys = revI bs) (fun pre => valsR pre <+: revI bs) bs.length w := fun l J Jx W hW hJ _ hY h0 => by
  refine (backB_in n hn l Bn A c bs hl (fun pre W => ∃ q : List (ElR bs), valsR q = pre ∧ J q W) (fun pre W => ∃ q : List (ElR bs), valsR q = pre ∧ Jx q W) ?_ W ((hW.cell (p := ⟨Bn, 0, none⟩) (World.block_lt_of_cell? w ⟨Bn, 0, none⟩ hBn)).trans hBn) (hR.below hW) ⟨[], rfl, h0⟩).mono ?_
  · rintro pre x W ⟨q, rfl, hq⟩ hp
    have hx : x ∈ revI bs := hp.subset (by simp)
    refine (hY q ⟨x, hx⟩ W hq (by have := hp.length_le; rw [revI_len] at this; simp [valsR] at this; omega)).mono ?_
    rintro e W' (⟨he, h1, h2⟩ | ⟨he, h1⟩)
    · exact .inl ⟨he, ⟨_, valsR_snoc q _, h1⟩, h2⟩
    · exact .inr ⟨he, ⟨_, valsR_snoc q _, h1⟩⟩
  · rintro e W' ⟨hv, ⟨ys, rfl, q, hq, h⟩ | ⟨pre, hp, q, rfl, h⟩⟩
    · exact ⟨hv, .inl ⟨q, hq, h⟩⟩
    · exact ⟨hv, .inr ⟨q, hp, h⟩⟩
theorem backI_stops (n : Nat) (hn : 1 ≤ n) (Bn : Nat) (A : Option Addr) (c : Nat) (bs : List InsQ) (hl : bs.length ≤ 9223372036854775807) (w : World) (hBn : w.cell? ⟨Bn, 0, none⟩ = some (.slice A bs.length c)) (hR : InsRow w A bs) :
    SeqStopsK Fence.wide n Try.prog 58 #[.pointer (some ⟨Bn, 0, none⟩)] (fun x : ElR bs => encI x.1) (KpW Bn A) (fun ys => valsR ys = revI bs) (fun pre => valsR pre <+: revI bs) bs.length w := fun l J Jx W hW hJ _ hY h0 => by
  refine (backI_in n hn l Bn A c bs hl (fun pre W => ∃ q : List (ElR bs), valsR q = pre ∧ J q W) (fun pre W => ∃ q : List (ElR bs), valsR q = pre ∧ Jx q W) ?_ W ((hW.cell (p := ⟨Bn, 0, none⟩) (World.block_lt_of_cell? w ⟨Bn, 0, none⟩ hBn)).trans hBn) (hR.below hW) ⟨[], rfl, h0⟩).mono ?_
  · rintro pre x W ⟨q, rfl, hq⟩ hp
    have hx : x ∈ revI bs := hp.subset (by simp)
    refine (hY q ⟨x, hx⟩ W hq (by have := hp.length_le; rw [revI_len] at this; simp [valsR] at this; omega)).mono ?_
    rintro e W' (⟨he, h1, h2⟩ | ⟨he, h1⟩)
    · exact .inl ⟨he, ⟨_, valsR_snoc q _, h1⟩, h2⟩
    · exact .inr ⟨he, ⟨_, valsR_snoc q _, h1⟩⟩
  · rintro e W' ⟨hv, ⟨ys, rfl, q, hq, h⟩ | ⟨pre, hp, q, rfl, h⟩⟩
    · exact ⟨hv, .inl ⟨q, hq, h⟩⟩
    · exact ⟨hv, .inr ⟨q, hp, h⟩⟩
end Go.Proofs.Ytlniohgnkihefaa
