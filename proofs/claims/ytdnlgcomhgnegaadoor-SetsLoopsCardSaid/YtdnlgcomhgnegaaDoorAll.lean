/- What a loop over a set goes over, as a list of the caller's own. -/
import Derived.Test.YtdnlgcomhgnegaaDoorEach
import Derived.RangeFuncBox
import Derived.Maps.AppendAt
namespace Go.Proofs.YtdnlgcomhgnegaaDoor
open Go.RowKit Go.Shelf
attribute [local go_sem] Oper.semAt_some

theorem each_any (p : Option Addr) (w : World) :
    Calls Tryd.prog 20 #[.pointer p] w fun e w' => e = .returned (.func (.func 34) #[] #[.pointer (some ⟨w.heap.size, 0, none⟩)]) ∧ w' = w.alloc (.cells #[.pointer p] 23) := by
  go_enter Tryd.func20, Tryd.ntmps20
  go_wp2
  go_ret
  exact ⟨rfl, rfl⟩
theorem TabAt.below {w w' : World} (hT : TabAt w) (hB : Below w.heap.size w w') : TabAt w' := fun j hj => (hB.cell (p := ⟨0, j, none⟩) (World.block_lt_of_cell? w ⟨0, j, none⟩ (hT j hj))).trans (hT j hj)
theorem BitsAt.below {w w' : World} {b : Nat} {r : Option Nat} {ws : List Nat} (h : BitsAt w b r ws) (hB : Below w.heap.size w w') : BitsAt w' b r ws := h.kept (Chg.of_below hB (fun _ => False)) (fun h => h) (fun _ _ h => h)
theorem each_stops (n : Nat) (hn : 1 ≤ n) (Bn b : Nat) (r : Option Nat) (ws : List Nat) (w : World) (hBn : w.cell? ⟨Bn, 0, none⟩ = some (.pointer (some ⟨b, 0, none⟩))) (hb : BitsAt w b r ws) (hr0 : r ≠ some 0) (hT : TabAt w) :
    SeqStopsK Fence.wide n Tryd.prog 34 #[.pointer (some ⟨Bn, 0, none⟩)] (fun x : Int => #[Value.int .i64 x]) (KpB b) (fun ys => ys = listW ws) (fun pre => pre <+: listW ws) (listW ws).length w := fun l J Jx W hW hJ _ hY h0 =>
  each1_in n hn l Bn b r ws J Jx (fun pre x W h hp => hY pre x W h (by have := hp.length_le; simp at this; omega)) W hJ ((hW.cell (p := ⟨Bn, 0, none⟩) (World.block_lt_of_cell? w ⟨Bn, 0, none⟩ hBn)).trans hBn) (hb.below hW) hr0 (hT.below hW) h0
/-- A body that turns blocks of other kinds alone keeps the words. -/
theorem KpB.chg {b n₀ : Nat} {S : Nat → Prop} {W W' : World} (h : Chg S W W') (hb : b < n₀) (h0 : 0 < n₀) (hn : n₀ ≤ W.heap.size) (hS : ∀ i, S i → n₀ ≤ i ∧ ¬ U64At W i) : KpB b W W' := by
  intro k hk hr
  have hns : ¬ S k := fun hs => by
    rcases hk with hk | rfl
    · exact (hS k hs).2 hk
    · have := (hS 0 hs).1; omega
  have hlt : k < W.heap.size := by
    rcases hk with ⟨c, hc⟩ | rfl
    · exact lt_of_heap hc
    · omega
  refine ⟨h.block k hlt hns, ?_⟩
  unfold rowOf at hr ⊢
  rw [h.block b (by omega) fun hs => by have := (hS b hs).1; omega]
  exact hr
theorem info_int' : (Tryd.prog.info? 3).map (fun i => (i.zero, i.size, i.bytes)) = some (some (.int .i64 0), 1, 8) := by kernel_rfl
theorem owns_reads {w : World} {n₀ n : Nat} {v : Value} {xs : List Value} (h : w.ownsRow n₀ 3 1 v n xs) : ∃ A c, v = .slice A n c ∧ ReadsAt w A xs := by
  rcases h.2 with ⟨rfl, rfl⟩ | ⟨g, cap, cur, rfl, _, hg, _, _, _, ht⟩
  · have hx : xs = [] := List.eq_nil_of_length_eq_zero (by simpa using h.1)
    exact ⟨none, 0, rfl, fun hp => by rw [hx] at hp; cases hp⟩
  · refine ⟨_, cap, rfl, fun _ => ⟨g, 0, rfl, lt_of_heap hg, fun j u hu => ?_⟩⟩
    rw [Nat.zero_add, cell_of_row _ _ _ _ _ _ hg, ← Array.getElem?_toList]
    rw [← ht, List.getElem?_take] at hu
    split at hu
    · exact hu
    · cases hu

theorem kp_append {W w1 : World} {b n₀ B k : Nat} {v : Value} {xs : List Value} {tmp : Obj} (hv : Boxed W B 22 v) (hrow : W.ownsRow n₀ 3 1 v k xs) (hgrow : (W.alloc tmp).grownBy w1 v.ownBlock)
    (hb : b < n₀) (h0 : 0 < n₀) (hn : n₀ ≤ W.heap.size) (hB : n₀ ≤ B) (u : Value) : KpB b W (w1.setCell ⟨B, 0, none⟩ u) := by
  have hc : Chg (fun i => i = B ∨ some i = v.ownBlock) W (w1.setCell ⟨B, 0, none⟩ u) :=
    (((Chg.refl (fun i => i = B ∨ some i = v.ownBlock) W).alloc tmp).trans (Chg.of_grownBy hgrow) fun i _ e => .inr e).trans (Chg.store w1 B 0 u) fun i _ e => .inl e
  refine KpB.chg hc hb h0 hn fun i hi => ?_
  rcases hi with rfl | hi
  · refine ⟨hB, fun ⟨c, hc⟩ => ?_⟩
    rw [show W.heap[i]? = _ from hv] at hc
    injection hc with hc
    injection hc with _ ht _
    exact absurd ht (by decide)
  · rcases hrow.2 with ⟨rfl, _⟩ | ⟨g, cap, cur, rfl, hg, hgb, _⟩
    · cases hi
    · have : i = g := by simpa [Value.ownBlock] using hi
      subst this
      refine ⟨hg, fun ⟨c, hc⟩ => ?_⟩
      rw [hgb] at hc
      injection hc with hc
      injection hc with _ ht _
      exact absurd ht (by decide)
set_option maxRecDepth 100000 in
set_option maxHeartbeats 2000000 in
theorem all_any (b : Nat) (r : Option Nat) (ws : List Nat) (w : World) (hb : BitsAt w b r ws) (hr0 : r ≠ some 0) (hT : TabAt w) :
    Calls Tryd.prog 13 #[.pointer (some ⟨b, 0, none⟩)] w fun e w' => ∃ A c, e = .returned (.tuple #[.slice A (listW ws).length c, .bool true]) ∧ ReadsAt w' A (ints (listW ws)) ∧ Below w.heap.size w w' := by
  have hlen : (listW ws).length ≤ 65536 := by
    unfold listW upToL
    have h1 := List.length_filter_le (memW ws) (List.range (64 * ws.length))
    rw [List.length_range] at h1
    rw [List.length_map]
    have := hb.len
    omega
  obtain ⟨i0, hi, hz0, hz1, hz2⟩ := info_parts info_int'
  have hbl := hb.blt
  have h0l : 0 < w.heap.size := by omega
  have HB := Lib.hid hb
  have HT := Lib.hid hT
  clear hb hT
  refine (callsIn_wide (n := 5)).1 ?_
  refine callsIn_of_wp_marks Tryd.func13 rfl trivial ?_ rfl
  simp only [Tryd.ntmps13, List.size_toArray, List.length_cons, List.length_nil, Nat.reduceAdd, Nat.reduceSub, Array.replicate_succ, Array.replicate_zero, List.push_toArray, List.append_toArray, List.nil_append, List.cons_append]
  have hn1 : 1 ≤ 5 - 1 := by omega
  have hnil : ∀ (w : World) (p : Value), (binOp .eql 35 (.func (.func 34) #[] #[p]) .nilFunc).run Tryd.prog w = .ok (.bool false) w := fun w p => by rfl
  gi_wp2_with (refine ⟨trivial, ?_⟩; gi_at_call 20; refine (callsIn_wide.2 (each_any _ _)).mono ?_; rintro e w' ⟨rfl, rfl⟩)
  have bO := Boxed.new w 22 (.slice none 0 0)
  have bN := Boxed.new (w.alloc (.cells #[.slice none 0 0] 22)) 23 (.pointer (some ⟨b, 0, none⟩))
  rw [World.size_alloc] at bN
  have hB0 : Below w.heap.size w ((w.alloc (.cells #[.slice none 0 0] 22)).alloc (.cells #[.pointer (some ⟨b, 0, none⟩)] 23)) := ((Below.refl _ w).alloc (Nat.le_refl _) _).alloc (by simp) _
  refine wpIn_rangeFunc_ownG rfl (by omega) (gf := 34) (lb := #[.pointer (some ⟨w.heap.size + 1, 0, none⟩)]) rfl trivial (enters_of Tryd.func34 (by kernel_rfl) rfl)
    (each_stops (5 - 1) hn1 (w.heap.size + 1) b r ws _ bN.cell (HB.out.below hB0) hr0 (HT.out.below hB0)) KpB.trans (fun W l o o' hl hh hc _ => KpB.put (n := w.heap.size) hbl (Nat.le_trans hB0.size hl) hh hc) (Below.refl _ _) (fun _ => rfl)
    (fun (pre : List Int) W => (∃ v, Boxed W w.heap.size 22 v ∧ W.ownsRow w.heap.size 3 1 v pre.length (pre.map (Value.int .i64)) ∧ True) ∧ Below w.heap.size w W)
    (fun _ _ _ => False)
    (OwnFrom.and (Own.from (holdsRow_own w.heap.size w.heap.size 22 3 1 (fun pre : List Int => pre.length) (fun pre : List Int => pre.map (Value.int .i64)) (fun _ _ => True)) _) (ownFrom_below (Nat.le_refl _) (by simp; omega)))
    (fun _ _ _ _ _ hs _ _ => hs)
    ⟨⟨_, bO.alloc _, World.ownsRow_nil _ _ _ _, trivial⟩, hB0⟩
    (fun x => { tmps := #[.pointer (some ⟨b, 0, none⟩), undef, .slice none 0 0, .bool false, .pointer (some ⟨w.heap.size, 0, none⟩), .func (.func 34) #[] #[.pointer (some ⟨w.heap.size + 1, 0, none⟩)], .int .i64 x, .pointer (some ⟨b, 0, none⟩), .func (.func 34) #[] #[.pointer (some ⟨w.heap.size + 1, 0, none⟩)], .func (.func 34) #[] #[.pointer (some ⟨w.heap.size + 1, 0, none⟩)], .bool false, .func (.func 34) #[] #[.pointer (some ⟨w.heap.size + 1, 0, none⟩)], .int .i64 x, undef, undef, undef, undef, undef], defers := [] }) ?assign ?body ?done ?stop
  case assign =>
    intro l x W K hK
    gi_wp2
    exact hK
  case body =>
    rintro l pre x W ⟨⟨v, hv, hrow, _⟩, hB⟩ hlt
    have hc := hv.cell
    gi_wp2_with (gi_at_builtin; refine wpListIn_append_own _ rfl _ _ 22 rfl w.heap.size 3 i0 (.int .i64 0) 1 8 Tryd.underlying22 hi hz0 hz1 hz2 rfl (by decide) _ _ _ rfl (hrow.alloc _) ⟨W.heap.size, 0, none⟩ 1 1 [.int .i64 x] rfl rfl (cell_one_new _ _ _) (by simp [Value.oneCell']) (by unfold maxLen; omega) (by omega) (by have := hB.size; simp; omega) ?_; intro v' w1 hown' hgrow _; obtain ⟨g', cap', rfl⟩ := ownsRow_succ hown'; obtain ⟨hv1, hv2, hr2, hk2, hb2⟩ := hv.appended (by decide) hrow hB.size (Nat.le_refl _) hown' hgrow; have hc1 := hv1.cell; have hf1 := hv1.frozen)
    exact ⟨hk2.from _, kp_append hv hrow hgrow hbl h0l hB.size (Nat.le_refl _) _, ⟨⟨_, hv2, by simpa using hr2, trivial⟩, hB.trans hb2⟩⟩
  case done =>
    rintro D ys W hD rfl ⟨⟨v, hv, hrow, _⟩, hB⟩ hK
    have hc := hv.cell
    gi_wp2
    refine ⟨by simp, .inl ⟨_, _, rfl, run_takeDeferred hK, ?_⟩⟩
    obtain ⟨A, c, rfl, hrd⟩ := owns_reads (ownsRow_putObj hrow (.deferred none) hK rfl)
    refine ⟨_, by simp [results, Tryd.results13, go_sem], A, c, rfl, hrd, hB.trans (belowK_b (w := w) (Nat.le_refl _) W D _ _ (by simp at hD; omega) hK rfl rfl)⟩
  case stop =>
    rintro D c pre W _ _ h _
    exact h.elim
end Go.Proofs.YtdnlgcomhgnegaaDoor
