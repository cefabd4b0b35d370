/- Sets, rows and queues that there aren't. -/
import Derived.Test.YtdnlgcomhgnegaaDoorMinus
import Derived.Test.YtdnlgcomhgnegaaDoorAll
import Derived.RangeFuncBox
import Derived.Maps.AppendAt
namespace Go.Proofs.YtdnlgcomhgnegaaDoor
open Go.RowKit Go.Shelf

theorem drop_nil (k : Int) (hk63 : k ≤ 9223372036854775807) (w : World) :
    Calls Tryd.prog 12 #[.pointer none, .int .i64 k] w fun e w' => e = .returned (.bool false) ∧ w = w' := by
  go_enter Tryd.func12, Tryd.ntmps12
  go_wp2_with (go_at_call 16; refine (has_nil k hk63 _).mono ?_; rintro e w' ⟨rfl, rfl⟩)
  go_ret
  exact ⟨rfl, rfl⟩
theorem find_nil (k : Int) (w : World) :
    Calls Tryd.prog 38 #[.pointer none, .int .i64 k] w fun e w' => e = .returned (.tuple #[.int .i64 0, .bool false]) ∧ w = w' := by
  go_enter Tryd.func38, Tryd.ntmps38
  go_wp2_with fail
  go_ret2
  exact ⟨rfl, rfl⟩
theorem rget_nil (k : Int) (w : World) :
    Calls Tryd.prog 25 #[.pointer none, .int .i64 k] w fun e w' => e = .returned (.tuple #[.int .i64 0, .bool false]) ∧ w = w' := by
  go_enter Tryd.func25, Tryd.ntmps25
  go_wp2_with (go_at_call 38; refine (find_nil k _).mono ?_; rintro e w' ⟨rfl, rfl⟩)
  go_ret2
  exact ⟨rfl, rfl⟩
theorem rput_nil (k n : Int) (w : World) :
    Calls Tryd.prog 27 #[.pointer none, .int .i64 k, .int .i64 n] w fun e w' => e = .returned (.bool false) ∧ w = w' := by
  go_enter Tryd.func27, Tryd.ntmps27
  go_wp2_with fail
  go_ret
  exact ⟨rfl, rfl⟩
theorem rdrop_nil (k : Int) (w : World) :
    Calls Tryd.prog 28 #[.pointer none, .int .i64 k] w fun e w' => e = .returned (.bool false) ∧ w = w' := by
  go_enter Tryd.func28, Tryd.ntmps28
  go_wp2_with (go_at_call 38; refine (find_nil k _).mono ?_; rintro e w' ⟨rfl, rfl⟩)
  go_ret
  exact ⟨rfl, rfl⟩
theorem rlen_nil (w : World) :
    Calls Tryd.prog 29 #[.pointer none] w fun e w' => e = .returned (.int .i64 0) ∧ w = w' := by
  go_enter Tryd.func29, Tryd.ntmps29
  go_wp2_with fail
  go_ret
  exact ⟨rfl, rfl⟩
theorem minus_none {w : World} (b : Nat) :
    Calls Tryd.prog 24 #[.pointer (some ⟨b, 0, none⟩), .pointer none] w fun e w' => e = .returned (.bool false) ∧ w = w' := by
  go_enter Tryd.func24, Tryd.ntmps24
  go_wp2_with (go_at_call 32; refine (words_nil _).mono ?_; rintro e w' ⟨rfl, rfl⟩)
  refine wp_loop_rounds 1 ?_
  rw [rounds_succ]
  go_wp2
  go_ret
  exact ⟨rfl, rfl⟩
theorem minus_nil {w : World} {c : Nat} {rc : Option Nat} {wc : List Nat} (h : BitsAt w c rc wc) :
    Calls Tryd.prog 24 #[.pointer none, .pointer (some ⟨c, 0, none⟩)] w fun e w' => e = .returned (.bool false) ∧ w = w' := by
  obtain ⟨vc, hc1, hc2⟩ := h.ex
  obtain ⟨Ac, cc, rfl, _⟩ := hc2.shape
  have hcc := cell_of_one hc1
  have hll := h.len
  have hrd := hc2.reads
  clear h hc1 hc2
  by_cases h0 : 0 < wc.length
  · obtain ⟨g, off, rfl, hg, hc⟩ := hrd (by rw [cells64_length]; exact h0)
    have hx := hc 0 _ (cells64_at wc 0 h0)
    obtain ⟨x, hxe⟩ : ∃ x, x = wc.getD 0 0 := ⟨_, rfl⟩
    rw [← hxe, Nat.add_zero] at hx
    clear hc hxe hrd
    go_enter Tryd.func24, Tryd.ntmps24
    go_wp2_with (go_at_call 32; (first | (refine (words_cell _ _ _ hcc).mono ?_; rintro e w' ⟨rfl, rfl⟩) | (refine (words_nil _).mono ?_; rintro e w' ⟨rfl, rfl⟩)))
    refine wp_loop_rounds 1 ?_
    rw [rounds_succ]
    go_wp2_with (go_at_call 32; refine (words_nil _).mono ?_; rintro e w' ⟨rfl, rfl⟩)
    go_ret
    exact ⟨rfl, rfl⟩
  · have h1 : wc.length = 0 := by omega
    clear h0 hrd
    rw [h1] at hcc
    go_enter Tryd.func24, Tryd.ntmps24
    go_wp2_with (go_at_call 32; refine (words_cell _ _ _ hcc).mono ?_; rintro e w' ⟨rfl, rfl⟩)
    refine wp_loop_rounds 1 ?_
    rw [rounds_succ]
    go_wp2
    go_ret
    exact ⟨rfl, rfl⟩
set_option maxHeartbeats 1000000 in
set_option maxRecDepth 100000 in
theorem clone_nil (w : World) :
    Calls Tryd.prog 21 #[.pointer none] w fun e w' => ∃ b' r', e = .returned (.pointer (some ⟨b', 0, none⟩)) ∧ NewBits w w' b' r' [] := by
  go_enter Tryd.func21, Tryd.ntmps21
  go_wp2_with fail
  refine (words_nil _).mono ?_
  rintro e w' ⟨rfl, rfl⟩
  go_wp2_with fail
  refine (clone64_both _ none [] w (Nat.zero_le _) (RowAt.nil _ _ _)).mono ?_
  rintro e w1 ⟨⟨hB, _⟩, v, r', rfl, hR, hn⟩
  obtain ⟨A', c', rfl, _⟩ := hR.shape
  have HB := Lib.hid hB
  have HR := Lib.hid hR
  have HN := Lib.hid hn
  clear hB hR hn
  go_wp2_with fail
  go_ret
  exact ⟨w1.heap.size, r', rfl, ⟨⟨_, heap_alloc_new w1 _, HR.out.alloc _⟩, (by simp), Nat.zero_le _⟩, HB.out.alloc HB.out.size _, HB.out.size, HN.out⟩
attribute [local go_sem] Oper.semAt_some
set_option maxRecDepth 100000 in
set_option maxHeartbeats 2000000 in
theorem each0_in (n : Nat) (hn : 1 ≤ n) (l Bn : Nat) (J Jx : List Int → World → Prop)
    (W : World) (hJ : AbidesFrom W.heap.size J) (hBn : W.cell? ⟨Bn, 0, none⟩ = some (.pointer none)) (h0 : J [] W) :
    CallsIn Fence.wide n Tryd.prog 34 #[.func (.yield l) #[] #[], .pointer (some ⟨Bn, 0, none⟩)] W fun e W' => (∃ v, e = .returned v) ∧
      ((∃ ys, ys = ([] : List Int) ∧ J ys W') ∨ (∃ pre, pre <+: ([] : List Int) ∧ Jx pre W')) := by
  refine callsIn_of_wp Tryd.func34 rfl trivial ?_ rfl
  simp only [Tryd.ntmps34, List.size_toArray, List.length_cons, List.length_nil, Nat.reduceAdd, Nat.reduceSub, Array.replicate_succ, Array.replicate_zero, List.push_toArray, List.append_toArray, List.nil_append, List.cons_append]
  gi_wp2_with (first
    | (refine ⟨trivial, ?_⟩; gi_at_call 32; refine (callsIn_wide.2 (words_nil _)).mono ?_; rintro e w' ⟨rfl, rfl⟩)
    | (refine ⟨trivial, ?_⟩; gi_at_call 35; refine (callsIn_wide.2 (clone64_any (.slice none 0 0) none [] _ (Nat.zero_le _) (RowAt.nil _ _ _))).mono ?_; rintro e Wc ⟨hBc, Ac, cc, rfl, hcl⟩; have HBC := Lib.hid hBc; clear hBc hcl))
  have hJc := hJ [] W Wc none h0 (grownBy_none HBC.out) (fun r e => by cases e)
  have HJC := Lib.hid hJc
  clear hJc h0 hBn
  gi_loopw [9] (fun i wr => i = .int .i64 0 ∧ J [] wr) (fun _ _ => 0)
  case atStart => exact ⟨rfl, HJC.out⟩
  case round =>
    obtain ⟨rfl, hJk⟩ := hrel
    have HJK := Lib.hid hJk
    clear hJk
    gi_wp2
    go_end0
    exact ⟨⟨_, rfl⟩, .inl ⟨_, rfl, HJK.out⟩⟩
theorem each0_stops (n : Nat) (hn : 1 ≤ n) (Bn : Nat) (w : World) (hBn : w.cell? ⟨Bn, 0, none⟩ = some (.pointer none)) :
    SeqStopsK Fence.wide n Tryd.prog 34 #[.pointer (some ⟨Bn, 0, none⟩)] (fun x : Int => #[Value.int .i64 x]) (KpB 0) (fun ys => ys = []) (fun pre => pre <+: ([] : List Int)) 0 w := fun l J Jx W hW hJ _ _ h0 =>
  each0_in n hn l Bn J Jx W hJ ((hW.cell (p := ⟨Bn, 0, none⟩) (World.block_lt_of_cell? w ⟨Bn, 0, none⟩ hBn)).trans hBn) h0
set_option maxRecDepth 100000 in
set_option maxHeartbeats 2000000 in
theorem all_nil (w : World) (h0l : 0 < w.heap.size) :
    Calls Tryd.prog 13 #[.pointer none] w fun e w' => ∃ A c, e = .returned (.tuple #[.slice A 0 c, .bool true]) ∧ Below w.heap.size w w' := by
  obtain ⟨i0, hi, hz0, hz1, hz2⟩ := info_parts info_int'
  have hbl := h0l
  refine (callsIn_wide (n := 5)).1 ?_
  refine callsIn_of_wp_marks Tryd.func13 rfl trivial ?_ rfl
  simp only [Tryd.ntmps13, List.size_toArray, List.length_cons, List.length_nil, Nat.reduceAdd, Nat.reduceSub, Array.replicate_succ, Array.replicate_zero, List.push_toArray, List.append_toArray, List.nil_append, List.cons_append]
  have hn1 : 1 ≤ 5 - 1 := by omega
  have hnil : ∀ (w : World) (p : Value), (binOp .eql 35 (.func (.func 34) #[] #[p]) .nilFunc).run Tryd.prog w = .ok (.bool false) w := fun w p => by rfl
  gi_wp2_with (refine ⟨trivial, ?_⟩; gi_at_call 20; refine (callsIn_wide.2 (each_any _ _)).mono ?_; rintro e w' ⟨rfl, rfl⟩)
  have bO := Boxed.new w 22 (.slice none 0 0)
  have bN := Boxed.new (w.alloc (.cells #[.slice none 0 0] 22)) 23 (.pointer none)
  rw [World.size_alloc] at bN
  have hB0 : Below w.heap.size w ((w.alloc (.cells #[.slice none 0 0] 22)).alloc (.cells #[.pointer none] 23)) := ((Below.refl _ w).alloc (Nat.le_refl _) _).alloc (by simp) _
  refine wpIn_rangeFunc_ownG rfl (by omega) (gf := 34) (lb := #[.pointer (some ⟨w.heap.size + 1, 0, none⟩)]) rfl trivial (enters_of Tryd.func34 (by kernel_rfl) rfl)
    (each0_stops (5 - 1) hn1 (w.heap.size + 1) _ bN.cell) KpB.trans (fun W l o o' hl hh hc _ => KpB.put (n := w.heap.size) hbl (Nat.le_trans hB0.size hl) hh hc) (Below.refl _ _) (fun _ => rfl)
    (fun (pre : List Int) W => (∃ v, Boxed W w.heap.size 22 v ∧ W.ownsRow w.heap.size 3 1 v pre.length (pre.map (Value.int .i64)) ∧ True) ∧ Below w.heap.size w W)
    (fun _ _ _ => False)
    (OwnFrom.and (Own.from (holdsRow_own w.heap.size w.heap.size 22 3 1 (fun pre : List Int => pre.length) (fun pre : List Int => pre.map (Value.int .i64)) (fun _ _ => True)) _) (ownFrom_below (Nat.le_refl _) (by simp; omega)))
    (fun _ _ _ _ _ hs _ _ => hs)
    ⟨⟨_, bO.alloc _, World.ownsRow_nil _ _ _ _, trivial⟩, hB0⟩
    (fun x => { tmps := #[.pointer none, undef, .slice none 0 0, .bool false, .pointer (some ⟨w.heap.size, 0, none⟩), .func (.func 34) #[] #[.pointer (some ⟨w.heap.size + 1, 0, none⟩)], .int .i64 x, .pointer none, .func (.func 34) #[] #[.pointer (some ⟨w.heap.size + 1, 0, none⟩)], .func (.func 34) #[] #[.pointer (some ⟨w.heap.size + 1, 0, none⟩)], .bool false, .func (.func 34) #[] #[.pointer (some ⟨w.heap.size + 1, 0, none⟩)], .int .i64 x, undef, undef, undef, undef, undef], defers := [] }) ?assign ?body ?done ?stop
  case assign =>
    intro l x W K hK
    gi_wp2
    exact hK
  case body =>
    intro l pre x W _ hlt
    exact absurd hlt (Nat.not_lt_zero _)
  case done =>
    rintro D ys W hD rfl ⟨⟨v, hv, hrow, _⟩, hB⟩ hK
    have hc := hv.cell
    gi_wp2
    refine ⟨by simp, .inl ⟨_, _, rfl, run_takeDeferred hK, ?_⟩⟩
    obtain ⟨A, c, rfl, _⟩ := owns_reads (ownsRow_putObj hrow (.deferred none) hK rfl)
    refine ⟨_, by simp [results, Tryd.results13, go_sem], A, c, rfl, hB.trans (belowK_b (w := w) (Nat.le_refl _) W D _ _ (by simp at hD; omega) hK rfl rfl)⟩
  case stop =>
    rintro D c pre W _ _ h _
    exact h.elim
end Go.Proofs.YtdnlgcomhgnegaaDoor
