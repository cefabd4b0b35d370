/- dead.live: the walk. -/
import Derived.Deep.DeepCutAuto
import Derived.Deep.CutBlock
import Derived.Deep.RegionHeld3
import Derived.Sort.LoopGhostIn
import Derived.RangeFuncLeaves
import Derived.Sort.CutIn
import Derived.Test.YtlniohgnkihefaaLk8
import Derived.Test.YtlniohgnkihefaaLk2
import Derived.Test.YtlniohgnkihefaaLk7
namespace Go.Proofs.Ytlniohgnkihefaa
open Go.RowKit
attribute [local go_sem] Oper.semAt_some
theorem info_bptr : (Try.prog.info? 65).map (fun i => (i.zero, i.size, i.bytes)) = some (some (.pointer none), 1, 8) := by kernel_rfl
set_option maxRecDepth 100000 in
set_option maxHeartbeats 4000000 in
theorem live_any (f : Fn) (hF : FlowF f.blocks) (hD : DataF f.blocks) (A : Option Addr) (c : Nat) (w : World) (hr : BlkMem w A f.blocks) :
    Calls Try.prog 23 #[fnAgg f A c] w (LiveD w f.blocks) := by
  obtain ⟨name, params, regs, ks⟩ := f
  dsimp only [fnAgg] at hF hD hr ⊢
  obtain ⟨n, hn⟩ : ∃ n, n = ks.length := ⟨_, rfl⟩
  have hnb : n ≤ 1000 := by rw [hn]; exact hF.nb
  rw [← hn]
  have HN := Lib.hid hn
  have HF := Lib.hid hF
  have HDA := Lib.hid hD
  have HR := Lib.hid hr
  clear hn hF hr hD
  refine (callsIn_wide (n := 8)).1 ?_
  refine callsIn_of_wp_marks Try.func23 rfl trivial ?_ rfl
  simp only [Try.ntmps23, List.size_toArray, List.length_cons, List.length_nil, Nat.reduceAdd, Nat.reduceSub, Array.replicate_succ, Array.replicate_zero, List.push_toArray, List.append_toArray, List.nil_append, List.cons_append]
  gi_wp2_with fail
  obtain ⟨bx, hbx⟩ : ∃ bx, bx = w.heap.size := ⟨_, rfl⟩
  obtain ⟨W1, hW1⟩ : ∃ W1, W1 = ((w.alloc (.cells #[.string name, .int .i64 params, .int .i64 regs, .slice A n c] 31)).alloc (.cells #[.slice none 0 0, .slice none 0 0] 61)).alloc (.cells #[.slice none 0 0, .slice none 0 0] 61) := ⟨_, rfl⟩
  rw [← hW1, ← hbx]
  obtain ⟨bl, hbl⟩ : ∃ bl, bl = bx + 1 + 1 := ⟨_, rfl⟩
  rw [← hbl]
  have hG0 : Grow1 w bx bl 0 (.cells #[.string name, .int .i64 params, .int .i64 regs, .slice A n c] 31) (.slice none 0 0) (.slice none 0 0) none none [] [] W1 := by
    have hb := (((Below.refl _ w).alloc (Nat.le_refl _) (.cells #[.string name, .int .i64 params, .int .i64 regs, .slice A n c] 31)).alloc (by simp) (.cells #[.slice none 0 0, .slice none 0 0] 61)).alloc (by simp; omega) (.cells #[.slice none 0 0, .slice none 0 0] 61)
    have h3 := heap_alloc_new ((w.alloc (.cells #[.string name, .int .i64 params, .int .i64 regs, .slice A n c] 31)).alloc (.cells #[.slice none 0 0, .slice none 0 0] 61)) (.cells #[.slice none 0 0, .slice none 0 0] 61)
    have h1 := (heap_alloc_old ((w.alloc (.cells #[.string name, .int .i64 params, .int .i64 regs, .slice A n c] 31)).alloc (.cells #[.slice none 0 0, .slice none 0 0] 61)) (.cells #[.slice none 0 0, .slice none 0 0] 61) (r := w.heap.size) (by simp; omega)).trans ((heap_alloc_old (w.alloc (.cells #[.string name, .int .i64 params, .int .i64 regs, .slice A n c] 31)) (.cells #[.slice none 0 0, .slice none 0 0] 61) (r := w.heap.size) (by simp)).trans (heap_alloc_new w _))
    have h2a := heap_alloc_new (w.alloc (.cells #[.string name, .int .i64 params, .int .i64 regs, .slice A n c] 31)) (.cells #[.slice none 0 0, .slice none 0 0] 61)
    rw [World.size_alloc] at h2a
    have h2 := (heap_alloc_old ((w.alloc (.cells #[.string name, .int .i64 params, .int .i64 regs, .slice A n c] 31)).alloc (.cells #[.slice none 0 0, .slice none 0 0] 61)) (.cells #[.slice none 0 0, .slice none 0 0] 61) (r := w.heap.size + 1) (by simp)).trans h2a
    rw [World.size_alloc, World.size_alloc, ← hbx, ← hbl] at h3
    rw [← hbx] at h2
    rw [← hbx] at h1
    rw [hW1]
    exact ⟨hb, h1, h2, by omega, h3, RowAt.nil _ _ _, RowAt.nil _ _ _, (fun _ h => by cases h), (fun _ h => by cases h), (fun _ h => by cases h), (fun _ h => by cases h), List.nodup_nil, rfl, rfl⟩
  have HG0 := Lib.hid hG0
  have HBL := Lib.hid (And.intro hbx hbl)
  clear hG0 hbx hbl hW1
  refine wpIn_wide.2 ?_
  go_loopw [15] (fun i wr => ∃ (k : Nat) (vI vO : Value) (rI rO : Option Nat) (ps qs : List Nat), k ≤ n ∧ i = .int .i64 (k : Nat) ∧ Grow1 w bx bl k (.cells #[.string name, .int .i64 params, .int .i64 regs, .slice A n c] 31) vI vO rI rO ps qs wr) (fun i _ => n - (intOf i).toNat)
  case atStart => exact ⟨0, _, _, _, _, _, _, Nat.zero_le _, rfl, HG0.out⟩
  case round =>
    obtain ⟨k, vI, vO, rI, rO, ps, qs, hk, rfl, hG⟩ := hrel
    have HG := Lib.hid hG
    clear hG HG0
    by_cases hlt : k < n
    · go_upto_block 1 with (fail)
      have HEND : Hid (∀ (vI' : Value) (rI' : Option Nat) (vO' : Value) (rO' : Option Nat) (new : List (Nat × Obj)) (W : World) (p q : Nat), R4 wr bl rI rO vI' vO' vI' rI' (k + 1) (ps.map ptrN ++ [ptrN p]) vO' rO' (k + 1) (qs.map ptrN ++ [ptrN q]) new W → (p, bits0) ∈ new → (q, bits0) ∈ new → p ≠ q →
          ∃ (vI vO : Value) (rI rO : Option Nat) (ps qs : List Nat), Grow1 w bx bl (k + 1) (.cells #[.string name, .int .i64 params, .int .i64 regs, .slice A n c] 31) vI vO rI rO ps qs W) := Lib.hid fun vI' rI' vO' rO' new W p q h hp hq hpq => ⟨_, _, _, _, _, _, h.fin HG.out hp hq hpq (by have := HBL.out; omega)⟩
      have h0 := HG.out.r4.drew
      go_cut [] from 17 to 30 (fun wz => ∃ (vI vO : Value) (rI rO : Option Nat) (ps qs : List Nat), Grow1 w bx bl (k + 1) (.cells #[.string name, .int .i64 params, .int .i64 regs, .slice A n c] 31) vI vO rI rO ps qs wz)
      case first =>
        -- <done>
        -- GENERATED: region 4
        go_wp2_with fail
        refine wp_region_noPanic ?_
        refine wp_region_T (fun W => W.cell? ⟨bl, 0, none⟩ = some vI ∧ W.cell? ⟨bl, 1, none⟩ = some vO) [13, 15] (by kernel_rfl) h0.cells (fun _ => ?_)
        obtain ⟨V0, hV0⟩ : ∃ V0, wr.drew = V0 := ⟨_, rfl⟩
        rw [hV0] at h0 ⊢
        clear hV0
        refine wpAnyT_take (i := 0) (v := ?v1) rfl (by kernel_rfl) (by kernel_rfl) (by kernel_rfl) rfl (fun _ _ _ h => h) (Or.inl ⟨by rfl, ?hy1⟩) (DL.of h0.cells) ?rest1
        case hy1 => (intro w hSw; go_simp; try rfl)
        simp only [Act.put, List.setIfInBounds_toArray, List.set_cons_zero, List.set_cons_succ, List.getElem_toArray, List.getElem_cons_zero]
        refine wpAnyT_load (i := 1) (v := ?v2) rfl (by kernel_rfl) (by kernel_rfl) (by kernel_rfl) rfl (by kernel_rfl) (by kernel_rfl) (fun _ _ _ h => h) (Or.inl ⟨by rfl, ?hy2⟩) (DL.of h0.cells) ?rest2
        case hy2 => (intro w hSw; obtain ⟨hs1, hs2⟩ := hSw rfl; go_simp; try rfl)
        simp only [Act.put, List.setIfInBounds_toArray, List.set_cons_zero, List.set_cons_succ, List.getElem_toArray, List.getElem_cons_zero, List.getElem_cons_succ]
        refine wpAnyT_take (i := 2) (v := ?v3) rfl (by kernel_rfl) (by kernel_rfl) (by kernel_rfl) rfl (fun _ _ _ h => h) (Or.inl ⟨by rfl, ?hy3⟩) (DL.of h0.cells) ?rest3
        case hy3 => (intro w hSw; go_simp; try rfl)
        simp only [Act.put, List.setIfInBounds_toArray, List.set_cons_zero, List.set_cons_succ, List.getElem_toArray, List.getElem_cons_zero, List.getElem_cons_succ]
        refine wpAnyT_take (i := 6) (v := ?v4) rfl (by kernel_rfl) (by kernel_rfl) (by kernel_rfl) rfl (fun _ _ _ h => h) (Or.inl ⟨by rfl, ?hy4⟩) (DL.of h0.cells) ?rest4
        case hy4 => (intro w hSw; go_simp; try rfl)
        simp only [Act.put, List.setIfInBounds_toArray, List.set_cons_zero, List.set_cons_succ, List.getElem_toArray, List.getElem_cons_zero, List.getElem_cons_succ]
        refine wpAnyT_load (i := 7) (v := ?v5) rfl (by kernel_rfl) (by kernel_rfl) (by kernel_rfl) rfl (by kernel_rfl) (by kernel_rfl) (fun _ _ _ h => h) (Or.inl ⟨by rfl, ?hy5⟩) (DL.of h0.cells) ?rest5
        case hy5 => (intro w hSw; obtain ⟨hs1, hs2⟩ := hSw rfl; go_simp; try rfl)
        simp only [Act.put, List.setIfInBounds_toArray, List.set_cons_zero, List.set_cons_succ, List.getElem_toArray, List.getElem_cons_zero, List.getElem_cons_succ]
        refine wpAnyT_take (i := 8) (v := ?v6) rfl (by kernel_rfl) (by kernel_rfl) (by kernel_rfl) rfl (fun _ _ _ h => h) (Or.inl ⟨by rfl, ?hy6⟩) (DL.of h0.cells) ?rest6
        case hy6 => (intro w hSw; go_simp; try rfl)
        simp only [Act.put, List.setIfInBounds_toArray, List.set_cons_zero, List.set_cons_succ, List.getElem_toArray, List.getElem_cons_zero, List.getElem_cons_succ]
        refine wpAnyT_ready (rs := [3, 9]) (by kernel_rfl) (by simp) ?_
        refine AllReadyT.cons rfl (fun K hK => ?_) (AllReadyT.cons rfl (fun K hK => ?_) AllReadyT.nil)
        · simp only [Act.put, List.setIfInBounds_toArray, List.set_cons_zero, List.set_cons_succ, List.getElem_toArray, List.getElem_cons_zero, List.getElem_cons_succ]
          go_simp
          obtain ⟨p1, W1, e1, e2, h1, n1⟩ := h0.alloc bits0
          simp only [bits0] at e2
          try rw [e1]
          try rw [e2]
          clear e1 e2
          clear n1
          refine hK.out _ _ (DL.of h1.cells) (fun _ => ?_)
          clear hK K
          try simp only [Act.put, List.setIfInBounds_toArray, List.set_cons_zero, List.set_cons_succ, List.getElem_toArray, List.getElem_cons_zero, List.getElem_cons_succ]
          refine wpAnyT_ready (rs := [4, 9]) (by kernel_rfl) (by simp) ?_
          refine AllReadyT.cons rfl (fun K hK => ?_) (AllReadyT.cons rfl (fun K hK => ?_) AllReadyT.nil)
          · simp only [Act.put, List.setIfInBounds_toArray, List.set_cons_zero, List.set_cons_succ, List.getElem_toArray, List.getElem_cons_zero, List.getElem_cons_succ]
            go_simp
            obtain ⟨q2, W2, e1, e2, h2, n2⟩ := h1.alloc (.cells #[ptrN p1] 65)
            simp only [ptrN] at e2
            try rw [e1]
            try rw [e2]
            clear e1 e2
            clear n2
            refine hK.out _ _ (DL.of h2.cells) (fun _ => ?_)
            clear hK K
            try simp only [Act.put, List.setIfInBounds_toArray, List.set_cons_zero, List.set_cons_succ, List.getElem_toArray, List.getElem_cons_zero, List.getElem_cons_succ]
            refine wpAnyT_ready (rs := [5, 9]) (by kernel_rfl) (by simp) ?_
            refine AllReadyT.cons rfl (fun K hK => ?_) (AllReadyT.cons rfl (fun K hK => ?_) AllReadyT.nil)
            · refine step_append_row _ (by rfl) _ _ 59 65 _ 1 8 (by rfl) Try.underlying59 info_bptr rfl h2.I ⟨q2, 0, none⟩ 1 1 [ptrN p1] rfl (h2.newcell (t := 65) (by simp)) (by intro u hu; rw [List.mem_singleton.1 hu]; rfl) (by rfl) (by rfl) (by omega) (by unfold maxLen; omega) (by omega) ?_
              intro v3 r3 W3 hR hC hN
              have h3 := h2.appI hR hC hN
              obtain ⟨A3, c3, rfl, _⟩ := hR.shape
              clear hR hC hN
              refine hK.out _ _ (DL.of h3.cells) (fun _ => ?_)
              clear hK K
              try simp only [Act.put, List.setIfInBounds_toArray, List.set_cons_zero, List.set_cons_succ, List.getElem_toArray, List.getElem_cons_zero, List.getElem_cons_succ]
              refine wpAnyT_take (i := 12) (v := ?v7) rfl (by kernel_rfl) (by kernel_rfl) (by kernel_rfl) rfl (fun _ _ _ h => h) (Or.inl ⟨by rfl, ?hy7⟩) (DL.of h3.cells) ?rest7
              case hy7 => (intro w hSw; go_simp; try rfl)
              simp only [Act.put, List.setIfInBounds_toArray, List.set_cons_zero, List.set_cons_succ, List.getElem_toArray, List.getElem_cons_zero, List.getElem_cons_succ]
              refine wpAnyT_ready (rs := [9]) (by kernel_rfl) (by simp) ?_
              refine AllReadyT.cons rfl (fun K hK => ?_) AllReadyT.nil
              simp only [Act.put, List.setIfInBounds_toArray, List.set_cons_zero, List.set_cons_succ, List.getElem_toArray, List.getElem_cons_zero, List.getElem_cons_succ]
              go_simp
              obtain ⟨p4, W4, e1, e2, h4, n4⟩ := h3.alloc bits0
              simp only [bits0] at e2
              try rw [e1]
              try rw [e2]
              clear e1 e2
              have hne4 : p1 ≠ p4 := n4 (p1, bits0) (by simp)
              clear n4
              refine hK.out _ _ (DL.of h4.cells) (fun _ => ?_)
              clear hK K
              try simp only [Act.put, List.setIfInBounds_toArray, List.set_cons_zero, List.set_cons_succ, List.getElem_toArray, List.getElem_cons_zero, List.getElem_cons_succ]
              refine wpAnyT_ready (rs := [10]) (by kernel_rfl) (by simp) ?_
              refine AllReadyT.cons rfl (fun K hK => ?_) AllReadyT.nil
              simp only [Act.put, List.setIfInBounds_toArray, List.set_cons_zero, List.set_cons_succ, List.getElem_toArray, List.getElem_cons_zero, List.getElem_cons_succ]
              go_simp
              obtain ⟨q5, W5, e1, e2, h5, n5⟩ := h4.alloc (.cells #[ptrN p4] 65)
              simp only [ptrN] at e2
              try rw [e1]
              try rw [e2]
              clear e1 e2
              clear n5
              refine hK.out _ _ (DL.of h5.cells) (fun _ => ?_)
              clear hK K
              try simp only [Act.put, List.setIfInBounds_toArray, List.set_cons_zero, List.set_cons_succ, List.getElem_toArray, List.getElem_cons_zero, List.getElem_cons_succ]
              refine wpAnyT_ready (rs := [11]) (by kernel_rfl) (by simp) ?_
              refine AllReadyT.cons rfl (fun K hK => ?_) AllReadyT.nil
              refine step_append_row _ (by rfl) _ _ 59 65 _ 1 8 (by rfl) Try.underlying59 info_bptr rfl h5.O ⟨q5, 0, none⟩ 1 1 [ptrN p4] rfl (h5.newcell (t := 65) (by simp)) (by intro u hu; rw [List.mem_singleton.1 hu]; rfl) (by rfl) (by rfl) (by omega) (by unfold maxLen; omega) (by omega) ?_
              intro v6 r6 W6 hR hC hN
              have h6 := h5.appO hR hC hN
              obtain ⟨A6, c6, rfl, _⟩ := hR.shape
              clear hR hC hN
              refine hK.out _ _ (DL.of h6.cells) (fun _ => ?_)
              clear hK K
              try simp only [Act.put, List.setIfInBounds_toArray, List.set_cons_zero, List.set_cons_succ, List.getElem_toArray, List.getElem_cons_zero, List.getElem_cons_succ]
              refine wpAnyT_ready (rs := [13]) (by kernel_rfl) (by simp) ?_
              refine AllReadyT.cons rfl (fun K hK => ?_) AllReadyT.nil
              simp only [Act.put, List.getElem_toArray, List.getElem_cons_zero, List.getElem_cons_succ]
              have hbc := h6.cells.1
              have hbf := frozen_of_row _ bl 0 _ _ h6.box
              go_simp
              have h7 := h6.stI (.slice A3 (k + 1) c3)
              refine hK.out _ _ (DL.late (by kernel_rfl)) (fun _ => ?_)
              clear hK K hbc hbf
              try simp only [Act.put, List.setIfInBounds_toArray, List.set_cons_zero, List.set_cons_succ, List.getElem_toArray, List.getElem_cons_zero, List.getElem_cons_succ]
              refine wpAnyT_take (i := 14) (v := ?v8) rfl (by kernel_rfl) (by kernel_rfl) (by kernel_rfl) rfl (fun _ _ _ h => h) (Or.inl ⟨by rfl, ?hy8⟩) (DL.late (by kernel_rfl)) ?rest8
              case hy8 => (intro w hSw; go_simp; try rfl)
              simp only [Act.put, List.setIfInBounds_toArray, List.set_cons_zero, List.set_cons_succ, List.getElem_toArray, List.getElem_cons_zero, List.getElem_cons_succ]
              refine wpAnyT_ready (rs := [15]) (by kernel_rfl) (by simp) ?_
              refine AllReadyT.cons rfl (fun K hK => ?_) AllReadyT.nil
              simp only [Act.put, List.getElem_toArray, List.getElem_cons_zero, List.getElem_cons_succ]
              have hbc := h7.cells.2
              have hbf := frozen_of_row _ bl 1 _ _ h7.box
              go_simp
              have h8 := h7.stO (.slice A6 (k + 1) c6)
              refine hK.out _ _ (DL.late (by kernel_rfl)) (fun _ => ?_)
              clear hK K hbc hbf
              try simp only [Act.put, List.setIfInBounds_toArray, List.set_cons_zero, List.set_cons_succ, List.getElem_toArray, List.getElem_cons_zero, List.getElem_cons_succ]
              refine wpAnyT_done (by kernel_rfl) (NoPanic.normal ?_) _
              go_wp2_with fail
              go_meet
              exact HEND.out _ _ _ _ _ _ _ _ h8 (by simp) (by simp) (hne4)
            · simp only [Act.put, List.setIfInBounds_toArray, List.set_cons_zero, List.set_cons_succ, List.getElem_toArray, List.getElem_cons_zero, List.getElem_cons_succ]
              go_simp
              obtain ⟨p3, W3, e1, e2, h3, n3⟩ := h2.alloc bits0
              simp only [bits0] at e2
              try rw [e1]
              try rw [e2]
              clear e1 e2
              have hne3 : p1 ≠ p3 := n3 (p1, bits0) (by simp)
              clear n3
              refine hK.out _ _ (DL.of h3.cells) (fun _ => ?_)
              clear hK K
              try simp only [Act.put, List.setIfInBounds_toArray, List.set_cons_zero, List.set_cons_succ, List.getElem_toArray, List.getElem_cons_zero, List.getElem_cons_succ]
              refine wpAnyT_ready (rs := [5, 10]) (by kernel_rfl) (by simp) ?_
              refine AllReadyT.cons rfl (fun K hK => ?_) (AllReadyT.cons rfl (fun K hK => ?_) AllReadyT.nil)
              · refine step_append_row _ (by rfl) _ _ 59 65 _ 1 8 (by rfl) Try.underlying59 info_bptr rfl h3.I ⟨q2, 0, none⟩ 1 1 [ptrN p1] rfl (h3.newcell (t := 65) (by simp)) (by intro u hu; rw [List.mem_singleton.1 hu]; rfl) (by rfl) (by rfl) (by omega) (by unfold maxLen; omega) (by omega) ?_
                intro v4 r4 W4 hR hC hN
                have h4 := h3.appI hR hC hN
                obtain ⟨A4, c4, rfl, _⟩ := hR.shape
                clear hR hC hN
                refine hK.out _ _ (DL.of h4.cells) (fun _ => ?_)
                clear hK K
                try simp only [Act.put, List.setIfInBounds_toArray, List.set_cons_zero, List.set_cons_succ, List.getElem_toArray, List.getElem_cons_zero, List.getElem_cons_succ]
                refine wpAnyT_take (i := 12) (v := ?v9) rfl (by kernel_rfl) (by kernel_rfl) (by kernel_rfl) rfl (fun _ _ _ h => h) (Or.inl ⟨by rfl, ?hy9⟩) (DL.of h4.cells) ?rest9
                case hy9 => (intro w hSw; go_simp; try rfl)
                simp only [Act.put, List.setIfInBounds_toArray, List.set_cons_zero, List.set_cons_succ, List.getElem_toArray, List.getElem_cons_zero, List.getElem_cons_succ]
                refine wpAnyT_ready (rs := [10]) (by kernel_rfl) (by simp) ?_
                refine AllReadyT.cons rfl (fun K hK => ?_) AllReadyT.nil
                simp only [Act.put, List.setIfInBounds_toArray, List.set_cons_zero, List.set_cons_succ, List.getElem_toArray, List.getElem_cons_zero, List.getElem_cons_succ]
                go_simp
                obtain ⟨q5, W5, e1, e2, h5, n5⟩ := h4.alloc (.cells #[ptrN p3] 65)
                simp only [ptrN] at e2
                try rw [e1]
                try rw [e2]
                clear e1 e2
                clear n5
                refine hK.out _ _ (DL.of h5.cells) (fun _ => ?_)
                clear hK K
                try simp only [Act.put, List.setIfInBounds_toArray, List.set_cons_zero, List.set_cons_succ, List.getElem_toArray, List.getElem_cons_zero, List.getElem_cons_succ]
                refine wpAnyT_ready (rs := [11]) (by kernel_rfl) (by simp) ?_
                refine AllReadyT.cons rfl (fun K hK => ?_) AllReadyT.nil
                refine step_append_row _ (by rfl) _ _ 59 65 _ 1 8 (by rfl) Try.underlying59 info_bptr rfl h5.O ⟨q5, 0, none⟩ 1 1 [ptrN p3] rfl (h5.newcell (t := 65) (by simp)) (by intro u hu; rw [List.mem_singleton.1 hu]; rfl) (by rfl) (by rfl) (by omega) (by unfold maxLen; omega) (by omega) ?_
                intro v6 r6 W6 hR hC hN
                have h6 := h5.appO hR hC hN
                obtain ⟨A6, c6, rfl, _⟩ := hR.shape
                clear hR hC hN
                refine hK.out _ _ (DL.of h6.cells) (fun _ => ?_)
                clear hK K
                try simp only [Act.put, List.setIfInBounds_toArray, List.set_cons_zero, List.set_cons_succ, List.getElem_toArray, List.getElem_cons_zero, List.getElem_cons_succ]
                refine wpAnyT_ready (rs := [13]) (by kernel_rfl) (by simp) ?_
                refine AllReadyT.cons rfl (fun K hK => ?_) AllReadyT.nil
                simp only [Act.put, List.getElem_toArray, List.getElem_cons_zero, List.getElem_cons_succ]
                have hbc := h6.cells.1
                have hbf := frozen_of_row _ bl 0 _ _ h6.box
                go_simp
                have h7 := h6.stI (.slice A4 (k + 1) c4)
                refine hK.out _ _ (DL.late (by kernel_rfl)) (fun _ => ?_)
                clear hK K hbc hbf
                try simp only [Act.put, List.setIfInBounds_toArray, List.set_cons_zero, List.set_cons_succ, List.getElem_toArray, List.getElem_cons_zero, List.getElem_cons_succ]
                refine wpAnyT_take (i := 14) (v := ?v10) rfl (by kernel_rfl) (by kernel_rfl) (by kernel_rfl) rfl (fun _ _ _ h => h) (Or.inl ⟨by rfl, ?hy10⟩) (DL.late (by kernel_rfl)) ?rest10
                case hy10 => (intro w hSw; go_simp; try rfl)
                simp only [Act.put, List.setIfInBounds_toArray, List.set_cons_zero, List.set_cons_succ, List.getElem_toArray, List.getElem_cons_zero, List.getElem_cons_succ]
                refine wpAnyT_ready (rs := [15]) (by kernel_rfl) (by simp) ?_
                refine AllReadyT.cons rfl (fun K hK => ?_) AllReadyT.nil
                simp only [Act.put, List.getElem_toArray, List.getElem_cons_zero, List.getElem_cons_succ]
                have hbc := h7.cells.2
                have hbf := frozen_of_row _ bl 1 _ _ h7.box
                go_simp
                have h8 := h7.stO (.slice A6 (k + 1) c6)
                refine hK.out _ _ (DL.late (by kernel_rfl)) (fun _ => ?_)
                clear hK K hbc hbf
                try simp only [Act.put, List.setIfInBounds_toArray, List.set_cons_zero, List.set_cons_succ, List.getElem_toArray, List.getElem_cons_zero, List.getElem_cons_succ]
                refine wpAnyT_done (by kernel_rfl) (NoPanic.normal ?_) _
                go_wp2_with fail
                go_meet
                exact HEND.out _ _ _ _ _ _ _ _ h8 (by simp) (by simp) (hne3)
              · simp only [Act.put, List.setIfInBounds_toArray, List.set_cons_zero, List.set_cons_succ, List.getElem_toArray, List.getElem_cons_zero, List.getElem_cons_succ]
                go_simp
                obtain ⟨q4, W4, e1, e2, h4, n4⟩ := h3.alloc (.cells #[ptrN p3] 65)
                simp only [ptrN] at e2
                try rw [e1]
                try rw [e2]
                clear e1 e2
                clear n4
                refine hK.out _ _ (DL.of h4.cells) (fun _ => ?_)
                clear hK K
                try simp only [Act.put, List.setIfInBounds_toArray, List.set_cons_zero, List.set_cons_succ, List.getElem_toArray, List.getElem_cons_zero, List.getElem_cons_succ]
                refine wpAnyT_ready (rs := [5]) (by kernel_rfl) (by simp) ?_
                refine AllReadyT.cons rfl (fun K hK => ?_) AllReadyT.nil
                refine step_append_row _ (by rfl) _ _ 59 65 _ 1 8 (by rfl) Try.underlying59 info_bptr rfl h4.I ⟨q2, 0, none⟩ 1 1 [ptrN p1] rfl (h4.newcell (t := 65) (by simp)) (by intro u hu; rw [List.mem_singleton.1 hu]; rfl) (by rfl) (by rfl) (by omega) (by unfold maxLen; omega) (by omega) ?_
                intro v5 r5 W5 hR hC hN
                have h5 := h4.appI hR hC hN
                obtain ⟨A5, c5, rfl, _⟩ := hR.shape
                clear hR hC hN
                refine hK.out _ _ (DL.of h5.cells) (fun _ => ?_)
                clear hK K
                try simp only [Act.put, List.setIfInBounds_toArray, List.set_cons_zero, List.set_cons_succ, List.getElem_toArray, List.getElem_cons_zero, List.getElem_cons_succ]
                refine wpAnyT_take (i := 12) (v := ?v11) rfl (by kernel_rfl) (by kernel_rfl) (by kernel_rfl) rfl (fun _ _ _ h => h) (Or.inl ⟨by rfl, ?hy11⟩) (DL.of h5.cells) ?rest11
                case hy11 => (intro w hSw; go_simp; try rfl)
                simp only [Act.put, List.setIfInBounds_toArray, List.set_cons_zero, List.set_cons_succ, List.getElem_toArray, List.getElem_cons_zero, List.getElem_cons_succ]
                refine wpAnyT_ready (rs := [11]) (by kernel_rfl) (by simp) ?_
                refine AllReadyT.cons rfl (fun K hK => ?_) AllReadyT.nil
                refine step_append_row _ (by rfl) _ _ 59 65 _ 1 8 (by rfl) Try.underlying59 info_bptr rfl h5.O ⟨q4, 0, none⟩ 1 1 [ptrN p3] rfl (h5.newcell (t := 65) (by simp)) (by intro u hu; rw [List.mem_singleton.1 hu]; rfl) (by rfl) (by rfl) (by omega) (by unfold maxLen; omega) (by omega) ?_
                intro v6 r6 W6 hR hC hN
                have h6 := h5.appO hR hC hN
                obtain ⟨A6, c6, rfl, _⟩ := hR.shape
                clear hR hC hN
                refine hK.out _ _ (DL.of h6.cells) (fun _ => ?_)
                clear hK K
                try simp only [Act.put, List.setIfInBounds_toArray, List.set_cons_zero, List.set_cons_succ, List.getElem_toArray, List.getElem_cons_zero, List.getElem_cons_succ]
                refine wpAnyT_ready (rs := [13]) (by kernel_rfl) (by simp) ?_
                refine AllReadyT.cons rfl (fun K hK => ?_) AllReadyT.nil
                simp only [Act.put, List.getElem_toArray, List.getElem_cons_zero, List.getElem_cons_succ]
                have hbc := h6.cells.1
                have hbf := frozen_of_row _ bl 0 _ _ h6.box
                go_simp
                have h7 := h6.stI (.slice A5 (k + 1) c5)
                refine hK.out _ _ (DL.late (by kernel_rfl)) (fun _ => ?_)
                clear hK K hbc hbf
                try simp only [Act.put, List.setIfInBounds_toArray, List.set_cons_zero, List.set_cons_succ, List.getElem_toArray, List.getElem_cons_zero, List.getElem_cons_succ]
                refine wpAnyT_take (i := 14) (v := ?v12) rfl (by kernel_rfl) (by kernel_rfl) (by kernel_rfl) rfl (fun _ _ _ h => h) (Or.inl ⟨by rfl, ?hy12⟩) (DL.late (by kernel_rfl)) ?rest12
                case hy12 => (intro w hSw; go_simp; try rfl)
                simp only [Act.put, List.setIfInBounds_toArray, List.set_cons_zero, List.set_cons_succ, List.getElem_toArray, List.getElem_cons_zero, List.getElem_cons_succ]
                refine wpAnyT_ready (rs := [15]) (by kernel_rfl) (by simp) ?_
                refine AllReadyT.cons rfl (fun K hK => ?_) AllReadyT.nil
                simp only [Act.put, List.getElem_toArray, List.getElem_cons_zero, List.getElem_cons_succ]
                have hbc := h7.cells.2
                have hbf := frozen_of_row _ bl 1 _ _ h7.box
                go_simp
                have h8 := h7.stO (.slice A6 (k + 1) c6)
                refine hK.out _ _ (DL.late (by kernel_rfl)) (fun _ => ?_)
                clear hK K hbc hbf
                try simp only [Act.put, List.setIfInBounds_toArray, List.set_cons_zero, List.set_cons_succ, List.getElem_toArray, List.getElem_cons_zero, List.getElem_cons_succ]
                refine wpAnyT_done (by kernel_rfl) (NoPanic.normal ?_) _
                go_wp2_with fail
                go_meet
                exact HEND.out _ _ _ _ _ _ _ _ h8 (by simp) (by simp) (hne3)
          · simp only [Act.put, List.setIfInBounds_toArray, List.set_cons_zero, List.set_cons_succ, List.getElem_toArray, List.getElem_cons_zero, List.getElem_cons_succ]
            go_simp
            obtain ⟨p2, W2, e1, e2, h2, n2⟩ := h1.alloc bits0
            simp only [bits0] at e2
            try rw [e1]
            try rw [e2]
            clear e1 e2
            have hne2 : p1 ≠ p2 := n2 (p1, bits0) (by simp)
            clear n2
            refine hK.out _ _ (DL.of h2.cells) (fun _ => ?_)
            clear hK K
            try simp only [Act.put, List.setIfInBounds_toArray, List.set_cons_zero, List.set_cons_succ, List.getElem_toArray, List.getElem_cons_zero, List.getElem_cons_succ]
            refine wpAnyT_ready (rs := [4, 10]) (by kernel_rfl) (by simp) ?_
            refine AllReadyT.cons rfl (fun K hK => ?_) (AllReadyT.cons rfl (fun K hK => ?_) AllReadyT.nil)
            · simp only [Act.put, List.setIfInBounds_toArray, List.set_cons_zero, List.set_cons_succ, List.getElem_toArray, List.getElem_cons_zero, List.getElem_cons_succ]
              go_simp
              obtain ⟨q3, W3, e1, e2, h3, n3⟩ := h2.alloc (.cells #[ptrN p1] 65)
              simp only [ptrN] at e2
              try rw [e1]
              try rw [e2]
              clear e1 e2
              clear n3
              refine hK.out _ _ (DL.of h3.cells) (fun _ => ?_)
              clear hK K
              try simp only [Act.put, List.setIfInBounds_toArray, List.set_cons_zero, List.set_cons_succ, List.getElem_toArray, List.getElem_cons_zero, List.getElem_cons_succ]
              refine wpAnyT_ready (rs := [5, 10]) (by kernel_rfl) (by simp) ?_
              refine AllReadyT.cons rfl (fun K hK => ?_) (AllReadyT.cons rfl (fun K hK => ?_) AllReadyT.nil)
              · refine step_append_row _ (by rfl) _ _ 59 65 _ 1 8 (by rfl) Try.underlying59 info_bptr rfl h3.I ⟨q3, 0, none⟩ 1 1 [ptrN p1] rfl (h3.newcell (t := 65) (by simp)) (by intro u hu; rw [List.mem_singleton.1 hu]; rfl) (by rfl) (by rfl) (by omega) (by unfold maxLen; omega) (by omega) ?_
                intro v4 r4 W4 hR hC hN
                have h4 := h3.appI hR hC hN
                obtain ⟨A4, c4, rfl, _⟩ := hR.shape
                clear hR hC hN
                refine hK.out _ _ (DL.of h4.cells) (fun _ => ?_)
                clear hK K
                try simp only [Act.put, List.setIfInBounds_toArray, List.set_cons_zero, List.set_cons_succ, List.getElem_toArray, List.getElem_cons_zero, List.getElem_cons_succ]
                refine wpAnyT_take (i := 12) (v := ?v13) rfl (by kernel_rfl) (by kernel_rfl) (by kernel_rfl) rfl (fun _ _ _ h => h) (Or.inl ⟨by rfl, ?hy13⟩) (DL.of h4.cells) ?rest13
                case hy13 => (intro w hSw; go_simp; try rfl)
                simp only [Act.put, List.setIfInBounds_toArray, List.set_cons_zero, List.set_cons_succ, List.getElem_toArray, List.getElem_cons_zero, List.getElem_cons_succ]
                refine wpAnyT_ready (rs := [10]) (by kernel_rfl) (by simp) ?_
                refine AllReadyT.cons rfl (fun K hK => ?_) AllReadyT.nil
                simp only [Act.put, List.setIfInBounds_toArray, List.set_cons_zero, List.set_cons_succ, List.getElem_toArray, List.getElem_cons_zero, List.getElem_cons_succ]
                go_simp
                obtain ⟨q5, W5, e1, e2, h5, n5⟩ := h4.alloc (.cells #[ptrN p2] 65)
                simp only [ptrN] at e2
                try rw [e1]
                try rw [e2]
                clear e1 e2
                clear n5
                refine hK.out _ _ (DL.of h5.cells) (fun _ => ?_)
                clear hK K
                try simp only [Act.put, List.setIfInBounds_toArray, List.set_cons_zero, List.set_cons_succ, List.getElem_toArray, List.getElem_cons_zero, List.getElem_cons_succ]
                refine wpAnyT_ready (rs := [11]) (by kernel_rfl) (by simp) ?_
                refine AllReadyT.cons rfl (fun K hK => ?_) AllReadyT.nil
                refine step_append_row _ (by rfl) _ _ 59 65 _ 1 8 (by rfl) Try.underlying59 info_bptr rfl h5.O ⟨q5, 0, none⟩ 1 1 [ptrN p2] rfl (h5.newcell (t := 65) (by simp)) (by intro u hu; rw [List.mem_singleton.1 hu]; rfl) (by rfl) (by rfl) (by omega) (by unfold maxLen; omega) (by omega) ?_
                intro v6 r6 W6 hR hC hN
                have h6 := h5.appO hR hC hN
                obtain ⟨A6, c6, rfl, _⟩ := hR.shape
                clear hR hC hN
                refine hK.out _ _ (DL.of h6.cells) (fun _ => ?_)
                clear hK K
                try simp only [Act.put, List.setIfInBounds_toArray, List.set_cons_zero, List.set_cons_succ, List.getElem_toArray, List.getElem_cons_zero, List.getElem_cons_succ]
                refine wpAnyT_ready (rs := [13]) (by kernel_rfl) (by simp) ?_
                refine AllReadyT.cons rfl (fun K hK => ?_) AllReadyT.nil
                simp only [Act.put, List.getElem_toArray, List.getElem_cons_zero, List.getElem_cons_succ]
                have hbc := h6.cells.1
                have hbf := frozen_of_row _ bl 0 _ _ h6.box
                go_simp
                have h7 := h6.stI (.slice A4 (k + 1) c4)
                refine hK.out _ _ (DL.late (by kernel_rfl)) (fun _ => ?_)
                clear hK K hbc hbf
                try simp only [Act.put, List.setIfInBounds_toArray, List.set_cons_zero, List.set_cons_succ, List.getElem_toArray, List.getElem_cons_zero, List.getElem_cons_succ]
                refine wpAnyT_take (i := 14) (v := ?v14) rfl (by kernel_rfl) (by kernel_rfl) (by kernel_rfl) rfl (fun _ _ _ h => h) (Or.inl ⟨by rfl, ?hy14⟩) (DL.late (by kernel_rfl)) ?rest14
                case hy14 => (intro w hSw; go_simp; try rfl)
                simp only [Act.put, List.setIfInBounds_toArray, List.set_cons_zero, List.set_cons_succ, List.getElem_toArray, List.getElem_cons_zero, List.getElem_cons_succ]
                refine wpAnyT_ready (rs := [15]) (by kernel_rfl) (by simp) ?_
                refine AllReadyT.cons rfl (fun K hK => ?_) AllReadyT.nil
                simp only [Act.put, List.getElem_toArray, List.getElem_cons_zero, List.getElem_cons_succ]
                have hbc := h7.cells.2
                have hbf := frozen_of_row _ bl 1 _ _ h7.box
                go_simp
                have h8 := h7.stO (.slice A6 (k + 1) c6)
                refine hK.out _ _ (DL.late (by kernel_rfl)) (fun _ => ?_)
                clear hK K hbc hbf
                try simp only [Act.put, List.setIfInBounds_toArray, List.set_cons_zero, List.set_cons_succ, List.getElem_toArray, List.getElem_cons_zero, List.getElem_cons_succ]
                refine wpAnyT_done (by kernel_rfl) (NoPanic.normal ?_) _
                go_wp2_with fail
                go_meet
                exact HEND.out _ _ _ _ _ _ _ _ h8 (by simp) (by simp) (hne2)
              · simp only [Act.put, List.setIfInBounds_toArray, List.set_cons_zero, List.set_cons_succ, List.getElem_toArray, List.getElem_cons_zero, List.getElem_cons_succ]
                go_simp
                obtain ⟨q4, W4, e1, e2, h4, n4⟩ := h3.alloc (.cells #[ptrN p2] 65)
                simp only [ptrN] at e2
                try rw [e1]
                try rw [e2]
                clear e1 e2
                clear n4
                refine hK.out _ _ (DL.of h4.cells) (fun _ => ?_)
                clear hK K
                try simp only [Act.put, List.setIfInBounds_toArray, List.set_cons_zero, List.set_cons_succ, List.getElem_toArray, List.getElem_cons_zero, List.getElem_cons_succ]
                refine wpAnyT_ready (rs := [5]) (by kernel_rfl) (by simp) ?_
                refine AllReadyT.cons rfl (fun K hK => ?_) AllReadyT.nil
                refine step_append_row _ (by rfl) _ _ 59 65 _ 1 8 (by rfl) Try.underlying59 info_bptr rfl h4.I ⟨q3, 0, none⟩ 1 1 [ptrN p1] rfl (h4.newcell (t := 65) (by simp)) (by intro u hu; rw [List.mem_singleton.1 hu]; rfl) (by rfl) (by rfl) (by omega) (by unfold maxLen; omega) (by omega) ?_
                intro v5 r5 W5 hR hC hN
                have h5 := h4.appI hR hC hN
                obtain ⟨A5, c5, rfl, _⟩ := hR.shape
                clear hR hC hN
                refine hK.out _ _ (DL.of h5.cells) (fun _ => ?_)
                clear hK K
                try simp only [Act.put, List.setIfInBounds_toArray, List.set_cons_zero, List.set_cons_succ, List.getElem_toArray, List.getElem_cons_zero, List.getElem_cons_succ]
                refine wpAnyT_take (i := 12) (v := ?v15) rfl (by kernel_rfl) (by kernel_rfl) (by kernel_rfl) rfl (fun _ _ _ h => h) (Or.inl ⟨by rfl, ?hy15⟩) (DL.of h5.cells) ?rest15
                case hy15 => (intro w hSw; go_simp; try rfl)
                simp only [Act.put, List.setIfInBounds_toArray, List.set_cons_zero, List.set_cons_succ, List.getElem_toArray, List.getElem_cons_zero, List.getElem_cons_succ]
                refine wpAnyT_ready (rs := [11]) (by kernel_rfl) (by simp) ?_
                refine AllReadyT.cons rfl (fun K hK => ?_) AllReadyT.nil
                refine step_append_row _ (by rfl) _ _ 59 65 _ 1 8 (by rfl) Try.underlying59 info_bptr rfl h5.O ⟨q4, 0, none⟩ 1 1 [ptrN p2] rfl (h5.newcell (t := 65) (by simp)) (by intro u hu; rw [List.mem_singleton.1 hu]; rfl) (by rfl) (by rfl) (by omega) (by unfold maxLen; omega) (by omega) ?_
                intro v6 r6 W6 hR hC hN
                have h6 := h5.appO hR hC hN
                obtain ⟨A6, c6, rfl, _⟩ := hR.shape
                clear hR hC hN
                refine hK.out _ _ (DL.of h6.cells) (fun _ => ?_)
                clear hK K
                try simp only [Act.put, List.setIfInBounds_toArray, List.set_cons_zero, List.set_cons_succ, List.getElem_toArray, List.getElem_cons_zero, List.getElem_cons_succ]
                refine wpAnyT_ready (rs := [13]) (by kernel_rfl) (by simp) ?_
                refine AllReadyT.cons rfl (fun K hK => ?_) AllReadyT.nil
                simp only [Act.put, List.getElem_toArray, List.getElem_cons_zero, List.getElem_cons_succ]
                have hbc := h6.cells.1
                have hbf := frozen_of_row _ bl 0 _ _ h6.box
                go_simp
                have h7 := h6.stI (.slice A5 (k + 1) c5)
                refine hK.out _ _ (DL.late (by kernel_rfl)) (fun _ => ?_)
                clear hK K hbc hbf
                try simp only [Act.put, List.setIfInBounds_toArray, List.set_cons_zero, List.set_cons_succ, List.getElem_toArray, List.getElem_cons_zero, List.getElem_cons_succ]
                refine wpAnyT_take (i := 14) (v := ?v16) rfl (by kernel_rfl) (by kernel_rfl) (by kernel_rfl) rfl (fun _ _ _ h => h) (Or.inl ⟨by rfl, ?hy16⟩) (DL.late (by kernel_rfl)) ?rest16
                case hy16 => (intro w hSw; go_simp; try rfl)
                simp only [Act.put, List.setIfInBounds_toArray, List.set_cons_zero, List.set_cons_succ, List.getElem_toArray, List.getElem_cons_zero, List.getElem_cons_succ]
                refine wpAnyT_ready (rs := [15]) (by kernel_rfl) (by simp) ?_
                refine AllReadyT.cons rfl (fun K hK => ?_) AllReadyT.nil
                simp only [Act.put, List.getElem_toArray, List.getElem_cons_zero, List.getElem_cons_succ]
                have hbc := h7.cells.2
                have hbf := frozen_of_row _ bl 1 _ _ h7.box
                go_simp
                have h8 := h7.stO (.slice A6 (k + 1) c6)
                refine hK.out _ _ (DL.late (by kernel_rfl)) (fun _ => ?_)
                clear hK K hbc hbf
                try simp only [Act.put, List.setIfInBounds_toArray, List.set_cons_zero, List.set_cons_succ, List.getElem_toArray, List.getElem_cons_zero, List.getElem_cons_succ]
                refine wpAnyT_done (by kernel_rfl) (NoPanic.normal ?_) _
                go_wp2_with fail
                go_meet
                exact HEND.out _ _ _ _ _ _ _ _ h8 (by simp) (by simp) (hne2)
            · simp only [Act.put, List.setIfInBounds_toArray, List.set_cons_zero, List.set_cons_succ, List.getElem_toArray, List.getElem_cons_zero, List.getElem_cons_succ]
              go_simp
              obtain ⟨q3, W3, e1, e2, h3, n3⟩ := h2.alloc (.cells #[ptrN p2] 65)
              simp only [ptrN] at e2
              try rw [e1]
              try rw [e2]
              clear e1 e2
              clear n3
              refine hK.out _ _ (DL.of h3.cells) (fun _ => ?_)
              clear hK K
              try simp only [Act.put, List.setIfInBounds_toArray, List.set_cons_zero, List.set_cons_succ, List.getElem_toArray, List.getElem_cons_zero, List.getElem_cons_succ]
              refine wpAnyT_ready (rs := [4]) (by kernel_rfl) (by simp) ?_
              refine AllReadyT.cons rfl (fun K hK => ?_) AllReadyT.nil
              simp only [Act.put, List.setIfInBounds_toArray, List.set_cons_zero, List.set_cons_succ, List.getElem_toArray, List.getElem_cons_zero, List.getElem_cons_succ]
              go_simp
              obtain ⟨q4, W4, e1, e2, h4, n4⟩ := h3.alloc (.cells #[ptrN p1] 65)
              simp only [ptrN] at e2
              try rw [e1]
              try rw [e2]
              clear e1 e2
              clear n4
              refine hK.out _ _ (DL.of h4.cells) (fun _ => ?_)
              clear hK K
              try simp only [Act.put, List.setIfInBounds_toArray, List.set_cons_zero, List.set_cons_succ, List.getElem_toArray, List.getElem_cons_zero, List.getElem_cons_succ]
              refine wpAnyT_ready (rs := [5]) (by kernel_rfl) (by simp) ?_
              refine AllReadyT.cons rfl (fun K hK => ?_) AllReadyT.nil
              refine step_append_row _ (by rfl) _ _ 59 65 _ 1 8 (by rfl) Try.underlying59 info_bptr rfl h4.I ⟨q4, 0, none⟩ 1 1 [ptrN p1] rfl (h4.newcell (t := 65) (by simp)) (by intro u hu; rw [List.mem_singleton.1 hu]; rfl) (by rfl) (by rfl) (by omega) (by unfold maxLen; omega) (by omega) ?_
              intro v5 r5 W5 hR hC hN
              have h5 := h4.appI hR hC hN
              obtain ⟨A5, c5, rfl, _⟩ := hR.shape
              clear hR hC hN
              refine hK.out _ _ (DL.of h5.cells) (fun _ => ?_)
              clear hK K
              try simp only [Act.put, List.setIfInBounds_toArray, List.set_cons_zero, List.set_cons_succ, List.getElem_toArray, List.getElem_cons_zero, List.getElem_cons_succ]
              refine wpAnyT_take (i := 12) (v := ?v17) rfl (by kernel_rfl) (by kernel_rfl) (by kernel_rfl) rfl (fun _ _ _ h => h) (Or.inl ⟨by rfl, ?hy17⟩) (DL.of h5.cells) ?rest17
              case hy17 => (intro w hSw; go_simp; try rfl)
              simp only [Act.put, List.setIfInBounds_toArray, List.set_cons_zero, List.set_cons_succ, List.getElem_toArray, List.getElem_cons_zero, List.getElem_cons_succ]
              refine wpAnyT_ready (rs := [11]) (by kernel_rfl) (by simp) ?_
              refine AllReadyT.cons rfl (fun K hK => ?_) AllReadyT.nil
              refine step_append_row _ (by rfl) _ _ 59 65 _ 1 8 (by rfl) Try.underlying59 info_bptr rfl h5.O ⟨q3, 0, none⟩ 1 1 [ptrN p2] rfl (h5.newcell (t := 65) (by simp)) (by intro u hu; rw [List.mem_singleton.1 hu]; rfl) (by rfl) (by rfl) (by omega) (by unfold maxLen; omega) (by omega) ?_
              intro v6 r6 W6 hR hC hN
              have h6 := h5.appO hR hC hN
              obtain ⟨A6, c6, rfl, _⟩ := hR.shape
              clear hR hC hN
              refine hK.out _ _ (DL.of h6.cells) (fun _ => ?_)
              clear hK K
              try simp only [Act.put, List.setIfInBounds_toArray, List.set_cons_zero, List.set_cons_succ, List.getElem_toArray, List.getElem_cons_zero, List.getElem_cons_succ]
              refine wpAnyT_ready (rs := [13]) (by kernel_rfl) (by simp) ?_
              refine AllReadyT.cons rfl (fun K hK => ?_) AllReadyT.nil
              simp only [Act.put, List.getElem_toArray, List.getElem_cons_zero, List.getElem_cons_succ]
              have hbc := h6.cells.1
              have hbf := frozen_of_row _ bl 0 _ _ h6.box
              go_simp
              have h7 := h6.stI (.slice A5 (k + 1) c5)
              refine hK.out _ _ (DL.late (by kernel_rfl)) (fun _ => ?_)
              clear hK K hbc hbf
              try simp only [Act.put, List.setIfInBounds_toArray, List.set_cons_zero, List.set_cons_succ, List.getElem_toArray, List.getElem_cons_zero, List.getElem_cons_succ]
              refine wpAnyT_take (i := 14) (v := ?v18) rfl (by kernel_rfl) (by kernel_rfl) (by kernel_rfl) rfl (fun _ _ _ h => h) (Or.inl ⟨by rfl, ?hy18⟩) (DL.late (by kernel_rfl)) ?rest18
              case hy18 => (intro w hSw; go_simp; try rfl)
              simp only [Act.put, List.setIfInBounds_toArray, List.set_cons_zero, List.set_cons_succ, List.getElem_toArray, List.getElem_cons_zero, List.getElem_cons_succ]
              refine wpAnyT_ready (rs := [15]) (by kernel_rfl) (by simp) ?_
              refine AllReadyT.cons rfl (fun K hK => ?_) AllReadyT.nil
              simp only [Act.put, List.getElem_toArray, List.getElem_cons_zero, List.getElem_cons_succ]
              have hbc := h7.cells.2
              have hbf := frozen_of_row _ bl 1 _ _ h7.box
              go_simp
              have h8 := h7.stO (.slice A6 (k + 1) c6)
              refine hK.out _ _ (DL.late (by kernel_rfl)) (fun _ => ?_)
              clear hK K hbc hbf
              try simp only [Act.put, List.setIfInBounds_toArray, List.set_cons_zero, List.set_cons_succ, List.getElem_toArray, List.getElem_cons_zero, List.getElem_cons_succ]
              refine wpAnyT_done (by kernel_rfl) (NoPanic.normal ?_) _
              go_wp2_with fail
              go_meet
              exact HEND.out _ _ _ _ _ _ _ _ h8 (by simp) (by simp) (hne2)
        · simp only [Act.put, List.setIfInBounds_toArray, List.set_cons_zero, List.set_cons_succ, List.getElem_toArray, List.getElem_cons_zero, List.getElem_cons_succ]
          go_simp
          obtain ⟨p1, W1, e1, e2, h1, n1⟩ := h0.alloc bits0
          simp only [bits0] at e2
          try rw [e1]
          try rw [e2]
          clear e1 e2
          clear n1
          refine hK.out _ _ (DL.of h1.cells) (fun _ => ?_)
          clear hK K
          try simp only [Act.put, List.setIfInBounds_toArray, List.set_cons_zero, List.set_cons_succ, List.getElem_toArray, List.getElem_cons_zero, List.getElem_cons_succ]
          refine wpAnyT_ready (rs := [3, 10]) (by kernel_rfl) (by simp) ?_
          refine AllReadyT.cons rfl (fun K hK => ?_) (AllReadyT.cons rfl (fun K hK => ?_) AllReadyT.nil)
          · simp only [Act.put, List.setIfInBounds_toArray, List.set_cons_zero, List.set_cons_succ, List.getElem_toArray, List.getElem_cons_zero, List.getElem_cons_succ]
            go_simp
            obtain ⟨p2, W2, e1, e2, h2, n2⟩ := h1.alloc bits0
            simp only [bits0] at e2
            try rw [e1]
            try rw [e2]
            clear e1 e2
            have hne2 : p1 ≠ p2 := n2 (p1, bits0) (by simp)
            clear n2
            refine hK.out _ _ (DL.of h2.cells) (fun _ => ?_)
            clear hK K
            try simp only [Act.put, List.setIfInBounds_toArray, List.set_cons_zero, List.set_cons_succ, List.getElem_toArray, List.getElem_cons_zero, List.getElem_cons_succ]
            refine wpAnyT_ready (rs := [4, 10]) (by kernel_rfl) (by simp) ?_
            refine AllReadyT.cons rfl (fun K hK => ?_) (AllReadyT.cons rfl (fun K hK => ?_) AllReadyT.nil)
            · simp only [Act.put, List.setIfInBounds_toArray, List.set_cons_zero, List.set_cons_succ, List.getElem_toArray, List.getElem_cons_zero, List.getElem_cons_succ]
              go_simp
              obtain ⟨q3, W3, e1, e2, h3, n3⟩ := h2.alloc (.cells #[ptrN p2] 65)
              simp only [ptrN] at e2
              try rw [e1]
              try rw [e2]
              clear e1 e2
              clear n3
              refine hK.out _ _ (DL.of h3.cells) (fun _ => ?_)
              clear hK K
              try simp only [Act.put, List.setIfInBounds_toArray, List.set_cons_zero, List.set_cons_succ, List.getElem_toArray, List.getElem_cons_zero, List.getElem_cons_succ]
              refine wpAnyT_ready (rs := [5, 10]) (by kernel_rfl) (by simp) ?_
              refine AllReadyT.cons rfl (fun K hK => ?_) (AllReadyT.cons rfl (fun K hK => ?_) AllReadyT.nil)
              · refine step_append_row _ (by rfl) _ _ 59 65 _ 1 8 (by rfl) Try.underlying59 info_bptr rfl h3.I ⟨q3, 0, none⟩ 1 1 [ptrN p2] rfl (h3.newcell (t := 65) (by simp)) (by intro u hu; rw [List.mem_singleton.1 hu]; rfl) (by rfl) (by rfl) (by omega) (by unfold maxLen; omega) (by omega) ?_
                intro v4 r4 W4 hR hC hN
                have h4 := h3.appI hR hC hN
                obtain ⟨A4, c4, rfl, _⟩ := hR.shape
                clear hR hC hN
                refine hK.out _ _ (DL.of h4.cells) (fun _ => ?_)
                clear hK K
                try simp only [Act.put, List.setIfInBounds_toArray, List.set_cons_zero, List.set_cons_succ, List.getElem_toArray, List.getElem_cons_zero, List.getElem_cons_succ]
                refine wpAnyT_take (i := 12) (v := ?v19) rfl (by kernel_rfl) (by kernel_rfl) (by kernel_rfl) rfl (fun _ _ _ h => h) (Or.inl ⟨by rfl, ?hy19⟩) (DL.of h4.cells) ?rest19
                case hy19 => (intro w hSw; go_simp; try rfl)
                simp only [Act.put, List.setIfInBounds_toArray, List.set_cons_zero, List.set_cons_succ, List.getElem_toArray, List.getElem_cons_zero, List.getElem_cons_succ]
                refine wpAnyT_ready (rs := [10]) (by kernel_rfl) (by simp) ?_
                refine AllReadyT.cons rfl (fun K hK => ?_) AllReadyT.nil
                simp only [Act.put, List.setIfInBounds_toArray, List.set_cons_zero, List.set_cons_succ, List.getElem_toArray, List.getElem_cons_zero, List.getElem_cons_succ]
                go_simp
                obtain ⟨q5, W5, e1, e2, h5, n5⟩ := h4.alloc (.cells #[ptrN p1] 65)
                simp only [ptrN] at e2
                try rw [e1]
                try rw [e2]
                clear e1 e2
                clear n5
                refine hK.out _ _ (DL.of h5.cells) (fun _ => ?_)
                clear hK K
                try simp only [Act.put, List.setIfInBounds_toArray, List.set_cons_zero, List.set_cons_succ, List.getElem_toArray, List.getElem_cons_zero, List.getElem_cons_succ]
                refine wpAnyT_ready (rs := [11]) (by kernel_rfl) (by simp) ?_
                refine AllReadyT.cons rfl (fun K hK => ?_) AllReadyT.nil
                refine step_append_row _ (by rfl) _ _ 59 65 _ 1 8 (by rfl) Try.underlying59 info_bptr rfl h5.O ⟨q5, 0, none⟩ 1 1 [ptrN p1] rfl (h5.newcell (t := 65) (by simp)) (by intro u hu; rw [List.mem_singleton.1 hu]; rfl) (by rfl) (by rfl) (by omega) (by unfold maxLen; omega) (by omega) ?_
                intro v6 r6 W6 hR hC hN
                have h6 := h5.appO hR hC hN
                obtain ⟨A6, c6, rfl, _⟩ := hR.shape
                clear hR hC hN
                refine hK.out _ _ (DL.of h6.cells) (fun _ => ?_)
                clear hK K
                try simp only [Act.put, List.setIfInBounds_toArray, List.set_cons_zero, List.set_cons_succ, List.getElem_toArray, List.getElem_cons_zero, List.getElem_cons_succ]
                refine wpAnyT_ready (rs := [13]) (by kernel_rfl) (by simp) ?_
                refine AllReadyT.cons rfl (fun K hK => ?_) AllReadyT.nil
                simp only [Act.put, List.getElem_toArray, List.getElem_cons_zero, List.getElem_cons_succ]
                have hbc := h6.cells.1
                have hbf := frozen_of_row _ bl 0 _ _ h6.box
                go_simp
                have h7 := h6.stI (.slice A4 (k + 1) c4)
                refine hK.out _ _ (DL.late (by kernel_rfl)) (fun _ => ?_)
                clear hK K hbc hbf
                try simp only [Act.put, List.setIfInBounds_toArray, List.set_cons_zero, List.set_cons_succ, List.getElem_toArray, List.getElem_cons_zero, List.getElem_cons_succ]
                refine wpAnyT_take (i := 14) (v := ?v20) rfl (by kernel_rfl) (by kernel_rfl) (by kernel_rfl) rfl (fun _ _ _ h => h) (Or.inl ⟨by rfl, ?hy20⟩) (DL.late (by kernel_rfl)) ?rest20
                case hy20 => (intro w hSw; go_simp; try rfl)
                simp only [Act.put, List.setIfInBounds_toArray, List.set_cons_zero, List.set_cons_succ, List.getElem_toArray, List.getElem_cons_zero, List.getElem_cons_succ]
                refine wpAnyT_ready (rs := [15]) (by kernel_rfl) (by simp) ?_
                refine AllReadyT.cons rfl (fun K hK => ?_) AllReadyT.nil
                simp only [Act.put, List.getElem_toArray, List.getElem_cons_zero, List.getElem_cons_succ]
                have hbc := h7.cells.2
                have hbf := frozen_of_row _ bl 1 _ _ h7.box
                go_simp
                have h8 := h7.stO (.slice A6 (k + 1) c6)
                refine hK.out _ _ (DL.late (by kernel_rfl)) (fun _ => ?_)
                clear hK K hbc hbf
                try simp only [Act.put, List.setIfInBounds_toArray, List.set_cons_zero, List.set_cons_succ, List.getElem_toArray, List.getElem_cons_zero, List.getElem_cons_succ]
                refine wpAnyT_done (by kernel_rfl) (NoPanic.normal ?_) _
                go_wp2_with fail
                go_meet
                exact HEND.out _ _ _ _ _ _ _ _ h8 (by simp) (by simp) (Ne.symm hne2)
              · simp only [Act.put, List.setIfInBounds_toArray, List.set_cons_zero, List.set_cons_succ, List.getElem_toArray, List.getElem_cons_zero, List.getElem_cons_succ]
                go_simp
                obtain ⟨q4, W4, e1, e2, h4, n4⟩ := h3.alloc (.cells #[ptrN p1] 65)
                simp only [ptrN] at e2
                try rw [e1]
                try rw [e2]
                clear e1 e2
                clear n4
                refine hK.out _ _ (DL.of h4.cells) (fun _ => ?_)
                clear hK K
                try simp only [Act.put, List.setIfInBounds_toArray, List.set_cons_zero, List.set_cons_succ, List.getElem_toArray, List.getElem_cons_zero, List.getElem_cons_succ]
                refine wpAnyT_ready (rs := [5]) (by kernel_rfl) (by simp) ?_
                refine AllReadyT.cons rfl (fun K hK => ?_) AllReadyT.nil
                refine step_append_row _ (by rfl) _ _ 59 65 _ 1 8 (by rfl) Try.underlying59 info_bptr rfl h4.I ⟨q3, 0, none⟩ 1 1 [ptrN p2] rfl (h4.newcell (t := 65) (by simp)) (by intro u hu; rw [List.mem_singleton.1 hu]; rfl) (by rfl) (by rfl) (by omega) (by unfold maxLen; omega) (by omega) ?_
                intro v5 r5 W5 hR hC hN
                have h5 := h4.appI hR hC hN
                obtain ⟨A5, c5, rfl, _⟩ := hR.shape
                clear hR hC hN
                refine hK.out _ _ (DL.of h5.cells) (fun _ => ?_)
                clear hK K
                try simp only [Act.put, List.setIfInBounds_toArray, List.set_cons_zero, List.set_cons_succ, List.getElem_toArray, List.getElem_cons_zero, List.getElem_cons_succ]
                refine wpAnyT_take (i := 12) (v := ?v21) rfl (by kernel_rfl) (by kernel_rfl) (by kernel_rfl) rfl (fun _ _ _ h => h) (Or.inl ⟨by rfl, ?hy21⟩) (DL.of h5.cells) ?rest21
                case hy21 => (intro w hSw; go_simp; try rfl)
                simp only [Act.put, List.setIfInBounds_toArray, List.set_cons_zero, List.set_cons_succ, List.getElem_toArray, List.getElem_cons_zero, List.getElem_cons_succ]
                refine wpAnyT_ready (rs := [11]) (by kernel_rfl) (by simp) ?_
                refine AllReadyT.cons rfl (fun K hK => ?_) AllReadyT.nil
                refine step_append_row _ (by rfl) _ _ 59 65 _ 1 8 (by rfl) Try.underlying59 info_bptr rfl h5.O ⟨q4, 0, none⟩ 1 1 [ptrN p1] rfl (h5.newcell (t := 65) (by simp)) (by intro u hu; rw [List.mem_singleton.1 hu]; rfl) (by rfl) (by rfl) (by omega) (by unfold maxLen; omega) (by omega) ?_
                intro v6 r6 W6 hR hC hN
                have h6 := h5.appO hR hC hN
                obtain ⟨A6, c6, rfl, _⟩ := hR.shape
                clear hR hC hN
                refine hK.out _ _ (DL.of h6.cells) (fun _ => ?_)
                clear hK K
                try simp only [Act.put, List.setIfInBounds_toArray, List.set_cons_zero, List.set_cons_succ, List.getElem_toArray, List.getElem_cons_zero, List.getElem_cons_succ]
                refine wpAnyT_ready (rs := [13]) (by kernel_rfl) (by simp) ?_
                refine AllReadyT.cons rfl (fun K hK => ?_) AllReadyT.nil
                simp only [Act.put, List.getElem_toArray, List.getElem_cons_zero, List.getElem_cons_succ]
                have hbc := h6.cells.1
                have hbf := frozen_of_row _ bl 0 _ _ h6.box
                go_simp
                have h7 := h6.stI (.slice A5 (k + 1) c5)
                refine hK.out _ _ (DL.late (by kernel_rfl)) (fun _ => ?_)
                clear hK K hbc hbf
                try simp only [Act.put, List.setIfInBounds_toArray, List.set_cons_zero, List.set_cons_succ, List.getElem_toArray, List.getElem_cons_zero, List.getElem_cons_succ]
                refine wpAnyT_take (i := 14) (v := ?v22) rfl (by kernel_rfl) (by kernel_rfl) (by kernel_rfl) rfl (fun _ _ _ h => h) (Or.inl ⟨by rfl, ?hy22⟩) (DL.late (by kernel_rfl)) ?rest22
                case hy22 => (intro w hSw; go_simp; try rfl)
                simp only [Act.put, List.setIfInBounds_toArray, List.set_cons_zero, List.set_cons_succ, List.getElem_toArray, List.getElem_cons_zero, List.getElem_cons_succ]
                refine wpAnyT_ready (rs := [15]) (by kernel_rfl) (by simp) ?_
                refine AllReadyT.cons rfl (fun K hK => ?_) AllReadyT.nil
                simp only [Act.put, List.getElem_toArray, List.getElem_cons_zero, List.getElem_cons_succ]
                have hbc := h7.cells.2
                have hbf := frozen_of_row _ bl 1 _ _ h7.box
                go_simp
                have h8 := h7.stO (.slice A6 (k + 1) c6)
                refine hK.out _ _ (DL.late (by kernel_rfl)) (fun _ => ?_)
                clear hK K hbc hbf
                try simp only [Act.put, List.setIfInBounds_toArray, List.set_cons_zero, List.set_cons_succ, List.getElem_toArray, List.getElem_cons_zero, List.getElem_cons_succ]
                refine wpAnyT_done (by kernel_rfl) (NoPanic.normal ?_) _
                go_wp2_with fail
                go_meet
                exact HEND.out _ _ _ _ _ _ _ _ h8 (by simp) (by simp) (Ne.symm hne2)
            · simp only [Act.put, List.setIfInBounds_toArray, List.set_cons_zero, List.set_cons_succ, List.getElem_toArray, List.getElem_cons_zero, List.getElem_cons_succ]
              go_simp
              obtain ⟨q3, W3, e1, e2, h3, n3⟩ := h2.alloc (.cells #[ptrN p1] 65)
              simp only [ptrN] at e2
              try rw [e1]
              try rw [e2]
              clear e1 e2
              clear n3
              refine hK.out _ _ (DL.of h3.cells) (fun _ => ?_)
              clear hK K
              try simp only [Act.put, List.setIfInBounds_toArray, List.set_cons_zero, List.set_cons_succ, List.getElem_toArray, List.getElem_cons_zero, List.getElem_cons_succ]
              refine wpAnyT_ready (rs := [4]) (by kernel_rfl) (by simp) ?_
              refine AllReadyT.cons rfl (fun K hK => ?_) AllReadyT.nil
              simp only [Act.put, List.setIfInBounds_toArray, List.set_cons_zero, List.set_cons_succ, List.getElem_toArray, List.getElem_cons_zero, List.getElem_cons_succ]
              go_simp
              obtain ⟨q4, W4, e1, e2, h4, n4⟩ := h3.alloc (.cells #[ptrN p2] 65)
              simp only [ptrN] at e2
              try rw [e1]
              try rw [e2]
              clear e1 e2
              clear n4
              refine hK.out _ _ (DL.of h4.cells) (fun _ => ?_)
              clear hK K
              try simp only [Act.put, List.setIfInBounds_toArray, List.set_cons_zero, List.set_cons_succ, List.getElem_toArray, List.getElem_cons_zero, List.getElem_cons_succ]
              refine wpAnyT_ready (rs := [5]) (by kernel_rfl) (by simp) ?_
              refine AllReadyT.cons rfl (fun K hK => ?_) AllReadyT.nil
              refine step_append_row _ (by rfl) _ _ 59 65 _ 1 8 (by rfl) Try.underlying59 info_bptr rfl h4.I ⟨q4, 0, none⟩ 1 1 [ptrN p2] rfl (h4.newcell (t := 65) (by simp)) (by intro u hu; rw [List.mem_singleton.1 hu]; rfl) (by rfl) (by rfl) (by omega) (by unfold maxLen; omega) (by omega) ?_
              intro v5 r5 W5 hR hC hN
              have h5 := h4.appI hR hC hN
              obtain ⟨A5, c5, rfl, _⟩ := hR.shape
              clear hR hC hN
              refine hK.out _ _ (DL.of h5.cells) (fun _ => ?_)
              clear hK K
              try simp only [Act.put, List.setIfInBounds_toArray, List.set_cons_zero, List.set_cons_succ, List.getElem_toArray, List.getElem_cons_zero, List.getElem_cons_succ]
              refine wpAnyT_take (i := 12) (v := ?v23) rfl (by kernel_rfl) (by kernel_rfl) (by kernel_rfl) rfl (fun _ _ _ h => h) (Or.inl ⟨by rfl, ?hy23⟩) (DL.of h5.cells) ?rest23
              case hy23 => (intro w hSw; go_simp; try rfl)
              simp only [Act.put, List.setIfInBounds_toArray, List.set_cons_zero, List.set_cons_succ, List.getElem_toArray, List.getElem_cons_zero, List.getElem_cons_succ]
              refine wpAnyT_ready (rs := [11]) (by kernel_rfl) (by simp) ?_
              refine AllReadyT.cons rfl (fun K hK => ?_) AllReadyT.nil
              refine step_append_row _ (by rfl) _ _ 59 65 _ 1 8 (by rfl) Try.underlying59 info_bptr rfl h5.O ⟨q3, 0, none⟩ 1 1 [ptrN p1] rfl (h5.newcell (t := 65) (by simp)) (by intro u hu; rw [List.mem_singleton.1 hu]; rfl) (by rfl) (by rfl) (by omega) (by unfold maxLen; omega) (by omega) ?_
              intro v6 r6 W6 hR hC hN
              have h6 := h5.appO hR hC hN
              obtain ⟨A6, c6, rfl, _⟩ := hR.shape
              clear hR hC hN
              refine hK.out _ _ (DL.of h6.cells) (fun _ => ?_)
              clear hK K
              try simp only [Act.put, List.setIfInBounds_toArray, List.set_cons_zero, List.set_cons_succ, List.getElem_toArray, List.getElem_cons_zero, List.getElem_cons_succ]
              refine wpAnyT_ready (rs := [13]) (by kernel_rfl) (by simp) ?_
              refine AllReadyT.cons rfl (fun K hK => ?_) AllReadyT.nil
              simp only [Act.put, List.getElem_toArray, List.getElem_cons_zero, List.getElem_cons_succ]
              have hbc := h6.cells.1
              have hbf := frozen_of_row _ bl 0 _ _ h6.box
              go_simp
              have h7 := h6.stI (.slice A5 (k + 1) c5)
              refine hK.out _ _ (DL.late (by kernel_rfl)) (fun _ => ?_)
              clear hK K hbc hbf
              try simp only [Act.put, List.setIfInBounds_toArray, List.set_cons_zero, List.set_cons_succ, List.getElem_toArray, List.getElem_cons_zero, List.getElem_cons_succ]
              refine wpAnyT_take (i := 14) (v := ?v24) rfl (by kernel_rfl) (by kernel_rfl) (by kernel_rfl) rfl (fun _ _ _ h => h) (Or.inl ⟨by rfl, ?hy24⟩) (DL.late (by kernel_rfl)) ?rest24
              case hy24 => (intro w hSw; go_simp; try rfl)
              simp only [Act.put, List.setIfInBounds_toArray, List.set_cons_zero, List.set_cons_succ, List.getElem_toArray, List.getElem_cons_zero, List.getElem_cons_succ]
              refine wpAnyT_ready (rs := [15]) (by kernel_rfl) (by simp) ?_
              refine AllReadyT.cons rfl (fun K hK => ?_) AllReadyT.nil
              simp only [Act.put, List.getElem_toArray, List.getElem_cons_zero, List.getElem_cons_succ]
              have hbc := h7.cells.2
              have hbf := frozen_of_row _ bl 1 _ _ h7.box
              go_simp
              have h8 := h7.stO (.slice A6 (k + 1) c6)
              refine hK.out _ _ (DL.late (by kernel_rfl)) (fun _ => ?_)
              clear hK K hbc hbf
              try simp only [Act.put, List.setIfInBounds_toArray, List.set_cons_zero, List.set_cons_succ, List.getElem_toArray, List.getElem_cons_zero, List.getElem_cons_succ]
              refine wpAnyT_done (by kernel_rfl) (NoPanic.normal ?_) _
              go_wp2_with fail
              go_meet
              exact HEND.out _ _ _ _ _ _ _ _ h8 (by simp) (by simp) (Ne.symm hne2)
          · simp only [Act.put, List.setIfInBounds_toArray, List.set_cons_zero, List.set_cons_succ, List.getElem_toArray, List.getElem_cons_zero, List.getElem_cons_succ]
            go_simp
            obtain ⟨q2, W2, e1, e2, h2, n2⟩ := h1.alloc (.cells #[ptrN p1] 65)
            simp only [ptrN] at e2
            try rw [e1]
            try rw [e2]
            clear e1 e2
            clear n2
            refine hK.out _ _ (DL.of h2.cells) (fun _ => ?_)
            clear hK K
            try simp only [Act.put, List.setIfInBounds_toArray, List.set_cons_zero, List.set_cons_succ, List.getElem_toArray, List.getElem_cons_zero, List.getElem_cons_succ]
            refine wpAnyT_ready (rs := [3]) (by kernel_rfl) (by simp) ?_
            refine AllReadyT.cons rfl (fun K hK => ?_) AllReadyT.nil
            simp only [Act.put, List.setIfInBounds_toArray, List.set_cons_zero, List.set_cons_succ, List.getElem_toArray, List.getElem_cons_zero, List.getElem_cons_succ]
            go_simp
            obtain ⟨p3, W3, e1, e2, h3, n3⟩ := h2.alloc bits0
            simp only [bits0] at e2
            try rw [e1]
            try rw [e2]
            clear e1 e2
            have hne3 : p1 ≠ p3 := n3 (p1, bits0) (by simp)
            clear n3
            refine hK.out _ _ (DL.of h3.cells) (fun _ => ?_)
            clear hK K
            try simp only [Act.put, List.setIfInBounds_toArray, List.set_cons_zero, List.set_cons_succ, List.getElem_toArray, List.getElem_cons_zero, List.getElem_cons_succ]
            refine wpAnyT_ready (rs := [4]) (by kernel_rfl) (by simp) ?_
            refine AllReadyT.cons rfl (fun K hK => ?_) AllReadyT.nil
            simp only [Act.put, List.setIfInBounds_toArray, List.set_cons_zero, List.set_cons_succ, List.getElem_toArray, List.getElem_cons_zero, List.getElem_cons_succ]
            go_simp
            obtain ⟨q4, W4, e1, e2, h4, n4⟩ := h3.alloc (.cells #[ptrN p3] 65)
            simp only [ptrN] at e2
            try rw [e1]
            try rw [e2]
            clear e1 e2
            clear n4
            refine hK.out _ _ (DL.of h4.cells) (fun _ => ?_)
            clear hK K
            try simp only [Act.put, List.setIfInBounds_toArray, List.set_cons_zero, List.set_cons_succ, List.getElem_toArray, List.getElem_cons_zero, List.getElem_cons_succ]
            refine wpAnyT_ready (rs := [5]) (by kernel_rfl) (by simp) ?_
            refine AllReadyT.cons rfl (fun K hK => ?_) AllReadyT.nil
            refine step_append_row _ (by rfl) _ _ 59 65 _ 1 8 (by rfl) Try.underlying59 info_bptr rfl h4.I ⟨q4, 0, none⟩ 1 1 [ptrN p3] rfl (h4.newcell (t := 65) (by simp)) (by intro u hu; rw [List.mem_singleton.1 hu]; rfl) (by rfl) (by rfl) (by omega) (by unfold maxLen; omega) (by omega) ?_
            intro v5 r5 W5 hR hC hN
            have h5 := h4.appI hR hC hN
            obtain ⟨A5, c5, rfl, _⟩ := hR.shape
            clear hR hC hN
            refine hK.out _ _ (DL.of h5.cells) (fun _ => ?_)
            clear hK K
            try simp only [Act.put, List.setIfInBounds_toArray, List.set_cons_zero, List.set_cons_succ, List.getElem_toArray, List.getElem_cons_zero, List.getElem_cons_succ]
            refine wpAnyT_take (i := 12) (v := ?v25) rfl (by kernel_rfl) (by kernel_rfl) (by kernel_rfl) rfl (fun _ _ _ h => h) (Or.inl ⟨by rfl, ?hy25⟩) (DL.of h5.cells) ?rest25
            case hy25 => (intro w hSw; go_simp; try rfl)
            simp only [Act.put, List.setIfInBounds_toArray, List.set_cons_zero, List.set_cons_succ, List.getElem_toArray, List.getElem_cons_zero, List.getElem_cons_succ]
            refine wpAnyT_ready (rs := [11]) (by kernel_rfl) (by simp) ?_
            refine AllReadyT.cons rfl (fun K hK => ?_) AllReadyT.nil
            refine step_append_row _ (by rfl) _ _ 59 65 _ 1 8 (by rfl) Try.underlying59 info_bptr rfl h5.O ⟨q2, 0, none⟩ 1 1 [ptrN p1] rfl (h5.newcell (t := 65) (by simp)) (by intro u hu; rw [List.mem_singleton.1 hu]; rfl) (by rfl) (by rfl) (by omega) (by unfold maxLen; omega) (by omega) ?_
            intro v6 r6 W6 hR hC hN
            have h6 := h5.appO hR hC hN
            obtain ⟨A6, c6, rfl, _⟩ := hR.shape
            clear hR hC hN
            refine hK.out _ _ (DL.of h6.cells) (fun _ => ?_)
            clear hK K
            try simp only [Act.put, List.setIfInBounds_toArray, List.set_cons_zero, List.set_cons_succ, List.getElem_toArray, List.getElem_cons_zero, List.getElem_cons_succ]
            refine wpAnyT_ready (rs := [13]) (by kernel_rfl) (by simp) ?_
            refine AllReadyT.cons rfl (fun K hK => ?_) AllReadyT.nil
            simp only [Act.put, List.getElem_toArray, List.getElem_cons_zero, List.getElem_cons_succ]
            have hbc := h6.cells.1
            have hbf := frozen_of_row _ bl 0 _ _ h6.box
            go_simp
            have h7 := h6.stI (.slice A5 (k + 1) c5)
            refine hK.out _ _ (DL.late (by kernel_rfl)) (fun _ => ?_)
            clear hK K hbc hbf
            try simp only [Act.put, List.setIfInBounds_toArray, List.set_cons_zero, List.set_cons_succ, List.getElem_toArray, List.getElem_cons_zero, List.getElem_cons_succ]
            refine wpAnyT_take (i := 14) (v := ?v26) rfl (by kernel_rfl) (by kernel_rfl) (by kernel_rfl) rfl (fun _ _ _ h => h) (Or.inl ⟨by rfl, ?hy26⟩) (DL.late (by kernel_rfl)) ?rest26
            case hy26 => (intro w hSw; go_simp; try rfl)
            simp only [Act.put, List.setIfInBounds_toArray, List.set_cons_zero, List.set_cons_succ, List.getElem_toArray, List.getElem_cons_zero, List.getElem_cons_succ]
            refine wpAnyT_ready (rs := [15]) (by kernel_rfl) (by simp) ?_
            refine AllReadyT.cons rfl (fun K hK => ?_) AllReadyT.nil
            simp only [Act.put, List.getElem_toArray, List.getElem_cons_zero, List.getElem_cons_succ]
            have hbc := h7.cells.2
            have hbf := frozen_of_row _ bl 1 _ _ h7.box
            go_simp
            have h8 := h7.stO (.slice A6 (k + 1) c6)
            refine hK.out _ _ (DL.late (by kernel_rfl)) (fun _ => ?_)
            clear hK K hbc hbf
            try simp only [Act.put, List.setIfInBounds_toArray, List.set_cons_zero, List.set_cons_succ, List.getElem_toArray, List.getElem_cons_zero, List.getElem_cons_succ]
            refine wpAnyT_done (by kernel_rfl) (NoPanic.normal ?_) _
            go_wp2_with fail
            go_meet
            exact HEND.out _ _ _ _ _ _ _ _ h8 (by simp) (by simp) (Ne.symm hne3)
        -- END region 4
        -- </done>
      case rest =>
        obtain ⟨vI', vO', rI', rO', ps', qs', hG'⟩ := hcut
        have HG' := Lib.hid hG'
        clear hG' h0
        go_wp2_with fail
        go_roundw
        case rel => exact ⟨k + 1, _, _, _, _, _, _, hlt, by simp, HG'.out⟩
        case measure => simp [intOf]; omega
    · obtain rfl : n = k := by omega
      go_wp2_with fail
      gi_wp2_with fail
      obtain ⟨cF, hcF⟩ : ∃ cF : Array Value, cF = #[.string name, .int .i64 params, .int .i64 regs, .slice A n c] := ⟨_, rfl⟩
      have hO : LvO w ks bx bl wr.heap.size n cF vI vO true (ps.map (fun b => ⟨b, none, []⟩) ++ qs.map (fun b => ⟨b, none, []⟩)) [] (2 * (2 * n * 65536) + 1) (wr.alloc (.cells #[.bool true] 4)) := by
        rw [hcF]; exact HG.out.lvo
      obtain ⟨⟨AI, cI, rfl⟩, AO, cO, rfl⟩ := hO.s.shapes
      have HO := Lib.hid hO
      have HCF := Lib.hid hcF
      clear hO hcF HG
      refine wpIn_loop_ghost_k (fun gk a' W => ∃ (bb : Nat) (b : Bool) (ps : List BM) (ds : List Deferred) (u32 u33 u34 u35 u85 : Value), LvO w ks bx bl bb n cF (.slice AI n cI) (.slice AO n cO) b ps ds gk W ∧ a' = { tmps := #[.agg #[.string name, .int .i64 params, .int .i64 regs, .slice A n c], .pointer (some ⟨bx, 0, none⟩), .pointer (some ⟨bx + 1, 0, none⟩), .pointer (some ⟨bl, 0, none⟩), .pointer (some ⟨bb, 0, none⟩), undef, undef, undef, undef, undef, undef, undef, .pointer (some ⟨bx, 3, none⟩), .slice A n c, .int .i64 (n : Nat), .int .i64 (n : Nat), .bool false, u17, u18, u19, u20, u21, u22, u23, u24, u25, u26, u27, u28, u29, u30, u31, u32, u33, u34, u35, undef, undef, undef, undef, undef, undef, undef, undef, undef, undef, undef, undef, undef, undef, undef, undef, undef, undef, undef, undef, undef, undef, undef, undef, undef, undef, undef, undef, undef, undef, undef, undef, undef, undef, undef, undef, undef, undef, undef, undef, undef, undef, undef, undef, undef, undef, undef, undef, undef, u85, undef], defers := ds }) (2 * (2 * n * 65536) + 1) ⟨_, _, _, _, _, _, _, _, _, HO.out, rfl⟩ ?_
      clear HO
      intro gk a' W hI J K hJ hK
      obtain ⟨bb, b, ps0, ds, u32, u33, u34, u35, u85, hO, rfl⟩ := hI
      have h4 := hO.s.cells.2.2
      have HO := Lib.hid hO
      clear hO
      cases b with
      | false =>
        have hb0 := HO.out.s.cells.1
        have hb1 := HO.out.s.cells.2.1
        have hg0 : W.cell? ⟨bx + 1, 0, none⟩ = some (.slice none 0 0) := by rw [cell_of_row _ _ _ _ _ _ HO.out.s.gbox]; rfl
        have hg1 : W.cell? ⟨bx + 1, 1, none⟩ = some (.slice none 0 0) := by rw [cell_of_row _ _ _ _ _ _ HO.out.s.gbox]; rfl
        have hf0 := frozen_of_row W (bx + 1) 0 _ _ HO.out.s.gbox
        have hf1 := frozen_of_row W (bx + 1) 1 _ _ HO.out.s.gbox
        gi_wp2_with fail
        have hne : bl ≠ bx + 1 := by have := HBL.out; omega
        have hN : w.heap.size ≤ bx + 1 := by have := HBL.out; omega
        have g1 := heap_setCell_same W (bx + 1) 0 _ 61 (.slice AI n cI) HO.out.s.gbox
        have g2 := heap_setCell_same _ (bx + 1) 1 _ 61 (.slice AO n cO) g1
        have f2 := (HO.out.s.flow.result HO.out.s.gbox hne hN 0 (.slice AI n cI)).result g1 hne hN 1 (.slice AO n cO)
        have m2 := (HO.out.marks.chg (Chg.store W (bx + 1) 0 (.slice AI n cI)) fun k e => by rw [e]; exact ⟨_, _, _, HO.out.s.gbox⟩).chg (Chg.store _ (bx + 1) 1 (.slice AO n cO)) fun k e => by rw [e]; exact ⟨_, _, _, g1⟩
        have hd := HO.out.way.done (fun i hi => (HO.out.cl rfl i hi).1) (fun i hi => (HO.out.cl rfl i hi).2)
        refine leaves_marks (B := w.heap.size) (fun Z => FlowM w bl n (.slice AI n cI) (.slice AO n cO) ps0 [] Z ∧ Z.heap[bx + 1]? = some (.cells #[.slice AI n cI, .slice AO n cO] 61 (0, 0))) ?_ ?_ ds _ m2 HO.out.mlow ⟨f2, g2⟩
        · rintro Z D hBD ⟨h1, h2⟩ hD
          have hr : ∀ r, some D = some r → w.heap.size ≤ r ∧ ∃ o : Obj, Z.heap[r]? = some o ∧ o.isCells = false := fun r e => by cases e; exact ⟨hBD, _, hD, rfl⟩
          exact ⟨h1.own (grownBy_putObj' Z D _) hr, ((own_chg (grownBy_putObj' Z D _)).block _ (lt_of_heap h2) (own_ne (fun r e => (hr r e).2) h2)).trans h2⟩
        · rintro Z ⟨h1, h2⟩
          have c0 : Z.cell? ⟨bx + 1, 0, none⟩ = some (.slice AI n cI) := by rw [cell_of_row _ _ _ _ _ _ h2]; rfl
          have c1 : Z.cell? ⟨bx + 1, 1, none⟩ = some (.slice AO n cO) := by rw [cell_of_row _ _ _ _ _ _ h2]; rfl
          refine ⟨.agg #[.slice AI n cI, .slice AO n cO], by simp [results, Try.results23, go_sem, c0, c1], ?_⟩
          unfold LiveD
          rw [← HN.out]
          exact ⟨_, _, ps0, bl, rfl, h1, fun i hi => hd i (by rw [← HN.out]; exact hi)⟩
      | true =>
        have hT := HO.out.s.store false
        have h3 : (W.setCell ⟨bb, 0, none⟩ (.bool false)).cell? ⟨bx, 3, none⟩ = some (.slice A n c) := by rw [cell_of_row _ _ _ _ _ _ hT.1.fbox, HCF.out]; rfl
        have hfb := frozen_of_row W bb 0 _ _ HO.out.s.bbox
        have HT := Lib.hid hT
        clear hT
        gi_wp2_with fail
        refine ⟨trivial, (callsIn_wide.2 (backB_fn _ _ _ _)).mono ?_⟩
        rintro e V ⟨rfl, hV⟩
        obtain ⟨Bn, hBn⟩ : ∃ Bn, Bn = W.heap.size := ⟨_, rfl⟩
        simp only [World.size_setCell]
        rw [← hBn]
        have hI0 : BlkI w ks bx bl bb n cF (.slice AI n cI) (.slice AO n cO) ds (totB 65536 ps0) Bn (.slice A n c) false false ps0 [] V := by
          have hal : Below (W.setCell ⟨bb, 0, none⟩ (.bool false)).heap.size (W.setCell ⟨bb, 0, none⟩ (.bool false)) V := by rw [hV]; exact (Below.refl _ _).alloc (Nat.le_refl _) _
          refine ⟨HT.out.1.below hal, ⟨HO.out.way, Nat.le_refl _, fun e => (by cases e), fun _ j hj => (by cases hj)⟩, (HO.out.marks.kt HT.out.2).kt (KT.of_below hal), ?_⟩
          rw [hV, hBn, ← World.size_setCell W ⟨bb, 0, none⟩ (.bool false)]
          exact Boxed.new _ _ _
        have HI0 := Lib.hid hI0
        clear hV h3 h4 hfb hI0 hBn HT
        obtain ⟨bs, hbs, hrow, hins⟩ := HR.out
        have hlen : bs.length = n := by rw [HN.out, ← hbs, List.length_map]
        have hbV := HI0.out.s.flow.below
        have hds : ∀ d ∈ ds, ∀ E, d.target = .collected E → E < V.heap.size := HI0.out.marks.lt
        have hwV := hbV.size
        have hBnV : Bn < V.heap.size := lt_of_heap HI0.out.bn
        gi_wp2_with fail
        have hseq := stops_guard (backB_stops (8 - 1) (by omega) Bn A c bs (by omega) V (by rw [hlen]; exact Boxed.cell HI0.out.bn) (hrow.below hbV))
        refine wpIn_rangeFunc_ownH rfl (by omega) (gf := 54) (lb := #[.pointer (some ⟨Bn, 0, none⟩)]) rfl trivial (enters_of Try.func54 (by kernel_rfl) rfl)
          hseq KpG.trans (fun W l o o' hl _ _ _ hbp => KpW.put hBnV (fun g off e => Nat.lt_of_lt_of_le (blkRow_lt hrow hbp g off e) hwV) W l o' hl) (Below.refl _ _) (fun _ => rfl)
          (fun (pre : List (ElR bs)) Z => ∃ b ps, BlkI w ks bx bl bb n cF (.slice AI n cI) (.slice AO n cO) ds (totB 65536 ps0) Bn (.slice A n c) b b ps (metR pre) Z)
          (fun _ _ _ => False)
          (fun pre X Y row ⟨b, ps, h⟩ hg hr => ⟨b, ps, h.own hg hr hwV hds⟩) (fun _ _ _ _ _ h _ _ => h) ⟨false, ps0, HI0.out⟩
          (fun (x : ElR bs) a' Z => ∃ q, a' = { tmps := #[.agg #[.string name, .int .i64 params, .int .i64 regs, .slice A n c], .pointer (some ⟨bx, 0, none⟩), .pointer (some ⟨bx + 1, 0, none⟩), .pointer (some ⟨bl, 0, none⟩), .pointer (some ⟨bb, 0, none⟩), .int .i64 (x.1.1 : Nat), .pointer (some ⟨q, 0, none⟩), undef, undef, undef, undef, undef, .pointer (some ⟨bx, 3, none⟩), .slice A n c, .int .i64 (n : Nat), .int .i64 (n : Nat), .bool false, u17, u18, u19, u20, u21, u22, u23, u24, u25, u26, u27, u28, u29, u30, u31, .bool true, .pointer (some ⟨bx, 3, none⟩), .slice A n c, .func (.func 54) #[] #[.pointer (some ⟨Bn, 0, none⟩)], .int .i64 (x.1.1 : Nat), blkAgg x.1.2.k x.1.2.A x.1.2.c, undef, undef, undef, undef, undef, undef, undef, undef, undef, undef, undef, undef, undef, undef, undef, undef, undef, undef, undef, undef, undef, undef, undef, undef, undef, undef, undef, undef, undef, undef, undef, undef, undef, undef, undef, undef, undef, undef, undef, undef, undef, undef, undef, undef, undef, undef, undef, u85, undef], defers := [] } ∧ BlkBox Z q x.1.2)
          (fun x a' _ X Y row ⟨q, e, h⟩ hg hr => ⟨q, e, h.own hg fun r e => (hr r e).2⟩) ?hassign ?hbody ?hdone ?hstop
        case hassign =>
          rintro l pre ⟨⟨i, ⟨⟨ins, kind, ka, tgt, els⟩, Ax, cx⟩⟩, hx⟩ Z K ⟨b, ps, hI⟩ hK
          have hal : Below Z.heap.size Z (Z.alloc (.cells #[.slice Ax ins.length cx, .int .i64 kind, .int .i64 ka, .int .i64 tgt, .int .i64 els] 45)) := (Below.refl _ _).alloc (Nat.le_refl _) _
          have HK := Lib.hid (fun a' h => hK a' _ ((KT.of_below hal).from _) (fun hbp => (KT.of_below hal).kpw hI.bn (blkRow_lt hrow hbp) hI.s.flow.below (hI.below hal).s.flow.below) ⟨b, ps, hI.below hal⟩ h)
          clear hK hal hseq
          dsimp only [encB, blkAgg]
          gi_wp2_with fail
          exact HK.out _ ⟨Z.heap.size, rfl, heap_alloc_new Z _⟩
        case hdone =>
          rintro D xs Z hD hS ⟨b, ps, hI⟩ hDe
          have hc4 := hI.s.cells.2.2
          have HI := Lib.hid hI
          have HDE := Lib.hid (And.intro hS (And.intro hDe hD))
          clear hI hS hseq hDe
          gi_wp2_with fail
          obtain ⟨d1, d2⟩ := HI.out.done HDE.out.1 HDE.out.2.1 HDE.out.2.2 hwV hds HO.out.mlow (by rw [hlen, ← HN.out]) HO.out.num
          exact Handed.intro _ d1 (hJ _ _ _ ⟨_, _, _, _, _, _, _, _, _, d2, rfl⟩)
        case hbody =>
          rintro l pre x a' Z hl hrec ⟨b, ps, hI⟩ ⟨q, rfl, hq⟩ hlt
          obtain ⟨hin, hbi⟩ := revI_mem x.2
          have hbq : bs[x.1.1]? = some x.1.2 := by rw [List.getElem?_eq_getElem hin, hbi]
          clear hin hbi
          obtain ⟨y, hy⟩ : ∃ y, y = x.1 := ⟨_, rfl⟩
          simp only [← hy] at hbq hq ⊢
          have HY := Lib.hid hy
          clear hy
          obtain ⟨i, ⟨⟨ins, kind, ka, tgt, els⟩, Ax, cx⟩⟩ := y
          dsimp only at hbq hq
          obtain ⟨hin, hbi⟩ := List.getElem?_eq_some_iff.1 hbq
          clear hbq
          have hik : i < ks.length := by rw [← HN.out, ← hlen]; exact hin
          have hxk : ks[i] = ⟨ins, kind, ka, tgt, els⟩ := by simp only [← hbs, List.getElem_map, hbi]
          have hxI : InsMem w Ax ins := hins ⟨⟨ins, kind, ka, tgt, els⟩, Ax, cx⟩ (by rw [← hbi]; exact List.getElem_mem _)
          have hxF : BlkF ks.length ⟨ins, kind, ka, tgt, els⟩ := by rw [← hxk]; exact HF.out.blk _ (List.getElem_mem hik)
          have hin' : i < n := by omega
          obtain ⟨⟨gI, oI, cI', eI⟩, gO, oO, cO', eO⟩ := hI.s.shapes1 (by omega)
          injection eI with eI _ eI2
          injection eO with eO _ eO2
          subst eI eI2 eO eO2
          obtain ⟨L, hL⟩ : ∃ L, L = nextP ⟨ins, kind, ka, tgt, els⟩ := ⟨_, rfl⟩
          have HX := Lib.hid (And.intro hxk (And.intro hxI (And.intro hxF hL)))
          have hc0 : Z.cell? ⟨q, 0, none⟩ = some (.slice Ax ins.length cx) := by rw [cell_of_row _ _ _ _ _ _ hq]; rfl
          have hc1 : Z.cell? ⟨q, 1, none⟩ = some (.int .i64 kind) := by rw [cell_of_row _ _ _ _ _ _ hq]; rfl
          have hc2 : Z.cell? ⟨q, 2, none⟩ = some (.int .i64 ka) := by rw [cell_of_row _ _ _ _ _ _ hq]; rfl
          have hc3 : Z.cell? ⟨q, 3, none⟩ = some (.int .i64 tgt) := by rw [cell_of_row _ _ _ _ _ _ hq]; rfl
          have hc4 : Z.cell? ⟨q, 4, none⟩ = some (.int .i64 els) := by rw [cell_of_row _ _ _ _ _ _ hq]; rfl
          have HI := Lib.hid hI
          have HQ := Lib.hid hq
          have HREC := Lib.hid hrec
          have HIZ := HI
          clear hxk hxI hxF hI hq hrec hbi hseq hL
          dsimp only [blkAgg]
          gi_wp2_with fail
          refine ⟨trivial, (CallsIn.inRound l (callsIn_wide.2 (next_any ⟨ins, kind, ka, tgt, els⟩ Ax cx Z))).mono ?_⟩
          rintro e W1 ⟨A1, c1, rfl, hA1, hB1⟩
          rw [← HX.out.2.2.2] at hA1 ⊢
          have hLl : L.length ≤ 2 := by rw [HX.out.2.2.2]; unfold nextP; split <;> (try split) <;> simp
          have HI1 := Lib.hid (HI.out.below hB1)
          have HK1 := Lib.hid (KT.of_below hB1)
          have HA1 := Lib.hid hA1
          clear hA1 hB1 hc0 hc1 hc2 hc3 hc4 HI
          gi_wp2_with fail
          gi_loopw [41] (fun v wr => ∃ (k : Nat) (b : Bool) (ps : List BM), k ≤ L.length ∧ v = .int .i64 (k : Nat) ∧ BlkI w ks bx bl bb n cF (.slice (some ⟨gI, oI, none⟩) n cI) (.slice (some ⟨gO, oO, none⟩) n cO) ds (totB 65536 ps0) Bn (.slice A n c) b b ps (metR pre) wr ∧ KT W1 wr ∧ ∀ t ∈ L.take k, Sub (inS n ps t.toNat) (outS n ps i)) (fun v _ => L.length - (intOf v).toNat)
          case atStart => exact ⟨0, b, ps, Nat.zero_le _, rfl, HI1.out, KT.refl _, fun t ht => by simp at ht⟩
          case round =>
            obtain ⟨k, b, ps, hk, rfl, hI, hKT, hsub⟩ := hrel
            by_cases hltk : k < L.length
            · obtain ⟨g1, rfl⟩ := HA1.out.shape (by omega)
              have hcA := (HA1.out.kt hKT).cell k hltk
              rw [Nat.zero_add] at hcA
              have htm : L[k] ∈ nextP ⟨ins, kind, ka, tgt, els⟩ := by rw [← HX.out.2.2.2]; exact List.getElem_mem hltk
              obtain ⟨ht0, htn⟩ := next_lt HX.out.2.2.1 _ htm
              rw [← HN.out] at htn
              obtain ⟨tn, et⟩ : ∃ tn : Nat, L[k] = (tn : Int) := ⟨L[k].toNat, by omega⟩
              rw [et, Int.toNat_natCast] at htn
              rw [et] at hcA
              have hpl := hI.s.flow.len
              obtain ⟨⟨bO, rO, wsO⟩, hpO⟩ : ∃ p, ps[n + i]? = some p := ⟨_, List.getElem?_eq_getElem (by omega)⟩
              obtain ⟨⟨bI, rI, wsI⟩, hpI⟩ : ∃ p, ps[tn]? = some p := ⟨_, List.getElem?_eq_getElem (by omega)⟩
              have hmO : (ps.map BM.b)[n + i]? = some bO := by rw [List.getElem?_map, hpO]; rfl
              have hmI : (ps.map BM.b)[tn]? = some bI := by rw [List.getElem?_map, hpI]; rfl
              have hdr : Below wr.heap.size wr wr.drew := (Below.refl _ wr).drew
              have hId := hI.below hdr
              have hsel := hId.s.sel hin' htn hmO hmI
              have HJOIN := Lib.hid (show _ from join_any (b := bO) (c := bI) (r := rO) (rc := rI) (ws := wsO) (wc := wsI) (w := wr.drew) (by have := hId.s.flow.at_ (n + i) (by omega); rw [(List.getElem?_eq_some_iff.1 hpO).2] at this; exact this) (by have := hId.s.flow.at_ tn (by omega); rw [(List.getElem?_eq_some_iff.1 hpI).2] at this; exact this)
                (by have := flow_ne hId.s.flow (n + i) tn (by omega) (by omega) (by omega); rw [(List.getElem?_eq_some_iff.1 hpO).2, (List.getElem?_eq_some_iff.1 hpI).2] at this; exact this))
              have HAFT : Hid (∀ (rJ : Option Nat) (wsJ : List Nat) (WJ : World), GrowAt wr.drew bO rO wsO WJ rJ wsJ → (∀ x, memW wsJ x = (memW wsO x || memW wsI x)) →
                  BlkI w ks bx bl bb n cF (.slice (some ⟨gI, oI, none⟩) n cI) (.slice (some ⟨gO, oO, none⟩) n cO) ds (totB 65536 ps0) Bn (.slice A n c) b (newTo wsO wsI wsI.length || b) (ps.set (n + i) ⟨bO, rJ, wsJ⟩) (metR pre) WJ ∧ KT W1 WJ ∧ (∀ t ∈ L.take (k + 1), Sub (inS n (ps.set (n + i) ⟨bO, rJ, wsJ⟩) t.toNat) (outS n (ps.set (n + i) ⟨bO, rJ, wsJ⟩) i)) ∧
                    Sel bl bb gI oI gO oO cI cO n (oO + i) (oI + tn) bO bI b WJ) := Lib.hid fun rJ wsJ WJ g hm => by
                obtain ⟨q1, q2, q3, q4, q5⟩ := hId.join HN.out hik (t := L[k]) (by rw [HX.out.1]; exact htm) et htn hpO hpI g hm
                refine ⟨q1, hKT.trans ((KT.of_below hdr).trans q2), fun t ht => ?_, q1.s.sel hin' htn (by rw [map_b_set _ _ hpO]; exact hmO) (by rw [map_b_set _ _ hpO]; exact hmI)⟩
                rw [← List.take_append_getElem hltk] at ht
                rcases List.mem_append.1 ht with ht | ht
                · rw [q5]; exact (hsub t ht).trans q4
                · rw [List.mem_singleton.1 ht, et]; exact q3
              have HEND : Hid (∀ (b2 : Bool) (ps' : List BM) (WJ : World), BlkI w ks bx bl bb n cF (.slice (some ⟨gI, oI, none⟩) n cI) (.slice (some ⟨gO, oO, none⟩) n cO) ds (totB 65536 ps0) Bn (.slice A n c) b b2 ps' (metR pre) WJ → KT W1 WJ → (∀ t ∈ L.take (k + 1), Sub (inS n ps' t.toNat) (outS n ps' i)) →
                  ∃ (k' : Nat) (b' : Bool) (ps' : List BM), k' ≤ L.length ∧ Value.int .i64 ((k : Int) + 1) = .int .i64 (k' : Nat) ∧ BlkI w ks bx bl bb n cF (.slice (some ⟨gI, oI, none⟩) n cI) (.slice (some ⟨gO, oO, none⟩) n cO) ds (totB 65536 ps0) Bn (.slice A n c) b' b' ps' (metR pre) (WJ.setCell ⟨bb, 0, none⟩ (.bool b2)) ∧ KT W1 (WJ.setCell ⟨bb, 0, none⟩ (.bool b2)) ∧
                    ∀ t ∈ L.take k', Sub (inS n ps' t.toNat) (outS n ps' i)) := Lib.hid fun b2 ps' WJ h1 h2 h3 => ⟨k + 1, b2, ps', hltk, by simp, h1.store.1, h2.trans h1.store.2, h3⟩
              -- <done>
              clear hI hKT hsub htm ht0 et hpl hpO hpI hmO hmI hdr hId
              gi_wp2_with fail
              -- GENERATED: region 15
              refine wpIn_region_T (Sel bl bb gI oI gO oO cI cO n (oO + i) (oI + tn) bO bI b) [14] (by kernel_rfl) (by kernel_rfl) hsel (fun _ => ?_)
              refine wpAnyT_take (i := 0) (v := ?va1) rfl (by kernel_rfl) (by kernel_rfl) (by kernel_rfl) rfl (fun _ _ _ h => h) (Or.inl ⟨by rfl, ?hya1⟩) (DL.of hsel) ?resta1
              case hya1 => (intro w hSw; go_simp; try rfl)
              try simp only [Act.put, List.setIfInBounds_toArray, List.set_cons_zero, List.set_cons_succ, List.getElem_toArray, List.getElem_cons_zero]
              refine wpAnyT_load (i := 1) (v := ?va2) rfl (by kernel_rfl) (by kernel_rfl) (by kernel_rfl) rfl (by kernel_rfl) (by kernel_rfl) (fun _ _ _ h => h) (Or.inl ⟨by rfl, ?hya2⟩) (DL.of hsel) ?resta2
              case hya2 => (intro w hSw; obtain ⟨s1, s2, s3, s4, s5⟩ := hSw rfl; go_simp; try rfl)
              try simp only [Act.put, List.setIfInBounds_toArray, List.set_cons_zero, List.set_cons_succ, List.getElem_toArray, List.getElem_cons_zero, List.getElem_cons_succ]
              refine wpAnyT_take (i := 2) (v := ?va3) rfl (by kernel_rfl) (by kernel_rfl) (by kernel_rfl) rfl (fun _ _ _ h => h) (Or.inl ⟨by rfl, ?hya3⟩) (DL.of hsel) ?resta3
              case hya3 => (intro w hSw; go_simp; try rfl)
              try simp only [Act.put, List.setIfInBounds_toArray, List.set_cons_zero, List.set_cons_succ, List.getElem_toArray, List.getElem_cons_zero, List.getElem_cons_succ]
              refine wpAnyT_take (i := 3) (v := ?va4) rfl (by kernel_rfl) (by kernel_rfl) (by kernel_rfl) rfl (fun _ _ _ h => h) (Or.inl ⟨by rfl, ?hya4⟩) (DL.of hsel) ?resta4
              case hya4 => (intro w hSw; go_simp; try rfl)
              try simp only [Act.put, List.setIfInBounds_toArray, List.set_cons_zero, List.set_cons_succ, List.getElem_toArray, List.getElem_cons_zero, List.getElem_cons_succ]
              refine wpAnyT_load (i := 4) (v := ?va5) rfl (by kernel_rfl) (by kernel_rfl) (by kernel_rfl) rfl (by kernel_rfl) (by kernel_rfl) (fun _ _ _ h => h) (Or.inl ⟨by rfl, ?hya5⟩) (DL.of hsel) ?resta5
              case hya5 => (intro w hSw; obtain ⟨s1, s2, s3, s4, s5⟩ := hSw rfl; go_simp; try rfl)
              try simp only [Act.put, List.setIfInBounds_toArray, List.set_cons_zero, List.set_cons_succ, List.getElem_toArray, List.getElem_cons_zero, List.getElem_cons_succ]
              refine wpAnyT_take (i := 5) (v := ?va6) rfl (by kernel_rfl) (by kernel_rfl) (by kernel_rfl) rfl (fun _ _ _ h => h) (Or.inl ⟨by rfl, ?hya6⟩) (DL.of hsel) ?resta6
              case hya6 => (intro w hSw; go_simp; try rfl)
              try simp only [Act.put, List.setIfInBounds_toArray, List.set_cons_zero, List.set_cons_succ, List.getElem_toArray, List.getElem_cons_zero, List.getElem_cons_succ]
              refine wpAnyT_load (i := 6) (v := ?va7) rfl (by kernel_rfl) (by kernel_rfl) (by kernel_rfl) rfl (by kernel_rfl) (by kernel_rfl) (fun _ _ _ h => h) (Or.inl ⟨by rfl, ?hya7⟩) (DL.of hsel) ?resta7
              case hya7 => (intro w hSw; obtain ⟨s1, s2, s3, s4, s5⟩ := hSw rfl; go_simp; try rfl)
              try simp only [Act.put, List.setIfInBounds_toArray, List.set_cons_zero, List.set_cons_succ, List.getElem_toArray, List.getElem_cons_zero, List.getElem_cons_succ]
              refine wpAnyT_take (i := 7) (v := ?va8) rfl (by kernel_rfl) (by kernel_rfl) (by kernel_rfl) rfl (fun _ _ _ h => h) (Or.inl ⟨by rfl, ?hya8⟩) (DL.of hsel) ?resta8
              case hya8 => (intro w hSw; go_simp; try rfl)
              try simp only [Act.put, List.setIfInBounds_toArray, List.set_cons_zero, List.set_cons_succ, List.getElem_toArray, List.getElem_cons_zero, List.getElem_cons_succ]
              refine wpAnyT_take (i := 8) (v := ?va9) rfl (by kernel_rfl) (by kernel_rfl) (by kernel_rfl) rfl (fun _ _ _ h => h) (Or.inl ⟨by rfl, ?hya9⟩) (DL.of hsel) ?resta9
              case hya9 => (intro w hSw; go_simp; try rfl)
              try simp only [Act.put, List.setIfInBounds_toArray, List.set_cons_zero, List.set_cons_succ, List.getElem_toArray, List.getElem_cons_zero, List.getElem_cons_succ]
              refine wpAnyT_load (i := 9) (v := ?va10) rfl (by kernel_rfl) (by kernel_rfl) (by kernel_rfl) rfl (by kernel_rfl) (by kernel_rfl) (fun _ _ _ h => h) (Or.inl ⟨by rfl, ?hya10⟩) (DL.of hsel) ?resta10
              case hya10 => (intro w hSw; obtain ⟨s1, s2, s3, s4, s5⟩ := hSw rfl; go_simp; try rfl)
              try simp only [Act.put, List.setIfInBounds_toArray, List.set_cons_zero, List.set_cons_succ, List.getElem_toArray, List.getElem_cons_zero, List.getElem_cons_succ]
              refine wpAnyT_ready (rs := [10]) (by kernel_rfl) (by simp) ?_
              refine AllReadyT.cons rfl (fun K hK => ?_) AllReadyT.nil
              try simp only [Act.put, List.setIfInBounds_toArray, List.set_cons_zero, List.set_cons_succ, List.getElem_toArray, List.getElem_cons_zero, List.getElem_cons_succ]
              go_simp
              go_at_call 39
              refine HJOIN.out.mono ?_
              rintro e WJ ⟨rfl, rJ, wsJ, hg, hm⟩
              obtain ⟨hIJ, hKJ, hsubJ, hselJ⟩ := HAFT.out rJ wsJ WJ hg hm
              have HIJ := Lib.hid hIJ
              have HKJ := Lib.hid hKJ
              have HSJ := Lib.hid hsubJ
              have hfb := frozen_of_row WJ bb 0 _ _ hIJ.s.bbox
              clear hg hm hIJ hKJ hsubJ
              cases hnew : newTo wsO wsI wsI.length
              · refine hK.out _ _ (DL.of hselJ) (fun _ => ?_)
                clear hK K
                try simp only [Act.put, List.setIfInBounds_toArray, List.set_cons_zero, List.set_cons_succ, List.getElem_toArray, List.getElem_cons_zero, List.getElem_cons_succ]
                refine wpAnyT_take (i := 11) (v := ?vbf1) rfl (by kernel_rfl) (by kernel_rfl) (by kernel_rfl) rfl (fun _ _ _ h => h) (Or.inl ⟨by rfl, ?hybf1⟩) (DL.of hselJ) ?restbf1
                case hybf1 => (intro w hSw; go_simp; try rfl)
                try simp only [Act.put, List.setIfInBounds_toArray, List.set_cons_zero, List.set_cons_succ, List.getElem_toArray, List.getElem_cons_zero, List.getElem_cons_succ]
                refine wpAnyT_load (i := 12) (v := ?vbf2) rfl (by kernel_rfl) (by kernel_rfl) (by kernel_rfl) rfl (by kernel_rfl) (by kernel_rfl) (fun _ _ _ h => h) (Or.inl ⟨by rfl, ?hybf2⟩) (DL.of hselJ) ?restbf2
                case hybf2 => (intro w hSw; obtain ⟨s1, s2, s3, s4, s5⟩ := hSw rfl; go_simp; try rfl)
                try simp only [Act.put, List.setIfInBounds_toArray, List.set_cons_zero, List.set_cons_succ, List.getElem_toArray, List.getElem_cons_zero, List.getElem_cons_succ]
                refine wpAnyT_take (i := 13) (v := ?vbf3) rfl (by kernel_rfl) (by kernel_rfl) (by kernel_rfl) rfl (fun _ _ _ h => h) (Or.inl ⟨by rfl, ?hybf3⟩) (DL.of hselJ) ?restbf3
                case hybf3 => (intro w hSw; go_simp; try rfl)
                try simp only [Act.put, List.setIfInBounds_toArray, List.set_cons_zero, List.set_cons_succ, List.getElem_toArray, List.getElem_cons_zero, List.getElem_cons_succ]
                refine wpAnyT_ready (rs := [14]) (by kernel_rfl) (by simp) ?_
                refine AllReadyT.cons rfl (fun K hK => ?_) AllReadyT.nil
                obtain ⟨s1, s2, s3, s4, s5⟩ := hselJ
                try simp only [Act.put, List.getElem_toArray, List.getElem_cons_zero, List.getElem_cons_succ]
                go_simp
                refine hK.out _ _ (DL.late (by kernel_rfl)) (fun _ => ?_)
                clear hK K
                try simp only [Act.put, List.setIfInBounds_toArray, List.set_cons_zero, List.set_cons_succ, List.getElem_toArray, List.getElem_cons_zero, List.getElem_cons_succ]
                refine wpAnyT_done (by kernel_rfl) ?_ _
                rw [hnew] at HIJ
                clear hfb s1 s2 s3 s4 s5 hsel hnew
                dsimp only [PlainQ]
                gi_wp2_with fail
                go_roundw
                case rel => exact HEND.out b _ _ HIJ.out HKJ.out HSJ.out
                case measure => simp [intOf]; omega
              · refine hK.out _ _ (DL.of hselJ) (fun _ => ?_)
                clear hK K
                try simp only [Act.put, List.setIfInBounds_toArray, List.set_cons_zero, List.set_cons_succ, List.getElem_toArray, List.getElem_cons_zero, List.getElem_cons_succ]
                refine wpAnyT_take (i := 11) (v := ?vbt1) rfl (by kernel_rfl) (by kernel_rfl) (by kernel_rfl) rfl (fun _ _ _ h => h) (Or.inl ⟨by rfl, ?hybt1⟩) (DL.of hselJ) ?restbt1
                case hybt1 => (intro w hSw; go_simp; try rfl)
                try simp only [Act.put, List.setIfInBounds_toArray, List.set_cons_zero, List.set_cons_succ, List.getElem_toArray, List.getElem_cons_zero, List.getElem_cons_succ]
                refine wpAnyT_ready (rs := [12]) (by kernel_rfl) (by simp) ?_
                refine AllReadyT.cons rfl (fun K hK => ?_) AllReadyT.nil
                try simp only [Act.put, List.setIfInBounds_toArray, List.set_cons_zero, List.set_cons_succ, List.getElem_toArray, List.getElem_cons_zero, List.getElem_cons_succ]
                try go_simp
                refine hK.out _ _ (DL.of hselJ) (fun _ => ?_)
                clear hK K
                try simp only [Act.put, List.setIfInBounds_toArray, List.set_cons_zero, List.set_cons_succ, List.getElem_toArray, List.getElem_cons_zero, List.getElem_cons_succ]
                refine wpAnyT_take (i := 13) (v := ?vbt2) rfl (by kernel_rfl) (by kernel_rfl) (by kernel_rfl) rfl (fun _ _ _ h => h) (Or.inl ⟨by rfl, ?hybt2⟩) (DL.of hselJ) ?restbt2
                case hybt2 => (intro w hSw; go_simp; try rfl)
                try simp only [Act.put, List.setIfInBounds_toArray, List.set_cons_zero, List.set_cons_succ, List.getElem_toArray, List.getElem_cons_zero, List.getElem_cons_succ]
                refine wpAnyT_ready (rs := [14]) (by kernel_rfl) (by simp) ?_
                refine AllReadyT.cons rfl (fun K hK => ?_) AllReadyT.nil
                obtain ⟨s1, s2, s3, s4, s5⟩ := hselJ
                try simp only [Act.put, List.getElem_toArray, List.getElem_cons_zero, List.getElem_cons_succ]
                go_simp
                refine hK.out _ _ (DL.late (by kernel_rfl)) (fun _ => ?_)
                clear hK K
                try simp only [Act.put, List.setIfInBounds_toArray, List.set_cons_zero, List.set_cons_succ, List.getElem_toArray, List.getElem_cons_zero, List.getElem_cons_succ]
                refine wpAnyT_done (by kernel_rfl) ?_ _
                rw [hnew] at HIJ
                clear hfb s1 s2 s3 s4 s5 hsel hnew
                dsimp only [PlainQ]
                gi_wp2_with fail
                go_roundw
                case rel => exact HEND.out true _ _ HIJ.out HKJ.out HSJ.out
                case measure => simp [intOf]; omega
              -- END region 15
              -- </done>
            · obtain rfl : k = L.length := by omega
              have HI2 := Lib.hid hI
              have HK2 := Lib.hid hKT
              have HS2 := Lib.hid hsub
              clear hI hKT hsub
              have hqr := HQ.out.kt (HK1.out.trans HK2.out)
              obtain ⟨wd, hwd⟩ : ∃ wd, wd = wr.drew := ⟨_, rfl⟩
              have hdr : Below wr.heap.size wr wd := by rw [hwd]; exact (Below.refl _ wr).drew
              have hId := HI2.out.below hdr
              have hqd := hqr.kt (KT.of_below hdr)
              obtain ⟨⟨bO, rO, wsO⟩, hpO⟩ : ∃ p, ps[n + i]? = some p := ⟨_, List.getElem?_eq_getElem (by have := hId.s.flow.len; omega)⟩
              have hmO : (ps.map BM.b)[n + i]? = some bO := by rw [List.getElem?_map, hpO]; rfl
              have hsel := hId.s.selE hin' hmO hqd
              have hatO := hId.s.flow.at_ (n + i) (by have := hId.s.flow.len; omega)
              rw [(List.getElem?_eq_some_iff.1 hpO).2] at hatO
              have hOe : outS n ps i = memW wsO := by rw [outS_at _ hin', wsAt_eq _ _ (by have := hId.s.flow.len; omega), (List.getElem?_eq_some_iff.1 hpO).2]
              have hkok : BlkOk ⟨ins, kind, ka, tgt, els⟩ := (HDA.out _ (by rw [← HX.out.1]; exact List.getElem_mem hik)).1
              have HID := Lib.hid hId
              have HATO := Lib.hid hatO
              have HOE := Lib.hid hOe
              have HWD := Lib.hid hwd
              have HDR := Lib.hid hdr
              clear hqr hId hqd hpO hmO hatO hOe hdr hwd
              gi_upto_region 17 with fail
              gi_cut [9] from 60 (fun v wz => ∃ (s B9 : Nat) (r : Option Nat) (ws : List Nat), v = .pointer (some ⟨B9, 0, none⟩) ∧ BlkE w ks bx bl bb n cF (.slice (some ⟨gI, oI, none⟩) n cI) (.slice (some ⟨gO, oO, none⟩) n cO) ds (totB 65536 ps0) Bn (.slice A n c) b ps ⟨s, r, ws⟩ B9 (metR pre) wz ∧ KT wd wz ∧ memW ws = endP ⟨ins, kind, ka, tgt, els⟩ (memW wsO))
              case first =>
                -- <done>
                -- GENERATED: region 17
                refine wpIn_region_T (SelE bl gO oO cO n (oO + i) bO q ⟨⟨ins, kind, ka, tgt, els⟩, Ax, cx⟩) [8] (by kernel_rfl) (by kernel_rfl) (by rw [← HWD.out]; exact hsel) (fun _ => ?_)
                rw [← HWD.out]
                refine wpAnyT_load (i := 0) (v := ?vc1) rfl (by kernel_rfl) (by kernel_rfl) (by kernel_rfl) rfl (by kernel_rfl) (by kernel_rfl) (fun _ _ _ h => h) (Or.inl ⟨by rfl, ?hyc1⟩) (DL.of hsel) ?restc1
                case hyc1 => (intro w hSw; obtain ⟨⟨s1, s2, s3, s4, s5⟩, s6, s7⟩ := hSw rfl; go_simp; try rfl)
                try simp only [Act.put, List.setIfInBounds_toArray, List.set_cons_zero, List.set_cons_succ, List.getElem_toArray, List.getElem_cons_zero]
                refine wpAnyT_take (i := 1) (v := ?vc2) rfl (by kernel_rfl) (by kernel_rfl) (by kernel_rfl) rfl (fun _ _ _ h => h) (Or.inl ⟨by rfl, ?hyc2⟩) (DL.of hsel) ?restc2
                case hyc2 => (intro w hSw; go_simp; try rfl)
                try simp only [Act.put, List.setIfInBounds_toArray, List.set_cons_zero, List.set_cons_succ, List.getElem_toArray, List.getElem_cons_zero, List.getElem_cons_succ]
                refine wpAnyT_load (i := 2) (v := ?vc3) rfl (by kernel_rfl) (by kernel_rfl) (by kernel_rfl) rfl (by kernel_rfl) (by kernel_rfl) (fun _ _ _ h => h) (Or.inl ⟨by rfl, ?hyc3⟩) (DL.of hsel) ?restc3
                case hyc3 => (intro w hSw; obtain ⟨⟨s1, s2, s3, s4, s5⟩, s6, s7⟩ := hSw rfl; go_simp; try rfl)
                try simp only [Act.put, List.setIfInBounds_toArray, List.set_cons_zero, List.set_cons_succ, List.getElem_toArray, List.getElem_cons_zero, List.getElem_cons_succ]
                refine wpAnyT_take (i := 3) (v := ?vc4) rfl (by kernel_rfl) (by kernel_rfl) (by kernel_rfl) rfl (fun _ _ _ h => h) (Or.inl ⟨by rfl, ?hyc4⟩) (DL.of hsel) ?restc4
                case hyc4 => (intro w hSw; go_simp; try rfl)
                try simp only [Act.put, List.setIfInBounds_toArray, List.set_cons_zero, List.set_cons_succ, List.getElem_toArray, List.getElem_cons_zero, List.getElem_cons_succ]
                refine wpAnyT_take (i := 4) (v := ?vc5) rfl (by kernel_rfl) (by kernel_rfl) (by kernel_rfl) rfl (fun _ _ _ h => h) (Or.inl ⟨by rfl, ?hyc5⟩) (DL.of hsel) ?restc5
                case hyc5 => (intro w hSw; go_simp; try rfl)
                try simp only [Act.put, List.setIfInBounds_toArray, List.set_cons_zero, List.set_cons_succ, List.getElem_toArray, List.getElem_cons_zero, List.getElem_cons_succ]
                refine wpAnyT_load (i := 5) (v := ?vc6) rfl (by kernel_rfl) (by kernel_rfl) (by kernel_rfl) rfl (by kernel_rfl) (by kernel_rfl) (fun _ _ _ h => h) (Or.inl ⟨by rfl, ?hyc6⟩) (DL.of hsel) ?restc6
                case hyc6 => (intro w hSw; obtain ⟨⟨s1, s2, s3, s4, s5⟩, s6, s7⟩ := hSw rfl; go_simp; try rfl)
                try simp only [Act.put, List.setIfInBounds_toArray, List.set_cons_zero, List.set_cons_succ, List.getElem_toArray, List.getElem_cons_zero, List.getElem_cons_succ]
                refine wpAnyT_ready (rs := [6, 7]) (by kernel_rfl) (by simp) ?_
                refine AllReadyT.cons rfl (fun K hK => ?_) (AllReadyT.cons rfl (fun K hK => ?_) AllReadyT.nil)
                · try simp only [Act.put, List.setIfInBounds_toArray, List.set_cons_zero, List.set_cons_succ, List.getElem_toArray, List.getElem_cons_zero, List.getElem_cons_succ]
                  go_simp
                  go_at_call 40
                  refine (ending_any ⟨ins, kind, ka, tgt, els⟩ hkok Ax cx (HATO.out)).mono ?_
                  rintro e WE ⟨s, rs, ws, rfl, hg, hm⟩
                  have hselE : SelE bl gO oO cO n (oO + i) bO q ⟨⟨ins, kind, ka, tgt, els⟩, Ax, cx⟩ WE := selE_below hsel (hg.below)
                  have HG := Lib.hid hg
                  have HM := Lib.hid (funext hm)
                  clear hg hm
                  refine hK.out _ _ (DL.of hselE) (fun _ => ?_)
                  clear hK K
                  try simp only [Act.put, List.setIfInBounds_toArray, List.set_cons_zero, List.set_cons_succ, List.getElem_toArray, List.getElem_cons_zero, List.getElem_cons_succ]
                  refine wpAnyT_ready (rs := [7]) (by kernel_rfl) (by simp) ?_
                  refine AllReadyT.cons rfl (fun K hK => ?_) AllReadyT.nil
                  try simp only [Act.put, List.setIfInBounds_toArray, List.set_cons_zero, List.set_cons_succ, List.getElem_toArray, List.getElem_cons_zero, List.getElem_cons_succ]
                  go_simp
                  refine hK.out _ _ (DL.of (selE_below hselE ((Below.refl _ _).alloc (Nat.le_refl _) _))) (fun _ => ?_)
                  clear hK K
                  try simp only [Act.put, List.setIfInBounds_toArray, List.set_cons_zero, List.set_cons_succ, List.getElem_toArray, List.getElem_cons_zero, List.getElem_cons_succ]
                  refine wpAnyT_ready (rs := [8]) (by kernel_rfl) (by simp) ?_
                  refine AllReadyT.cons rfl (fun K hK => ?_) AllReadyT.nil
                  try simp only [Act.put, List.getElem_toArray, List.getElem_cons_zero, List.getElem_cons_succ]
                  go_simp
                  refine hK.out _ _ (DL.late (by kernel_rfl)) (fun _ => ?_)
                  clear hK K
                  try simp only [Act.put, List.setIfInBounds_toArray, List.set_cons_zero, List.set_cons_succ, List.getElem_toArray, List.getElem_cons_zero, List.getElem_cons_succ]
                  refine wpAnyT_done (by kernel_rfl) ?_ _
                  dsimp only [PlainQ]
                  gi_wp2_with fail
                  gi_meet
                  obtain ⟨p1, p2⟩ := HID.out.push (HG.out.alloc (.cells #[.pointer (some ⟨s, 0, none⟩)] 65)) (Boxed.new WE _ _)
                  exact ⟨s, _, rs, ws, rfl, p1, p2, HM.out⟩
                · try simp only [Act.put, List.setIfInBounds_toArray, List.set_cons_zero, List.set_cons_succ, List.getElem_toArray, List.getElem_cons_zero, List.getElem_cons_succ]
                  go_simp
                  refine hK.out _ _ (DL.of (selE_below hsel ((Below.refl _ _).alloc (Nat.le_refl _) _))) (fun _ => ?_)
                  clear hK K
                  try simp only [Act.put, List.setIfInBounds_toArray, List.set_cons_zero, List.set_cons_succ, List.getElem_toArray, List.getElem_cons_zero, List.getElem_cons_succ]
                  refine wpAnyT_ready (rs := [6]) (by kernel_rfl) (by simp) ?_
                  refine AllReadyT.cons rfl (fun K hK => ?_) AllReadyT.nil
                  try simp only [Act.put, List.setIfInBounds_toArray, List.set_cons_zero, List.set_cons_succ, List.getElem_toArray, List.getElem_cons_zero, List.getElem_cons_succ]
                  go_simp
                  go_at_call 40
                  refine (ending_any ⟨ins, kind, ka, tgt, els⟩ hkok Ax cx (bits_below HATO.out ((Below.refl _ _).alloc (Nat.le_refl _) _))).mono ?_
                  rintro e WE ⟨s, rs, ws, rfl, hg, hm⟩
                  have hselE : SelE bl gO oO cO n (oO + i) bO q ⟨⟨ins, kind, ka, tgt, els⟩, Ax, cx⟩ WE := selE_below hsel (((Below.refl _ wd).alloc (Nat.le_refl _) _).trans (hg.below.mono (by simp)))
                  have HG := Lib.hid hg
                  have HM := Lib.hid (funext hm)
                  clear hg hm
                  have h9 := (HG.out.below.block wd.heap.size (by simp)).trans (heap_alloc_new wd (.cells #[.pointer none] 65))
                  have h9c : WE.cell? ⟨wd.heap.size, 0, none⟩ = some (.pointer none) := by rw [cell_of_row _ _ _ _ _ _ h9]; rfl
                  have h9f := frozen_of_row WE wd.heap.size 0 _ _ h9
                  have H9 := Lib.hid h9
                  clear h9
                  refine hK.out _ _ (DL.of hselE) (fun _ => ?_)
                  clear hK K
                  try simp only [Act.put, List.setIfInBounds_toArray, List.set_cons_zero, List.set_cons_succ, List.getElem_toArray, List.getElem_cons_zero, List.getElem_cons_succ]
                  refine wpAnyT_ready (rs := [8]) (by kernel_rfl) (by simp) ?_
                  refine AllReadyT.cons rfl (fun K hK => ?_) AllReadyT.nil
                  try simp only [Act.put, List.getElem_toArray, List.getElem_cons_zero, List.getElem_cons_succ]
                  go_simp
                  refine hK.out _ _ (DL.late (by kernel_rfl)) (fun _ => ?_)
                  clear hK K
                  try simp only [Act.put, List.setIfInBounds_toArray, List.set_cons_zero, List.set_cons_succ, List.getElem_toArray, List.getElem_cons_zero, List.getElem_cons_succ]
                  refine wpAnyT_done (by kernel_rfl) ?_ _
                  clear h9c h9f
                  dsimp only [PlainQ]
                  gi_wp2_with fail
                  gi_meet
                  obtain ⟨p1, p2⟩ := HID.out.push (HG.out.before (.pointer (some ⟨s, 0, none⟩))) (heap_setCell_same WE wd.heap.size 0 _ _ (.pointer (some ⟨s, 0, none⟩)) H9.out)
                  exact ⟨s, _, rs, ws, rfl, p1, p2, HM.out⟩
                -- END region 17
                -- </done>
              case rest =>
                obtain ⟨s, B9, rs, ws, rfl, hE, hKE, hmE⟩ := hcut
                have hKZ := ((HK1.out.trans HK2.out).trans (KT.of_below HDR.out)).trans hKE
                have hc0 := (HQ.out.kt hKZ).cells.1
                dsimp only at hc0
                have HE := Lib.hid hE
                have HKZ := Lib.hid hKZ
                have HME := Lib.hid hmE
                clear hE hKE hmE hKZ hsel HWD HDR HID HATO
                gi_wp2_with fail
                refine ⟨trivial, (CallsIn.inRound l (callsIn_wide.2 (backI_fn _ _ _ _))).mono ?_⟩
                rintro e V2 ⟨rfl, hV2⟩
                obtain ⟨Bn2, hBn2⟩ : ∃ Bn2, Bn2 = wc.heap.size := ⟨_, rfl⟩
                rw [← hBn2]
                have hal : Below wc.heap.size wc V2 := by rw [hV2]; exact (Below.refl _ _).alloc (Nat.le_refl _) _
                have hb2 : Boxed V2 Bn2 43 (.slice Ax ins.length cx) := by rw [hV2, hBn2]; exact Boxed.new _ _ _
                have HE2 := Lib.hid (HE.out.below hal)
                have HKZ2 := Lib.hid (HKZ.out.trans (KT.of_below hal))
                obtain ⟨r0, hr0⟩ := HREC.out
                have hl0 : V2.heap[l]? = some (.loop r0) := HKZ2.out.blk l _ hr0 (by rintro ⟨c, f, h | h | h⟩ <;> cases h)
                clear hV2 hBn2 hal hc0 HE HKZ hr0
                obtain ⟨xs, hxs, hxr, hxa⟩ := HX.out.2.1
                have hxl : xs.length = ins.length := by rw [← hxs, List.length_map]
                have hw2 : w.heap.size ≤ V2.heap.size := HE2.out.s.flow.below.size
                have hds2 : ∀ d ∈ ds, ∀ E, d.target = .collected E → E < V2.heap.size := HE2.out.marks.lt
                have hBn2 : Bn2 < V2.heap.size := lt_of_heap hb2
                have hni : ins.length ≤ 1000 := HX.out.2.2.1.nins
                have hseq2 := stops_guard (backI_stops (8 - 1 - 1 - 1) (by omega) Bn2 Ax cx xs (by omega) V2 (by rw [hxl]; exact Boxed.cell hb2) (hxr.below HE2.out.s.flow.below))
                gi_wp2_with fail
                refine wpIn_rangeFunc_ownN rfl hl0 (by omega) (gf := 58) (lb := #[.pointer (some ⟨Bn2, 0, none⟩)]) rfl trivial (enters_of Try.func58 (by kernel_rfl) rfl)
                  (SeqStopsK.inRound l hseq2) KpG.trans (fun W l o o' hl _ _ _ hbp => KpW.put hBn2 (fun g off e => Nat.lt_of_lt_of_le (insRow_lt hxr hbp g off e) hw2) W l o' hl) (Below.refl _ _) (fun _ => rfl)
                  (fun (pre2 : List (ElR xs)) Y => InsI w ks bx bl bb n cF (.slice (some ⟨gI, oI, none⟩) n cI) (.slice (some ⟨gO, oO, none⟩) n cO) ds (totB 65536 ps0) Bn (.slice A n c) b ps s B9 (metR pre) V2 Bn2 (.slice Ax ins.length cx) (foldA (valsR pre2) (endP ⟨ins, kind, ka, tgt, els⟩ (memW wsO))) Y)
                  (fun _ _ _ => False)
                  (fun pre2 X Y row h hg hr => h.own hg hr hw2 hds2) (fun _ _ _ _ _ h _ _ => h) ⟨⟨rs, ws, HE2.out, HME.out⟩, KT.refl _, hb2⟩
                  (fun (x : ElR xs) a' Y => ∃ q2, a' = { tmps := #[.agg #[.string name, .int .i64 params, .int .i64 regs, .slice A n c], .pointer (some ⟨bx, 0, none⟩), .pointer (some ⟨bx + 1, 0, none⟩), .pointer (some ⟨bl, 0, none⟩), .pointer (some ⟨bb, 0, none⟩), .int .i64 (i : Nat), .pointer (some ⟨q, 0, none⟩), undef, u8, .pointer (some ⟨B9, 0, none⟩), undef, .pointer (some ⟨q2, 0, none⟩), .pointer (some ⟨bx, 3, none⟩), .slice A n c, .int .i64 (n : Nat), .int .i64 (n : Nat), .bool false, u17, u18, u19, u20, u21, u22, u23, u24, u25, u26, u27, u28, u29, u30, u31, .bool true, .pointer (some ⟨bx, 3, none⟩), .slice A n c, .func (.func 54) #[] #[.pointer (some ⟨Bn, 0, none⟩)], .int .i64 (i : Nat), .agg #[.slice Ax ins.length cx, .int .i64 kind, .int .i64 ka, .int .i64 tgt, .int .i64 els], .agg #[.slice Ax ins.length cx, .int .i64 kind, .int .i64 ka, .int .i64 tgt, .int .i64 els], .slice A1 L.length c1, .int .i64 (L.length : Nat), .int .i64 (L.length : Nat), .bool false, u43, u44, u45, u46, u47, u48, u49, u50, u51, u52, u53, u54, u55, u56, u57, u58, u59, u60, u61, u62, u63, u64, u65, u66, .pointer (some ⟨q, 0, none⟩), .slice Ax ins.length cx, .func (.func 58) #[] #[.pointer (some ⟨Bn2, 0, none⟩)], .int .i64 (x.1.1 : Nat), insAgg x.1.2.k x.1.2.A x.1.2.c, u72, u73, u74, u75, u76, u77, u78, u79, u80, u81, u82, u83, u84, u85, u86], defers := [] } ∧ InsBox Y q2 x.1.2)
                  (fun x a' _ X Y row ⟨q2, e, h⟩ hg hr => ⟨q2, e, h.own hg fun r e => (hr r e).2⟩) ?hassign2 ?hbody2 ?hdone2 ?hstop2
                case hassign2 =>
                  rintro l2 pre2 ⟨⟨i2, ⟨⟨kd, op, d, a2, b2, num, nm, args⟩, Aa, ca⟩⟩, hx2⟩ Y K hI hK
                  have hal : Below Y.heap.size Y (Y.alloc (.cells #[.int .i64 kd, .int .i64 op, .int .i64 d, .int .i64 a2, .int .i64 b2, .int .i32 num, .string nm, .slice Aa args.length ca] 48)) := (Below.refl _ _).alloc (Nat.le_refl _) _
                  obtain ⟨⟨rq, wq, hq1, hq2⟩, hq3, hq4⟩ := hI
                  have HK := Lib.hid (fun a' h => hK a' _ ((KT.of_below hal).from _) (fun hbp => (KT.of_below hal).kpwI hq4 (insRow_lt hxr hbp) hq1.s.flow.below (hq1.below hal).s.flow.below) (InsI.below ⟨⟨rq, wq, hq1, hq2⟩, hq3, hq4⟩ hal) h)
                  clear hK hal hseq2 hq1 hq2 hq3 hq4
                  dsimp only [encI, insAgg]
                  gi_wp2_with fail
                  exact HK.out _ ⟨Y.heap.size, rfl, heap_alloc_new Y _⟩
                case hbody2 =>
                  rintro l2 pre2 x2 a' Y hl2 hrec2 ⟨⟨rq, wq, hE3, hm3⟩, hk3, hb3⟩ ⟨q2, rfl, hq2⟩ hlt2
                  obtain ⟨hin2, hbi2⟩ := revI_mem x2.2
                  have hmem : x2.1.2 ∈ xs := by rw [← hbi2]; exact List.getElem_mem _
                  clear hin2 hbi2
                  obtain ⟨y, hy⟩ : ∃ y, y = x2.1 := ⟨_, rfl⟩
                  simp only [← hy] at hmem hq2 ⊢
                  have HY2 := Lib.hid hy
                  clear hy
                  obtain ⟨i2, ⟨⟨kd, op, d, a2, b2, num, nm, args⟩, Aa, ca⟩⟩ := y
                  dsimp only at hmem hq2
                  have hrd : ReadsAt Y Aa (ints args) := readsBelow (hxa _ hmem) hE3.s.flow.below
                  have hix : (⟨kd, op, d, a2, b2, num, nm, args⟩ : Ins) ∈ ins := by rw [← hxs]; exact List.mem_map.2 ⟨_, hmem, rfl⟩
                  have hiok : InsOk ⟨kd, op, d, a2, b2, num, nm, args⟩ := (HDA.out ⟨ins, kind, ka, tgt, els⟩ (by rw [← HX.out.1]; exact List.getElem_mem hik)).2 _ hix
                  have hnf : 0 < args.length → ∀ g off, Aa = some ⟨g, off, none⟩ → ¬ FootB s rq g := fun hp g off e => by
                    have h1 := (hxa _ hmem).lt (by simpa [ints] using hp) e
                    have h2 := hE3.s.flow.low ⟨s, rq, wq⟩ (by simp)
                    rintro (h3 | h3)
                    · have := h2.1; dsimp only at this; omega
                    · have := h2.2 g h3.symm; omega
                  have HAH := Lib.hid (ahead_any ⟨kd, op, d, a2, b2, num, nm, args⟩ hiok Aa ca (hE3.s.flow.sets.at_ ⟨s, rq, wq⟩ (by simp)) hrd hnf)
                  obtain ⟨e0, e1, e2, e3, e4, e5, e6, e7⟩ := hq2.cells
                  dsimp only at e0 e1 e2 e3 e4 e5 e6 e7
                  have e9 := Boxed.cell hE3.b9
                  dsimp only at e9
                  have HE3 := Lib.hid hE3
                  have HM3 := Lib.hid (And.intro hm3 (And.intro hk3 hb3))
                  clear hmem hq2 hrec2 hrd hix hiok hnf hE3 hm3 hk3 hb3 hseq2
                  dsimp only [insAgg]
                  gi_wp2_with fail
                  refine ⟨trivial, (CallsIn.inRound l2 (CallsIn.inRound l (callsIn_wide.2 HAH.out))).mono ?_⟩
                  rintro e W6 ⟨⟨v, rfl⟩, r6, ws6, g6, m6⟩
                  obtain ⟨h6, k6⟩ := InsI.step HE3.out HM3.out.2.1 HM3.out.2.2 HM3.out.1 g6 m6
                  have H6 := Lib.hid (And.intro h6 k6)
                  clear g6 m6 h6 k6 e0 e1 e2 e3 e4 e5 e6 e7 e9
                  gi_wp2_with fail
                  refine ⟨H6.out.2.from _, fun hbp => H6.out.2.kpwI HM3.out.2.2 (insRow_lt hxr hbp) HE3.out.s.flow.below ?_, ?_⟩
                  · obtain ⟨⟨r7, w7, h7, _⟩, _⟩ := H6.out.1; exact h7.s.flow.below
                  · dsimp only; rw [valsR_snoc, foldA_snoc, ← HY2.out]; exact H6.out.1
                case hdone2 =>
                  rintro ys Y hS2 ⟨⟨rq, wq, hE3, hm3⟩, hk3, hb3⟩
                  rw [hS2, foldA_all xs ⟨ins, kind, ka, tgt, els⟩ hxs] at hm3
                  obtain ⟨wd, hwd⟩ : ∃ wd, wd = Y.drew := ⟨_, rfl⟩
                  have hdr : Below Y.heap.size Y wd := by rw [hwd]; exact (Below.refl _ Y).drew
                  have hEd := hE3.below hdr
                  have hps := hEd.s.flow.len
                  obtain ⟨⟨bI, rI, wsI⟩, hpI⟩ : ∃ p, ps[i]? = some p := ⟨_, List.getElem?_eq_getElem (by omega)⟩
                  have hmI : (ps.map BM.b)[i]? = some bI := by rw [List.getElem?_map, hpI]; rfl
                  have hsel : SelD bl bb gI oI cI n (oI + i) bI B9 s b wd := hEd.s.selD hin' hmI hEd.b9
                  have HJOIN := Lib.hid (show _ from join_any (b := bI) (c := s) (r := rI) (rc := rq) (ws := wsI) (wc := wq) (w := wd) (by have := hEd.s.flow.at_ i (by omega); rw [(List.getElem?_eq_some_iff.1 hpI).2] at this; exact this) (hEd.s.flow.sets.at_ ⟨s, rq, wq⟩ (by simp))
                    (by have := flow_neX hEd.s.flow i (by omega); rw [(List.getElem?_eq_some_iff.1 hpI).2] at this; exact this))
                  have HAFT : Hid (∀ (rJ : Option Nat) (wsJ : List Nat) (WJ : World), GrowAt wd bI rI wsI WJ rJ wsJ → (∀ x, memW wsJ x = (memW wsI x || memW wq x)) →
                      BlkI w ks bx bl bb n cF (.slice (some ⟨gI, oI, none⟩) n cI) (.slice (some ⟨gO, oO, none⟩) n cO) ds (totB 65536 ps0) Bn (.slice A n c) b (newTo wsI wq wq.length || b) (ps.set i ⟨bI, rJ, wsJ⟩) (metR pre ++ [i]) WJ ∧ KT Z WJ ∧
                        SelD bl bb gI oI cI n (oI + i) bI B9 s b WJ) := Lib.hid fun rJ wsJ WJ g hm => by
                    obtain ⟨q1, q2, q3⟩ := hEd.joinI HN.out hik hpI (by rw [HX.out.1, hm3, HOE.out]) (fun t ht => by rw [HX.out.1, ← HX.out.2.2.2] at ht; exact HS2.out t (by rw [List.take_length]; exact ht)) g hm
                    refine ⟨q1, (HKZ2.out.trans hk3).trans ((KT.of_below hdr).trans q2), q1.s.selD hin' (by rw [map_b_set _ _ hpI]; exact hmI) q3⟩
                  have HWD := Lib.hid hwd
                  clear hm3 hk3 hb3 hE3 hEd hdr hwd hpI hmI hps hS2 hseq2
                  gi_wp2_with fail
                  -- GENERATED: region 21
                  refine wpIn_region_T (SelD bl bb gI oI cI n (oI + i) bI B9 s b) [10] (by kernel_rfl) (by kernel_rfl) (by rw [← HWD.out]; exact hsel) (fun _ => ?_)
                  rw [← HWD.out]
                  refine wpAnyT_take (i := 0) (v := ?vd1) rfl (by kernel_rfl) (by kernel_rfl) (by kernel_rfl) rfl (fun _ _ _ h => h) (Or.inl ⟨by rfl, ?hyd1⟩) (DL.of hsel) ?restd1
                  case hyd1 => (intro w hSw; go_simp; try rfl)
                  try simp only [Act.put, List.setIfInBounds_toArray, List.set_cons_zero, List.set_cons_succ, List.getElem_toArray, List.getElem_cons_zero]
                  refine wpAnyT_load (i := 1) (v := ?vd2) rfl (by kernel_rfl) (by kernel_rfl) (by kernel_rfl) rfl (by kernel_rfl) (by kernel_rfl) (fun _ _ _ h => h) (Or.inl ⟨by rfl, ?hyd2⟩) (DL.of hsel) ?restd2
                  case hyd2 => (intro w hSw; obtain ⟨s1, s2, s3, s4⟩ := hSw rfl; go_simp; try rfl)
                  try simp only [Act.put, List.setIfInBounds_toArray, List.set_cons_zero, List.set_cons_succ, List.getElem_toArray, List.getElem_cons_zero, List.getElem_cons_succ]
                  refine wpAnyT_take (i := 2) (v := ?vd3) rfl (by kernel_rfl) (by kernel_rfl) (by kernel_rfl) rfl (fun _ _ _ h => h) (Or.inl ⟨by rfl, ?hyd3⟩) (DL.of hsel) ?restd3
                  case hyd3 => (intro w hSw; go_simp; try rfl)
                  try simp only [Act.put, List.setIfInBounds_toArray, List.set_cons_zero, List.set_cons_succ, List.getElem_toArray, List.getElem_cons_zero, List.getElem_cons_succ]
                  refine wpAnyT_take (i := 3) (v := ?vd4) rfl (by kernel_rfl) (by kernel_rfl) (by kernel_rfl) rfl (fun _ _ _ h => h) (Or.inl ⟨by rfl, ?hyd4⟩) (DL.of hsel) ?restd4
                  case hyd4 => (intro w hSw; go_simp; try rfl)
                  try simp only [Act.put, List.setIfInBounds_toArray, List.set_cons_zero, List.set_cons_succ, List.getElem_toArray, List.getElem_cons_zero, List.getElem_cons_succ]
                  refine wpAnyT_load (i := 4) (v := ?vd5) rfl (by kernel_rfl) (by kernel_rfl) (by kernel_rfl) rfl (by kernel_rfl) (by kernel_rfl) (fun _ _ _ h => h) (Or.inl ⟨by rfl, ?hyd5⟩) (DL.of hsel) ?restd5
                  case hyd5 => (intro w hSw; obtain ⟨s1, s2, s3, s4⟩ := hSw rfl; go_simp; try rfl)
                  try simp only [Act.put, List.setIfInBounds_toArray, List.set_cons_zero, List.set_cons_succ, List.getElem_toArray, List.getElem_cons_zero, List.getElem_cons_succ]
                  refine wpAnyT_load (i := 5) (v := ?vd6) rfl (by kernel_rfl) (by kernel_rfl) (by kernel_rfl) rfl (by kernel_rfl) (by kernel_rfl) (fun _ _ _ h => h) (Or.inl ⟨by rfl, ?hyd6⟩) (DL.of hsel) ?restd6
                  case hyd6 => (intro w hSw; obtain ⟨s1, s2, s3, s4⟩ := hSw rfl; go_simp; try rfl)
                  try simp only [Act.put, List.setIfInBounds_toArray, List.set_cons_zero, List.set_cons_succ, List.getElem_toArray, List.getElem_cons_zero, List.getElem_cons_succ]
                  refine wpAnyT_ready (rs := [6]) (by kernel_rfl) (by simp) ?_
                  refine AllReadyT.cons rfl (fun K hK => ?_) AllReadyT.nil
                  try simp only [Act.put, List.setIfInBounds_toArray, List.set_cons_zero, List.set_cons_succ, List.getElem_toArray, List.getElem_cons_zero, List.getElem_cons_succ]
                  go_simp
                  go_at_call 39
                  refine HJOIN.out.mono ?_
                  rintro e WJ ⟨rfl, rJ, wsJ, hg, hm⟩
                  obtain ⟨hIJ, hKJ, hselJ⟩ := HAFT.out rJ wsJ WJ hg hm
                  have HIJ := Lib.hid hIJ
                  have HKJ := Lib.hid hKJ
                  have hfb := frozen_of_row WJ bb 0 _ _ hIJ.s.bbox
                  clear hg hm hIJ hKJ
                  cases hnew : newTo wsI wq wq.length
                  · refine hK.out _ _ (DL.of hselJ) (fun _ => ?_)
                    clear hK K
                    try simp only [Act.put, List.setIfInBounds_toArray, List.set_cons_zero, List.set_cons_succ, List.getElem_toArray, List.getElem_cons_zero, List.getElem_cons_succ]
                    refine wpAnyT_take (i := 7) (v := ?vdf1) rfl (by kernel_rfl) (by kernel_rfl) (by kernel_rfl) rfl (fun _ _ _ h => h) (Or.inl ⟨by rfl, ?hydf1⟩) (DL.of hselJ) ?restdf1
                    case hydf1 => (intro w hSw; go_simp; try rfl)
                    try simp only [Act.put, List.setIfInBounds_toArray, List.set_cons_zero, List.set_cons_succ, List.getElem_toArray, List.getElem_cons_zero, List.getElem_cons_succ]
                    refine wpAnyT_load (i := 8) (v := ?vdf2) rfl (by kernel_rfl) (by kernel_rfl) (by kernel_rfl) rfl (by kernel_rfl) (by kernel_rfl) (fun _ _ _ h => h) (Or.inl ⟨by rfl, ?hydf2⟩) (DL.of hselJ) ?restdf2
                    case hydf2 => (intro w hSw; obtain ⟨s1, s2, s3, s4⟩ := hSw rfl; go_simp; try rfl)
                    try simp only [Act.put, List.setIfInBounds_toArray, List.set_cons_zero, List.set_cons_succ, List.getElem_toArray, List.getElem_cons_zero, List.getElem_cons_succ]
                    refine wpAnyT_take (i := 9) (v := ?vdf3) rfl (by kernel_rfl) (by kernel_rfl) (by kernel_rfl) rfl (fun _ _ _ h => h) (Or.inl ⟨by rfl, ?hydf3⟩) (DL.of hselJ) ?restdf3
                    case hydf3 => (intro w hSw; go_simp; try rfl)
                    try simp only [Act.put, List.setIfInBounds_toArray, List.set_cons_zero, List.set_cons_succ, List.getElem_toArray, List.getElem_cons_zero, List.getElem_cons_succ]
                    refine wpAnyT_ready (rs := [10]) (by kernel_rfl) (by simp) ?_
                    refine AllReadyT.cons rfl (fun K hK => ?_) AllReadyT.nil
                    obtain ⟨s1, s2, s3, s4⟩ := hselJ
                    try simp only [Act.put, List.getElem_toArray, List.getElem_cons_zero, List.getElem_cons_succ]
                    go_simp
                    refine hK.out _ _ (DL.late (by kernel_rfl)) (fun _ => ?_)
                    clear hK K
                    try simp only [Act.put, List.setIfInBounds_toArray, List.set_cons_zero, List.set_cons_succ, List.getElem_toArray, List.getElem_cons_zero, List.getElem_cons_succ]
                    refine wpAnyT_done (by kernel_rfl) ?_ _
                    rw [hnew] at HIJ
                    clear hfb s1 s2 s3 s4 hsel hnew
                    dsimp only [PlainQ]
                    gi_wp2_with fail
                    have hfin : BlkI w ks bx bl bb n cF (.slice (some ⟨gI, oI, none⟩) n cI) (.slice (some ⟨gO, oO, none⟩) n cO) ds (totB 65536 ps0) Bn (.slice A n c) b b (ps.set i ⟨bI, rJ, wsJ⟩) (metR pre ++ [i]) WJ := HIJ.out
                    have hkf := HKJ.out.trans hfin.store.2
                    refine ⟨hkf.from _, fun hbp => hkf.kpw HIZ.out.bn (blkRow_lt hrow hbp) HIZ.out.s.flow.below hfin.store.1.s.flow.below, (b), ps.set i ⟨bI, rJ, wsJ⟩, ?_⟩
                    rw [metR_snoc, ← HY.out]
                    exact hfin.store.1
                  · refine hK.out _ _ (DL.of hselJ) (fun _ => ?_)
                    clear hK K
                    try simp only [Act.put, List.setIfInBounds_toArray, List.set_cons_zero, List.set_cons_succ, List.getElem_toArray, List.getElem_cons_zero, List.getElem_cons_succ]
                    refine wpAnyT_take (i := 7) (v := ?vdt1) rfl (by kernel_rfl) (by kernel_rfl) (by kernel_rfl) rfl (fun _ _ _ h => h) (Or.inl ⟨by rfl, ?hydt1⟩) (DL.of hselJ) ?restdt1
                    case hydt1 => (intro w hSw; go_simp; try rfl)
                    try simp only [Act.put, List.setIfInBounds_toArray, List.set_cons_zero, List.set_cons_succ, List.getElem_toArray, List.getElem_cons_zero, List.getElem_cons_succ]
                    refine wpAnyT_ready (rs := [8]) (by kernel_rfl) (by simp) ?_
                    refine AllReadyT.cons rfl (fun K hK => ?_) AllReadyT.nil
                    try simp only [Act.put, List.setIfInBounds_toArray, List.set_cons_zero, List.set_cons_succ, List.getElem_toArray, List.getElem_cons_zero, List.getElem_cons_succ]
                    try go_simp
                    refine hK.out _ _ (DL.of hselJ) (fun _ => ?_)
                    clear hK K
                    try simp only [Act.put, List.setIfInBounds_toArray, List.set_cons_zero, List.set_cons_succ, List.getElem_toArray, List.getElem_cons_zero, List.getElem_cons_succ]
                    refine wpAnyT_take (i := 9) (v := ?vdt2) rfl (by kernel_rfl) (by kernel_rfl) (by kernel_rfl) rfl (fun _ _ _ h => h) (Or.inl ⟨by rfl, ?hydt2⟩) (DL.of hselJ) ?restdt2
                    case hydt2 => (intro w hSw; go_simp; try rfl)
                    try simp only [Act.put, List.setIfInBounds_toArray, List.set_cons_zero, List.set_cons_succ, List.getElem_toArray, List.getElem_cons_zero, List.getElem_cons_succ]
                    refine wpAnyT_ready (rs := [10]) (by kernel_rfl) (by simp) ?_
                    refine AllReadyT.cons rfl (fun K hK => ?_) AllReadyT.nil
                    obtain ⟨s1, s2, s3, s4⟩ := hselJ
                    try simp only [Act.put, List.getElem_toArray, List.getElem_cons_zero, List.getElem_cons_succ]
                    go_simp
                    refine hK.out _ _ (DL.late (by kernel_rfl)) (fun _ => ?_)
                    clear hK K
                    try simp only [Act.put, List.setIfInBounds_toArray, List.set_cons_zero, List.set_cons_succ, List.getElem_toArray, List.getElem_cons_zero, List.getElem_cons_succ]
                    refine wpAnyT_done (by kernel_rfl) ?_ _
                    rw [hnew] at HIJ
                    clear hfb s1 s2 s3 s4 hsel hnew
                    dsimp only [PlainQ]
                    gi_wp2_with fail
                    have hfin : BlkI w ks bx bl bb n cF (.slice (some ⟨gI, oI, none⟩) n cI) (.slice (some ⟨gO, oO, none⟩) n cO) ds (totB 65536 ps0) Bn (.slice A n c) b true (ps.set i ⟨bI, rJ, wsJ⟩) (metR pre ++ [i]) WJ := HIJ.out
                    have hkf := HKJ.out.trans hfin.store.2
                    refine ⟨hkf.from _, fun hbp => hkf.kpw HIZ.out.bn (blkRow_lt hrow hbp) HIZ.out.s.flow.below hfin.store.1.s.flow.below, (true), ps.set i ⟨bI, rJ, wsJ⟩, ?_⟩
                    rw [metR_snoc, ← HY.out]
                    exact hfin.store.1
                  -- END region 21
                case hstop2 => rintro _ _ _ _ h; exact h.elim
        case hstop => rintro _ _ _ _ _ _ h _; exact h.elim
end Go.Proofs.Ytlniohgnkihefaa
