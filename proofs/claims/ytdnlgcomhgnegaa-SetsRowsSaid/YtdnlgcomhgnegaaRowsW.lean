/- SetsRows: the walk. -/
import Derived.Test.YtdnlgcomhgnegaaRows0
import Derived.Maps.OwnSet
import Derived.Maps.OwnOps
namespace Go.Proofs.Ytdnlgcomhgnegaa
open Go.RowKit Go.Shelf Go.Maps
attribute [local go_sem] Oper.semAt_some

theorem int_law : Keyed Try.prog 3 := int_keyed Try.underlying3
theorem zero_str (w : World) : (zeroValue 9).run Try.prog w = .ok (.string ⟨#[]⟩) w := by kernel_rfl
theorem look_in {W : World} {mb N : Nat} {L : List Pr} {x : Int} {u : ByteArray} (h : Rise L) (hm : MapAt Try.prog 3 9 W mb N (mapP L)) (hu : (x, u) ∈ L) (hx : -9223372036854775808 ≤ x ∧ x ≤ 9223372036854775807) :
    (Instr.lookup 36 (.map (some mb)) (.int .i64 x) true).run Try.prog W = .ok (.tuple #[.string u, .bool true]) W := by
  have hz : plainElem (H := Unit) Try.prog 9 (.string ⟨#[]⟩) = some (.lit (.string []), []) := plainElem_string Try.underlying9 (s := ⟨#[]⟩) (Nat.zero_le _)
  rw [hm.look_ok int_law Try.underlying36 (zero_str W) hz ((keyOf_int_mk Try.underlying3 (WalkArith.wf_i64 hx))), mapP_in h hu]
  rfl
theorem look_out {W : World} {mb N : Nat} {L : List Pr} {x : Int} (hm : MapAt Try.prog 3 9 W mb N (mapP L)) (hu : inP L x = false) (hx : -9223372036854775808 ≤ x ∧ x ≤ 9223372036854775807) :
    (Instr.lookup 36 (.map (some mb)) (.int .i64 x) true).run Try.prog W = .ok (.tuple #[.string ⟨#[]⟩, .bool false]) W := by
  have hz : plainElem (H := Unit) Try.prog 9 (.string ⟨#[]⟩) = some (.lit (.string []), []) := plainElem_string Try.underlying9 (s := ⟨#[]⟩) (Nat.zero_le _)
  rw [hm.look_ok int_law Try.underlying36 (zero_str W) hz ((keyOf_int_mk Try.underlying3 (WalkArith.wf_i64 hx))), mapP_out hu]
  rfl
theorem row_snoc {w : World} {e kl : Nat} {v : Value} {r : Option Nat} {K : List Int} {x : Int} (h : RowAt w e 1 v r (kl + 1) (ints K ++ [.int .i64 x])) (hk : kl = K.length) : RowAt w e 1 v r (K ++ [x]).length (ints (K ++ [x])) := by
  subst hk; simpa [ints] using h
theorem ba_self (g : ByteArray) : (g == g) = true := by
  cases g with
  | mk d =>
    show (d == d) = true
    simp
theorem ownFrom_chg {β : Type} {S : Nat → Prop} {w₀ : World} {B : Nat} (hB : w₀.heap.size ≤ B) : OwnFrom B (fun (_ : β) W => Chg S w₀ W) :=
  fun _ _ _ _ hs hg hr => hs.trans (Chg.of_grownBy hg) fun i hi e => absurd (hr i e.symm).1 (by omega)
theorem ops_at {w : World} {A : Option Addr} {l : List OpR} (h : ReadsAt w A (opsV l)) {k : Nat} (hk : k < l.length) {u : Int} {x : Int} {v : ByteArray} (ho : (u, x, v) = l[k]) :
    ∃ g off, A = some ⟨g, off, none⟩ ∧ g < w.heap.size ∧ w.cell? ⟨g, off + k * 3, none⟩ = some (.int .u64 u) ∧ w.cell? ⟨g, off + k * 3 + 1, none⟩ = some (.int .i64 x) ∧ w.cell? ⟨g, off + k * 3 + 2, none⟩ = some (.string v) := by
  have hlen : ∀ l : List OpR, (opsV l).length = l.length * 3 := by
    intro l
    induction l with
    | nil => rfl
    | cons o l ih => unfold opsV at ih ⊢; rw [List.flatMap_cons, List.length_append, ih]; simp; omega
  obtain ⟨g, off, rfl, hg, hc⟩ := h (by rw [hlen]; omega)
  have hat : ∀ j, j < 3 → (opsV l)[k * 3 + j]? = ([Value.int .u64 u, .int .i64 x, .string v])[j]? := by
    intro j hj
    have hl : l = l.take k ++ (u, x, v) :: l.drop (k + 1) := by rw [ho, List.getElem_cons_drop, List.take_append_drop]
    have h2 : opsV l = opsV (l.take k) ++ ([Value.int .u64 u, .int .i64 x, .string v] ++ opsV (l.drop (k + 1))) := by
      conv => lhs; rw [hl]
      unfold opsV
      rw [List.flatMap_append, List.flatMap_cons]
    have h3 : (opsV (l.take k)).length = k * 3 := by rw [hlen, List.length_take, Nat.min_eq_left (by omega)]
    rw [h2, List.getElem?_append_right (by omega), h3, Nat.add_sub_cancel_left, List.getElem?_append_left (by simpa using hj)]
  exact ⟨g, off, rfl, hg, hc (k * 3) _ (by have := hat 0 (by omega); simpa using this), hc (k * 3 + 1) _ (by have := hat 1 (by omega); simpa using this), hc (k * 3 + 2) _ (by have := hat 2 (by omega); simpa using this)⟩

set_option maxRecDepth 100000 in
set_option maxHeartbeats 8000000 in
theorem rows_any (A : Option Addr) (c : Nat) (l : List OpR) (f : Int) (w : World) (_hlc : l.length ≤ 9223372036854775807) (hf : -9223372036854775808 ≤ f ∧ f ≤ 9223372036854775807) (hz : ∀ o ∈ l, (0 ≤ o.1 ∧ o.1 < 18446744073709551616) ∧ (-9223372036854775808 ≤ o.2.1 ∧ o.2.1 ≤ 9223372036854775807) ∧ o.2.2.size ≤ maxLen) (hr : ReadsAt w A (opsV l)) :
    Calls Try.prog 4 #[.slice A l.length c, .int .i64 f] w fun e w' => e = .returned (.bool true) ∧ Below w.heap.size w w' := by
  have HR := Lib.hid hr
  have HZ := Lib.hid hz
  have HF63 := Lib.hid hf
  clear hr hz hf
  refine (callsIn_wide (n := 5)).1 ?_
  refine callsIn_of_wp_marks Try.func4 rfl trivial ?_ rfl
  simp only [Try.ntmps4, List.size_toArray, List.length_cons, List.length_nil, Nat.reduceAdd, Nat.reduceSub, Array.replicate_succ, Array.replicate_zero, List.push_toArray, List.append_toArray, List.nil_append, List.cons_append]
  have hn1 : 1 ≤ 5 - 1 := by omega
  have hmm := @run_makeMap Try.prog
  gi_wp2_with fail
  have hs0 : w.heap.size + 1 + 1 + 1 + 1 = w.heap.size + 4 := rfl
  obtain ⟨W0, hW0⟩ : ∃ W0, W0 = (((((w.alloc (.cells #[.int .i64 f] 3)).alloc (.cells #[.bool false] 4)).alloc (.cells #[.slice none 0 0, .slice none 0 0] 35)).alloc (.map #[] 0)).alloc (.cells #[.map (some (w.heap.size + 1 + 1 + 1))] 36)) := ⟨_, rfl⟩
  rw [← hW0]
  obtain ⟨b7, hb7⟩ : ∃ b7, b7 = w.heap.size + 1 + 1 + 1 + 1 := ⟨_, rfl⟩
  rw [← hb7]
  obtain ⟨mb, hmb⟩ : ∃ mb, mb = w.heap.size + 1 + 1 + 1 := ⟨_, rfl⟩
  rw [← hmb] at hW0 ⊢
  obtain ⟨b, hb⟩ : ∃ b, b = w.heap.size + 1 + 1 := ⟨_, rfl⟩
  rw [← hb]
  obtain ⟨b4, hb4⟩ : ∃ b4, b4 = w.heap.size + 1 := ⟨_, rfl⟩
  rw [← hb4]
  obtain ⟨b3, hb3⟩ : ∃ b3, b3 = w.heap.size := ⟨_, rfl⟩
  obtain ⟨n₀, hn0⟩ : ∃ n₀, n₀ = w.heap.size + 5 := ⟨_, rfl⟩
  rw [← hb3]
  have HG : Hid (GeoR w n₀ b3 b4 b mb b7) := Lib.hid ⟨by omega, by omega, by omega, by omega, by omega, by omega, by omega, by omega⟩
  have HG4 : Hid (w.heap.size ≤ b4) := Lib.hid (by omega)
  have HI0 : Hid (InR w n₀ b3 b4 b mb b7 f none none none [] [] [] [] (.slice none 0 0) 0 W0) := Lib.hid (by
    have h1 := heap_alloc_new w (.cells #[.int .i64 f] 3)
    have h2 := heap_alloc_new (w.alloc (.cells #[.int .i64 f] 3)) (.cells #[.bool false] 4)
    have h3 := heap_alloc_new ((w.alloc (.cells #[.int .i64 f] 3)).alloc (.cells #[.bool false] 4)) (.cells #[.slice none 0 0, .slice none 0 0] 35)
    have h4 := MapAt.made (((w.alloc (.cells #[.int .i64 f] 3)).alloc (.cells #[.bool false] 4)).alloc (.cells #[.slice none 0 0, .slice none 0 0] 35)) Try.prog 3 9
    have h5 := heap_alloc_new ((((w.alloc (.cells #[.int .i64 f] 3)).alloc (.cells #[.bool false] 4)).alloc (.cells #[.slice none 0 0, .slice none 0 0] 35)).alloc (.map #[] 0)) (.cells #[.map (some mb)] 36)
    have c1 : Chg (fun _ => False) (w.alloc (.cells #[.int .i64 f] 3)) W0 := by rw [hW0]; exact ((((Chg.refl _ _).alloc _).alloc _).alloc _).alloc _
    have c2 : Chg (fun _ => False) ((w.alloc (.cells #[.int .i64 f] 3)).alloc (.cells #[.bool false] 4)) W0 := by rw [hW0]; exact (((Chg.refl _ _).alloc _).alloc _).alloc _
    have c3 : Chg (fun _ => False) (((w.alloc (.cells #[.int .i64 f] 3)).alloc (.cells #[.bool false] 4)).alloc (.cells #[.slice none 0 0, .slice none 0 0] 35)) W0 := by rw [hW0]; exact ((Chg.refl _ _).alloc _).alloc _
    have c4 : Chg (fun _ => False) ((((w.alloc (.cells #[.int .i64 f] 3)).alloc (.cells #[.bool false] 4)).alloc (.cells #[.slice none 0 0, .slice none 0 0] 35)).alloc (.map #[] 0)) W0 := by rw [hW0]; exact (Chg.refl _ _).alloc _
    have g1 := c1.heap h1 (fun h => h)
    have g2 := c2.heap h2 (fun h => h)
    have g3 := c3.heap h3 (fun h => h)
    have g4 := h4.kept c4 (fun h => h)
    rw [← hW0] at h5
    simp only [World.size_alloc] at g2 g3 g4 h5
    rw [← hb3] at g1
    rw [← hb4] at g2
    rw [← hb] at g3
    rw [← hmb] at g4
    rw [← hb7] at h5
    have hsz : W0.heap.size = n₀ := by rw [hW0, hn0]; simp
    refine ⟨⟨⟨_, _, g3, RowAt.nil _ _ _, RowAt.nil _ _ _⟩, List.Pairwise.nil, by simp⟩, by rw [mapP_nil]; exact g4, RowAt.nil _ _ _, .refl _, by simp, by simp, by simp, by simp, g1, g2, h5, by omega, ?_⟩
    rw [hW0]
    exact (((((Below.refl _ w).alloc (Nat.le_refl _) _).alloc (by simp) _).alloc (by simp; omega) _).alloc (by simp; omega) _).alloc (by simp; omega) _)
  clear hW0 hb7 hmb hb hb4 hb3 hn0 hs0 hmm
  refine wpIn_wide.2 ?_
  go_loopw [6, 33] (fun v i W => ∃ (k : Nat) (rk rv rq : Option Nat) (L : List Pr) (K : List Int), k ≤ l.length ∧ k ≤ 100 ∧ i = .int .i64 (k : Nat) ∧ L.length ≤ k ∧ K.length ≤ k ∧ (∀ p ∈ L, I64 p.1) ∧ InR w n₀ b3 b4 b mb b7 f rk rv rq L L L K v k W) (fun _ i _ => l.length - (intOf i).toNat)
  case atStart => exact ⟨0, none, none, none, [], [], Nat.zero_le _, by omega, rfl, Nat.le_refl _, Nat.le_refl _, (fun _ h => by cases h), HI0.out⟩
  case round =>
    obtain ⟨k, rk, rv, rq, L, K, hk, hk100, rfl, hLk, hKk, hkb, hI⟩ := hrel
    have HKB := Lib.hid hkb
    obtain ⟨Av, cv, rfl, _⟩ := hI.keys.shape
    have hbox7 := hI.b7_.cell
    have HI := Lib.hid hI
    have HLK := Lib.hid hLk
    have HKK := Lib.hid hKk
    obtain ⟨kl, hkl⟩ : ∃ kl, kl = K.length := ⟨_, rfl⟩
    rw [← hkl]
    have HKL := Lib.hid hkl
    clear hI hLk hKk hkl hkb
    by_cases hgo : k < l.length ∧ k < 100
    · obtain ⟨hlt, h100⟩ := hgo
      · obtain ⟨o, ho⟩ : ∃ o, o = l[k] := ⟨_, rfl⟩
        obtain ⟨ou, ok, ov⟩ := o
        have hom : (ou, ok, ov) ∈ l := by rw [ho]; exact List.getElem_mem hlt
        obtain ⟨⟨hu1, hu2⟩, ⟨hk1, hk2⟩, hvs⟩ := HZ.out _ hom
        have HVS := Lib.hid hvs
        clear hvs
        obtain ⟨g, off, rfl, hg, hc1, hc2, hc3⟩ := ops_at HR.out hlt ho
        have hB := HI.out.below
        have hd1 := (hB.cell (p := ⟨g, off + k * 3, none⟩) hg).trans hc1
        have hd2 := (hB.cell (p := ⟨g, off + k * 3 + 1, none⟩) hg).trans hc2
        have hd3 := (hB.cell (p := ⟨g, off + k * 3 + 2, none⟩) hg).trans hc3
        have hq1 : (0 : Int) ≤ (k : Int) := by omega
        have hq2 : (k : Int) < (l.length : Int) := by omega
        have hq3 : ¬ (100 : Int) ≤ (k : Int) := by omega
        have hal : ∀ o, Below wr.heap.size wr (wr.alloc o) := fun o => (Below.refl _ wr).alloc (Nat.le_refl _) o
        have hb7a : ∀ o, (wr.alloc o).cell? ⟨b7, 0, none⟩ = some (.map (some mb)) := fun o => (HI.out.grow (hal o)).b7_.cell
        have HAL := Lib.hid hal
        have HOM := Lib.hid hom
        clear ho hc1 hc2 hc3 hB hom hal
        cases hin : inP L ok with
        | true =>
          obtain ⟨u0, hu0⟩ := inP_iff.1 hin
          have hlook : ∀ o, (Instr.lookup 36 (.map (some mb)) (.int .i64 ok) true).run Try.prog (wr.alloc o) = .ok (.tuple #[.string u0, .bool true]) (wr.alloc o) := fun o => look_in HI.out.row.rise (HI.out.grow (HAL.out o)).map hu0 ⟨hk1, hk2⟩
          have HU0 := Lib.hid hu0
          clear hu0 hin
          by_cases hev : ou % 2 = 0
          · skip
            go_wp2_with fail
            have hbo := HI.out.row.lt
            have hf9 : ¬ FootR b rk rv wr.heap.size := fun e => by have := hbo _ e; omega
            have hmb9 : ¬ wr.heap.size = mb := fun e => by have := HG.out.lm; have := HI.out.size; omega
            have hx1 : (wr.alloc (.cells #[.int .u64 ou, .int .i64 ok, .string ov] 39)).cell? ⟨wr.heap.size, 1, none⟩ = some (.int .i64 ok) := (cell_of_row _ _ 1 _ _ _ (heap_alloc_new wr _)).trans rfl
            have hx2 : (wr.alloc (.cells #[.int .u64 ou, .int .i64 ok, .string ov] 39)).cell? ⟨wr.heap.size, 2, none⟩ = some (.string ov) := (cell_of_row _ _ 2 _ _ _ (heap_alloc_new wr _)).trans rfl
            have HI1 := Lib.hid (HI.out.grow (HAL.out (.cells #[.int .u64 ou, .int .i64 ok, .string ov] 39)))
            refine (rput_there HI1.out.row ok u0 ov HU0.out).mono ?_
            rintro e W2 ⟨rfl, st⟩
            have HST := Lib.hid st
            have hI2 := HI1.out.rowed HG.out st
            have HI2 := Lib.hid hI2
            have hy1 := st.chg.cell hx1 hf9
            have hy2 := st.chg.cell hx2 hf9
            have hy7 := hI2.b7_.cell
            have HY1 := Lib.hid hy1
            clear hI2 st hx1 hx2 hb7a hlook
            go_wp2_with (at_mapUpdate; refine wpList_map_put rfl _ _ _ 36 rfl 3 9 int_law Try.underlying36 HI2.out.map (by unfold maxLen; omega) rfl _ _ (.int .i64 ok) (strLit ov) rfl rfl (keyOf_int_mk Try.underlying3 (WalkArith.wf_i64 ⟨hk1, hk2⟩)) trivial [] (plainElem_string Try.underlying9 HVS.out) ?_; intro W3 hM3 hC3; have HI3 := Lib.hid (HI2.out.mapped HG.out (hM3.congr (mapP_put HI.out.row.rise ok ov)) hC3); have HY3 := Lib.hid (hC3.cell HY1.out hmb9); have hz1 := HY3.out; clear hM3 hC3)
            go_roundw
            case rel => exact ⟨k + 1, _, _, _, putP L ok ov, K, by omega, by omega, by go_num, by have := len_put HI.out.row.rise (x := ok) ov; have := HLK.out; omega, by have := HKK.out; omega, (fun p hp => by rcases mem_put.1 hp with rfl | ⟨hp, _⟩; exact ⟨hk1, hk2⟩; exact HKB.out p hp), by rw [HKL.out]; exact HI3.out.reperm (by rw [keys_there HI.out.row.rise HU0.out ov]; exact HI.out.perm)⟩
            case measure => simp [intOf]; omega
          · skip
            go_wp2_with fail
            have hbo := HI.out.row.lt
            have hf9 : ¬ FootR b rk rv wr.heap.size := fun e => by have := hbo _ e; omega
            have hmb9 : ¬ wr.heap.size = mb := fun e => by have := HG.out.lm; have := HI.out.size; omega
            have hx1 : (wr.alloc (.cells #[.int .u64 ou, .int .i64 ok, .string ov] 39)).cell? ⟨wr.heap.size, 1, none⟩ = some (.int .i64 ok) := (cell_of_row _ _ 1 _ _ _ (heap_alloc_new wr _)).trans rfl
            have hx2 : (wr.alloc (.cells #[.int .u64 ou, .int .i64 ok, .string ov] 39)).cell? ⟨wr.heap.size, 2, none⟩ = some (.string ov) := (cell_of_row _ _ 2 _ _ _ (heap_alloc_new wr _)).trans rfl
            have HI1 := Lib.hid (HI.out.grow (HAL.out (.cells #[.int .u64 ou, .int .i64 ok, .string ov] 39)))
            refine (rdrop_there HI1.out.row ok u0 HU0.out).mono ?_
            rintro e W2 ⟨rfl, st⟩
            have hI2 := HI1.out.rowed HG.out st
            have HI2 := Lib.hid hI2
            have hy1 := st.chg.cell hx1 hf9
            have hy7 := hI2.b7_.cell
            have HY1 := Lib.hid hy1
            clear hI2 st hx1 hx2 hb7a hlook
            go_wp2_with (at_delete; refine wpList_map_del rfl _ _ 36 3 rfl 9 int_law Try.underlying36 HI2.out.map rfl _ (.int .i64 ok) rfl (keyOf_int_mk Try.underlying3 (WalkArith.wf_i64 ⟨hk1, hk2⟩)) ?_; intro W3 hM3 hC3; have HI3 := Lib.hid (HI2.out.mapped HG.out (hM3.congr (mapP_drop HI.out.row.rise ok)) hC3); have HY3 := Lib.hid (hC3.cell HY1.out hmb9); have hz1 := HY3.out; clear hM3 hC3)
            have hDr := drop03_row K Av cv ok W3 (by have := HKK.out; omega) HI3.out.keys.reads
            rw [← HKL.out] at hDr
            refine hDr.mono ?_
            clear hDr
            rintro e W4 ⟨v4, rfl, hg4⟩
            obtain ⟨rq4, hI4⟩ := HI3.out.fresh hg4 (keys_drop HI3.out.perm ok)
            have HI4 := Lib.hid hI4
            clear hI4 hg4
            go_wp2_with fail
            go_roundw
            case rel => exact ⟨k + 1, _, _, _, dropP L ok, dropL K ok, by omega, by omega, by go_num, by have := len_drop L ok; have := HLK.out; omega, by have := List.length_filter_le (fun y => decide (y ≠ ok)) K; unfold dropL; have := HKK.out; omega, (fun p hp => HKB.out p (mem_drop.1 hp).1), { HI4.out with map := HI4.out.map.mono (Nat.le_succ k) }⟩
            case measure => simp [intOf]; omega
        | false =>
          have hlook : ∀ o, (Instr.lookup 36 (.map (some mb)) (.int .i64 ok) true).run Try.prog (wr.alloc o) = .ok (.tuple #[.string ⟨#[]⟩, .bool false]) (wr.alloc o) := fun o => look_out (HI.out.grow (HAL.out o)).map hin ⟨hk1, hk2⟩
          have HIN := Lib.hid hin
          clear hin
          by_cases hev : ou % 2 = 0
          · skip
            go_wp2_with fail
            have hbo := HI.out.row.lt
            have hf9 : ¬ FootR b rk rv wr.heap.size := fun e => by have := hbo _ e; omega
            have hmb9 : ¬ wr.heap.size = mb := fun e => by have := HG.out.lm; have := HI.out.size; omega
            have hx1 : (wr.alloc (.cells #[.int .u64 ou, .int .i64 ok, .string ov] 39)).cell? ⟨wr.heap.size, 1, none⟩ = some (.int .i64 ok) := (cell_of_row _ _ 1 _ _ _ (heap_alloc_new wr _)).trans rfl
            have hx2 : (wr.alloc (.cells #[.int .u64 ou, .int .i64 ok, .string ov] 39)).cell? ⟨wr.heap.size, 2, none⟩ = some (.string ov) := (cell_of_row _ _ 2 _ _ _ (heap_alloc_new wr _)).trans rfl
            have HI1 := Lib.hid (HI.out.grow (HAL.out (.cells #[.int .u64 ou, .int .i64 ok, .string ov] 39)))
            refine (rput_new HI1.out.row (by have := HLK.out; omega) ok ov HIN.out).mono ?_
            rintro e W2 ⟨rfl, rk', rv', st⟩
            have HST := Lib.hid st
            have hI2 := HI1.out.rowed HG.out st
            have HI2 := Lib.hid hI2
            have hy1 := st.chg.cell hx1 hf9
            have hy2 := st.chg.cell hx2 hf9
            have hy7 := hI2.b7_.cell
            have HY1 := Lib.hid hy1
            clear hI2 st hx1 hx2 hb7a hlook
            have HB1 : Hid ((kl + 1) * 8 ≤ 140737488355328) := Lib.hid (by have := HKL.out; have := HKK.out; omega)
            have HB2 : Hid (kl < maxLen) := Lib.hid (by have := HKL.out; have := HKK.out; unfold maxLen; omega)
            go_wp2_with (first
              | (at_mapUpdate; refine wpList_map_put rfl _ _ _ 36 rfl 3 9 int_law Try.underlying36 HI2.out.map (by unfold maxLen; omega) rfl _ _ (.int .i64 ok) (strLit ov) rfl rfl (keyOf_int_mk Try.underlying3 (WalkArith.wf_i64 ⟨hk1, hk2⟩)) trivial [] (plainElem_string Try.underlying9 HVS.out) ?_; intro W3 hM3 hC3; have HI3 := Lib.hid (HI2.out.mapped HG.out (hM3.congr (mapP_put HI.out.row.rise ok ov)) hC3); have HY3 := Lib.hid (hC3.cell HY1.out hmb9); have hz1 := HY3.out; clear hM3 hC3; have HROW : Hid (RowAt W3 3 1 (.slice Av kl cv) rq kl (ints K)) := Lib.hid (by rw [HKL.out]; exact HI3.out.keys))
              | (at_builtin; refine wpList_append_one _ rfl _ _ 33 3 (.int .i64 0) 8 rfl Try.underlying33 ret_int3 rfl HROW.out _ rfl rfl rfl HB1.out HB2.out ?_; intro v' r' W4 hR' hC4 hN4; obtain ⟨A4, c4, rfl, _⟩ := hR'.shape; have HI4 := Lib.hid (HI3.out.keyed HG.out hC4 (row_snoc hR' HKL.out) hN4 (keys_put HI.out.row.rise HI.out.perm HIN.out ov)); clear hR' hC4 hN4))
            go_roundw
            case rel => exact ⟨k + 1, _, _, _, putP L ok ov, K ++ [ok], by omega, by omega, by go_num, by have := len_put HI.out.row.rise (x := ok) ov; have := HLK.out; omega, by have := HKK.out; simp; omega, (fun p hp => by rcases mem_put.1 hp with rfl | ⟨hp, _⟩; exact ⟨hk1, hk2⟩; exact HKB.out p hp), HI4.out⟩
            case measure => simp [intOf]; omega
          · skip
            go_wp2_with fail
            have hbo := HI.out.row.lt
            have hf9 : ¬ FootR b rk rv wr.heap.size := fun e => by have := hbo _ e; omega
            have hmb9 : ¬ wr.heap.size = mb := fun e => by have := HG.out.lm; have := HI.out.size; omega
            have hx1 : (wr.alloc (.cells #[.int .u64 ou, .int .i64 ok, .string ov] 39)).cell? ⟨wr.heap.size, 1, none⟩ = some (.int .i64 ok) := (cell_of_row _ _ 1 _ _ _ (heap_alloc_new wr _)).trans rfl
            have hx2 : (wr.alloc (.cells #[.int .u64 ou, .int .i64 ok, .string ov] 39)).cell? ⟨wr.heap.size, 2, none⟩ = some (.string ov) := (cell_of_row _ _ 2 _ _ _ (heap_alloc_new wr _)).trans rfl
            have HI1 := Lib.hid (HI.out.grow (HAL.out (.cells #[.int .u64 ou, .int .i64 ok, .string ov] 39)))
            refine (rdrop_out HI1.out.row ok HIN.out).mono ?_
            rintro e W2 ⟨rfl, st⟩
            have hI2 := HI1.out.rowed HG.out st
            have HI2 := Lib.hid hI2
            have hy1 := st.chg.cell hx1 hf9
            have hy7 := hI2.b7_.cell
            have HY1 := Lib.hid hy1
            clear hI2 st hx1 hx2 hb7a hlook
            go_wp2_with (at_delete; refine wpList_map_del rfl _ _ 36 3 rfl 9 int_law Try.underlying36 HI2.out.map rfl _ (.int .i64 ok) rfl (keyOf_int_mk Try.underlying3 (WalkArith.wf_i64 ⟨hk1, hk2⟩)) ?_; intro W3 hM3 hC3; have HI3 := Lib.hid (HI2.out.mapped HG.out (hM3.congr (mapP_drop HI.out.row.rise ok)) hC3); have HY3 := Lib.hid (hC3.cell HY1.out hmb9); have hz1 := HY3.out; clear hM3 hC3)
            have hDr := drop03_row K Av cv ok W3 (by have := HKK.out; omega) HI3.out.keys.reads
            rw [← HKL.out] at hDr
            refine hDr.mono ?_
            clear hDr
            rintro e W4 ⟨v4, rfl, hg4⟩
            obtain ⟨rq4, hI4⟩ := HI3.out.fresh hg4 (keys_drop HI3.out.perm ok)
            have HI4 := Lib.hid hI4
            clear hI4 hg4
            go_wp2_with fail
            go_roundw
            case rel => exact ⟨k + 1, _, _, _, dropP L ok, dropL K ok, by omega, by omega, by go_num, by have := len_drop L ok; have := HLK.out; omega, by have := List.length_filter_le (fun y => decide (y ≠ ok)) K; unfold dropL; have := HKK.out; omega, (fun p hp => HKB.out p (mem_drop.1 hp).1), { HI4.out with map := HI4.out.map.mono (Nat.le_succ k) }⟩
            case measure => simp [intOf]; omega
    · rcases Nat.lt_or_ge k l.length with hlt | hge
      all_goals
        first
        | (have h100 : k = 100 := by omega
           obtain ⟨o, ho⟩ : ∃ o, o = l[k] := ⟨_, rfl⟩
           obtain ⟨ou, ok, ov⟩ := o
           obtain ⟨g, off, rfl, hg, hc1, hc2, hc3⟩ := ops_at HR.out hlt ho
           have hB := HI.out.below
           have hd1 := (hB.cell (p := ⟨g, off + k * 3, none⟩) hg).trans hc1
           have hd2 := (hB.cell (p := ⟨g, off + k * 3 + 1, none⟩) hg).trans hc2
           have hd3 := (hB.cell (p := ⟨g, off + k * 3 + 2, none⟩) hg).trans hc3
           have hq1 : (0 : Int) ≤ (k : Int) := by omega
           have hq2 : (k : Int) < (l.length : Int) := by omega
           have hq3 : (100 : Int) ≤ (k : Int) := by omega
           have hb3a : ∀ o, (wr.alloc o).cell? ⟨b3, 0, none⟩ = some (.int .i64 f) := fun o => (HI.out.grow ((Below.refl _ wr).alloc (Nat.le_refl _) o)).b3_.cell
           have HIX : Hid (InR w n₀ b3 b4 b mb b7 f rk rv rq L L L K (.slice Av K.length cv) k (wr.alloc (.cells #[.int .u64 ou, .int .i64 ok, .string ov] 39))) := Lib.hid (HI.out.grow ((Below.refl _ wr).alloc (Nat.le_refl _) _))
           clear ho hc1 hc2 hc3 hB h100
           go_wp2_with fail
           gi_wp2_with fail
           generalize wr.alloc (.cells #[.int .u64 ou, .int .i64 ok, .string ov] 39) = WX at HIX ⊢)
        | (obtain rfl : k = l.length := by omega
           have hb3a := HI.out.b3_.cell
           have HIX := Lib.hid HI.out
           go_wp2_with fail
           gi_wp2_with fail
           generalize wr = WX at HIX ⊢)
        have hKL2 : L.length = kl := by have h1 := HIX.out.perm.length_eq; have h2 := HKL.out; simp at h1; omega
        have hG : ∃ gv gb, (Calls Try.prog 12 #[.pointer (some ⟨b, 0, none⟩), .int .i64 f] WX fun e w' => e = .returned (.tuple #[.string gv, .bool gb]) ∧ Below WX.heap.size WX w') ∧ ∀ W N, MapAt Try.prog 3 9 W mb N (mapP L) → (Instr.lookup 36 (.map (some mb)) (.int .i64 f) true).run Try.prog W = .ok (.tuple #[.string gv, .bool gb]) W := by
          cases hin : inP L f with
          | true =>
            obtain ⟨u0, hu0⟩ := inP_iff.1 hin
            exact ⟨u0, true, get_there HIX.out.row f u0 hu0, fun W N hm => look_in HIX.out.row.rise hm hu0 HF63.out⟩
          | false => exact ⟨⟨#[]⟩, false, get_out HIX.out.row f hin, fun W N hm => look_out hm hin HF63.out⟩
        obtain ⟨gv, gb, hg1, hg2⟩ := hG
        refine ⟨trivial, ?_⟩
        gi_at_call 12
        refine (callsIn_wide.2 hg1).mono ?_
        rintro e WG ⟨rfl, hbG⟩
        have HIG := Lib.hid (HIX.out.grow hbG)
        have hb3g := HIG.out.b3_.cell
        have hb7g := HIG.out.b7_.cell
        have hlk := hg2 WG _ HIG.out.map
        have hsame1 : (gv != gv) = false := by unfold bne; rw [ba_self]; rfl
        have hsame3 : ((kl : Int) != (kl : Int)) = false := by simp
        have hsame2 : (gb != gb) = false := by simp
        clear hg1 hg2 hbG
        gi_wp2_with fail
        refine ⟨trivial, ?_⟩
        gi_at_call 13
        have hLn := len_row HIG.out.row
        rw [hKL2] at hLn
        refine (callsIn_wide.2 hLn).mono ?_
        clear hLn
        rintro e W9 ⟨rfl, rfl⟩
        have hb3b : ∀ o o' o'', (((WG.alloc o).alloc o').alloc o'').cell? ⟨b3, 0, none⟩ = some (.int .i64 f) := fun o o' o'' => (HIG.out.grow ((((Below.refl _ WG).alloc (Nat.le_refl _) o).alloc (by simp) o').alloc (by simp; omega) o'')).b3_.cell
        gi_wp2_with fail
        obtain ⟨WA, hWA⟩ : ∃ WA, WA = (((WG.alloc (.cells #[.int .i64 0] 3)).alloc (.cells #[.int .i64 0] 3)).alloc (.cells #[.int .i64 0] 3)) := ⟨_, rfl⟩
        rw [← hWA]
        have hbWA : Below WG.heap.size WG WA := by rw [hWA]; exact (((Below.refl _ WG).alloc (Nat.le_refl _) _).alloc (by simp) _).alloc (by simp; omega) _
        obtain ⟨c2, hc2⟩ : ∃ c2, c2 = WG.heap.size + 1 + 1 := ⟨_, rfl⟩
        rw [← hc2]
        obtain ⟨c1, hc1⟩ : ∃ c1, c1 = WG.heap.size + 1 := ⟨_, rfl⟩
        rw [← hc1]
        obtain ⟨c0, hc0⟩ : ∃ c0, c0 = WG.heap.size := ⟨_, rfl⟩
        rw [← hc0]
        have hA0 : Boxed WA c0 3 (.int .i64 0) := by
          rw [hWA, hc0]; exact (heap_alloc_old _ _ _ (by simp; omega)).trans (heap_alloc_old2 WG _ _)
        have hA1 : Boxed WA c1 3 (.int .i64 0) := by
          rw [hWA, hc1]; exact (heap_alloc_old _ _ _ (by simp)).trans (heap_alloc_new2 WG _ _)
        have hA2 : Boxed WA c2 3 (.int .i64 0) := by
          rw [hWA, hc2]
          have h := heap_alloc_new ((WG.alloc (.cells #[.int .i64 0] 3)).alloc (.cells #[.int .i64 0] 3)) (.cells #[.int .i64 0] 3)
          rwa [World.size_alloc, World.size_alloc] at h
        have HIA := Lib.hid (HIG.out.grow hbWA)
        have HC := Lib.hid (show c0 = WG.heap.size ∧ c1 = c0 + 1 ∧ c2 = c1 + 1 from ⟨hc0, by omega, by omega⟩)
        have HA := Lib.hid (And.intro hA0 (And.intro hA1 hA2))
        have hb3A := HIA.out.b3_.cell
        have hA2s : Hid (c2 < WA.heap.size) := Lib.hid hA2.lt
        clear hb3b hb3g hb7g hlk hWA hbWA hc0 hc1 hc2 hA0 hA1 hA2 hb3a hsame1 hsame2 hsame3
        refine wpIn_wide.2 ?_
        go_region_held3 (fun Y => Y.cell? ⟨b3, 0, none⟩ = some (.int .i64 f)) (first | exact hb3A | go_keep) (first
          | (go_at_call 14; refine (reachA b _).mono ?_; rintro e WE ⟨E1, E2, rfl, hEc, hEb⟩; have hb3A := (hEb.cell (p := ⟨b3, 0, none⟩) (World.block_lt_of_cell? WA _ hb3A)).trans hb3A; have HEC := Lib.hid hEc; have HEB := Lib.hid hEb; clear hEc hEb)
          | (go_at_call 15; refine (rfromA b f _).mono ?_; rintro e WB ⟨F1, F2, C1, C2, rfl, hFc, hFb⟩; have hb3A := (hFb.cell (p := ⟨b3, 0, none⟩) (World.block_lt_of_cell? WE _ hb3A)).trans hb3A; have HFC := Lib.hid hFc; have HFB := Lib.hid hFb; clear hFc hFb))
        have hbAE : Below WA.heap.size WA WE := ((Below.refl _ WA).drew).trans HEB.out
        have hbAB : Below WA.heap.size WA WB := hbAE.trans (HFB.out.mono hbAE.size)
        have HIB := Lib.hid (HIA.out.grow hbAB)
        have hB0 : Boxed WB c0 3 (.int .i64 0) := (hbAB.block c0 HA.out.1.lt).trans HA.out.1
        have hB1 : Boxed WB c1 3 (.int .i64 0) := (hbAB.block c1 HA.out.2.1.lt).trans HA.out.2.1
        have hB2 : Boxed WB c2 3 (.int .i64 0) := (hbAB.block c2 HA.out.2.2.lt).trans HA.out.2.2
        have hE1 := (HFB.out.cell (p := ⟨E1, 0, none⟩) (World.block_lt_of_cell? WE _ HEC.out.1)).trans HEC.out.1
        have hE2 := (HFB.out.cell (p := ⟨E2, 0, none⟩) (World.block_lt_of_cell? WE _ HEC.out.2)).trans HEC.out.2
        have HFC2 := HFC
        have hnil : ∀ (w : World) (p q : Value), (binOp .eql 45 (.func (.func 39) #[] #[p, q]) .nilFunc).run Try.prog w = .ok (.bool false) w := fun w p q => by rfl
        clear hbAE hb3A HA
        gi_wp2_with fail
        have hltB : WG.heap.size ≤ WB.heap.size := by have h1 := HC.out; have h2 := hB0.lt; omega
        have hrise := HIB.out.row.rise
        refine wpIn_rangeFunc_ownG rfl (by omega) (gf := 39) (lb := #[.pointer (some ⟨E1, 0, none⟩), .pointer (some ⟨E2, 0, none⟩)]) rfl trivial (enters_of Try.func39 (by kernel_rfl) rfl)
          (loopE_stops (5 - 1) hn1 E1 E2 b rk rv L WB hE1 hE2 HIB.out.row) KpC.trans (fun W l o o' _ hh hc _ => KpC.put hh hc) (Below.refl _ _) (fun _ => rfl)
          (fun (pre : List (El L)) Z => ((Boxed Z c0 3 (.int .i64 (lastP 0 (prs pre))) ∧ Boxed Z c1 3 (.int .i64 (pre.length : Nat)) ∧ Boxed Z c2 3 (.int .i64 (behP f (prs pre) : Nat))) ∧ Chg (fun k => k = c0 ∨ k = c1 ∨ k = c2) WB Z) ∧ Rise (prs pre))
          (fun _ (pre : List (El L)) _ => ¬ Rise (prs pre))
          (OwnFrom.and (OwnFrom.and (OwnFrom.and (Own.from (fun s X Y row h hg hr => boxed_own c0 3 (fun pre : List (El L) => .int .i64 (lastP 0 (prs pre))) s X Y row h hg hr) _) (OwnFrom.and (Own.from (fun s X Y row h hg hr => boxed_own c1 3 (fun pre : List (El L) => .int .i64 (pre.length : Nat)) s X Y row h hg hr) _) (Own.from (fun s X Y row h hg hr => boxed_own c2 3 (fun pre : List (El L) => .int .i64 (behP f (prs pre) : Nat)) s X Y row h hg hr) _))) (ownFrom_chg (Nat.le_refl _))) (ownFrom_pure _ _))
          (fun c => ownFrom_pure _ _)
          ⟨⟨⟨hB0, hB1, hB2⟩, Chg.refl _ _⟩, List.Pairwise.nil⟩ ?_ ?_ ?_ ?_ ?_
        rotate_left 1
        · intro l x Z K hK
          gi_wp2
          exact hK
        · rintro lv pre ⟨⟨xk, xv⟩, hx⟩ Z ⟨⟨⟨h0, h1, h2⟩, hC⟩, hri⟩ hlt
          have hlow : ∀ k, k < n₀ → ¬ (k = c0 ∨ k = c1 ∨ k = c2) := fun k hk e => by have h3 := HC.out; have h4 := HIG.out.size; omega
          have hmZ := HIB.out.map.kept hC (hlow mb HG.out.lm)
          have hlkZ := look_in hrise hmZ hx (HKB.out _ hx)
          have hb7Z : Boxed Z b7 36 (.map (some mb)) := hC.heap HIB.out.b7_ (hlow b7 HG.out.l7)
          have hb3Z : Boxed Z b3 3 (.int .i64 f) := hC.heap HIB.out.b3_ (hlow b3 HG.out.l3)
          have hb4Z : Boxed Z b4 4 (.bool false) := hC.heap HIB.out.b4_ (hlow b4 HG.out.l4)
          have hx7 := hb7Z.cell
          have hx3 := hb3Z.cell
          have hx4 := hb4Z.cell
          have hx0 := h0.cell
          have hx1 := h1.cell
          have hx2 := h2.cell
          have hf4 := hb4Z.frozen
          have hf0 := h0.frozen
          have hf1 := h1.frozen
          have hf2 := h2.frozen
          have hxx : (xv != xv) = false := by unfold bne; rw [ba_self]; rfl
          have hn01 : c0 ≠ c1 := by have := HC.out; omega
          have hn02 : c0 ≠ c2 := by have := HC.out; omega
          have hn12 : c1 ≠ c2 := by have := HC.out; omega
          have hn10 := hn01.symm
          have hn20 := hn02.symm
          have hn21 := hn12.symm
          have hn30 : b3 ≠ c0 := fun e => hlow b3 HG.out.l3 (.inl e)
          have hn31 : b3 ≠ c1 := fun e => hlow b3 HG.out.l3 (.inr (.inl e))
          have hn03 := hn30.symm
          have hn13 := hn31.symm
          have hLs := HIB.out.row.small
          have hbl := behP_le f (prs pre)
          rw [prs_len] at hbl
          obtain ⟨z, hz⟩ : ∃ z, z = lastP 0 (prs pre) := ⟨_, rfl⟩
          obtain ⟨nn, hnn⟩ : ∃ nn, nn = pre.length := ⟨_, rfl⟩
          obtain ⟨bb, hbb⟩ : ∃ bb, bb = behP f (prs pre) := ⟨_, rfl⟩
          rw [← hz] at hx0
          rw [← hnn] at hx1 hlt hbl
          rw [← hbb] at hx2 hbl
          have HZ0 := Lib.hid (And.intro hz (And.intro hnn hbb))
          have HRI := Lib.hid hri
          have HCZ := Lib.hid hC
          have H012 := Lib.hid (And.intro h0 (And.intro h1 h2))
          have HX := Lib.hid hx
          have hB0 : c0 < WB.heap.size := hB0.lt
          have hB1 : c1 < WB.heap.size := hB1.lt
          have hB2 : c2 < WB.heap.size := hB2.lt
          have hbb1 : bb ≤ 1000 := by omega
          have hnn1 : nn ≤ 1000 := by omega
          clear hlow hmZ hb7Z hb3Z hb4Z hz hnn hbb hri hC h0 h1 h2 hLs hE1 hE2 hbl
          by_cases hbad : 0 < nn ∧ xk ≤ z
          · obtain ⟨hp1, hp2⟩ := hbad
            have hq1 : (0 : Int) < (nn : Int) := by omega
            gi_wp2_with fail
            refine ⟨(KeepsOthers.setCell _ _ _).from _, ?_⟩
            show ¬ Rise (prs (pre ++ [_]))
            rw [prs_snoc]
            exact not_rise_snoc (z := 0) (by rw [prs_len, ← HZ0.out.2.1]; exact hp1) (by rw [← HZ0.out.1]; exact hp2)
          · have hnr : Rise (prs pre ++ [(xk, xv)]) := rise_snoc (z := 0) HRI.out fun hl => by rw [prs_len, ← HZ0.out.2.1] at hl; have h := HZ0.out.1; rw [← h]; simp only; omega
            have HNR := Lib.hid hnr
            clear hnr
            obtain hn0 | ⟨hp1, hp2⟩ : nn = 0 ∨ (0 < nn ∧ z < xk) := by omega
            all_goals
              by_cases hge : f ≤ xk
            all_goals
              first | subst hn0 | (have hq1 : (0 : Int) < (nn : Int) := (by omega); have hq2 : ¬ xk ≤ z := (by omega))
              clear hbad
              gi_wp2_with fail
              have h3 := fun v0 v1 v2 => three_set (B := WB.heap.size) H012.out.1 H012.out.2.1 H012.out.2.2 hn01 hn02 hn12 hB0 hB1 hB2 v0 v1 v2
              have h2 := fun v0 v1 => two_set (B := WB.heap.size) H012.out.1 H012.out.2.1 H012.out.2.2 hn01 hn02 hn12 hB0 hB1 v0 v1
              have hl0 : lastP 0 (prs (pre ++ [⟨(xk, xv), HX.out⟩])) = xk := by rw [prs_snoc, lastP_snoc]
              have hb9 := behP_snoc f (prs pre) (xk, xv)
              rw [← prs_snoc pre ⟨(xk, xv), HX.out⟩] at hb9
              have hn9 := HZ0.out.2.1
              have hr9 : Rise (prs (pre ++ [⟨(xk, xv), HX.out⟩])) := by rw [prs_snoc]; exact HNR.out
              first
              | exact ⟨(h3 _ _ _).2.2.1 _, (h3 _ _ _).2.2.2, ⟨⟨boxed_eq (h3 _ _ _).1.1 hl0.symm, boxed_eq (h3 _ _ _).1.2.1 (by simp; omega), boxed_eq (h3 _ _ _).1.2.2 (by rw [hb9, if_pos hge, HZ0.out.2.2]; simp)⟩, HCZ.out.trans (h3 _ _ _).2.1 fun _ _ e => e⟩, hr9⟩
              | exact ⟨(h2 _ _).2.2.1 _, (h2 _ _).2.2.2, ⟨⟨boxed_eq (h2 _ _).1.1 hl0.symm, boxed_eq (h2 _ _).1.2.1 (by simp; omega), boxed_eq (h2 _ _).1.2.2 (by rw [hb9, if_neg (show ¬ f ≤ (xk, xv).1 from (by simp only; omega)), Nat.add_zero])⟩, HCZ.out.trans (h2 _ _).2.1 fun _ _ e => e⟩, hr9⟩
        rotate_left 1
        · intro D cc pre Z hD hp h _
          exact (h (List.Pairwise.sublist hp.sublist hrise)).elim
        intro D ys Z hD hys h hK
        obtain ⟨⟨⟨h0, h1, h2⟩, hC⟩, _⟩ := h
        have hyl : ys.length = kl := by rw [← prs_len, hys, hKL2]
        rw [hys] at h0 h2
        rw [hyl] at h1
        have hlow : ∀ k, k < n₀ → ¬ (k = c0 ∨ k = c1 ∨ k = c2) := fun k hk e => by have h3 := HC.out; have h4 := HIG.out.size; omega
        have hrow : RAt Z b rk rv L := HIB.out.row.kept hC fun k hk e => by
          have h3 := HIG.out.row.lt k hk
          have h4 := HC.out
          omega
        have hmZ := HIB.out.map.kept hC (hlow mb HG.out.lm)
        have hb7Z : Boxed Z b7 36 (.map (some mb)) := hC.heap HIB.out.b7_ (hlow b7 HG.out.l7)
        have hb3Z : Boxed Z b3 3 (.int .i64 f) := hC.heap HIB.out.b3_ (hlow b3 HG.out.l3)
        have hb4Z : Boxed Z b4 4 (.bool false) := hC.heap HIB.out.b4_ (hlow b4 HG.out.l4)
        have hnot : ∀ q v, WB.cell? ⟨q, 0, none⟩ = some v → (∀ i, v ≠ .int .i64 i) → ¬ (q = c0 ∨ q = c1 ∨ q = c2) := fun q v hq hv e => by
          rcases e with rfl | rfl | rfl
          · rw [hB0.cell] at hq; injection hq with hq; exact hv _ hq.symm
          · rw [hB1.cell] at hq; injection hq with hq; exact hv _ hq.symm
          · rw [hB2.cell] at hq; injection hq with hq; exact hv _ hq.symm
        obtain ⟨hF1, hF2, hC1, hC2, hC2n⟩ := HFC2.out
        have hF1Z := hC.cell hF1 (hnot _ _ hF1 fun i e => by cases e)
        have hF2Z := hC.cell hF2 (hnot _ _ hF2 fun i e => by cases e)
        have hC1Z := hC.cell hC1 (hnot _ _ hC1 fun i e => by cases e)
        have hC2Z := hC.cell hC2 (fun e => by have h3 := HC.out; have h4 := HIA.out.size; have h5 := HEB.out.size; have h6 := hA2s.out; simp at h5; simp only at e; omega)
        have hBelZ : Below w.heap.size w Z := HIB.out.below.trans (hC.below HIB.out.below.size fun i e => by have h3 := HC.out; have h4 := HIG.out.below.size; omega)
        have H0 := Lib.hid (And.intro h0 (And.intro h1 h2))
        have HZ1 := Lib.hid (And.intro hrow (And.intro hmZ (And.intro hb7Z (And.intro hb3Z hb4Z))))
        have HZ2 := Lib.hid (And.intro hF1Z (And.intro hF2Z (And.intro hC1Z hC2Z)))
        have HK1 := Lib.hid hK
        have HBZ := Lib.hid hBelZ
        have HDD := Lib.hid hD
        have hBWB : Hid (w.heap.size ≤ WB.heap.size) := Lib.hid HIB.out.below.size
        clear h0 h1 h2 hC hlow hrow hmZ hb7Z hb3Z hb4Z hnot hF1 hF2 hC1 hC2 hC2n hF1Z hF2Z hC1Z hC2Z hBelZ hK hys hyl hB0 hB1 hB2 hE1 hE2 hD HEC HFC HEB HFB HIB HFC2
        gi_wp2_with fail
        obtain ⟨ZA, hZA⟩ : ∃ ZA, ZA = Z.alloc (.cells #[.int .i64 0] 3) := ⟨_, rfl⟩
        rw [← hZA]
        obtain ⟨c3, hc3⟩ : ∃ c3, c3 = Z.heap.size := ⟨_, rfl⟩
        rw [← hc3]
        have hbZA : Below Z.heap.size Z ZA := by rw [hZA]; exact (Below.refl _ Z).alloc (Nat.le_refl _) _
        have hz3 : Boxed ZA c3 3 (.int .i64 0) := by rw [hZA, hc3]; exact heap_alloc_new Z _
        have hup : ∀ k t u, Boxed Z k t u → Boxed ZA k t u := fun k t u hb => (hbZA.block k hb.lt).trans hb
        have hz0 := hup _ _ _ H0.out.1
        have hz1 := hup _ _ _ H0.out.2.1
        have hz2 := hup _ _ _ H0.out.2.2
        have hrA := HZ1.out.1.below hbZA
        have hmA := HZ1.out.2.1.kept (Chg.of_below hbZA (fun _ => False)) (fun h => h)
        have h7A := hup _ _ _ HZ1.out.2.2.1
        have h3A := hup _ _ _ HZ1.out.2.2.2.1
        have h4A := hup _ _ _ HZ1.out.2.2.2.2
        have hcu : ∀ (q : Nat) v, Z.cell? ⟨q, 0, none⟩ = some v → ZA.cell? ⟨q, 0, none⟩ = some v := fun q v hq => (hbZA.cell (p := ⟨q, 0, none⟩) (World.block_lt_of_cell? Z _ hq)).trans hq
        have hF1 := hcu _ _ HZ2.out.1
        have hF2 := hcu _ _ HZ2.out.2.1
        have hC1 := hcu _ _ HZ2.out.2.2.1
        have hC2 := hcu _ _ HZ2.out.2.2.2
        have hDA : ZA.heap[D]? = some (.deferred (some [])) := (hbZA.block D (lt_of_heap HK1.out)).trans HK1.out
        have hBA : Below w.heap.size w ZA := HBZ.out.trans (hbZA.mono HBZ.out.size)
        obtain ⟨M, hM⟩ : ∃ M, M = L.drop (posP L f) := ⟨_, rfl⟩
        have hriM : Rise M := by rw [hM]; exact List.Pairwise.sublist (List.drop_sublist _ _) hrise
        have hgeM : ∀ x ∈ M, x ∈ L ∧ f ≤ x.1 := fun x hx => by rw [hM] at hx; exact ⟨List.mem_of_mem_drop hx, drop_ge hrise hx⟩
        have hlM : M.length = behP f L := by rw [hM, behP_drop hrise]
        have hlM1 : M.length ≤ 1000 := by have h1 := behP_le f L; have h2 := hrA.small; omega
        obtain ⟨z0, hz0e⟩ : ∃ z0, z0 = lastP 0 L := ⟨_, rfl⟩
        rw [← hz0e] at hz0
        have hc03 : c0 ≠ c3 := fun e => by have h1 := H0.out.1.lt; omega
        have hc3n : c2 < c3 := by have h1 := H0.out.2.2.lt; omega
        clear hZA hc3 hup hcu hz0e hbZA H0 HZ1 HZ2
        refine wpIn_rangeFunc_ownG rfl (by omega) (gf := 39) (lb := #[.pointer (some ⟨F1, 0, none⟩), .pointer (some ⟨F2, 0, none⟩)]) rfl trivial (enters_of Try.func39 (by kernel_rfl) rfl)
          (loopF_stops (5 - 1) hn1 F1 F2 C1 C2 b f rk rv L M hM ZA hF1 hF2 hC1 hC2 hrA) KpC.trans (fun W l o o' _ hh hc _ => KpC.put hh hc) (Below.refl _ _) (fun _ => rfl)
          (fun (pre : List (El M)) Y => ((Boxed Y c0 3 (.int .i64 (lastP z0 (prs pre))) ∧ Boxed Y c3 3 (.int .i64 (pre.length : Nat))) ∧ Chg (fun k => k = c0 ∨ k = c3) ZA Y) ∧ Rise (prs pre))
          (fun _ (pre : List (El M)) _ => ¬ Rise (prs pre))
          (OwnFrom.and (OwnFrom.and (OwnFrom.and (Own.from (fun s X Y row h hg hr => boxed_own c0 3 (fun pre : List (El M) => .int .i64 (lastP z0 (prs pre))) s X Y row h hg hr) _) (Own.from (fun s X Y row h hg hr => boxed_own c3 3 (fun pre : List (El M) => .int .i64 (pre.length : Nat)) s X Y row h hg hr) _)) (ownFrom_chg (Nat.le_refl _))) (ownFrom_pure _ _))
          (fun c => ownFrom_pure _ _)
          ⟨⟨⟨hz0, hz3⟩, Chg.refl _ _⟩, List.Pairwise.nil⟩ ?_ ?_ ?_ ?_ ?_
        rotate_left 1
        · intro l x Y K hK
          gi_wp2
          exact hK
        · rintro lv pre ⟨⟨xk, xv⟩, hx⟩ Y ⟨⟨⟨h0, h1⟩, hC⟩, hri⟩ hlt
          have hlow : ∀ k, k < n₀ → ¬ (k = c0 ∨ k = c3) := fun k hk e => by have h3 := HC.out; have h4 := HIG.out.size; omega
          obtain ⟨hxL, hxf⟩ := hgeM _ hx
          have hmZ := hmA.kept hC (hlow mb HG.out.lm)
          have hlkZ := look_in hrise hmZ hxL (HKB.out _ hxL)
          have hb7Z : Boxed Y b7 36 (.map (some mb)) := hC.heap h7A (hlow b7 HG.out.l7)
          have hb3Z : Boxed Y b3 3 (.int .i64 f) := hC.heap h3A (hlow b3 HG.out.l3)
          have hb4Z : Boxed Y b4 4 (.bool false) := hC.heap h4A (hlow b4 HG.out.l4)
          have hx7 := hb7Z.cell
          have hx3 := hb3Z.cell
          have hx4 := hb4Z.cell
          have hx0 := h0.cell
          have hx1 := h1.cell
          have hf4 := hb4Z.frozen
          have hf0 := h0.frozen
          have hf1 := h1.frozen
          have hxx : (xv != xv) = false := by unfold bne; rw [ba_self]; rfl
          have hxf2 : ¬ xk < f := by simp only at hxf; omega
          have hc30 := hc03.symm
          obtain ⟨z, hz⟩ : ∃ z, z = lastP z0 (prs pre) := ⟨_, rfl⟩
          obtain ⟨nn, hnn⟩ : ∃ nn, nn = pre.length := ⟨_, rfl⟩
          rw [← hz] at hx0
          rw [← hnn] at hx1 hlt
          have HZ0 := Lib.hid (And.intro hz hnn)
          have HRI := Lib.hid hri
          have HCZ := Lib.hid hC
          have H01 := Lib.hid (And.intro h0 h1)
          have HX := Lib.hid hx
          have hB0 : c0 < ZA.heap.size := hz0.lt
          have hB3 : c3 < ZA.heap.size := hz3.lt
          have hnn1 : nn ≤ 1000 := by omega
          clear hlow hmZ hb7Z hb3Z hb4Z hz hnn hri hC h0 h1 hgeM hF1 hF2 hC1 hC2 hmA h7A h3A h4A hDA hBA hxL
          by_cases hbad : 0 < nn ∧ xk ≤ z
          · obtain ⟨hp1, hp2⟩ := hbad
            have hq1 : (0 : Int) < (nn : Int) := by omega
            gi_wp2_with fail
            refine ⟨(KeepsOthers.setCell _ _ _).from _, ?_⟩
            show ¬ Rise (prs (pre ++ [_]))
            rw [prs_snoc]
            exact not_rise_snoc (z := z0) (by rw [prs_len, ← HZ0.out.2]; exact hp1) (by rw [← HZ0.out.1]; exact hp2)
          · have hnr : Rise (prs pre ++ [(xk, xv)]) := rise_snoc (z := z0) HRI.out fun hl => by rw [prs_len, ← HZ0.out.2] at hl; have h := HZ0.out.1; rw [← h]; simp only; omega
            have HNR := Lib.hid hnr
            clear hnr
            obtain hn0 | ⟨hp1, hp2⟩ : nn = 0 ∨ (0 < nn ∧ z < xk) := by omega
            all_goals
              first | subst hn0 | (have hq1 : (0 : Int) < (nn : Int) := (by omega); have hq2 : ¬ xk ≤ z := (by omega))
              clear hbad
              gi_wp2_with fail
              have h2 := fun v0 v1 => two_set' (B := ZA.heap.size) H01.out.1 H01.out.2 hc03 hB0 hB3 v0 v1
              have hl0 : lastP z0 (prs (pre ++ [⟨(xk, xv), HX.out⟩])) = xk := by rw [prs_snoc, lastP_snoc]
              have hn9 := HZ0.out.2
              have hr9 : Rise (prs (pre ++ [⟨(xk, xv), HX.out⟩])) := by rw [prs_snoc]; exact HNR.out
              exact ⟨(h2 _ _).2.2.1 _, (h2 _ _).2.2.2, ⟨⟨boxed_eq (h2 _ _).1.1 hl0.symm, boxed_eq (h2 _ _).1.2 (by simp; omega)⟩, HCZ.out.trans (h2 _ _).2.1 fun _ _ e => e⟩, hr9⟩
        rotate_left 1
        · intro D2 cc pre Y hD2 hp h _
          exact (h (List.Pairwise.sublist hp.sublist hriM)).elim
        intro D2 ys Y hD2 hys h hK2
        obtain ⟨⟨⟨h0, h1⟩, hC⟩, _⟩ := h
        have hyl : ys.length = behP f L := by rw [← prs_len, hys, hlM]
        rw [hyl] at h1
        have hlow : ∀ k, k < n₀ → ¬ (k = c0 ∨ k = c3) := fun k hk e => by have h3 := HC.out; have h4 := HIG.out.size; omega
        have hb4Y : Boxed Y b4 4 (.bool false) := hC.heap h4A (hlow b4 HG.out.l4)
        have hz1Y : Boxed Y c1 3 (.int .i64 (kl : Nat)) := hC.heap hz1 (fun e => by have h3 := HC.out; omega)
        have hz2Y : Boxed Y c2 3 (.int .i64 (behP f L : Nat)) := hC.heap hz2 (fun e => by have h3 := HC.out; omega)
        have hDY : Y.heap[D]? = some (.deferred (some [])) := hC.heap hDA fun e => by
          rcases e with e | e
          · rw [e, show ZA.heap[c0]? = _ from hz0] at hDA; cases hDA
          · rw [e, show ZA.heap[c3]? = _ from hz3] at hDA; cases hDA
        have hBY : Below w.heap.size w Y := hBA.trans (hC.below hBA.size fun i e => by have h3 := HC.out; have h4 := HIG.out.below.size; omega)
        have hx1 := hz1Y.cell
        have hx2 := hz2Y.cell
        have hx3 := h1.cell
        have hne : D ≠ D2 := fun e => by have h3 := lt_of_heap hDA; omega
        have hDw : w.heap.size ≤ D := by have h3 := HDD.out; have h4 := HC.out; have h5 := hBWB.out; omega
        have hD2w : w.heap.size ≤ D2 := by have h3 := hBA.size; omega
        obtain ⟨bb, hbb⟩ : ∃ bb, bb = behP f L := ⟨_, rfl⟩
        rw [← hbb] at hx2 hx3
        have H4 := Lib.hid hb4Y
        have HDY := Lib.hid hDY
        have HK2 := Lib.hid hK2
        have HBY := Lib.hid hBY
        have HNE := Lib.hid hne
        have HDW := Lib.hid (And.intro hDw hD2w)
        have hqk : ((kl : Int) == (kl : Int)) = true := by simp
        have hqb : ((bb : Int) == (bb : Int)) = true := by simp
        clear h0 h1 hC hyl hlow hb4Y hz1Y hz2Y hDY hBY hys hK2 hne hDw hD2w hbb hz0 hz1 hz2 hz3 hrA hmA h7A h3A h4A hF1 hF2 hC1 hC2 hDA hBA hriM hgeM hlM hlM1 hM hD2
        gi_wp2_with fail
        refine ⟨trivial, ?_⟩
        gi_at_call 8
        refine (callsIn_wide.2 (lives_any Y)).mono ?_
        rintro e V ⟨rfl, hbV⟩
        have h4V : Boxed V b4 4 (.bool false) := (hbV.block b4 H4.out.lt).trans H4.out
        have hx4 := h4V.cell
        have hf4 := h4V.frozen
        have hdD : V.heap[D]? = some (.deferred (some [])) := (hbV.block D (lt_of_heap HDY.out)).trans HDY.out
        have hdD2 : V.heap[D2]? = some (.deferred (some [])) := (hbV.block D2 (lt_of_heap HK2.out)).trans HK2.out
        have hbV2 : Below w.heap.size w V := HBY.out.trans (hbV.mono HBY.out.size)
        have HV := Lib.hid (And.intro h4V (And.intro hdD (And.intro hdD2 hbV2)))
        clear hbV h4V hdD hdD2 hbV2 hx1 hx2 hx3 hqk hqb
        gi_wp2_with fail
        obtain ⟨h4V, hdD, hdD2, hbV2⟩ := HV.out
        have hbD : D ≠ b4 := fun e => by rw [e, show V.heap[b4]? = _ from h4V] at hdD; cases hdD
        have hbD2 : D2 ≠ b4 := fun e => by rw [e, show V.heap[b4]? = _ from h4V] at hdD2; cases hdD2
        have hst := Chg.store V b4 0 (.bool true)
        have h4W : Boxed (V.setCell ⟨b4, 0, none⟩ (.bool true)) b4 4 (.bool true) := h4V.set _
        have g2 := hst.heap hdD2 hbD2
        have g1 := hst.heap hdD hbD
        have hbW : Below w.heap.size w (V.setCell ⟨b4, 0, none⟩ (.bool true)) := hbV2.setCell (p := ⟨b4, 0, none⟩) HG4.out _
        generalize V.setCell ⟨b4, 0, none⟩ (.bool true) = VV at h4W g1 g2 hbW ⊢
        have g3 : (VV.putObj D2 (.deferred none)).heap[D]? = some (.deferred (some [])) := (World.putObj_heap_other HNE.out).trans g1
        have hres : ((VV.putObj D2 (.deferred none)).putObj D (.deferred none)).cell? ⟨b4, 0, none⟩ = some (.bool true) :=
          (World.cell?_of_block (a := ⟨b4, 0, none⟩) ((World.putObj_heap_other hbD.symm).trans (World.putObj_heap_other hbD2.symm))).trans h4W.cell
        refine ⟨by simp, .inl ⟨_, _, rfl, run_takeDeferred g2, ⟨by simp, .inl ⟨_, _, rfl, run_takeDeferred g3, ?_⟩⟩⟩⟩
        exact ⟨_, by simp [results, Try.results4, go_sem, hres], rfl, (hbW.trans (belowK_b (w := w) (Nat.le_refl _) VV D2 _ _ HDW.out.2 g2 rfl rfl)).trans (belowK_b (w := w) (Nat.le_refl _) _ D _ _ HDW.out.1 g3 rfl rfl)⟩
end Go.Proofs.Ytdnlgcomhgnegaa
