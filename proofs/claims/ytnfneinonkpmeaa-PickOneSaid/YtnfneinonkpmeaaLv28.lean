/- brazierref15.mayIns says yes to an instruction of picked code that may be. Written by genvmay.py. -/
import Derived.Test.YtnfneinonkpmeaaLv21
import Derived.Test.YtnfneinonkpmeaaLv2
namespace Go.Proofs.Ytnfneinonkpmeaa
open Go.RowKit
variable {T : Nat → Prop}
theorem isName_size {s : ByteArray} (h : isName s = true) : s.size ≤ maxLen := by
  unfold isName at h
  simp only [Bool.and_eq_true, Bool.not_eq_true', Bool.or_eq_false_iff, decide_eq_false_iff_not] at h
  have := h.1.1.1.2
  unfold maxLen; omega
theorem vreg_0 (n : Int) (w : World) : Calls Try.prog 58 #[.int .i64 0, .int .i64 (-1), .int .i64 n] w fun e w' => e = .returned (.bool true) ∧ w = w' := by
  go_enter Try.func58, Try.ntmps58
  go_wp2
  go_ret
  exact ⟨rfl, rfl⟩
theorem vreg_1 (r n : Int) (h : regB r n false = true) (w : World) : Calls Try.prog 58 #[.int .i64 1, .int .i64 r, .int .i64 n] w fun e w' => e = .returned (.bool true) ∧ w = w' := by
  have h2 : 0 ≤ r ∧ r < n := by
    unfold regB at h
    simp only [Bool.false_and, Bool.or_false, Bool.and_eq_true, decide_eq_true_eq] at h
    exact h
  obtain ⟨h3, h4⟩ := h2
  have h5 : (r == -1) = false := beq_eq_false_iff_ne.2 (by omega)
  clear h
  go_enter Try.func58, Try.ntmps58
  go_wp2
  go_ret
  exact ⟨rfl, rfl⟩
theorem vreg_2 (r n : Int) (h : regB r n true = true) (w : World) : Calls Try.prog 58 #[.int .i64 2, .int .i64 r, .int .i64 n] w fun e w' => e = .returned (.bool true) ∧ w = w' := by
  rcases regX_of h with rfl | ⟨h3, h4⟩
  · go_enter Try.func58, Try.ntmps58
    go_wp2
    go_ret
    exact ⟨rfl, rfl⟩
  · have h5 : (r == -1) = false := beq_eq_false_iff_ne.2 (by omega)
    clear h
    go_enter Try.func58, Try.ntmps58
    go_wp2
    go_ret
    exact ⟨rfl, rfl⟩
set_option maxRecDepth 100000 in
set_option maxHeartbeats 4000000 in
theorem vmay_immA {A : Option Addr} {c : Nat} {w : World} (op d a z n : Int) (ho1 : 2 ≤ op) (ho2 : op < 8) (hz1 : -2048 ≤ z) (hz2 : z ≤ 2047) (hd : regB d n false = true) (ha : regB a n true = true) :
    Calls Try.prog 42 #[.agg #[.int .i64 op, .int .i64 d, .int .i64 a, .int .i64 (-1), .int .i32 z, .string ⟨#[]⟩, .slice A 0 c], .int .i64 n] w fun e w' => e = .returned (.bool true) ∧ Below w.heap.size w w' := by
  have ho3 : op ≤ 10 := by omega
  have ho4 : (op != 46) = true := bne_iff_ne.2 (by omega)
  have Hd := Lib.hid hd
  clear hd
  have Ha := Lib.hid ha
  clear ha
  have HB : Hid (Below w.heap.size w (w.alloc (.cells #[.int .i64 op, .int .i64 d, .int .i64 a, .int .i64 (-1), .int .i32 z, .string ⟨#[]⟩, .slice A 0 c] 61))) := Lib.hid ((Below.refl _ _).alloc (Nat.le_refl _) _)
  go_enter Try.func42, Try.ntmps42
  go_wp2_with fail
  refine (vreg_1 d n Hd.out _).mono ?_
  rintro e w1 ⟨rfl, rfl⟩
  go_wp2_with fail
  refine (vreg_2 a n Ha.out _).mono ?_
  rintro e w1 ⟨rfl, rfl⟩
  go_wp2_with fail
  refine (vreg_0 n _).mono ?_
  rintro e w1 ⟨rfl, rfl⟩
  go_wp2_with fail
  refine wp_loop_rounds 1 ?_
  rw [rounds_succ]
  go_wp2_with fail
  go_ret
  exact ⟨rfl, HB.out⟩
set_option maxRecDepth 100000 in
set_option maxHeartbeats 4000000 in
theorem vmay_immB {A : Option Addr} {c : Nat} {w : World} (op d a z n : Int) (ho1 : 8 ≤ op) (ho2 : op ≤ 10) (hz1 : 0 ≤ z) (hz2 : z ≤ 31) (hd : regB d n false = true) (ha : regB a n true = true) :
    Calls Try.prog 42 #[.agg #[.int .i64 op, .int .i64 d, .int .i64 a, .int .i64 (-1), .int .i32 z, .string ⟨#[]⟩, .slice A 0 c], .int .i64 n] w fun e w' => e = .returned (.bool true) ∧ Below w.heap.size w w' := by
  have ho3 : 2 ≤ op := by omega
  have ho4 : (op != 46) = true := bne_iff_ne.2 (by omega)
  have hz3 : -2048 ≤ z := by omega
  have hz4 : z ≤ 2047 := by omega
  have Hd := Lib.hid hd
  clear hd
  have Ha := Lib.hid ha
  clear ha
  have HB : Hid (Below w.heap.size w (w.alloc (.cells #[.int .i64 op, .int .i64 d, .int .i64 a, .int .i64 (-1), .int .i32 z, .string ⟨#[]⟩, .slice A 0 c] 61))) := Lib.hid ((Below.refl _ _).alloc (Nat.le_refl _) _)
  go_enter Try.func42, Try.ntmps42
  go_wp2_with fail
  refine (vreg_1 d n Hd.out _).mono ?_
  rintro e w1 ⟨rfl, rfl⟩
  go_wp2_with fail
  refine (vreg_2 a n Ha.out _).mono ?_
  rintro e w1 ⟨rfl, rfl⟩
  go_wp2_with fail
  refine (vreg_0 n _).mono ?_
  rintro e w1 ⟨rfl, rfl⟩
  go_wp2_with fail
  refine wp_loop_rounds 1 ?_
  rw [rounds_succ]
  go_wp2_with fail
  go_ret
  exact ⟨rfl, HB.out⟩
set_option maxRecDepth 100000 in
set_option maxHeartbeats 4000000 in
theorem vmay_three {A : Option Addr} {c : Nat} {w : World} (op d a b n : Int) (ho1 : 11 ≤ op) (ho2 : op ≤ 23) (hd : regB d n false = true) (ha : regB a n true = true) (hb : regB b n true = true) :
    Calls Try.prog 42 #[.agg #[.int .i64 op, .int .i64 d, .int .i64 a, .int .i64 b, .int .i32 0, .string ⟨#[]⟩, .slice A 0 c], .int .i64 n] w fun e w' => e = .returned (.bool true) ∧ Below w.heap.size w w' := by
  have ho3 : 2 ≤ op := by omega
  have ho5 : ¬ op ≤ 10 := by omega
  have ho4 : (op != 46) = true := bne_iff_ne.2 (by omega)
  have Hd := Lib.hid hd
  clear hd
  have Ha := Lib.hid ha
  clear ha
  have Hb := Lib.hid hb
  clear hb
  have HB : Hid (Below w.heap.size w (w.alloc (.cells #[.int .i64 op, .int .i64 d, .int .i64 a, .int .i64 b, .int .i32 0, .string ⟨#[]⟩, .slice A 0 c] 61))) := Lib.hid ((Below.refl _ _).alloc (Nat.le_refl _) _)
  go_enter Try.func42, Try.ntmps42
  go_wp2_with fail
  refine (vreg_1 d n Hd.out _).mono ?_
  rintro e w1 ⟨rfl, rfl⟩
  go_wp2_with fail
  refine (vreg_2 a n Ha.out _).mono ?_
  rintro e w1 ⟨rfl, rfl⟩
  go_wp2_with fail
  refine (vreg_2 b n Hb.out _).mono ?_
  rintro e w1 ⟨rfl, rfl⟩
  go_wp2_with fail
  refine wp_loop_rounds 1 ?_
  rw [rounds_succ]
  go_wp2_with fail
  go_ret
  exact ⟨rfl, HB.out⟩
set_option maxRecDepth 100000 in
set_option maxHeartbeats 4000000 in
theorem vmay_li {A : Option Addr} {c : Nat} {w : World} (d z n : Int) (hd : regB d n false = true) :
    Calls Try.prog 42 #[.agg #[.int .i64 40, .int .i64 d, .int .i64 (-1), .int .i64 (-1), .int .i32 z, .string ⟨#[]⟩, .slice A 0 c], .int .i64 n] w fun e w' => e = .returned (.bool true) ∧ Below w.heap.size w w' := by
  have Hd := Lib.hid hd
  clear hd
  have HB : Hid (Below w.heap.size w (w.alloc (.cells #[.int .i64 40, .int .i64 d, .int .i64 (-1), .int .i64 (-1), .int .i32 z, .string ⟨#[]⟩, .slice A 0 c] 61))) := Lib.hid ((Below.refl _ _).alloc (Nat.le_refl _) _)
  go_enter Try.func42, Try.ntmps42
  go_wp2_with fail
  refine (vreg_1 d n Hd.out _).mono ?_
  rintro e w1 ⟨rfl, rfl⟩
  go_wp2_with fail
  refine (vreg_0 n _).mono ?_
  rintro e w1 ⟨rfl, rfl⟩
  go_wp2_with fail
  refine (vreg_0 n _).mono ?_
  rintro e w1 ⟨rfl, rfl⟩
  go_wp2_with fail
  refine wp_loop_rounds 1 ?_
  rw [rounds_succ]
  go_wp2_with fail
  go_ret
  exact ⟨rfl, HB.out⟩
set_option maxRecDepth 100000 in
set_option maxHeartbeats 4000000 in
theorem vmay_mv {A : Option Addr} {c : Nat} {w : World} (d a n : Int) (hd : regB d n false = true) (ha : regB a n false = true) :
    Calls Try.prog 42 #[.agg #[.int .i64 41, .int .i64 d, .int .i64 a, .int .i64 (-1), .int .i32 0, .string ⟨#[]⟩, .slice A 0 c], .int .i64 n] w fun e w' => e = .returned (.bool true) ∧ Below w.heap.size w w' := by
  have Hd := Lib.hid hd
  clear hd
  have Ha := Lib.hid ha
  clear ha
  have HB : Hid (Below w.heap.size w (w.alloc (.cells #[.int .i64 41, .int .i64 d, .int .i64 a, .int .i64 (-1), .int .i32 0, .string ⟨#[]⟩, .slice A 0 c] 61))) := Lib.hid ((Below.refl _ _).alloc (Nat.le_refl _) _)
  go_enter Try.func42, Try.ntmps42
  go_wp2_with fail
  refine (vreg_1 d n Hd.out _).mono ?_
  rintro e w1 ⟨rfl, rfl⟩
  go_wp2_with fail
  refine (vreg_1 a n Ha.out _).mono ?_
  rintro e w1 ⟨rfl, rfl⟩
  go_wp2_with fail
  refine (vreg_0 n _).mono ?_
  rintro e w1 ⟨rfl, rfl⟩
  go_wp2_with fail
  refine wp_loop_rounds 1 ?_
  rw [rounds_succ]
  go_wp2_with fail
  go_ret
  exact ⟨rfl, HB.out⟩
set_option maxRecDepth 100000 in
set_option maxHeartbeats 4000000 in
theorem vmay_get {A : Option Addr} {c : Nat} {w : World} (d n : Int) (name : ByteArray) (hd : regB d n false = true) (hn : isName name = true) :
    Calls Try.prog 42 #[.agg #[.int .i64 42, .int .i64 d, .int .i64 (-1), .int .i64 (-1), .int .i32 0, .string name, .slice A 0 c], .int .i64 n] w fun e w' => e = .returned (.bool true) ∧ Below w.heap.size w w' := by
  have Hd := Lib.hid hd
  clear hd
  have HN := Lib.hid hn
  clear hn
  have HB : Hid (Below w.heap.size w (w.alloc (.cells #[.int .i64 42, .int .i64 d, .int .i64 (-1), .int .i64 (-1), .int .i32 0, .string name, .slice A 0 c] 61))) := Lib.hid ((Below.refl _ _).alloc (Nat.le_refl _) _)
  go_enter Try.func42, Try.ntmps42
  go_wp2_with fail
  refine (vreg_1 d n Hd.out _).mono ?_
  rintro e w1 ⟨rfl, rfl⟩
  go_wp2_with fail
  refine (vreg_0 n _).mono ?_
  rintro e w1 ⟨rfl, rfl⟩
  go_wp2_with fail
  refine (vreg_0 n _).mono ?_
  rintro e w1 ⟨rfl, rfl⟩
  go_wp2_with fail
  refine (IsName_any name _ (isName_size HN.out)).mono ?_
  rintro e w2 ⟨rfl, hB2⟩
  rw [HN.out]
  have hc0 := box_cell hB2 0
  have hc5 := box_cell hB2 5
  have hc6 := box_cell hB2 6
  simp only [List.getElem?_toArray, List.getElem?_cons_succ, List.getElem?_cons_zero] at hc0 hc5 hc6
  have HB2 := Lib.hid (HB.out.trans (hB2.mono HB.out.size))
  clear hB2
  go_wp2_with fail
  refine wp_loop_rounds 1 ?_
  rw [rounds_succ]
  go_wp2_with fail
  go_ret
  exact ⟨rfl, HB2.out⟩
set_option maxRecDepth 100000 in
set_option maxHeartbeats 4000000 in
theorem vmay_set {A : Option Addr} {c : Nat} {w : World} (b n : Int) (name : ByteArray) (hb : regB b n false = true) (hn : isName name = true) :
    Calls Try.prog 42 #[.agg #[.int .i64 43, .int .i64 (-1), .int .i64 (-1), .int .i64 b, .int .i32 0, .string name, .slice A 0 c], .int .i64 n] w fun e w' => e = .returned (.bool true) ∧ Below w.heap.size w w' := by
  have Hb := Lib.hid hb
  clear hb
  have HN := Lib.hid hn
  clear hn
  have HB : Hid (Below w.heap.size w (w.alloc (.cells #[.int .i64 43, .int .i64 (-1), .int .i64 (-1), .int .i64 b, .int .i32 0, .string name, .slice A 0 c] 61))) := Lib.hid ((Below.refl _ _).alloc (Nat.le_refl _) _)
  go_enter Try.func42, Try.ntmps42
  go_wp2_with fail
  refine (vreg_0 n _).mono ?_
  rintro e w1 ⟨rfl, rfl⟩
  go_wp2_with fail
  refine (vreg_0 n _).mono ?_
  rintro e w1 ⟨rfl, rfl⟩
  go_wp2_with fail
  refine (vreg_1 b n Hb.out _).mono ?_
  rintro e w1 ⟨rfl, rfl⟩
  go_wp2_with fail
  refine (IsName_any name _ (isName_size HN.out)).mono ?_
  rintro e w2 ⟨rfl, hB2⟩
  rw [HN.out]
  have hc0 := box_cell hB2 0
  have hc5 := box_cell hB2 5
  have hc6 := box_cell hB2 6
  simp only [List.getElem?_toArray, List.getElem?_cons_succ, List.getElem?_cons_zero] at hc0 hc5 hc6
  have HB2 := Lib.hid (HB.out.trans (hB2.mono HB.out.size))
  clear hB2
  go_wp2_with fail
  refine wp_loop_rounds 1 ?_
  rw [rounds_succ]
  go_wp2_with fail
  go_ret
  exact ⟨rfl, HB2.out⟩
set_option maxRecDepth 100000 in
set_option maxHeartbeats 4000000 in
theorem vmay_idx {A : Option Addr} {c : Nat} {w : World} (d a n : Int) (name : ByteArray) (hd : regB d n false = true) (ha : regB a n false = true) (hn : isName name = true) :
    Calls Try.prog 42 #[.agg #[.int .i64 44, .int .i64 d, .int .i64 a, .int .i64 (-1), .int .i32 0, .string name, .slice A 0 c], .int .i64 n] w fun e w' => e = .returned (.bool true) ∧ Below w.heap.size w w' := by
  have Hd := Lib.hid hd
  clear hd
  have Ha := Lib.hid ha
  clear ha
  have HN := Lib.hid hn
  clear hn
  have HB : Hid (Below w.heap.size w (w.alloc (.cells #[.int .i64 44, .int .i64 d, .int .i64 a, .int .i64 (-1), .int .i32 0, .string name, .slice A 0 c] 61))) := Lib.hid ((Below.refl _ _).alloc (Nat.le_refl _) _)
  go_enter Try.func42, Try.ntmps42
  go_wp2_with fail
  refine (vreg_1 d n Hd.out _).mono ?_
  rintro e w1 ⟨rfl, rfl⟩
  go_wp2_with fail
  refine (vreg_1 a n Ha.out _).mono ?_
  rintro e w1 ⟨rfl, rfl⟩
  go_wp2_with fail
  refine (vreg_0 n _).mono ?_
  rintro e w1 ⟨rfl, rfl⟩
  go_wp2_with fail
  refine (IsName_any name _ (isName_size HN.out)).mono ?_
  rintro e w2 ⟨rfl, hB2⟩
  rw [HN.out]
  have hc0 := box_cell hB2 0
  have hc5 := box_cell hB2 5
  have hc6 := box_cell hB2 6
  simp only [List.getElem?_toArray, List.getElem?_cons_succ, List.getElem?_cons_zero] at hc0 hc5 hc6
  have HB2 := Lib.hid (HB.out.trans (hB2.mono HB.out.size))
  clear hB2
  go_wp2_with fail
  refine wp_loop_rounds 1 ?_
  rw [rounds_succ]
  go_wp2_with fail
  go_ret
  exact ⟨rfl, HB2.out⟩
set_option maxRecDepth 100000 in
set_option maxHeartbeats 4000000 in
theorem vmay_put {A : Option Addr} {c : Nat} {w : World} (a b n : Int) (name : ByteArray) (ha : regB a n false = true) (hb : regB b n false = true) (hn : isName name = true) :
    Calls Try.prog 42 #[.agg #[.int .i64 45, .int .i64 (-1), .int .i64 a, .int .i64 b, .int .i32 0, .string name, .slice A 0 c], .int .i64 n] w fun e w' => e = .returned (.bool true) ∧ Below w.heap.size w w' := by
  have Ha := Lib.hid ha
  clear ha
  have Hb := Lib.hid hb
  clear hb
  have HN := Lib.hid hn
  clear hn
  have HB : Hid (Below w.heap.size w (w.alloc (.cells #[.int .i64 45, .int .i64 (-1), .int .i64 a, .int .i64 b, .int .i32 0, .string name, .slice A 0 c] 61))) := Lib.hid ((Below.refl _ _).alloc (Nat.le_refl _) _)
  go_enter Try.func42, Try.ntmps42
  go_wp2_with fail
  refine (vreg_0 n _).mono ?_
  rintro e w1 ⟨rfl, rfl⟩
  go_wp2_with fail
  refine (vreg_1 a n Ha.out _).mono ?_
  rintro e w1 ⟨rfl, rfl⟩
  go_wp2_with fail
  refine (vreg_1 b n Hb.out _).mono ?_
  rintro e w1 ⟨rfl, rfl⟩
  go_wp2_with fail
  refine (IsName_any name _ (isName_size HN.out)).mono ?_
  rintro e w2 ⟨rfl, hB2⟩
  rw [HN.out]
  have hc0 := box_cell hB2 0
  have hc5 := box_cell hB2 5
  have hc6 := box_cell hB2 6
  simp only [List.getElem?_toArray, List.getElem?_cons_succ, List.getElem?_cons_zero] at hc0 hc5 hc6
  have HB2 := Lib.hid (HB.out.trans (hB2.mono HB.out.size))
  clear hB2
  go_wp2_with fail
  refine wp_loop_rounds 1 ?_
  rw [rounds_succ]
  go_wp2_with fail
  go_ret
  exact ⟨rfl, HB2.out⟩
set_option maxRecDepth 100000 in
set_option maxHeartbeats 4000000 in
theorem vmay_call {A : Option Addr} {c : Nat} {w : World} (d n : Int) (name : ByteArray) (args : List Int) (hl : args.length ≤ 8) (har : ∀ r ∈ args, regB r n false = true) (hr : RdT w T A (ints args)) (hd : regB d n true = true) (hn : isName name = true) :
    Calls Try.prog 42 #[.agg #[.int .i64 46, .int .i64 d, .int .i64 (-1), .int .i64 (-1), .int .i32 0, .string name, .slice A args.length c], .int .i64 n] w fun e w' => e = .returned (.bool true) ∧ Below w.heap.size w w' := by
  have Hd := Lib.hid hd
  clear hd
  have HN := Lib.hid hn
  clear hn
  have HAR := Lib.hid har
  have HR := Lib.hid hr
  clear har hr
  have HB : Hid (Below w.heap.size w (w.alloc (.cells #[.int .i64 46, .int .i64 d, .int .i64 (-1), .int .i64 (-1), .int .i32 0, .string name, .slice A args.length c] 61))) := Lib.hid ((Below.refl _ _).alloc (Nat.le_refl _) _)
  go_enter Try.func42, Try.ntmps42
  go_wp2_with fail
  refine (vreg_2 d n Hd.out _).mono ?_
  rintro e w1 ⟨rfl, rfl⟩
  go_wp2_with fail
  refine (vreg_0 n _).mono ?_
  rintro e w1 ⟨rfl, rfl⟩
  go_wp2_with fail
  refine (vreg_0 n _).mono ?_
  rintro e w1 ⟨rfl, rfl⟩
  go_wp2_with fail
  refine (IsName_any name _ (isName_size HN.out)).mono ?_
  rintro e w2 ⟨rfl, hB2⟩
  rw [HN.out]
  have hc0 := box_cell hB2 0
  have hc5 := box_cell hB2 5
  have hc6 := box_cell hB2 6
  simp only [List.getElem?_toArray, List.getElem?_cons_succ, List.getElem?_cons_zero] at hc0 hc5 hc6
  have HB2 := Lib.hid (HB.out.trans (hB2.mono HB.out.size))
  clear hB2
  go_wp2_with fail
  go_loop [183] (fun i => ∃ k : Nat, k ≤ args.length ∧ i = .int .i64 (k : Nat)) (fun i => args.length - (intOf i).toNat)
  case atStart => exact ⟨0, by omega, rfl⟩
  case round =>
    obtain ⟨k, hk, rfl⟩ := hrel
    by_cases hlt : k < args.length
    · obtain ⟨g, off, rfl, _, hg, hcl⟩ := HR.out (by rw [ints_length]; omega)
      have hx := (HB2.out.cell (p := ⟨g, off + k, none⟩) hg).trans (hcl k _ (ints_at args k hlt))
      obtain ⟨z, hze⟩ : ∃ z, z = args.getD k 0 := ⟨_, rfl⟩
      rw [← hze] at hx
      have HZ : Hid (regB z n false = true) := Lib.hid (by rw [hze, List.getD_eq_getElem?_getD, List.getElem?_eq_getElem hlt]; exact HAR.out _ (List.getElem_mem hlt))
      clear hcl hze
      go_wp2_with fail
      refine (vreg_1 z n HZ.out _).mono ?_
      rintro e w3 ⟨rfl, rfl⟩
      go_wp2_with fail
      go_round
      case rel => exact ⟨k + 1, by omega, by go_num⟩
      case measure => simp [intOf]; omega
    · obtain rfl : k = args.length := by omega
      go_wp2_with fail
      go_ret
      exact ⟨rfl, HB2.out⟩
set_option maxRecDepth 100000 in
set_option maxHeartbeats 4000000 in
theorem vmay_read {A : Option Addr} {c : Nat} {w : World} (d n : Int) (hd : regB d n false = true) :
    Calls Try.prog 42 #[.agg #[.int .i64 47, .int .i64 d, .int .i64 (-1), .int .i64 (-1), .int .i32 0, .string ⟨#[]⟩, .slice A 0 c], .int .i64 n] w fun e w' => e = .returned (.bool true) ∧ Below w.heap.size w w' := by
  have Hd := Lib.hid hd
  clear hd
  have HB : Hid (Below w.heap.size w (w.alloc (.cells #[.int .i64 47, .int .i64 d, .int .i64 (-1), .int .i64 (-1), .int .i32 0, .string ⟨#[]⟩, .slice A 0 c] 61))) := Lib.hid ((Below.refl _ _).alloc (Nat.le_refl _) _)
  go_enter Try.func42, Try.ntmps42
  go_wp2_with fail
  refine (vreg_1 d n Hd.out _).mono ?_
  rintro e w1 ⟨rfl, rfl⟩
  go_wp2_with fail
  refine (vreg_0 n _).mono ?_
  rintro e w1 ⟨rfl, rfl⟩
  go_wp2_with fail
  refine (vreg_0 n _).mono ?_
  rintro e w1 ⟨rfl, rfl⟩
  go_wp2_with fail
  refine wp_loop_rounds 1 ?_
  rw [rounds_succ]
  go_wp2_with fail
  go_ret
  exact ⟨rfl, HB.out⟩
set_option maxRecDepth 100000 in
set_option maxHeartbeats 4000000 in
theorem vmay_print {A : Option Addr} {c : Nat} {w : World} (a n : Int) (ha : regB a n false = true) :
    Calls Try.prog 42 #[.agg #[.int .i64 48, .int .i64 (-1), .int .i64 a, .int .i64 (-1), .int .i32 0, .string ⟨#[]⟩, .slice A 0 c], .int .i64 n] w fun e w' => e = .returned (.bool true) ∧ Below w.heap.size w w' := by
  have Ha := Lib.hid ha
  clear ha
  have HB : Hid (Below w.heap.size w (w.alloc (.cells #[.int .i64 48, .int .i64 (-1), .int .i64 a, .int .i64 (-1), .int .i32 0, .string ⟨#[]⟩, .slice A 0 c] 61))) := Lib.hid ((Below.refl _ _).alloc (Nat.le_refl _) _)
  go_enter Try.func42, Try.ntmps42
  go_wp2_with fail
  refine (vreg_0 n _).mono ?_
  rintro e w1 ⟨rfl, rfl⟩
  go_wp2_with fail
  refine (vreg_1 a n Ha.out _).mono ?_
  rintro e w1 ⟨rfl, rfl⟩
  go_wp2_with fail
  refine (vreg_0 n _).mono ?_
  rintro e w1 ⟨rfl, rfl⟩
  go_wp2_with fail
  refine wp_loop_rounds 1 ?_
  rw [rounds_succ]
  go_wp2_with fail
  go_ret
  exact ⟨rfl, HB.out⟩
set_option maxRecDepth 100000 in
set_option maxHeartbeats 4000000 in
theorem vmay_ret {A : Option Addr} {c : Nat} {w : World} (a n : Int) (ha : regB a n false = true) :
    Calls Try.prog 42 #[.agg #[.int .i64 49, .int .i64 (-1), .int .i64 a, .int .i64 (-1), .int .i32 0, .string ⟨#[]⟩, .slice A 0 c], .int .i64 n] w fun e w' => e = .returned (.bool true) ∧ Below w.heap.size w w' := by
  have Ha := Lib.hid ha
  clear ha
  have HB : Hid (Below w.heap.size w (w.alloc (.cells #[.int .i64 49, .int .i64 (-1), .int .i64 a, .int .i64 (-1), .int .i32 0, .string ⟨#[]⟩, .slice A 0 c] 61))) := Lib.hid ((Below.refl _ _).alloc (Nat.le_refl _) _)
  go_enter Try.func42, Try.ntmps42
  go_wp2_with fail
  refine (vreg_0 n _).mono ?_
  rintro e w1 ⟨rfl, rfl⟩
  go_wp2_with fail
  refine (vreg_1 a n Ha.out _).mono ?_
  rintro e w1 ⟨rfl, rfl⟩
  go_wp2_with fail
  refine (vreg_0 n _).mono ?_
  rintro e w1 ⟨rfl, rfl⟩
  go_wp2_with fail
  refine wp_loop_rounds 1 ?_
  rw [rounds_succ]
  go_wp2_with fail
  go_ret
  exact ⟨rfl, HB.out⟩
set_option maxRecDepth 100000 in
set_option maxHeartbeats 4000000 in
theorem vmay_label {A : Option Addr} {c : Nat} {w : World} (z n : Int) (hz1 : 0 ≤ z) :
    Calls Try.prog 42 #[.agg #[.int .i64 50, .int .i64 (-1), .int .i64 (-1), .int .i64 (-1), .int .i32 z, .string ⟨#[]⟩, .slice A 0 c], .int .i64 n] w fun e w' => e = .returned (.bool true) ∧ Below w.heap.size w w' := by
  have HB : Hid (Below w.heap.size w (w.alloc (.cells #[.int .i64 50, .int .i64 (-1), .int .i64 (-1), .int .i64 (-1), .int .i32 z, .string ⟨#[]⟩, .slice A 0 c] 61))) := Lib.hid ((Below.refl _ _).alloc (Nat.le_refl _) _)
  go_enter Try.func42, Try.ntmps42
  go_wp2_with fail
  refine (vreg_0 n _).mono ?_
  rintro e w1 ⟨rfl, rfl⟩
  go_wp2_with fail
  refine (vreg_0 n _).mono ?_
  rintro e w1 ⟨rfl, rfl⟩
  go_wp2_with fail
  refine (vreg_0 n _).mono ?_
  rintro e w1 ⟨rfl, rfl⟩
  go_wp2_with fail
  refine wp_loop_rounds 1 ?_
  rw [rounds_succ]
  go_wp2_with fail
  go_ret
  exact ⟨rfl, HB.out⟩
set_option maxRecDepth 100000 in
set_option maxHeartbeats 4000000 in
theorem vmay_jump {A : Option Addr} {c : Nat} {w : World} (z n : Int) (hz1 : 0 ≤ z) :
    Calls Try.prog 42 #[.agg #[.int .i64 51, .int .i64 (-1), .int .i64 (-1), .int .i64 (-1), .int .i32 z, .string ⟨#[]⟩, .slice A 0 c], .int .i64 n] w fun e w' => e = .returned (.bool true) ∧ Below w.heap.size w w' := by
  have HB : Hid (Below w.heap.size w (w.alloc (.cells #[.int .i64 51, .int .i64 (-1), .int .i64 (-1), .int .i64 (-1), .int .i32 z, .string ⟨#[]⟩, .slice A 0 c] 61))) := Lib.hid ((Below.refl _ _).alloc (Nat.le_refl _) _)
  go_enter Try.func42, Try.ntmps42
  go_wp2_with fail
  refine (vreg_0 n _).mono ?_
  rintro e w1 ⟨rfl, rfl⟩
  go_wp2_with fail
  refine (vreg_0 n _).mono ?_
  rintro e w1 ⟨rfl, rfl⟩
  go_wp2_with fail
  refine (vreg_0 n _).mono ?_
  rintro e w1 ⟨rfl, rfl⟩
  go_wp2_with fail
  refine wp_loop_rounds 1 ?_
  rw [rounds_succ]
  go_wp2_with fail
  go_ret
  exact ⟨rfl, HB.out⟩
set_option maxRecDepth 100000 in
set_option maxHeartbeats 4000000 in
theorem vmay_bnez {A : Option Addr} {c : Nat} {w : World} (a z n : Int) (hz1 : 0 ≤ z) (ha : regB a n false = true) :
    Calls Try.prog 42 #[.agg #[.int .i64 52, .int .i64 (-1), .int .i64 a, .int .i64 (-1), .int .i32 z, .string ⟨#[]⟩, .slice A 0 c], .int .i64 n] w fun e w' => e = .returned (.bool true) ∧ Below w.heap.size w w' := by
  have Ha := Lib.hid ha
  clear ha
  have HB : Hid (Below w.heap.size w (w.alloc (.cells #[.int .i64 52, .int .i64 (-1), .int .i64 a, .int .i64 (-1), .int .i32 z, .string ⟨#[]⟩, .slice A 0 c] 61))) := Lib.hid ((Below.refl _ _).alloc (Nat.le_refl _) _)
  go_enter Try.func42, Try.ntmps42
  go_wp2_with fail
  refine (vreg_0 n _).mono ?_
  rintro e w1 ⟨rfl, rfl⟩
  go_wp2_with fail
  refine (vreg_1 a n Ha.out _).mono ?_
  rintro e w1 ⟨rfl, rfl⟩
  go_wp2_with fail
  refine (vreg_0 n _).mono ?_
  rintro e w1 ⟨rfl, rfl⟩
  go_wp2_with fail
  refine wp_loop_rounds 1 ?_
  rw [rounds_succ]
  go_wp2_with fail
  go_ret
  exact ⟨rfl, HB.out⟩
set_option maxRecDepth 100000 in
set_option maxHeartbeats 4000000 in
theorem vmay_beqz {A : Option Addr} {c : Nat} {w : World} (a z n : Int) (hz1 : 0 ≤ z) (ha : regB a n false = true) :
    Calls Try.prog 42 #[.agg #[.int .i64 53, .int .i64 (-1), .int .i64 a, .int .i64 (-1), .int .i32 z, .string ⟨#[]⟩, .slice A 0 c], .int .i64 n] w fun e w' => e = .returned (.bool true) ∧ Below w.heap.size w w' := by
  have Ha := Lib.hid ha
  clear ha
  have HB : Hid (Below w.heap.size w (w.alloc (.cells #[.int .i64 53, .int .i64 (-1), .int .i64 a, .int .i64 (-1), .int .i32 z, .string ⟨#[]⟩, .slice A 0 c] 61))) := Lib.hid ((Below.refl _ _).alloc (Nat.le_refl _) _)
  go_enter Try.func42, Try.ntmps42
  go_wp2_with fail
  refine (vreg_0 n _).mono ?_
  rintro e w1 ⟨rfl, rfl⟩
  go_wp2_with fail
  refine (vreg_1 a n Ha.out _).mono ?_
  rintro e w1 ⟨rfl, rfl⟩
  go_wp2_with fail
  refine (vreg_0 n _).mono ?_
  rintro e w1 ⟨rfl, rfl⟩
  go_wp2_with fail
  refine wp_loop_rounds 1 ?_
  rw [rounds_succ]
  go_wp2_with fail
  go_ret
  exact ⟨rfl, HB.out⟩
theorem vmayIns_true (x : Vins) (n : Int) (hv : VOk n x) (A : Option Addr) (c : Nat) (w : World) (hr : RdT w T A (ints x.args)) :
    Calls Try.prog 42 #[.agg #[.int .i64 x.op, .int .i64 x.d, .int .i64 x.a, .int .i64 x.b, .int .i32 x.num, .string x.name, .slice A x.args.length c], .int .i64 n] w fun e w' => e = .returned (.bool true) ∧ Below w.heap.size w w' := by
  cases hv with
  | imm op d a z ho hd ha hz =>
    rcases hz with ⟨h1, h2, h3⟩ | ⟨h1, h2, h3⟩
    · exact vmay_immA op d a z n ho.1 h1 h2 h3 hd ha
    · exact vmay_immB op d a z n h1 ho.2 h2 h3 hd ha
  | three op d a b ho hd ha hb => exact vmay_three op d a b n ho.1 ho.2 hd ha hb
  | li d z hd hz => exact vmay_li d z n hd
  | mv d a hd ha => exact vmay_mv d a n hd ha
  | get d name hd hn => exact vmay_get d n name hd hn
  | set b name hb hn => exact vmay_set b n name hb hn
  | idx d a name hd ha hn => exact vmay_idx d a n name hd ha hn
  | put a b name ha hb hn => exact vmay_put a b n name ha hb hn
  | call d name args hd hn hl ha => exact vmay_call d n name args hl ha hr hd hn
  | read d hd => exact vmay_read d n hd
  | print a ha => exact vmay_print a n ha
  | ret a ha => exact vmay_ret a n ha
  | label z hz => exact vmay_label z n hz.1
  | jump z hz => exact vmay_jump z n hz.1
  | bnez a z ha hz => exact vmay_bnez a z n hz.1 ha
  | beqz a z ha hz => exact vmay_beqz a z n hz.1 ha
end Go.Proofs.Ytnfneinonkpmeaa
