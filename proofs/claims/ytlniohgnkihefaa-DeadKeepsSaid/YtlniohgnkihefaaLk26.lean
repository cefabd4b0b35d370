/- brazierref12.mayIns says yes to an instruction that may be. Written by genmayt.py. -/
import Derived.Test.YtlniohgnkihefaaLk3
namespace Go.Proofs.Ytlniohgnkihefaa
open Go.RowKit
variable {T : Nat → Prop}

set_option maxRecDepth 100000 in
set_option maxHeartbeats 4000000 in
theorem mayInsT_1 (d z n : Int) (A : Option Addr) (c : Nat) (w : World) (hd : regB d n false = true) :
    Calls Try.prog 50 #[.agg #[.int .i64 1, .int .i64 0, .int .i64 d, .int .i64 (-1), .int .i64 (-1), .int .i32 z, .string ⟨#[]⟩, .slice A 0 c], .int .i64 n] w fun e w' => e = .returned (.bool true) ∧ Below w.heap.size w w' := by
  have HD := Lib.hid hd
  clear hd
  have HB : Hid (Below w.heap.size w (w.alloc (.cells #[.int .i64 1, .int .i64 0, .int .i64 d, .int .i64 (-1), .int .i64 (-1), .int .i32 z, .string ⟨#[]⟩, .slice A 0 c] 48))) := Lib.hid ((Below.refl _ _).alloc (Nat.le_refl _) _)
  go_enter Try.func50, Try.ntmps50
  go_wp2_with fail
  refine (reg12_any d n false _).mono ?_
  rintro e w1 ⟨rfl, rfl⟩
  rw [HD.out]
  go_wp2_with fail
  refine wp_loop_rounds 1 ?_
  rw [rounds_succ]
  go_wp2_with fail
  go_ret
  exact ⟨rfl, HB.out⟩

set_option maxRecDepth 100000 in
set_option maxHeartbeats 4000000 in
theorem mayInsT_2 (d a n : Int) (A : Option Addr) (c : Nat) (w : World) (hd : regB d n false = true) (ha : regB a n false = true) :
    Calls Try.prog 50 #[.agg #[.int .i64 2, .int .i64 0, .int .i64 d, .int .i64 a, .int .i64 (-1), .int .i32 0, .string ⟨#[]⟩, .slice A 0 c], .int .i64 n] w fun e w' => e = .returned (.bool true) ∧ Below w.heap.size w w' := by
  have HD := Lib.hid hd
  have HA := Lib.hid ha
  clear hd ha
  have HB : Hid (Below w.heap.size w (w.alloc (.cells #[.int .i64 2, .int .i64 0, .int .i64 d, .int .i64 a, .int .i64 (-1), .int .i32 0, .string ⟨#[]⟩, .slice A 0 c] 48))) := Lib.hid ((Below.refl _ _).alloc (Nat.le_refl _) _)
  go_enter Try.func50, Try.ntmps50
  go_wp2_with fail
  refine (reg12_any d n false _).mono ?_
  rintro e w1 ⟨rfl, rfl⟩
  rw [HD.out]
  go_wp2_with fail
  refine (reg12_any a n false _).mono ?_
  rintro e w1 ⟨rfl, rfl⟩
  rw [HA.out]
  go_wp2_with fail
  refine wp_loop_rounds 1 ?_
  rw [rounds_succ]
  go_wp2_with fail
  go_ret
  exact ⟨rfl, HB.out⟩

set_option maxRecDepth 100000 in
set_option maxHeartbeats 4000000 in
theorem mayInsT_3 (op d a n : Int) (A : Option Addr) (c : Nat) (w : World) (hd : regB d n false = true) (ha : regB a n false = true) (ho1 : 19 ≤ op) (ho2 : op ≤ 21) :
    Calls Try.prog 50 #[.agg #[.int .i64 3, .int .i64 op, .int .i64 d, .int .i64 a, .int .i64 (-1), .int .i32 0, .string ⟨#[]⟩, .slice A 0 c], .int .i64 n] w fun e w' => e = .returned (.bool true) ∧ Below w.heap.size w w' := by
  have HD := Lib.hid hd
  have HA := Lib.hid ha
  clear hd ha
  have HB : Hid (Below w.heap.size w (w.alloc (.cells #[.int .i64 3, .int .i64 op, .int .i64 d, .int .i64 a, .int .i64 (-1), .int .i32 0, .string ⟨#[]⟩, .slice A 0 c] 48))) := Lib.hid ((Below.refl _ _).alloc (Nat.le_refl _) _)
  go_enter Try.func50, Try.ntmps50
  go_wp2_with fail
  refine (reg12_any d n false _).mono ?_
  rintro e w1 ⟨rfl, rfl⟩
  rw [HD.out]
  go_wp2_with fail
  refine (reg12_any a n false _).mono ?_
  rintro e w1 ⟨rfl, rfl⟩
  rw [HA.out]
  go_wp2_with fail
  refine wp_loop_rounds 1 ?_
  rw [rounds_succ]
  go_wp2_with fail
  go_ret
  exact ⟨rfl, HB.out⟩

set_option maxRecDepth 100000 in
set_option maxHeartbeats 4000000 in
theorem mayInsT_4 (op d a b n : Int) (A : Option Addr) (c : Nat) (w : World) (hd : regB d n false = true) (ha : regB a n false = true) (hb : regB b n false = true) (ho1 : 1 ≤ op) (ho2 : op ≤ 16) :
    Calls Try.prog 50 #[.agg #[.int .i64 4, .int .i64 op, .int .i64 d, .int .i64 a, .int .i64 b, .int .i32 0, .string ⟨#[]⟩, .slice A 0 c], .int .i64 n] w fun e w' => e = .returned (.bool true) ∧ Below w.heap.size w w' := by
  have HD := Lib.hid hd
  have HA := Lib.hid ha
  have HBB := Lib.hid hb
  clear hd ha hb
  have HB : Hid (Below w.heap.size w (w.alloc (.cells #[.int .i64 4, .int .i64 op, .int .i64 d, .int .i64 a, .int .i64 b, .int .i32 0, .string ⟨#[]⟩, .slice A 0 c] 48))) := Lib.hid ((Below.refl _ _).alloc (Nat.le_refl _) _)
  go_enter Try.func50, Try.ntmps50
  go_wp2_with fail
  refine (reg12_any d n false _).mono ?_
  rintro e w1 ⟨rfl, rfl⟩
  rw [HD.out]
  go_wp2_with fail
  refine (reg12_any a n false _).mono ?_
  rintro e w1 ⟨rfl, rfl⟩
  rw [HA.out]
  go_wp2_with fail
  refine (reg12_any b n false _).mono ?_
  rintro e w1 ⟨rfl, rfl⟩
  rw [HBB.out]
  go_wp2_with fail
  refine wp_loop_rounds 1 ?_
  rw [rounds_succ]
  go_wp2_with fail
  go_ret
  exact ⟨rfl, HB.out⟩

set_option maxRecDepth 100000 in
set_option maxHeartbeats 4000000 in
theorem mayInsT_5 (d a n : Int) (name : ByteArray) (A : Option Addr) (c : Nat) (w : World) (hd : regB d n false = true) (ha : regB a n true = true) (hn : isName name = true) (hs : name.size ≤ maxLen) :
    Calls Try.prog 50 #[.agg #[.int .i64 5, .int .i64 0, .int .i64 d, .int .i64 a, .int .i64 (-1), .int .i32 0, .string name, .slice A 0 c], .int .i64 n] w fun e w' => e = .returned (.bool true) ∧ Below w.heap.size w w' := by
  have HD := Lib.hid hd
  have HA := Lib.hid ha
  have HN := Lib.hid hn
  have HS := Lib.hid hs
  clear hd ha hn hs
  have HB : Hid (Below w.heap.size w (w.alloc (.cells #[.int .i64 5, .int .i64 0, .int .i64 d, .int .i64 a, .int .i64 (-1), .int .i32 0, .string name, .slice A 0 c] 48))) := Lib.hid ((Below.refl _ _).alloc (Nat.le_refl _) _)
  go_enter Try.func50, Try.ntmps50
  go_wp2_with fail
  refine (reg12_any d n false _).mono ?_
  rintro e w1 ⟨rfl, rfl⟩
  rw [HD.out]
  go_wp2_with fail
  refine (reg12_any a n true _).mono ?_
  rintro e w1 ⟨rfl, rfl⟩
  rw [HA.out]
  go_wp2_with fail
  refine (IsName_any name _ HS.out).mono ?_
  rintro e w2 ⟨rfl, hB2⟩
  rw [HN.out]
  have hc0 := box_cell hB2 0
  have hc1 := box_cell hB2 1
  have hc5 := box_cell hB2 5
  have hc7 := box_cell hB2 7
  simp only [List.getElem?_toArray, List.getElem?_cons_succ, List.getElem?_cons_zero] at hc0 hc1 hc5 hc7
  have HB2 := Lib.hid (HB.out.trans (hB2.mono HB.out.size))
  clear hB2
  go_wp2_with fail
  refine wp_loop_rounds 1 ?_
  rw [rounds_succ]
  go_wp2_with fail
  go_ret
  exact ⟨rfl, HB2.out⟩

set_option maxRecDepth 100000 in
set_option maxHeartbeats 4000000 in
theorem mayInsT_6 (a b n : Int) (name : ByteArray) (A : Option Addr) (c : Nat) (w : World) (ha : regB a n true = true) (hb : regB b n false = true) (hn : isName name = true) (hs : name.size ≤ maxLen) :
    Calls Try.prog 50 #[.agg #[.int .i64 6, .int .i64 0, .int .i64 (-1), .int .i64 a, .int .i64 b, .int .i32 0, .string name, .slice A 0 c], .int .i64 n] w fun e w' => e = .returned (.bool true) ∧ Below w.heap.size w w' := by
  have HA := Lib.hid ha
  have HBB := Lib.hid hb
  have HN := Lib.hid hn
  have HS := Lib.hid hs
  clear ha hb hn hs
  have HB : Hid (Below w.heap.size w (w.alloc (.cells #[.int .i64 6, .int .i64 0, .int .i64 (-1), .int .i64 a, .int .i64 b, .int .i32 0, .string name, .slice A 0 c] 48))) := Lib.hid ((Below.refl _ _).alloc (Nat.le_refl _) _)
  go_enter Try.func50, Try.ntmps50
  go_wp2_with fail
  refine (reg12_any a n true _).mono ?_
  rintro e w1 ⟨rfl, rfl⟩
  rw [HA.out]
  go_wp2_with fail
  refine (reg12_any b n false _).mono ?_
  rintro e w1 ⟨rfl, rfl⟩
  rw [HBB.out]
  go_wp2_with fail
  refine (IsName_any name _ HS.out).mono ?_
  rintro e w2 ⟨rfl, hB2⟩
  rw [HN.out]
  have hc0 := box_cell hB2 0
  have hc1 := box_cell hB2 1
  have hc5 := box_cell hB2 5
  have hc7 := box_cell hB2 7
  simp only [List.getElem?_toArray, List.getElem?_cons_succ, List.getElem?_cons_zero] at hc0 hc1 hc5 hc7
  have HB2 := Lib.hid (HB.out.trans (hB2.mono HB.out.size))
  clear hB2
  go_wp2_with fail
  refine wp_loop_rounds 1 ?_
  rw [rounds_succ]
  go_wp2_with fail
  go_ret
  exact ⟨rfl, HB2.out⟩

set_option maxRecDepth 100000 in
set_option maxHeartbeats 4000000 in
theorem mayInsT_7 (d n : Int) (name : ByteArray) (args : List Int) (A : Option Addr) (c : Nat) (w : World) (hd : regB d n true = true) (hn : isName name = true) (hs : name.size ≤ maxLen) (hl : args.length ≤ 8) (har : ∀ r ∈ args, regB r n false = true) (hr : RdT w T A (ints args)) :
    Calls Try.prog 50 #[.agg #[.int .i64 7, .int .i64 0, .int .i64 d, .int .i64 (-1), .int .i64 (-1), .int .i32 0, .string name, .slice A args.length c], .int .i64 n] w fun e w' => e = .returned (.bool true) ∧ Below w.heap.size w w' := by
  have HD := Lib.hid hd
  have HN := Lib.hid hn
  have HS := Lib.hid hs
  have HAR := Lib.hid har
  have HR := Lib.hid hr
  clear hd hn hs har hr
  have HB : Hid (Below w.heap.size w (w.alloc (.cells #[.int .i64 7, .int .i64 0, .int .i64 d, .int .i64 (-1), .int .i64 (-1), .int .i32 0, .string name, .slice A args.length c] 48))) := Lib.hid ((Below.refl _ _).alloc (Nat.le_refl _) _)
  go_enter Try.func50, Try.ntmps50
  go_wp2_with fail
  refine (reg12_any d n true _).mono ?_
  rintro e w1 ⟨rfl, rfl⟩
  rw [HD.out]
  go_wp2_with fail
  refine (IsName_any name _ HS.out).mono ?_
  rintro e w2 ⟨rfl, hB2⟩
  rw [HN.out]
  have hc0 := box_cell hB2 0
  have hc1 := box_cell hB2 1
  have hc5 := box_cell hB2 5
  have hc7 := box_cell hB2 7
  simp only [List.getElem?_toArray, List.getElem?_cons_succ, List.getElem?_cons_zero] at hc0 hc1 hc5 hc7
  have HB2 := Lib.hid (HB.out.trans (hB2.mono HB.out.size))
  clear hB2
  go_wp2_with fail
  go_loop [225] (fun i => ∃ k : Nat, k ≤ args.length ∧ i = .int .i64 (k : Nat)) (fun i => args.length - (intOf i).toNat)
  case atStart => exact ⟨0, by omega, rfl⟩
  case round =>
    obtain ⟨k, hk, rfl⟩ := hrel
    by_cases hlt : k < args.length
    · obtain ⟨g, off, rfl, _, hg, hcl⟩ := HR.out (by rw [ints_length]; omega)
      have hx := (HB2.out.cell (p := ⟨g, off + k, none⟩) hg).trans (hcl k _ (ints_at args k hlt))
      obtain ⟨z, hze⟩ : ∃ z, z = args.getD k 0 := ⟨_, rfl⟩
      rw [← hze] at hx
      have HZ : Hid (regB z n false = true) := Lib.hid (by rw [hze, List.getD_eq_getElem?_getD, List.getElem?_eq_getElem hlt]; exact HAR.out _ (List.getElem_mem hlt))
      clear hcl hze
      go_wp2_with fail
      refine (reg12_any z n false _).mono ?_
      rintro e w3 ⟨rfl, rfl⟩
      rw [HZ.out]
      go_wp2_with fail
      go_round
      case rel => exact ⟨k + 1, by omega, by go_num⟩
      case measure => simp [intOf]; omega
    · obtain rfl : k = args.length := by omega
      go_wp2_with fail
      go_ret
      exact ⟨rfl, HB2.out⟩

set_option maxRecDepth 100000 in
set_option maxHeartbeats 4000000 in
theorem mayInsT_8 (d n : Int) (A : Option Addr) (c : Nat) (w : World) (hd : regB d n false = true) :
    Calls Try.prog 50 #[.agg #[.int .i64 8, .int .i64 0, .int .i64 d, .int .i64 (-1), .int .i64 (-1), .int .i32 0, .string ⟨#[]⟩, .slice A 0 c], .int .i64 n] w fun e w' => e = .returned (.bool true) ∧ Below w.heap.size w w' := by
  have HD := Lib.hid hd
  clear hd
  have HB : Hid (Below w.heap.size w (w.alloc (.cells #[.int .i64 8, .int .i64 0, .int .i64 d, .int .i64 (-1), .int .i64 (-1), .int .i32 0, .string ⟨#[]⟩, .slice A 0 c] 48))) := Lib.hid ((Below.refl _ _).alloc (Nat.le_refl _) _)
  go_enter Try.func50, Try.ntmps50
  go_wp2_with fail
  refine (reg12_any d n false _).mono ?_
  rintro e w1 ⟨rfl, rfl⟩
  rw [HD.out]
  go_wp2_with fail
  refine wp_loop_rounds 1 ?_
  rw [rounds_succ]
  go_wp2_with fail
  go_ret
  exact ⟨rfl, HB.out⟩

set_option maxRecDepth 100000 in
set_option maxHeartbeats 4000000 in
theorem mayInsT_9 (a n : Int) (A : Option Addr) (c : Nat) (w : World) (ha : regB a n false = true) :
    Calls Try.prog 50 #[.agg #[.int .i64 9, .int .i64 0, .int .i64 (-1), .int .i64 a, .int .i64 (-1), .int .i32 0, .string ⟨#[]⟩, .slice A 0 c], .int .i64 n] w fun e w' => e = .returned (.bool true) ∧ Below w.heap.size w w' := by
  have HA := Lib.hid ha
  clear ha
  have HB : Hid (Below w.heap.size w (w.alloc (.cells #[.int .i64 9, .int .i64 0, .int .i64 (-1), .int .i64 a, .int .i64 (-1), .int .i32 0, .string ⟨#[]⟩, .slice A 0 c] 48))) := Lib.hid ((Below.refl _ _).alloc (Nat.le_refl _) _)
  go_enter Try.func50, Try.ntmps50
  go_wp2_with fail
  refine (reg12_any a n false _).mono ?_
  rintro e w1 ⟨rfl, rfl⟩
  rw [HA.out]
  go_wp2_with fail
  refine wp_loop_rounds 1 ?_
  rw [rounds_succ]
  go_wp2_with fail
  go_ret
  exact ⟨rfl, HB.out⟩

theorem mayIns_true (x : Ins) (n : Int) (hx : InsOk x) (hv : InsV n x) (A : Option Addr) (c : Nat) (w : World) (hr : RdT w T A (ints x.args)) :
    Calls Try.prog 50 #[.agg #[.int .i64 x.kind, .int .i64 x.op, .int .i64 x.d, .int .i64 x.a, .int .i64 x.b, .int .i32 x.num, .string x.name, .slice A x.args.length c], .int .i64 n] w fun e w' => e = .returned (.bool true) ∧ Below w.heap.size w w' := by
  cases hv with
  | num d z hd => exact mayInsT_1 d z n A c w hd
  | copy d a hd ha => exact mayInsT_2 d a n A c w hd ha
  | un op d a ho hd ha => exact mayInsT_3 op d a n A c w hd ha ho.1 ho.2
  | bin op d a b ho hd ha hb => exact mayInsT_4 op d a b n A c w hd ha hb ho.1 ho.2
  | load d a name hd ha hn => exact mayInsT_5 d a n name A c w hd ha hn hx.name
  | store a b name ha hb hn => exact mayInsT_6 a b n name A c w ha hb hn hx.name
  | call d name args hd hn hl ha => exact mayInsT_7 d n name args A c w hd hn hx.name hl ha hr
  | read d hd => exact mayInsT_8 d n A c w hd
  | print a ha => exact mayInsT_9 a n A c w ha
end Go.Proofs.Ytlniohgnkihefaa
