/- The picker: binary. Written by genbin.py. -/
import Derived.Deep.RegionHeld3
import Derived.Test.YtnfneinonkpmeaaLv14
namespace Go.Proofs.Ytnfneinonkpmeaa
open Go.RowKit Go.Maps
variable {w w1 : World} {pb mb : Nat} {v : Value} {r : Option Nat} {f : Fn} {l : List Vins} {n : Nat} {K : Int → Option Int}

/-- The state within 'binary': the picker, and the instruction's box. -/
structure BSt (w : World) (pb mb : Nat) (v : Value) (r : Option Nat) (f : Fn) (l : List Vins) (n : Nat) (K : Int → Option Int) (op d a b : Int) (W : World) : Prop where
  below : Below w.heap.size w W
  at_ : PickAt W pb mb v r f l n (kl K)
  c1 : W.cell? ⟨w.heap.size, 1, none⟩ = some (.int .i64 op)
  c2 : W.cell? ⟨w.heap.size, 2, none⟩ = some (.int .i64 d)
  c3 : W.cell? ⟨w.heap.size, 3, none⟩ = some (.int .i64 a)
  c4 : W.cell? ⟨w.heap.size, 4, none⟩ = some (.int .i64 b)
  p4 : W.cell? ⟨pb, 4, none⟩ = some (.map (some mb))
  lt : w.heap.size < W.heap.size
theorem BSt.next {op d a b : Int} {W W' : World} (h : BSt w pb mb v r f l n K op d a b W) (hB : Below W.heap.size W W') : BSt w pb mb v r f l n K op d a b W' :=
  ⟨h.below.trans (hB.mono h.below.size), h.at_.kept hB, (hB.cell (p := ⟨w.heap.size, 1, none⟩) h.lt).trans h.c1, (hB.cell (p := ⟨w.heap.size, 2, none⟩) h.lt).trans h.c2, (hB.cell (p := ⟨w.heap.size, 3, none⟩) h.lt).trans h.c3,
    (hB.cell (p := ⟨w.heap.size, 4, none⟩) h.lt).trans h.c4, (hB.cell (p := ⟨pb, 4, none⟩) (h.at_.lt pb (.inl rfl))).trans h.p4, Nat.lt_of_lt_of_le h.lt hB.size⟩
theorem BSt.drew {op d a b : Int} {W : World} (h : BSt w pb mb v r f l n K op d a b W) (k : Nat) : BSt w pb mb v r f l n K op d a b (W.drewN k) := h.next (below_drewN (Below.refl _ _) k)
theorem BSt.look {op d a b : Int} {W : World} (h : BSt w pb mb v r f l n K op d a b W) (x : Int) (hx : I64 x) (k : Nat) :
    (Instr.lookup 63 (.map (some mb)) (.int .i64 x) true).run Try.prog (W.drewN k) = .ok (.tuple #[.int .i32 ((K x).getD 0), .bool (K x).isSome]) (W.drewN k) :=
  lookK (h.at_.map.kept ((Chg.refl (fun _ => False) W).drewN k) (fun h => h)) x hx
theorem BSt.picked {op d a b : Int} {W W' : World} {l' : List Vins} {n' : Nat} {kn : Lit → Option Lit} (h : BSt w pb mb v r f l n K op d a b W) (hp : Picked W pb mb r f l' n' kn W') : Picked w pb mb r f l' n' kn W' := by
  obtain ⟨v', r', h1, h2⟩ := hp
  exact ⟨v', r', h1, (PStep.ofBelow h.below).trans h2⟩
theorem below_drew (w : World) : Below w.heap.size w w.drew := ⟨rfl, rfl, rfl, Nat.le_refl _, fun _ _ => rfl⟩
theorem short_args {op d a n : Int} {s : Vins} (h : shortS op d a n = some s) : s.args = [] := by
  unfold shortS at h
  repeat' split at h
  all_goals first | (cases h; rfl) | cases h
theorem vins_eta {s : Vins} (h : s.args = []) : (⟨s.op, s.d, s.a, s.b, s.num, s.name, []⟩ : Vins) = s := by
  obtain ⟨_, _, _, _, _, _, args⟩ := s; cases h; rfl
theorem plain_nz {op : Int} (h : 1 ≤ op ∧ op ≤ 11) : (plainS op != 0) = true := by
  have : op = 1 ∨ op = 2 ∨ op = 3 ∨ op = 4 ∨ op = 5 ∨ op = 6 ∨ op = 7 ∨ op = 8 ∨ op = 9 ∨ op = 10 ∨ op = 11 := by omega
  rcases this with rfl | rfl | rfl | rfl | rfl | rfl | rfl | rfl | rfl | rfl | rfl <;> rfl
theorem binRest_plain {op d a b : Int} (h : 1 ≤ op ∧ op ≤ 11) : binRest op d a b = [threeS (plainS op) d a b] := by
  unfold binRest
  rw [if_neg (by omega), if_neg (by omega), if_neg (by omega), if_neg (by omega), if_neg (by omega)]

set_option maxHeartbeats 4000000 in
set_option maxRecDepth 100000 in
theorem binary_any (h : PickAt w pb mb v r f l n (kl K)) (hK : KOk K) (hb : l.length + 2 ≤ 1000000000) (kind op d a b num : Int) (name : ByteArray) (s : Value) (ho : 1 ≤ op ∧ op ≤ 16) (ha64 : I64 a) (hb64 : I64 b) :
    Calls Try.prog 36 #[.pointer (some ⟨pb, 0, none⟩), .agg #[.int .i64 kind, .int .i64 op, .int .i64 d, .int .i64 a, .int .i64 b, .int .i32 num, .string name, s]] w
      fun e w' => e = .returned (.tuple #[]) ∧ Picked w pb mb r f (l ++ binS K op d a b) n (kl K) w' := by
  obtain ⟨w0, hw0, hb0, hlt0, hc⟩ := box_new w #[.int .i64 kind, .int .i64 op, .int .i64 d, .int .i64 a, .int .i64 b, .int .i32 num, .string name, s] 54
  have S0 : Hid (BSt w pb mb v r f l n K op d a b w0) := Lib.hid ⟨hb0, h.kept hb0, hc 1, hc 2, hc 3, hc 4, cell_of_row _ _ _ _ _ _ (h.kept hb0).heap, hlt0⟩
  have hlb := S0.out.look b hb64
  have HA64 := Lib.hid ha64
  have HK := Lib.hid hK
  have HW := Lib.hid hw0
  have HO := Lib.hid ho
  have HH := Lib.hid h
  clear hw0 hb0 hc h ha64 hb64 hK ho hlt0
  obtain ⟨_, _, c1, c2, c3, c4, hp4, hlt⟩ := S0.out
  cases hkb : K b with
  | some nb =>
    have HNB := Lib.hid (HK.out b nb hkb).1
    rw [hkb] at hlb
    simp only [Option.getD_some, Option.isSome_some] at hlb
    have HKB := Lib.hid hkb
    clear hkb
    go_enter Try.func36, Try.ntmps36
    go_wp2_with fail
    rw [← HW.out]
    go_quiet (fail)
    have S1 := Lib.hid (S0.out.drew nq)
    clear hlb c1 c2 c3 c4 hp4 hlt
    generalize w0.drewN nq = w1 at S1 ⊢
    obtain ⟨_, _, c1, c2, c3, c4, hp4, hlt⟩ := S1.out
    go_wp2_with fail
    refine (short_any op d a nb HO.out HNB.out _).mono ?_
    rintro e wy ⟨y, rfl, hBy, hy⟩
    have S2 := Lib.hid (S1.out.next hBy)
    clear hBy c1 c2 c3 c4 hp4 hlt
    obtain ⟨_, _, c1, c2, c3, c4, hp4, hlt⟩ := S2.out
    cases hs : shortS op d a nb with
    | some s =>
      obtain rfl := hy s hs
      have HBIN : Hid (binS K op d a b = [y]) := Lib.hid (by unfold binS; rw [HKB.out]; simp only [Option.bind_some]; rw [hs]; rfl)
      have HS := Lib.hid hs
      clear hs hy
      simp only [Option.isSome_some]
      go_wp2_with fail
      obtain ⟨w6, hw6, hb6, hlt6, hc6⟩ := box_new wy #[.int .i64 y.op, .int .i64 y.d, .int .i64 y.a, .int .i64 y.b, .int .i32 y.num, .string y.name, .slice none 0 0] 61
      have hsz6 : w6.heap.size = wy.heap.size + 1 := by rw [hw6]; simp
      rw [← hw6, ← hsz6]
      have HEQ := Lib.hid (vins_eta (short_args HS.out))
      clear hw6 hlt6 hc6 hsz6
      refine (put_one S2.out.at_ hb6 y.op y.d y.a y.b y.num y.name (by omega)).mono ?_
      rintro e w7 ⟨rfl, hP⟩
      have HP := Lib.hid (S2.out.picked hP)
      clear hP hb6
      go_wp2_with fail
      go_returns
      refine ⟨rfl, ?_⟩
      have hP := HP.out
      rw [HEQ.out] at hP
      rw [HBIN.out]
      exact hP
    | none =>
      have HBIN0 : Hid (binS K op d a b = firstOf ((if turnsS op then K a else none).bind fun n => shortS op d b n) (binRest op d a b)) := Lib.hid (by unfold binS; rw [HKB.out]; simp only [Option.bind_some]; rw [hs]; rfl)
      clear hs hy
      simp only [Option.isSome_none]
      have hby : Below wy.heap.size wy (wy.alloc (.cells #[.int .i64 y.op, .int .i64 y.d, .int .i64 y.a, .int .i64 y.b, .int .i32 y.num, .string y.name, .slice none 0 0] 61)) := (Below.refl _ _).alloc (Nat.le_refl _) _
      have S3 := Lib.hid (S2.out.next hby)
      clear hby
      go_wp2_with fail
      generalize wy.alloc (.cells #[.int .i64 y.op, .int .i64 y.d, .int .i64 y.a, .int .i64 y.b, .int .i32 y.num, .string y.name, .slice none 0 0] 61) = w3 at S3 ⊢
      clear c1 c2 c3 c4 hp4 hlt
      obtain ⟨_, _, c1, c2, c3, c4, hp4, hlt⟩ := S3.out
      have hla := S3.out.look a HA64.out
      cases hka : K a with
      | none =>
        rw [hka] at hla
        simp only [Option.getD_none, Option.isSome_none] at hla
        have HBIN : Hid (binS K op d a b = binRest op d a b) := Lib.hid (by rw [HBIN0.out, hka]; cases turnsS op <;> rfl)
        clear hka
        go_quiet (fail)
        have S4 := Lib.hid (S3.out.drew nq)
        clear hla c1 c2 c3 c4 hp4 hlt
        generalize w3.drewN nq = w4 at S4 ⊢
        obtain ⟨_, _, c1, c2, c3, c4, hp4, hlt⟩ := S4.out
        go_wp2_with fail
        refine (plain_any op HO.out _).mono ?_
        rintro e wz ⟨rfl, rfl⟩
        by_cases h11 : op ≤ 11
        · have hnz := plain_nz (op := op) ⟨HO.out.1, h11⟩
          go_wp2_with fail
          refine (three_any (plainS op) d a b _).mono ?_
          rintro e w8 ⟨rfl, hB8⟩
          have HB8 := Lib.hid hB8
          clear hB8
          go_wp2_with fail
          refine (put_one S4.out.at_ HB8.out (plainS op) d a b 0 ⟨#[]⟩ (by omega)).mono ?_
          rintro e w9 ⟨rfl, hP⟩
          have HP := Lib.hid (S4.out.picked hP)
          clear hP
          go_wp2_with fail
          go_returns
          refine ⟨rfl, ?_⟩
          rw [HBIN.out, binRest_plain ⟨HO.out.1, h11⟩]
          exact HP.out
        · have hrare : op = 12 ∨ op = 13 ∨ op = 14 ∨ op = 15 ∨ op = 16 := by have := HO.out; omega
          rcases hrare with rfl | rfl | rfl | rfl | rfl
          · go_wp2_with fail
            refine (with_any 5 d d 1 _).mono ?_
            rintro e w8 ⟨rfl, hB8⟩
            obtain ⟨wn, hwn, hbn, hln, hcn⟩ := box_new w8 #[.int .i64 5, .int .i64 d, .int .i64 d, .int .i64 (-1), .int .i32 1, .string ⟨#[]⟩, .slice none 0 0] 61
            have n0 := hcn 0
            have n1 := hcn 1
            have n2 := hcn 2
            have n3 := hcn 3
            have n4 := hcn 4
            have n5 := hcn 5
            have n6 := hcn 6
            simp only [List.getElem?_toArray, List.getElem?_cons_succ, List.getElem?_cons_zero] at n0 n1 n2 n3 n4 n5 n6
            have S7' := Lib.hid (S4.out.next hB8)
            have S7 := Lib.hid (S7'.out.next hbn)
            clear hB8 hbn hcn c1 c2 c3 c4 hp4 hlt
            obtain ⟨_, _, c1, c2, c3, c4, hp4, hlt⟩ := S7'.out
            have HWN := Lib.hid hwn
            clear hwn
            go_wp2_with fail
            rw [← HWN.out]
            clear c1 c2 c3 c4 hp4 hlt
            obtain ⟨_, _, c1, c2, c3, c4, hp4, hlt⟩ := S7.out
            have S7 := Lib.hid (S7.out.next (below_drew wn))
            have hltw8 : w.heap.size < w8.heap.size := S7'.out.lt
            have HNF : Hid (¬ FootP pb mb r w.heap.size) := Lib.hid fun hf => Nat.lt_irrefl _ (HH.out.lt _ hf)
            have HNF8 : Hid (¬ FootP pb mb r w8.heap.size) := Lib.hid fun hf => Nat.lt_asymm hltw8 (HH.out.lt _ hf)
            go_region_held3 (fun W => (W.cell? ⟨w.heap.size, 2, none⟩ = some (.int .i64 d) ∧ W.cell? ⟨w.heap.size, 3, none⟩ = some (.int .i64 a) ∧ W.cell? ⟨w.heap.size, 4, none⟩ = some (.int .i64 b)) ∧ W.cell? ⟨w8.heap.size, 0, none⟩ = some (.int .i64 5) ∧ W.cell? ⟨w8.heap.size, 1, none⟩ = some (.int .i64 d) ∧ W.cell? ⟨w8.heap.size, 2, none⟩ = some (.int .i64 d) ∧ W.cell? ⟨w8.heap.size, 3, none⟩ = some (.int .i64 (-1)) ∧ W.cell? ⟨w8.heap.size, 4, none⟩ = some (.int .i32 1) ∧ W.cell? ⟨w8.heap.size, 5, none⟩ = some (.string ⟨#[]⟩) ∧ W.cell? ⟨w8.heap.size, 6, none⟩ = some (.slice none 0 0)) (first | exact ⟨⟨c2, c3, c4⟩, n0, n1, n2, n3, n4, n5, n6⟩ | go_keep) (first | (go_at_call 34; refine (three_any _ _ _ _ _).mono ?_; rintro e wv ⟨rfl, hBv⟩; have n0 := (hBv.cell hln).trans n0; have n1 := (hBv.cell hln).trans n1; have n2 := (hBv.cell hln).trans n2; have n3 := (hBv.cell hln).trans n3; have n4 := (hBv.cell hln).trans n4; have n5 := (hBv.cell hln).trans n5; have n6 := (hBv.cell hln).trans n6; have hln := Nat.lt_of_lt_of_le hln hBv.size; have S7 := Lib.hid (S7.out.next hBv); clear hBv; obtain ⟨_, _, c1, c2, c3, c4, hp4, hlt⟩ := S7.out) | (go_at_call 20; refine (put_two S7.out.at_ (Below.refl _ _) 14 d b a 0 5 d d (-1) 1 ⟨#[]⟩ ⟨#[]⟩ (by omega)).mono ?_; rintro e wf ⟨rfl, v9, r9, hp9, hs9⟩; have c2 := hs9.chg.cell c2 HNF.out; have c3 := hs9.chg.cell c3 HNF.out; have c4 := hs9.chg.cell c4 HNF.out; have n0 := hs9.chg.cell n0 HNF8.out; have n1 := hs9.chg.cell n1 HNF8.out; have n2 := hs9.chg.cell n2 HNF8.out; have n3 := hs9.chg.cell n3 HNF8.out; have n4 := hs9.chg.cell n4 HNF8.out; have n5 := hs9.chg.cell n5 HNF8.out; have n6 := hs9.chg.cell n6 HNF8.out; have HP := Lib.hid (S7.out.picked ⟨v9, r9, hp9, hs9⟩); clear hp9 hs9))
            all_goals (go_wp2_with fail; go_returns; refine ⟨rfl, ?_⟩; rw [HBIN.out]; exact HP.out)
          · go_wp2_with fail
            refine (with_any 5 d d 1 _).mono ?_
            rintro e w8 ⟨rfl, hB8⟩
            obtain ⟨wn, hwn, hbn, hln, hcn⟩ := box_new w8 #[.int .i64 5, .int .i64 d, .int .i64 d, .int .i64 (-1), .int .i32 1, .string ⟨#[]⟩, .slice none 0 0] 61
            have n0 := hcn 0
            have n1 := hcn 1
            have n2 := hcn 2
            have n3 := hcn 3
            have n4 := hcn 4
            have n5 := hcn 5
            have n6 := hcn 6
            simp only [List.getElem?_toArray, List.getElem?_cons_succ, List.getElem?_cons_zero] at n0 n1 n2 n3 n4 n5 n6
            have S7' := Lib.hid (S4.out.next hB8)
            have S7 := Lib.hid (S7'.out.next hbn)
            clear hB8 hbn hcn c1 c2 c3 c4 hp4 hlt
            obtain ⟨_, _, c1, c2, c3, c4, hp4, hlt⟩ := S7'.out
            have HWN := Lib.hid hwn
            clear hwn
            go_wp2_with fail
            rw [← HWN.out]
            clear c1 c2 c3 c4 hp4 hlt
            obtain ⟨_, _, c1, c2, c3, c4, hp4, hlt⟩ := S7.out
            refine (three_any 14 d b a _).mono ?_
            rintro e w9 ⟨rfl, hB9⟩
            have HB9 := Lib.hid hB9
            clear hB9
            go_wp2_with fail
            refine (put_one S7.out.at_ HB9.out 14 d b a 0 ⟨#[]⟩ (by omega)).mono ?_
            rintro e wf ⟨rfl, hP⟩
            have HP := Lib.hid (S7.out.picked hP)
            clear hP
            go_wp2_with fail
            go_returns
            refine ⟨rfl, ?_⟩
            rw [HBIN.out]
            exact HP.out
          · go_wp2_with fail
            refine (with_any 5 d d 1 _).mono ?_
            rintro e w8 ⟨rfl, hB8⟩
            obtain ⟨wn, hwn, hbn, hln, hcn⟩ := box_new w8 #[.int .i64 5, .int .i64 d, .int .i64 d, .int .i64 (-1), .int .i32 1, .string ⟨#[]⟩, .slice none 0 0] 61
            have n0 := hcn 0
            have n1 := hcn 1
            have n2 := hcn 2
            have n3 := hcn 3
            have n4 := hcn 4
            have n5 := hcn 5
            have n6 := hcn 6
            simp only [List.getElem?_toArray, List.getElem?_cons_succ, List.getElem?_cons_zero] at n0 n1 n2 n3 n4 n5 n6
            have S7' := Lib.hid (S4.out.next hB8)
            have S7 := Lib.hid (S7'.out.next hbn)
            clear hB8 hbn hcn c1 c2 c3 c4 hp4 hlt
            obtain ⟨_, _, c1, c2, c3, c4, hp4, hlt⟩ := S7'.out
            have HWN := Lib.hid hwn
            clear hwn
            go_wp2_with fail
            rw [← HWN.out]
            clear c1 c2 c3 c4 hp4 hlt
            obtain ⟨_, _, c1, c2, c3, c4, hp4, hlt⟩ := S7.out
            have S7 := Lib.hid (S7.out.next (below_drew wn))
            have hltw8 : w.heap.size < w8.heap.size := S7'.out.lt
            have HNF : Hid (¬ FootP pb mb r w.heap.size) := Lib.hid fun hf => Nat.lt_irrefl _ (HH.out.lt _ hf)
            have HNF8 : Hid (¬ FootP pb mb r w8.heap.size) := Lib.hid fun hf => Nat.lt_asymm hltw8 (HH.out.lt _ hf)
            go_region_held3 (fun W => (W.cell? ⟨w.heap.size, 2, none⟩ = some (.int .i64 d) ∧ W.cell? ⟨w.heap.size, 3, none⟩ = some (.int .i64 a) ∧ W.cell? ⟨w.heap.size, 4, none⟩ = some (.int .i64 b)) ∧ W.cell? ⟨w8.heap.size, 0, none⟩ = some (.int .i64 5) ∧ W.cell? ⟨w8.heap.size, 1, none⟩ = some (.int .i64 d) ∧ W.cell? ⟨w8.heap.size, 2, none⟩ = some (.int .i64 d) ∧ W.cell? ⟨w8.heap.size, 3, none⟩ = some (.int .i64 (-1)) ∧ W.cell? ⟨w8.heap.size, 4, none⟩ = some (.int .i32 1) ∧ W.cell? ⟨w8.heap.size, 5, none⟩ = some (.string ⟨#[]⟩) ∧ W.cell? ⟨w8.heap.size, 6, none⟩ = some (.slice none 0 0)) (first | exact ⟨⟨c2, c3, c4⟩, n0, n1, n2, n3, n4, n5, n6⟩ | go_keep) (first | (go_at_call 34; refine (three_any _ _ _ _ _).mono ?_; rintro e wv ⟨rfl, hBv⟩; have n0 := (hBv.cell hln).trans n0; have n1 := (hBv.cell hln).trans n1; have n2 := (hBv.cell hln).trans n2; have n3 := (hBv.cell hln).trans n3; have n4 := (hBv.cell hln).trans n4; have n5 := (hBv.cell hln).trans n5; have n6 := (hBv.cell hln).trans n6; have hln := Nat.lt_of_lt_of_le hln hBv.size; have S7 := Lib.hid (S7.out.next hBv); clear hBv; obtain ⟨_, _, c1, c2, c3, c4, hp4, hlt⟩ := S7.out) | (go_at_call 20; refine (put_two S7.out.at_ (Below.refl _ _) 14 d a b 0 5 d d (-1) 1 ⟨#[]⟩ ⟨#[]⟩ (by omega)).mono ?_; rintro e wf ⟨rfl, v9, r9, hp9, hs9⟩; have c2 := hs9.chg.cell c2 HNF.out; have c3 := hs9.chg.cell c3 HNF.out; have c4 := hs9.chg.cell c4 HNF.out; have n0 := hs9.chg.cell n0 HNF8.out; have n1 := hs9.chg.cell n1 HNF8.out; have n2 := hs9.chg.cell n2 HNF8.out; have n3 := hs9.chg.cell n3 HNF8.out; have n4 := hs9.chg.cell n4 HNF8.out; have n5 := hs9.chg.cell n5 HNF8.out; have n6 := hs9.chg.cell n6 HNF8.out; have HP := Lib.hid (S7.out.picked ⟨v9, r9, hp9, hs9⟩); clear hp9 hs9))
            all_goals (go_wp2_with fail; go_returns; refine ⟨rfl, ?_⟩; rw [HBIN.out]; exact HP.out)
          · go_wp2_with fail
            refine (with_any 5 d d 1 _).mono ?_
            rintro e w8 ⟨rfl, hB8⟩
            obtain ⟨wn, hwn, hbn, hln, hcn⟩ := box_new w8 #[.int .i64 5, .int .i64 d, .int .i64 d, .int .i64 (-1), .int .i32 1, .string ⟨#[]⟩, .slice none 0 0] 61
            have n0 := hcn 0
            have n1 := hcn 1
            have n2 := hcn 2
            have n3 := hcn 3
            have n4 := hcn 4
            have n5 := hcn 5
            have n6 := hcn 6
            simp only [List.getElem?_toArray, List.getElem?_cons_succ, List.getElem?_cons_zero] at n0 n1 n2 n3 n4 n5 n6
            have S7' := Lib.hid (S4.out.next hB8)
            have S7 := Lib.hid (S7'.out.next hbn)
            clear hB8 hbn hcn c1 c2 c3 c4 hp4 hlt
            obtain ⟨_, _, c1, c2, c3, c4, hp4, hlt⟩ := S7'.out
            have HWN := Lib.hid hwn
            clear hwn
            go_wp2_with fail
            rw [← HWN.out]
            clear c1 c2 c3 c4 hp4 hlt
            obtain ⟨_, _, c1, c2, c3, c4, hp4, hlt⟩ := S7.out
            have S7 := Lib.hid (S7.out.next (below_drew wn))
            have hltw8 : w.heap.size < w8.heap.size := S7'.out.lt
            have HNF : Hid (¬ FootP pb mb r w.heap.size) := Lib.hid fun hf => Nat.lt_irrefl _ (HH.out.lt _ hf)
            have HNF8 : Hid (¬ FootP pb mb r w8.heap.size) := Lib.hid fun hf => Nat.lt_asymm hltw8 (HH.out.lt _ hf)
            go_region_held3 (fun W => (W.cell? ⟨w.heap.size, 2, none⟩ = some (.int .i64 d) ∧ W.cell? ⟨w.heap.size, 3, none⟩ = some (.int .i64 a) ∧ W.cell? ⟨w.heap.size, 4, none⟩ = some (.int .i64 b)) ∧ W.cell? ⟨w8.heap.size, 0, none⟩ = some (.int .i64 5) ∧ W.cell? ⟨w8.heap.size, 1, none⟩ = some (.int .i64 d) ∧ W.cell? ⟨w8.heap.size, 2, none⟩ = some (.int .i64 d) ∧ W.cell? ⟨w8.heap.size, 3, none⟩ = some (.int .i64 (-1)) ∧ W.cell? ⟨w8.heap.size, 4, none⟩ = some (.int .i32 1) ∧ W.cell? ⟨w8.heap.size, 5, none⟩ = some (.string ⟨#[]⟩) ∧ W.cell? ⟨w8.heap.size, 6, none⟩ = some (.slice none 0 0)) (first | exact ⟨⟨c2, c3, c4⟩, n0, n1, n2, n3, n4, n5, n6⟩ | go_keep) (first | (go_at_call 34; refine (three_any _ _ _ _ _).mono ?_; rintro e wv ⟨rfl, hBv⟩; have n0 := (hBv.cell hln).trans n0; have n1 := (hBv.cell hln).trans n1; have n2 := (hBv.cell hln).trans n2; have n3 := (hBv.cell hln).trans n3; have n4 := (hBv.cell hln).trans n4; have n5 := (hBv.cell hln).trans n5; have n6 := (hBv.cell hln).trans n6; have hln := Nat.lt_of_lt_of_le hln hBv.size; have S7 := Lib.hid (S7.out.next hBv); clear hBv; obtain ⟨_, _, c1, c2, c3, c4, hp4, hlt⟩ := S7.out) | (go_at_call 49; refine (with_any _ _ _ _ _).mono ?_; rintro e wv ⟨rfl, hBv⟩; have n0 := (hBv.cell hln).trans n0; have n1 := (hBv.cell hln).trans n1; have n2 := (hBv.cell hln).trans n2; have n3 := (hBv.cell hln).trans n3; have n4 := (hBv.cell hln).trans n4; have n5 := (hBv.cell hln).trans n5; have n6 := (hBv.cell hln).trans n6; have hln := Nat.lt_of_lt_of_le hln hBv.size; have S7 := Lib.hid (S7.out.next hBv); clear hBv; obtain ⟨_, _, c1, c2, c3, c4, hp4, hlt⟩ := S7.out) | (go_at_call 20; refine (put_two S7.out.at_ (Below.refl _ _) 12 d a b 0 4 d d (-1) 1 ⟨#[]⟩ ⟨#[]⟩ (by omega)).mono ?_; rintro e wf ⟨rfl, v9, r9, hp9, hs9⟩; have c2 := hs9.chg.cell c2 HNF.out; have c3 := hs9.chg.cell c3 HNF.out; have c4 := hs9.chg.cell c4 HNF.out; have n0 := hs9.chg.cell n0 HNF8.out; have n1 := hs9.chg.cell n1 HNF8.out; have n2 := hs9.chg.cell n2 HNF8.out; have n3 := hs9.chg.cell n3 HNF8.out; have n4 := hs9.chg.cell n4 HNF8.out; have n5 := hs9.chg.cell n5 HNF8.out; have n6 := hs9.chg.cell n6 HNF8.out; have HP := Lib.hid (S7.out.picked ⟨v9, r9, hp9, hs9⟩); clear hp9 hs9))
            all_goals (go_wp2_with fail; go_returns; refine ⟨rfl, ?_⟩; rw [HBIN.out]; exact HP.out)
          · go_wp2_with fail
            refine (with_any 5 d d 1 _).mono ?_
            rintro e w8 ⟨rfl, hB8⟩
            obtain ⟨wn, hwn, hbn, hln, hcn⟩ := box_new w8 #[.int .i64 5, .int .i64 d, .int .i64 d, .int .i64 (-1), .int .i32 1, .string ⟨#[]⟩, .slice none 0 0] 61
            have n0 := hcn 0
            have n1 := hcn 1
            have n2 := hcn 2
            have n3 := hcn 3
            have n4 := hcn 4
            have n5 := hcn 5
            have n6 := hcn 6
            simp only [List.getElem?_toArray, List.getElem?_cons_succ, List.getElem?_cons_zero] at n0 n1 n2 n3 n4 n5 n6
            have S7' := Lib.hid (S4.out.next hB8)
            have S7 := Lib.hid (S7'.out.next hbn)
            clear hB8 hbn hcn c1 c2 c3 c4 hp4 hlt
            obtain ⟨_, _, c1, c2, c3, c4, hp4, hlt⟩ := S7'.out
            have HWN := Lib.hid hwn
            clear hwn
            go_wp2_with fail
            rw [← HWN.out]
            clear c1 c2 c3 c4 hp4 hlt
            obtain ⟨_, _, c1, c2, c3, c4, hp4, hlt⟩ := S7.out
            have S7 := Lib.hid (S7.out.next (below_drew wn))
            have hltw8 : w.heap.size < w8.heap.size := S7'.out.lt
            have HNF : Hid (¬ FootP pb mb r w.heap.size) := Lib.hid fun hf => Nat.lt_irrefl _ (HH.out.lt _ hf)
            have HNF8 : Hid (¬ FootP pb mb r w8.heap.size) := Lib.hid fun hf => Nat.lt_asymm hltw8 (HH.out.lt _ hf)
            go_region_held3 (fun W => (W.cell? ⟨w.heap.size, 2, none⟩ = some (.int .i64 d) ∧ W.cell? ⟨w.heap.size, 3, none⟩ = some (.int .i64 a) ∧ W.cell? ⟨w.heap.size, 4, none⟩ = some (.int .i64 b)) ∧ W.cell? ⟨w8.heap.size, 0, none⟩ = some (.int .i64 5) ∧ W.cell? ⟨w8.heap.size, 1, none⟩ = some (.int .i64 d) ∧ W.cell? ⟨w8.heap.size, 2, none⟩ = some (.int .i64 d) ∧ W.cell? ⟨w8.heap.size, 3, none⟩ = some (.int .i64 (-1)) ∧ W.cell? ⟨w8.heap.size, 4, none⟩ = some (.int .i32 1) ∧ W.cell? ⟨w8.heap.size, 5, none⟩ = some (.string ⟨#[]⟩) ∧ W.cell? ⟨w8.heap.size, 6, none⟩ = some (.slice none 0 0)) (first | exact ⟨⟨c2, c3, c4⟩, n0, n1, n2, n3, n4, n5, n6⟩ | go_keep) (first | (go_at_call 34; refine (three_any _ _ _ _ _).mono ?_; rintro e wv ⟨rfl, hBv⟩; have n0 := (hBv.cell hln).trans n0; have n1 := (hBv.cell hln).trans n1; have n2 := (hBv.cell hln).trans n2; have n3 := (hBv.cell hln).trans n3; have n4 := (hBv.cell hln).trans n4; have n5 := (hBv.cell hln).trans n5; have n6 := (hBv.cell hln).trans n6; have hln := Nat.lt_of_lt_of_le hln hBv.size; have S7 := Lib.hid (S7.out.next hBv); clear hBv; obtain ⟨_, _, c1, c2, c3, c4, hp4, hlt⟩ := S7.out) | (go_at_call 20; refine (put_two S7.out.at_ (Below.refl _ _) 12 d a b 0 15 d (-1) d 0 ⟨#[]⟩ ⟨#[]⟩ (by omega)).mono ?_; rintro e wf ⟨rfl, v9, r9, hp9, hs9⟩; have c2 := hs9.chg.cell c2 HNF.out; have c3 := hs9.chg.cell c3 HNF.out; have c4 := hs9.chg.cell c4 HNF.out; have n0 := hs9.chg.cell n0 HNF8.out; have n1 := hs9.chg.cell n1 HNF8.out; have n2 := hs9.chg.cell n2 HNF8.out; have n3 := hs9.chg.cell n3 HNF8.out; have n4 := hs9.chg.cell n4 HNF8.out; have n5 := hs9.chg.cell n5 HNF8.out; have n6 := hs9.chg.cell n6 HNF8.out; have HP := Lib.hid (S7.out.picked ⟨v9, r9, hp9, hs9⟩); clear hp9 hs9))
            all_goals (go_wp2_with fail; go_returns; refine ⟨rfl, ?_⟩; rw [HBIN.out]; exact HP.out)
      | some na =>
        have HNA := Lib.hid (HK.out a na hka).1
        rw [hka] at hla
        simp only [Option.getD_some, Option.isSome_some] at hla
        have HKA := Lib.hid hka
        clear hka
        go_quiet (fail)
        have S4 := Lib.hid (S3.out.drew nq)
        clear hla c1 c2 c3 c4 hp4 hlt
        generalize w3.drewN nq = w4 at S4 ⊢
        obtain ⟨_, _, c1, c2, c3, c4, hp4, hlt⟩ := S4.out
        go_wp2_with fail
        refine (turns_any op HO.out _).mono ?_
        rintro e wt ⟨rfl, rfl⟩
        cases ht : turnsS op with
        | false =>
          have HBIN : Hid (binS K op d a b = binRest op d a b) := Lib.hid (by rw [HBIN0.out, ht]; rfl)
          clear ht
          go_wp2_with fail
          refine (plain_any op HO.out _).mono ?_
          rintro e wz ⟨rfl, rfl⟩
          by_cases h11 : op ≤ 11
          · have hnz := plain_nz (op := op) ⟨HO.out.1, h11⟩
            go_wp2_with fail
            refine (three_any (plainS op) d a b _).mono ?_
            rintro e w8 ⟨rfl, hB8⟩
            have HB8 := Lib.hid hB8
            clear hB8
            go_wp2_with fail
            refine (put_one S4.out.at_ HB8.out (plainS op) d a b 0 ⟨#[]⟩ (by omega)).mono ?_
            rintro e w9 ⟨rfl, hP⟩
            have HP := Lib.hid (S4.out.picked hP)
            clear hP
            go_wp2_with fail
            go_returns
            refine ⟨rfl, ?_⟩
            rw [HBIN.out, binRest_plain ⟨HO.out.1, h11⟩]
            exact HP.out
          · have hrare : op = 12 ∨ op = 13 ∨ op = 14 ∨ op = 15 ∨ op = 16 := by have := HO.out; omega
            rcases hrare with rfl | rfl | rfl | rfl | rfl
            · go_wp2_with fail
              refine (with_any 5 d d 1 _).mono ?_
              rintro e w8 ⟨rfl, hB8⟩
              obtain ⟨wn, hwn, hbn, hln, hcn⟩ := box_new w8 #[.int .i64 5, .int .i64 d, .int .i64 d, .int .i64 (-1), .int .i32 1, .string ⟨#[]⟩, .slice none 0 0] 61
              have n0 := hcn 0
              have n1 := hcn 1
              have n2 := hcn 2
              have n3 := hcn 3
              have n4 := hcn 4
              have n5 := hcn 5
              have n6 := hcn 6
              simp only [List.getElem?_toArray, List.getElem?_cons_succ, List.getElem?_cons_zero] at n0 n1 n2 n3 n4 n5 n6
              have S7' := Lib.hid (S4.out.next hB8)
              have S7 := Lib.hid (S7'.out.next hbn)
              clear hB8 hbn hcn c1 c2 c3 c4 hp4 hlt
              obtain ⟨_, _, c1, c2, c3, c4, hp4, hlt⟩ := S7'.out
              have HWN := Lib.hid hwn
              clear hwn
              go_wp2_with fail
              rw [← HWN.out]
              clear c1 c2 c3 c4 hp4 hlt
              obtain ⟨_, _, c1, c2, c3, c4, hp4, hlt⟩ := S7.out
              have S7 := Lib.hid (S7.out.next (below_drew wn))
              have hltw8 : w.heap.size < w8.heap.size := S7'.out.lt
              have HNF : Hid (¬ FootP pb mb r w.heap.size) := Lib.hid fun hf => Nat.lt_irrefl _ (HH.out.lt _ hf)
              have HNF8 : Hid (¬ FootP pb mb r w8.heap.size) := Lib.hid fun hf => Nat.lt_asymm hltw8 (HH.out.lt _ hf)
              go_region_held3 (fun W => (W.cell? ⟨w.heap.size, 2, none⟩ = some (.int .i64 d) ∧ W.cell? ⟨w.heap.size, 3, none⟩ = some (.int .i64 a) ∧ W.cell? ⟨w.heap.size, 4, none⟩ = some (.int .i64 b)) ∧ W.cell? ⟨w8.heap.size, 0, none⟩ = some (.int .i64 5) ∧ W.cell? ⟨w8.heap.size, 1, none⟩ = some (.int .i64 d) ∧ W.cell? ⟨w8.heap.size, 2, none⟩ = some (.int .i64 d) ∧ W.cell? ⟨w8.heap.size, 3, none⟩ = some (.int .i64 (-1)) ∧ W.cell? ⟨w8.heap.size, 4, none⟩ = some (.int .i32 1) ∧ W.cell? ⟨w8.heap.size, 5, none⟩ = some (.string ⟨#[]⟩) ∧ W.cell? ⟨w8.heap.size, 6, none⟩ = some (.slice none 0 0)) (first | exact ⟨⟨c2, c3, c4⟩, n0, n1, n2, n3, n4, n5, n6⟩ | go_keep) (first | (go_at_call 34; refine (three_any _ _ _ _ _).mono ?_; rintro e wv ⟨rfl, hBv⟩; have n0 := (hBv.cell hln).trans n0; have n1 := (hBv.cell hln).trans n1; have n2 := (hBv.cell hln).trans n2; have n3 := (hBv.cell hln).trans n3; have n4 := (hBv.cell hln).trans n4; have n5 := (hBv.cell hln).trans n5; have n6 := (hBv.cell hln).trans n6; have hln := Nat.lt_of_lt_of_le hln hBv.size; have S7 := Lib.hid (S7.out.next hBv); clear hBv; obtain ⟨_, _, c1, c2, c3, c4, hp4, hlt⟩ := S7.out) | (go_at_call 20; refine (put_two S7.out.at_ (Below.refl _ _) 14 d b a 0 5 d d (-1) 1 ⟨#[]⟩ ⟨#[]⟩ (by omega)).mono ?_; rintro e wf ⟨rfl, v9, r9, hp9, hs9⟩; have c2 := hs9.chg.cell c2 HNF.out; have c3 := hs9.chg.cell c3 HNF.out; have c4 := hs9.chg.cell c4 HNF.out; have n0 := hs9.chg.cell n0 HNF8.out; have n1 := hs9.chg.cell n1 HNF8.out; have n2 := hs9.chg.cell n2 HNF8.out; have n3 := hs9.chg.cell n3 HNF8.out; have n4 := hs9.chg.cell n4 HNF8.out; have n5 := hs9.chg.cell n5 HNF8.out; have n6 := hs9.chg.cell n6 HNF8.out; have HP := Lib.hid (S7.out.picked ⟨v9, r9, hp9, hs9⟩); clear hp9 hs9))
              all_goals (go_wp2_with fail; go_returns; refine ⟨rfl, ?_⟩; rw [HBIN.out]; exact HP.out)
            · go_wp2_with fail
              refine (with_any 5 d d 1 _).mono ?_
              rintro e w8 ⟨rfl, hB8⟩
              obtain ⟨wn, hwn, hbn, hln, hcn⟩ := box_new w8 #[.int .i64 5, .int .i64 d, .int .i64 d, .int .i64 (-1), .int .i32 1, .string ⟨#[]⟩, .slice none 0 0] 61
              have n0 := hcn 0
              have n1 := hcn 1
              have n2 := hcn 2
              have n3 := hcn 3
              have n4 := hcn 4
              have n5 := hcn 5
              have n6 := hcn 6
              simp only [List.getElem?_toArray, List.getElem?_cons_succ, List.getElem?_cons_zero] at n0 n1 n2 n3 n4 n5 n6
              have S7' := Lib.hid (S4.out.next hB8)
              have S7 := Lib.hid (S7'.out.next hbn)
              clear hB8 hbn hcn c1 c2 c3 c4 hp4 hlt
              obtain ⟨_, _, c1, c2, c3, c4, hp4, hlt⟩ := S7'.out
              have HWN := Lib.hid hwn
              clear hwn
              go_wp2_with fail
              rw [← HWN.out]
              clear c1 c2 c3 c4 hp4 hlt
              obtain ⟨_, _, c1, c2, c3, c4, hp4, hlt⟩ := S7.out
              refine (three_any 14 d b a _).mono ?_
              rintro e w9 ⟨rfl, hB9⟩
              have HB9 := Lib.hid hB9
              clear hB9
              go_wp2_with fail
              refine (put_one S7.out.at_ HB9.out 14 d b a 0 ⟨#[]⟩ (by omega)).mono ?_
              rintro e wf ⟨rfl, hP⟩
              have HP := Lib.hid (S7.out.picked hP)
              clear hP
              go_wp2_with fail
              go_returns
              refine ⟨rfl, ?_⟩
              rw [HBIN.out]
              exact HP.out
            · go_wp2_with fail
              refine (with_any 5 d d 1 _).mono ?_
              rintro e w8 ⟨rfl, hB8⟩
              obtain ⟨wn, hwn, hbn, hln, hcn⟩ := box_new w8 #[.int .i64 5, .int .i64 d, .int .i64 d, .int .i64 (-1), .int .i32 1, .string ⟨#[]⟩, .slice none 0 0] 61
              have n0 := hcn 0
              have n1 := hcn 1
              have n2 := hcn 2
              have n3 := hcn 3
              have n4 := hcn 4
              have n5 := hcn 5
              have n6 := hcn 6
              simp only [List.getElem?_toArray, List.getElem?_cons_succ, List.getElem?_cons_zero] at n0 n1 n2 n3 n4 n5 n6
              have S7' := Lib.hid (S4.out.next hB8)
              have S7 := Lib.hid (S7'.out.next hbn)
              clear hB8 hbn hcn c1 c2 c3 c4 hp4 hlt
              obtain ⟨_, _, c1, c2, c3, c4, hp4, hlt⟩ := S7'.out
              have HWN := Lib.hid hwn
              clear hwn
              go_wp2_with fail
              rw [← HWN.out]
              clear c1 c2 c3 c4 hp4 hlt
              obtain ⟨_, _, c1, c2, c3, c4, hp4, hlt⟩ := S7.out
              have S7 := Lib.hid (S7.out.next (below_drew wn))
              have hltw8 : w.heap.size < w8.heap.size := S7'.out.lt
              have HNF : Hid (¬ FootP pb mb r w.heap.size) := Lib.hid fun hf => Nat.lt_irrefl _ (HH.out.lt _ hf)
              have HNF8 : Hid (¬ FootP pb mb r w8.heap.size) := Lib.hid fun hf => Nat.lt_asymm hltw8 (HH.out.lt _ hf)
              go_region_held3 (fun W => (W.cell? ⟨w.heap.size, 2, none⟩ = some (.int .i64 d) ∧ W.cell? ⟨w.heap.size, 3, none⟩ = some (.int .i64 a) ∧ W.cell? ⟨w.heap.size, 4, none⟩ = some (.int .i64 b)) ∧ W.cell? ⟨w8.heap.size, 0, none⟩ = some (.int .i64 5) ∧ W.cell? ⟨w8.heap.size, 1, none⟩ = some (.int .i64 d) ∧ W.cell? ⟨w8.heap.size, 2, none⟩ = some (.int .i64 d) ∧ W.cell? ⟨w8.heap.size, 3, none⟩ = some (.int .i64 (-1)) ∧ W.cell? ⟨w8.heap.size, 4, none⟩ = some (.int .i32 1) ∧ W.cell? ⟨w8.heap.size, 5, none⟩ = some (.string ⟨#[]⟩) ∧ W.cell? ⟨w8.heap.size, 6, none⟩ = some (.slice none 0 0)) (first | exact ⟨⟨c2, c3, c4⟩, n0, n1, n2, n3, n4, n5, n6⟩ | go_keep) (first | (go_at_call 34; refine (three_any _ _ _ _ _).mono ?_; rintro e wv ⟨rfl, hBv⟩; have n0 := (hBv.cell hln).trans n0; have n1 := (hBv.cell hln).trans n1; have n2 := (hBv.cell hln).trans n2; have n3 := (hBv.cell hln).trans n3; have n4 := (hBv.cell hln).trans n4; have n5 := (hBv.cell hln).trans n5; have n6 := (hBv.cell hln).trans n6; have hln := Nat.lt_of_lt_of_le hln hBv.size; have S7 := Lib.hid (S7.out.next hBv); clear hBv; obtain ⟨_, _, c1, c2, c3, c4, hp4, hlt⟩ := S7.out) | (go_at_call 20; refine (put_two S7.out.at_ (Below.refl _ _) 14 d a b 0 5 d d (-1) 1 ⟨#[]⟩ ⟨#[]⟩ (by omega)).mono ?_; rintro e wf ⟨rfl, v9, r9, hp9, hs9⟩; have c2 := hs9.chg.cell c2 HNF.out; have c3 := hs9.chg.cell c3 HNF.out; have c4 := hs9.chg.cell c4 HNF.out; have n0 := hs9.chg.cell n0 HNF8.out; have n1 := hs9.chg.cell n1 HNF8.out; have n2 := hs9.chg.cell n2 HNF8.out; have n3 := hs9.chg.cell n3 HNF8.out; have n4 := hs9.chg.cell n4 HNF8.out; have n5 := hs9.chg.cell n5 HNF8.out; have n6 := hs9.chg.cell n6 HNF8.out; have HP := Lib.hid (S7.out.picked ⟨v9, r9, hp9, hs9⟩); clear hp9 hs9))
              all_goals (go_wp2_with fail; go_returns; refine ⟨rfl, ?_⟩; rw [HBIN.out]; exact HP.out)
            · go_wp2_with fail
              refine (with_any 5 d d 1 _).mono ?_
              rintro e w8 ⟨rfl, hB8⟩
              obtain ⟨wn, hwn, hbn, hln, hcn⟩ := box_new w8 #[.int .i64 5, .int .i64 d, .int .i64 d, .int .i64 (-1), .int .i32 1, .string ⟨#[]⟩, .slice none 0 0] 61
              have n0 := hcn 0
              have n1 := hcn 1
              have n2 := hcn 2
              have n3 := hcn 3
              have n4 := hcn 4
              have n5 := hcn 5
              have n6 := hcn 6
              simp only [List.getElem?_toArray, List.getElem?_cons_succ, List.getElem?_cons_zero] at n0 n1 n2 n3 n4 n5 n6
              have S7' := Lib.hid (S4.out.next hB8)
              have S7 := Lib.hid (S7'.out.next hbn)
              clear hB8 hbn hcn c1 c2 c3 c4 hp4 hlt
              obtain ⟨_, _, c1, c2, c3, c4, hp4, hlt⟩ := S7'.out
              have HWN := Lib.hid hwn
              clear hwn
              go_wp2_with fail
              rw [← HWN.out]
              clear c1 c2 c3 c4 hp4 hlt
              obtain ⟨_, _, c1, c2, c3, c4, hp4, hlt⟩ := S7.out
              have S7 := Lib.hid (S7.out.next (below_drew wn))
              have hltw8 : w.heap.size < w8.heap.size := S7'.out.lt
              have HNF : Hid (¬ FootP pb mb r w.heap.size) := Lib.hid fun hf => Nat.lt_irrefl _ (HH.out.lt _ hf)
              have HNF8 : Hid (¬ FootP pb mb r w8.heap.size) := Lib.hid fun hf => Nat.lt_asymm hltw8 (HH.out.lt _ hf)
              go_region_held3 (fun W => (W.cell? ⟨w.heap.size, 2, none⟩ = some (.int .i64 d) ∧ W.cell? ⟨w.heap.size, 3, none⟩ = some (.int .i64 a) ∧ W.cell? ⟨w.heap.size, 4, none⟩ = some (.int .i64 b)) ∧ W.cell? ⟨w8.heap.size, 0, none⟩ = some (.int .i64 5) ∧ W.cell? ⟨w8.heap.size, 1, none⟩ = some (.int .i64 d) ∧ W.cell? ⟨w8.heap.size, 2, none⟩ = some (.int .i64 d) ∧ W.cell? ⟨w8.heap.size, 3, none⟩ = some (.int .i64 (-1)) ∧ W.cell? ⟨w8.heap.size, 4, none⟩ = some (.int .i32 1) ∧ W.cell? ⟨w8.heap.size, 5, none⟩ = some (.string ⟨#[]⟩) ∧ W.cell? ⟨w8.heap.size, 6, none⟩ = some (.slice none 0 0)) (first | exact ⟨⟨c2, c3, c4⟩, n0, n1, n2, n3, n4, n5, n6⟩ | go_keep) (first | (go_at_call 34; refine (three_any _ _ _ _ _).mono ?_; rintro e wv ⟨rfl, hBv⟩; have n0 := (hBv.cell hln).trans n0; have n1 := (hBv.cell hln).trans n1; have n2 := (hBv.cell hln).trans n2; have n3 := (hBv.cell hln).trans n3; have n4 := (hBv.cell hln).trans n4; have n5 := (hBv.cell hln).trans n5; have n6 := (hBv.cell hln).trans n6; have hln := Nat.lt_of_lt_of_le hln hBv.size; have S7 := Lib.hid (S7.out.next hBv); clear hBv; obtain ⟨_, _, c1, c2, c3, c4, hp4, hlt⟩ := S7.out) | (go_at_call 49; refine (with_any _ _ _ _ _).mono ?_; rintro e wv ⟨rfl, hBv⟩; have n0 := (hBv.cell hln).trans n0; have n1 := (hBv.cell hln).trans n1; have n2 := (hBv.cell hln).trans n2; have n3 := (hBv.cell hln).trans n3; have n4 := (hBv.cell hln).trans n4; have n5 := (hBv.cell hln).trans n5; have n6 := (hBv.cell hln).trans n6; have hln := Nat.lt_of_lt_of_le hln hBv.size; have S7 := Lib.hid (S7.out.next hBv); clear hBv; obtain ⟨_, _, c1, c2, c3, c4, hp4, hlt⟩ := S7.out) | (go_at_call 20; refine (put_two S7.out.at_ (Below.refl _ _) 12 d a b 0 4 d d (-1) 1 ⟨#[]⟩ ⟨#[]⟩ (by omega)).mono ?_; rintro e wf ⟨rfl, v9, r9, hp9, hs9⟩; have c2 := hs9.chg.cell c2 HNF.out; have c3 := hs9.chg.cell c3 HNF.out; have c4 := hs9.chg.cell c4 HNF.out; have n0 := hs9.chg.cell n0 HNF8.out; have n1 := hs9.chg.cell n1 HNF8.out; have n2 := hs9.chg.cell n2 HNF8.out; have n3 := hs9.chg.cell n3 HNF8.out; have n4 := hs9.chg.cell n4 HNF8.out; have n5 := hs9.chg.cell n5 HNF8.out; have n6 := hs9.chg.cell n6 HNF8.out; have HP := Lib.hid (S7.out.picked ⟨v9, r9, hp9, hs9⟩); clear hp9 hs9))
              all_goals (go_wp2_with fail; go_returns; refine ⟨rfl, ?_⟩; rw [HBIN.out]; exact HP.out)
            · go_wp2_with fail
              refine (with_any 5 d d 1 _).mono ?_
              rintro e w8 ⟨rfl, hB8⟩
              obtain ⟨wn, hwn, hbn, hln, hcn⟩ := box_new w8 #[.int .i64 5, .int .i64 d, .int .i64 d, .int .i64 (-1), .int .i32 1, .string ⟨#[]⟩, .slice none 0 0] 61
              have n0 := hcn 0
              have n1 := hcn 1
              have n2 := hcn 2
              have n3 := hcn 3
              have n4 := hcn 4
              have n5 := hcn 5
              have n6 := hcn 6
              simp only [List.getElem?_toArray, List.getElem?_cons_succ, List.getElem?_cons_zero] at n0 n1 n2 n3 n4 n5 n6
              have S7' := Lib.hid (S4.out.next hB8)
              have S7 := Lib.hid (S7'.out.next hbn)
              clear hB8 hbn hcn c1 c2 c3 c4 hp4 hlt
              obtain ⟨_, _, c1, c2, c3, c4, hp4, hlt⟩ := S7'.out
              have HWN := Lib.hid hwn
              clear hwn
              go_wp2_with fail
              rw [← HWN.out]
              clear c1 c2 c3 c4 hp4 hlt
              obtain ⟨_, _, c1, c2, c3, c4, hp4, hlt⟩ := S7.out
              have S7 := Lib.hid (S7.out.next (below_drew wn))
              have hltw8 : w.heap.size < w8.heap.size := S7'.out.lt
              have HNF : Hid (¬ FootP pb mb r w.heap.size) := Lib.hid fun hf => Nat.lt_irrefl _ (HH.out.lt _ hf)
              have HNF8 : Hid (¬ FootP pb mb r w8.heap.size) := Lib.hid fun hf => Nat.lt_asymm hltw8 (HH.out.lt _ hf)
              go_region_held3 (fun W => (W.cell? ⟨w.heap.size, 2, none⟩ = some (.int .i64 d) ∧ W.cell? ⟨w.heap.size, 3, none⟩ = some (.int .i64 a) ∧ W.cell? ⟨w.heap.size, 4, none⟩ = some (.int .i64 b)) ∧ W.cell? ⟨w8.heap.size, 0, none⟩ = some (.int .i64 5) ∧ W.cell? ⟨w8.heap.size, 1, none⟩ = some (.int .i64 d) ∧ W.cell? ⟨w8.heap.size, 2, none⟩ = some (.int .i64 d) ∧ W.cell? ⟨w8.heap.size, 3, none⟩ = some (.int .i64 (-1)) ∧ W.cell? ⟨w8.heap.size, 4, none⟩ = some (.int .i32 1) ∧ W.cell? ⟨w8.heap.size, 5, none⟩ = some (.string ⟨#[]⟩) ∧ W.cell? ⟨w8.heap.size, 6, none⟩ = some (.slice none 0 0)) (first | exact ⟨⟨c2, c3, c4⟩, n0, n1, n2, n3, n4, n5, n6⟩ | go_keep) (first | (go_at_call 34; refine (three_any _ _ _ _ _).mono ?_; rintro e wv ⟨rfl, hBv⟩; have n0 := (hBv.cell hln).trans n0; have n1 := (hBv.cell hln).trans n1; have n2 := (hBv.cell hln).trans n2; have n3 := (hBv.cell hln).trans n3; have n4 := (hBv.cell hln).trans n4; have n5 := (hBv.cell hln).trans n5; have n6 := (hBv.cell hln).trans n6; have hln := Nat.lt_of_lt_of_le hln hBv.size; have S7 := Lib.hid (S7.out.next hBv); clear hBv; obtain ⟨_, _, c1, c2, c3, c4, hp4, hlt⟩ := S7.out) | (go_at_call 20; refine (put_two S7.out.at_ (Below.refl _ _) 12 d a b 0 15 d (-1) d 0 ⟨#[]⟩ ⟨#[]⟩ (by omega)).mono ?_; rintro e wf ⟨rfl, v9, r9, hp9, hs9⟩; have c2 := hs9.chg.cell c2 HNF.out; have c3 := hs9.chg.cell c3 HNF.out; have c4 := hs9.chg.cell c4 HNF.out; have n0 := hs9.chg.cell n0 HNF8.out; have n1 := hs9.chg.cell n1 HNF8.out; have n2 := hs9.chg.cell n2 HNF8.out; have n3 := hs9.chg.cell n3 HNF8.out; have n4 := hs9.chg.cell n4 HNF8.out; have n5 := hs9.chg.cell n5 HNF8.out; have n6 := hs9.chg.cell n6 HNF8.out; have HP := Lib.hid (S7.out.picked ⟨v9, r9, hp9, hs9⟩); clear hp9 hs9))
              all_goals (go_wp2_with fail; go_returns; refine ⟨rfl, ?_⟩; rw [HBIN.out]; exact HP.out)
        | true =>
          have HTU := Lib.hid ht
          clear ht
          go_wp2_with fail
          refine (short_any op d b na HO.out HNA.out _).mono ?_
          rintro e wy ⟨y, rfl, hBy, hy⟩
          have S5 := Lib.hid (S4.out.next hBy)
          clear hBy c1 c2 c3 c4 hp4 hlt
          obtain ⟨_, _, c1, c2, c3, c4, hp4, hlt⟩ := S5.out
          cases hs : shortS op d b na with
          | some s =>
            obtain rfl := hy s hs
            have HBIN : Hid (binS K op d a b = [y]) := Lib.hid (by rw [HBIN0.out, HTU.out, HKA.out]; simp only [if_true, Option.bind_some]; rw [hs]; rfl)
            have HS := Lib.hid hs
            clear hs hy
            simp only [Option.isSome_some]
            go_wp2_with fail
            obtain ⟨w6, hw6, hb6, hlt6, hc6⟩ := box_new wy #[.int .i64 y.op, .int .i64 y.d, .int .i64 y.a, .int .i64 y.b, .int .i32 y.num, .string y.name, .slice none 0 0] 61
            have hsz6 : w6.heap.size = wy.heap.size + 1 := by rw [hw6]; simp
            rw [← hw6, ← hsz6]
            have HEQ := Lib.hid (vins_eta (short_args HS.out))
            clear hw6 hlt6 hc6 hsz6
            refine (put_one S5.out.at_ hb6 y.op y.d y.a y.b y.num y.name (by omega)).mono ?_
            rintro e w7 ⟨rfl, hP⟩
            have HP := Lib.hid (S5.out.picked hP)
            clear hP hb6
            go_wp2_with fail
            go_returns
            refine ⟨rfl, ?_⟩
            have hP := HP.out
            rw [HEQ.out] at hP
            rw [HBIN.out]
            exact hP
          | none =>
            have HBIN : Hid (binS K op d a b = binRest op d a b) := Lib.hid (by rw [HBIN0.out, HTU.out, HKA.out]; simp only [if_true, Option.bind_some]; rw [hs]; rfl)
            clear hs hy
            simp only [Option.isSome_none]
            have hby : Below wy.heap.size wy (wy.alloc (.cells #[.int .i64 y.op, .int .i64 y.d, .int .i64 y.a, .int .i64 y.b, .int .i32 y.num, .string y.name, .slice none 0 0] 61)) := (Below.refl _ _).alloc (Nat.le_refl _) _
            have S6 := Lib.hid (S5.out.next hby)
            clear hby
            go_wp2_with fail
            generalize wy.alloc (.cells #[.int .i64 y.op, .int .i64 y.d, .int .i64 y.a, .int .i64 y.b, .int .i32 y.num, .string y.name, .slice none 0 0] 61) = w6 at S6 ⊢
            clear c1 c2 c3 c4 hp4 hlt
            obtain ⟨_, _, c1, c2, c3, c4, hp4, hlt⟩ := S6.out
            refine (plain_any op HO.out _).mono ?_
            rintro e wz ⟨rfl, rfl⟩
            by_cases h11 : op ≤ 11
            · have hnz := plain_nz (op := op) ⟨HO.out.1, h11⟩
              go_wp2_with fail
              refine (three_any (plainS op) d a b _).mono ?_
              rintro e w8 ⟨rfl, hB8⟩
              have HB8 := Lib.hid hB8
              clear hB8
              go_wp2_with fail
              refine (put_one S6.out.at_ HB8.out (plainS op) d a b 0 ⟨#[]⟩ (by omega)).mono ?_
              rintro e w9 ⟨rfl, hP⟩
              have HP := Lib.hid (S6.out.picked hP)
              clear hP
              go_wp2_with fail
              go_returns
              refine ⟨rfl, ?_⟩
              rw [HBIN.out, binRest_plain ⟨HO.out.1, h11⟩]
              exact HP.out
            · exfalso
              have hrare : op = 12 ∨ op = 13 ∨ op = 14 ∨ op = 15 ∨ op = 16 := by have := HO.out; omega
              have ht := HTU.out
              rcases hrare with rfl | rfl | rfl | rfl | rfl <;> exact absurd ht (by decide)
  | none =>
    rw [hkb] at hlb
    simp only [Option.getD_none, Option.isSome_none] at hlb
    have HBIN0 : Hid (binS K op d a b = firstOf ((if turnsS op then K a else none).bind fun n => shortS op d b n) (binRest op d a b)) := Lib.hid (by unfold binS; rw [hkb]; rfl)
    clear hkb
    go_enter Try.func36, Try.ntmps36
    go_wp2_with fail
    rw [← HW.out]
    go_quiet (fail)
    have S1 := Lib.hid (S0.out.drew nq)
    clear hlb c1 c2 c3 c4 hp4 hlt
    generalize w0.drewN nq = w1 at S1 ⊢
    have S3 := S1
    obtain ⟨_, _, c1, c2, c3, c4, hp4, hlt⟩ := S1.out
    go_wp2_with fail
    clear c1 c2 c3 c4 hp4 hlt
    obtain ⟨_, _, c1, c2, c3, c4, hp4, hlt⟩ := S3.out
    have hla := S3.out.look a HA64.out
    cases hka : K a with
    | none =>
      rw [hka] at hla
      simp only [Option.getD_none, Option.isSome_none] at hla
      have HBIN : Hid (binS K op d a b = binRest op d a b) := Lib.hid (by rw [HBIN0.out, hka]; cases turnsS op <;> rfl)
      clear hka
      go_quiet (fail)
      have S4 := Lib.hid (S3.out.drew nq)
      clear hla c1 c2 c3 c4 hp4 hlt
      generalize w1.drewN nq = w4 at S4 ⊢
      obtain ⟨_, _, c1, c2, c3, c4, hp4, hlt⟩ := S4.out
      go_wp2_with fail
      refine (plain_any op HO.out _).mono ?_
      rintro e wz ⟨rfl, rfl⟩
      by_cases h11 : op ≤ 11
      · have hnz := plain_nz (op := op) ⟨HO.out.1, h11⟩
        go_wp2_with fail
        refine (three_any (plainS op) d a b _).mono ?_
        rintro e w8 ⟨rfl, hB8⟩
        have HB8 := Lib.hid hB8
        clear hB8
        go_wp2_with fail
        refine (put_one S4.out.at_ HB8.out (plainS op) d a b 0 ⟨#[]⟩ (by omega)).mono ?_
        rintro e w9 ⟨rfl, hP⟩
        have HP := Lib.hid (S4.out.picked hP)
        clear hP
        go_wp2_with fail
        go_returns
        refine ⟨rfl, ?_⟩
        rw [HBIN.out, binRest_plain ⟨HO.out.1, h11⟩]
        exact HP.out
      · have hrare : op = 12 ∨ op = 13 ∨ op = 14 ∨ op = 15 ∨ op = 16 := by have := HO.out; omega
        rcases hrare with rfl | rfl | rfl | rfl | rfl
        · go_wp2_with fail
          refine (with_any 5 d d 1 _).mono ?_
          rintro e w8 ⟨rfl, hB8⟩
          obtain ⟨wn, hwn, hbn, hln, hcn⟩ := box_new w8 #[.int .i64 5, .int .i64 d, .int .i64 d, .int .i64 (-1), .int .i32 1, .string ⟨#[]⟩, .slice none 0 0] 61
          have n0 := hcn 0
          have n1 := hcn 1
          have n2 := hcn 2
          have n3 := hcn 3
          have n4 := hcn 4
          have n5 := hcn 5
          have n6 := hcn 6
          simp only [List.getElem?_toArray, List.getElem?_cons_succ, List.getElem?_cons_zero] at n0 n1 n2 n3 n4 n5 n6
          have S7' := Lib.hid (S4.out.next hB8)
          have S7 := Lib.hid (S7'.out.next hbn)
          clear hB8 hbn hcn c1 c2 c3 c4 hp4 hlt
          obtain ⟨_, _, c1, c2, c3, c4, hp4, hlt⟩ := S7'.out
          have HWN := Lib.hid hwn
          clear hwn
          go_wp2_with fail
          rw [← HWN.out]
          clear c1 c2 c3 c4 hp4 hlt
          obtain ⟨_, _, c1, c2, c3, c4, hp4, hlt⟩ := S7.out
          have S7 := Lib.hid (S7.out.next (below_drew wn))
          have hltw8 : w.heap.size < w8.heap.size := S7'.out.lt
          have HNF : Hid (¬ FootP pb mb r w.heap.size) := Lib.hid fun hf => Nat.lt_irrefl _ (HH.out.lt _ hf)
          have HNF8 : Hid (¬ FootP pb mb r w8.heap.size) := Lib.hid fun hf => Nat.lt_asymm hltw8 (HH.out.lt _ hf)
          go_region_held3 (fun W => (W.cell? ⟨w.heap.size, 2, none⟩ = some (.int .i64 d) ∧ W.cell? ⟨w.heap.size, 3, none⟩ = some (.int .i64 a) ∧ W.cell? ⟨w.heap.size, 4, none⟩ = some (.int .i64 b)) ∧ W.cell? ⟨w8.heap.size, 0, none⟩ = some (.int .i64 5) ∧ W.cell? ⟨w8.heap.size, 1, none⟩ = some (.int .i64 d) ∧ W.cell? ⟨w8.heap.size, 2, none⟩ = some (.int .i64 d) ∧ W.cell? ⟨w8.heap.size, 3, none⟩ = some (.int .i64 (-1)) ∧ W.cell? ⟨w8.heap.size, 4, none⟩ = some (.int .i32 1) ∧ W.cell? ⟨w8.heap.size, 5, none⟩ = some (.string ⟨#[]⟩) ∧ W.cell? ⟨w8.heap.size, 6, none⟩ = some (.slice none 0 0)) (first | exact ⟨⟨c2, c3, c4⟩, n0, n1, n2, n3, n4, n5, n6⟩ | go_keep) (first | (go_at_call 34; refine (three_any _ _ _ _ _).mono ?_; rintro e wv ⟨rfl, hBv⟩; have n0 := (hBv.cell hln).trans n0; have n1 := (hBv.cell hln).trans n1; have n2 := (hBv.cell hln).trans n2; have n3 := (hBv.cell hln).trans n3; have n4 := (hBv.cell hln).trans n4; have n5 := (hBv.cell hln).trans n5; have n6 := (hBv.cell hln).trans n6; have hln := Nat.lt_of_lt_of_le hln hBv.size; have S7 := Lib.hid (S7.out.next hBv); clear hBv; obtain ⟨_, _, c1, c2, c3, c4, hp4, hlt⟩ := S7.out) | (go_at_call 20; refine (put_two S7.out.at_ (Below.refl _ _) 14 d b a 0 5 d d (-1) 1 ⟨#[]⟩ ⟨#[]⟩ (by omega)).mono ?_; rintro e wf ⟨rfl, v9, r9, hp9, hs9⟩; have c2 := hs9.chg.cell c2 HNF.out; have c3 := hs9.chg.cell c3 HNF.out; have c4 := hs9.chg.cell c4 HNF.out; have n0 := hs9.chg.cell n0 HNF8.out; have n1 := hs9.chg.cell n1 HNF8.out; have n2 := hs9.chg.cell n2 HNF8.out; have n3 := hs9.chg.cell n3 HNF8.out; have n4 := hs9.chg.cell n4 HNF8.out; have n5 := hs9.chg.cell n5 HNF8.out; have n6 := hs9.chg.cell n6 HNF8.out; have HP := Lib.hid (S7.out.picked ⟨v9, r9, hp9, hs9⟩); clear hp9 hs9))
          all_goals (go_wp2_with fail; go_returns; refine ⟨rfl, ?_⟩; rw [HBIN.out]; exact HP.out)
        · go_wp2_with fail
          refine (with_any 5 d d 1 _).mono ?_
          rintro e w8 ⟨rfl, hB8⟩
          obtain ⟨wn, hwn, hbn, hln, hcn⟩ := box_new w8 #[.int .i64 5, .int .i64 d, .int .i64 d, .int .i64 (-1), .int .i32 1, .string ⟨#[]⟩, .slice none 0 0] 61
          have n0 := hcn 0
          have n1 := hcn 1
          have n2 := hcn 2
          have n3 := hcn 3
          have n4 := hcn 4
          have n5 := hcn 5
          have n6 := hcn 6
          simp only [List.getElem?_toArray, List.getElem?_cons_succ, List.getElem?_cons_zero] at n0 n1 n2 n3 n4 n5 n6
          have S7' := Lib.hid (S4.out.next hB8)
          have S7 := Lib.hid (S7'.out.next hbn)
          clear hB8 hbn hcn c1 c2 c3 c4 hp4 hlt
          obtain ⟨_, _, c1, c2, c3, c4, hp4, hlt⟩ := S7'.out
          have HWN := Lib.hid hwn
          clear hwn
          go_wp2_with fail
          rw [← HWN.out]
          clear c1 c2 c3 c4 hp4 hlt
          obtain ⟨_, _, c1, c2, c3, c4, hp4, hlt⟩ := S7.out
          refine (three_any 14 d b a _).mono ?_
          rintro e w9 ⟨rfl, hB9⟩
          have HB9 := Lib.hid hB9
          clear hB9
          go_wp2_with fail
          refine (put_one S7.out.at_ HB9.out 14 d b a 0 ⟨#[]⟩ (by omega)).mono ?_
          rintro e wf ⟨rfl, hP⟩
          have HP := Lib.hid (S7.out.picked hP)
          clear hP
          go_wp2_with fail
          go_returns
          refine ⟨rfl, ?_⟩
          rw [HBIN.out]
          exact HP.out
        · go_wp2_with fail
          refine (with_any 5 d d 1 _).mono ?_
          rintro e w8 ⟨rfl, hB8⟩
          obtain ⟨wn, hwn, hbn, hln, hcn⟩ := box_new w8 #[.int .i64 5, .int .i64 d, .int .i64 d, .int .i64 (-1), .int .i32 1, .string ⟨#[]⟩, .slice none 0 0] 61
          have n0 := hcn 0
          have n1 := hcn 1
          have n2 := hcn 2
          have n3 := hcn 3
          have n4 := hcn 4
          have n5 := hcn 5
          have n6 := hcn 6
          simp only [List.getElem?_toArray, List.getElem?_cons_succ, List.getElem?_cons_zero] at n0 n1 n2 n3 n4 n5 n6
          have S7' := Lib.hid (S4.out.next hB8)
          have S7 := Lib.hid (S7'.out.next hbn)
          clear hB8 hbn hcn c1 c2 c3 c4 hp4 hlt
          obtain ⟨_, _, c1, c2, c3, c4, hp4, hlt⟩ := S7'.out
          have HWN := Lib.hid hwn
          clear hwn
          go_wp2_with fail
          rw [← HWN.out]
          clear c1 c2 c3 c4 hp4 hlt
          obtain ⟨_, _, c1, c2, c3, c4, hp4, hlt⟩ := S7.out
          have S7 := Lib.hid (S7.out.next (below_drew wn))
          have hltw8 : w.heap.size < w8.heap.size := S7'.out.lt
          have HNF : Hid (¬ FootP pb mb r w.heap.size) := Lib.hid fun hf => Nat.lt_irrefl _ (HH.out.lt _ hf)
          have HNF8 : Hid (¬ FootP pb mb r w8.heap.size) := Lib.hid fun hf => Nat.lt_asymm hltw8 (HH.out.lt _ hf)
          go_region_held3 (fun W => (W.cell? ⟨w.heap.size, 2, none⟩ = some (.int .i64 d) ∧ W.cell? ⟨w.heap.size, 3, none⟩ = some (.int .i64 a) ∧ W.cell? ⟨w.heap.size, 4, none⟩ = some (.int .i64 b)) ∧ W.cell? ⟨w8.heap.size, 0, none⟩ = some (.int .i64 5) ∧ W.cell? ⟨w8.heap.size, 1, none⟩ = some (.int .i64 d) ∧ W.cell? ⟨w8.heap.size, 2, none⟩ = some (.int .i64 d) ∧ W.cell? ⟨w8.heap.size, 3, none⟩ = some (.int .i64 (-1)) ∧ W.cell? ⟨w8.heap.size, 4, none⟩ = some (.int .i32 1) ∧ W.cell? ⟨w8.heap.size, 5, none⟩ = some (.string ⟨#[]⟩) ∧ W.cell? ⟨w8.heap.size, 6, none⟩ = some (.slice none 0 0)) (first | exact ⟨⟨c2, c3, c4⟩, n0, n1, n2, n3, n4, n5, n6⟩ | go_keep) (first | (go_at_call 34; refine (three_any _ _ _ _ _).mono ?_; rintro e wv ⟨rfl, hBv⟩; have n0 := (hBv.cell hln).trans n0; have n1 := (hBv.cell hln).trans n1; have n2 := (hBv.cell hln).trans n2; have n3 := (hBv.cell hln).trans n3; have n4 := (hBv.cell hln).trans n4; have n5 := (hBv.cell hln).trans n5; have n6 := (hBv.cell hln).trans n6; have hln := Nat.lt_of_lt_of_le hln hBv.size; have S7 := Lib.hid (S7.out.next hBv); clear hBv; obtain ⟨_, _, c1, c2, c3, c4, hp4, hlt⟩ := S7.out) | (go_at_call 20; refine (put_two S7.out.at_ (Below.refl _ _) 14 d a b 0 5 d d (-1) 1 ⟨#[]⟩ ⟨#[]⟩ (by omega)).mono ?_; rintro e wf ⟨rfl, v9, r9, hp9, hs9⟩; have c2 := hs9.chg.cell c2 HNF.out; have c3 := hs9.chg.cell c3 HNF.out; have c4 := hs9.chg.cell c4 HNF.out; have n0 := hs9.chg.cell n0 HNF8.out; have n1 := hs9.chg.cell n1 HNF8.out; have n2 := hs9.chg.cell n2 HNF8.out; have n3 := hs9.chg.cell n3 HNF8.out; have n4 := hs9.chg.cell n4 HNF8.out; have n5 := hs9.chg.cell n5 HNF8.out; have n6 := hs9.chg.cell n6 HNF8.out; have HP := Lib.hid (S7.out.picked ⟨v9, r9, hp9, hs9⟩); clear hp9 hs9))
          all_goals (go_wp2_with fail; go_returns; refine ⟨rfl, ?_⟩; rw [HBIN.out]; exact HP.out)
        · go_wp2_with fail
          refine (with_any 5 d d 1 _).mono ?_
          rintro e w8 ⟨rfl, hB8⟩
          obtain ⟨wn, hwn, hbn, hln, hcn⟩ := box_new w8 #[.int .i64 5, .int .i64 d, .int .i64 d, .int .i64 (-1), .int .i32 1, .string ⟨#[]⟩, .slice none 0 0] 61
          have n0 := hcn 0
          have n1 := hcn 1
          have n2 := hcn 2
          have n3 := hcn 3
          have n4 := hcn 4
          have n5 := hcn 5
          have n6 := hcn 6
          simp only [List.getElem?_toArray, List.getElem?_cons_succ, List.getElem?_cons_zero] at n0 n1 n2 n3 n4 n5 n6
          have S7' := Lib.hid (S4.out.next hB8)
          have S7 := Lib.hid (S7'.out.next hbn)
          clear hB8 hbn hcn c1 c2 c3 c4 hp4 hlt
          obtain ⟨_, _, c1, c2, c3, c4, hp4, hlt⟩ := S7'.out
          have HWN := Lib.hid hwn
          clear hwn
          go_wp2_with fail
          rw [← HWN.out]
          clear c1 c2 c3 c4 hp4 hlt
          obtain ⟨_, _, c1, c2, c3, c4, hp4, hlt⟩ := S7.out
          have S7 := Lib.hid (S7.out.next (below_drew wn))
          have hltw8 : w.heap.size < w8.heap.size := S7'.out.lt
          have HNF : Hid (¬ FootP pb mb r w.heap.size) := Lib.hid fun hf => Nat.lt_irrefl _ (HH.out.lt _ hf)
          have HNF8 : Hid (¬ FootP pb mb r w8.heap.size) := Lib.hid fun hf => Nat.lt_asymm hltw8 (HH.out.lt _ hf)
          go_region_held3 (fun W => (W.cell? ⟨w.heap.size, 2, none⟩ = some (.int .i64 d) ∧ W.cell? ⟨w.heap.size, 3, none⟩ = some (.int .i64 a) ∧ W.cell? ⟨w.heap.size, 4, none⟩ = some (.int .i64 b)) ∧ W.cell? ⟨w8.heap.size, 0, none⟩ = some (.int .i64 5) ∧ W.cell? ⟨w8.heap.size, 1, none⟩ = some (.int .i64 d) ∧ W.cell? ⟨w8.heap.size, 2, none⟩ = some (.int .i64 d) ∧ W.cell? ⟨w8.heap.size, 3, none⟩ = some (.int .i64 (-1)) ∧ W.cell? ⟨w8.heap.size, 4, none⟩ = some (.int .i32 1) ∧ W.cell? ⟨w8.heap.size, 5, none⟩ = some (.string ⟨#[]⟩) ∧ W.cell? ⟨w8.heap.size, 6, none⟩ = some (.slice none 0 0)) (first | exact ⟨⟨c2, c3, c4⟩, n0, n1, n2, n3, n4, n5, n6⟩ | go_keep) (first | (go_at_call 34; refine (three_any _ _ _ _ _).mono ?_; rintro e wv ⟨rfl, hBv⟩; have n0 := (hBv.cell hln).trans n0; have n1 := (hBv.cell hln).trans n1; have n2 := (hBv.cell hln).trans n2; have n3 := (hBv.cell hln).trans n3; have n4 := (hBv.cell hln).trans n4; have n5 := (hBv.cell hln).trans n5; have n6 := (hBv.cell hln).trans n6; have hln := Nat.lt_of_lt_of_le hln hBv.size; have S7 := Lib.hid (S7.out.next hBv); clear hBv; obtain ⟨_, _, c1, c2, c3, c4, hp4, hlt⟩ := S7.out) | (go_at_call 49; refine (with_any _ _ _ _ _).mono ?_; rintro e wv ⟨rfl, hBv⟩; have n0 := (hBv.cell hln).trans n0; have n1 := (hBv.cell hln).trans n1; have n2 := (hBv.cell hln).trans n2; have n3 := (hBv.cell hln).trans n3; have n4 := (hBv.cell hln).trans n4; have n5 := (hBv.cell hln).trans n5; have n6 := (hBv.cell hln).trans n6; have hln := Nat.lt_of_lt_of_le hln hBv.size; have S7 := Lib.hid (S7.out.next hBv); clear hBv; obtain ⟨_, _, c1, c2, c3, c4, hp4, hlt⟩ := S7.out) | (go_at_call 20; refine (put_two S7.out.at_ (Below.refl _ _) 12 d a b 0 4 d d (-1) 1 ⟨#[]⟩ ⟨#[]⟩ (by omega)).mono ?_; rintro e wf ⟨rfl, v9, r9, hp9, hs9⟩; have c2 := hs9.chg.cell c2 HNF.out; have c3 := hs9.chg.cell c3 HNF.out; have c4 := hs9.chg.cell c4 HNF.out; have n0 := hs9.chg.cell n0 HNF8.out; have n1 := hs9.chg.cell n1 HNF8.out; have n2 := hs9.chg.cell n2 HNF8.out; have n3 := hs9.chg.cell n3 HNF8.out; have n4 := hs9.chg.cell n4 HNF8.out; have n5 := hs9.chg.cell n5 HNF8.out; have n6 := hs9.chg.cell n6 HNF8.out; have HP := Lib.hid (S7.out.picked ⟨v9, r9, hp9, hs9⟩); clear hp9 hs9))
          all_goals (go_wp2_with fail; go_returns; refine ⟨rfl, ?_⟩; rw [HBIN.out]; exact HP.out)
        · go_wp2_with fail
          refine (with_any 5 d d 1 _).mono ?_
          rintro e w8 ⟨rfl, hB8⟩
          obtain ⟨wn, hwn, hbn, hln, hcn⟩ := box_new w8 #[.int .i64 5, .int .i64 d, .int .i64 d, .int .i64 (-1), .int .i32 1, .string ⟨#[]⟩, .slice none 0 0] 61
          have n0 := hcn 0
          have n1 := hcn 1
          have n2 := hcn 2
          have n3 := hcn 3
          have n4 := hcn 4
          have n5 := hcn 5
          have n6 := hcn 6
          simp only [List.getElem?_toArray, List.getElem?_cons_succ, List.getElem?_cons_zero] at n0 n1 n2 n3 n4 n5 n6
          have S7' := Lib.hid (S4.out.next hB8)
          have S7 := Lib.hid (S7'.out.next hbn)
          clear hB8 hbn hcn c1 c2 c3 c4 hp4 hlt
          obtain ⟨_, _, c1, c2, c3, c4, hp4, hlt⟩ := S7'.out
          have HWN := Lib.hid hwn
          clear hwn
          go_wp2_with fail
          rw [← HWN.out]
          clear c1 c2 c3 c4 hp4 hlt
          obtain ⟨_, _, c1, c2, c3, c4, hp4, hlt⟩ := S7.out
          have S7 := Lib.hid (S7.out.next (below_drew wn))
          have hltw8 : w.heap.size < w8.heap.size := S7'.out.lt
          have HNF : Hid (¬ FootP pb mb r w.heap.size) := Lib.hid fun hf => Nat.lt_irrefl _ (HH.out.lt _ hf)
          have HNF8 : Hid (¬ FootP pb mb r w8.heap.size) := Lib.hid fun hf => Nat.lt_asymm hltw8 (HH.out.lt _ hf)
          go_region_held3 (fun W => (W.cell? ⟨w.heap.size, 2, none⟩ = some (.int .i64 d) ∧ W.cell? ⟨w.heap.size, 3, none⟩ = some (.int .i64 a) ∧ W.cell? ⟨w.heap.size, 4, none⟩ = some (.int .i64 b)) ∧ W.cell? ⟨w8.heap.size, 0, none⟩ = some (.int .i64 5) ∧ W.cell? ⟨w8.heap.size, 1, none⟩ = some (.int .i64 d) ∧ W.cell? ⟨w8.heap.size, 2, none⟩ = some (.int .i64 d) ∧ W.cell? ⟨w8.heap.size, 3, none⟩ = some (.int .i64 (-1)) ∧ W.cell? ⟨w8.heap.size, 4, none⟩ = some (.int .i32 1) ∧ W.cell? ⟨w8.heap.size, 5, none⟩ = some (.string ⟨#[]⟩) ∧ W.cell? ⟨w8.heap.size, 6, none⟩ = some (.slice none 0 0)) (first | exact ⟨⟨c2, c3, c4⟩, n0, n1, n2, n3, n4, n5, n6⟩ | go_keep) (first | (go_at_call 34; refine (three_any _ _ _ _ _).mono ?_; rintro e wv ⟨rfl, hBv⟩; have n0 := (hBv.cell hln).trans n0; have n1 := (hBv.cell hln).trans n1; have n2 := (hBv.cell hln).trans n2; have n3 := (hBv.cell hln).trans n3; have n4 := (hBv.cell hln).trans n4; have n5 := (hBv.cell hln).trans n5; have n6 := (hBv.cell hln).trans n6; have hln := Nat.lt_of_lt_of_le hln hBv.size; have S7 := Lib.hid (S7.out.next hBv); clear hBv; obtain ⟨_, _, c1, c2, c3, c4, hp4, hlt⟩ := S7.out) | (go_at_call 20; refine (put_two S7.out.at_ (Below.refl _ _) 12 d a b 0 15 d (-1) d 0 ⟨#[]⟩ ⟨#[]⟩ (by omega)).mono ?_; rintro e wf ⟨rfl, v9, r9, hp9, hs9⟩; have c2 := hs9.chg.cell c2 HNF.out; have c3 := hs9.chg.cell c3 HNF.out; have c4 := hs9.chg.cell c4 HNF.out; have n0 := hs9.chg.cell n0 HNF8.out; have n1 := hs9.chg.cell n1 HNF8.out; have n2 := hs9.chg.cell n2 HNF8.out; have n3 := hs9.chg.cell n3 HNF8.out; have n4 := hs9.chg.cell n4 HNF8.out; have n5 := hs9.chg.cell n5 HNF8.out; have n6 := hs9.chg.cell n6 HNF8.out; have HP := Lib.hid (S7.out.picked ⟨v9, r9, hp9, hs9⟩); clear hp9 hs9))
          all_goals (go_wp2_with fail; go_returns; refine ⟨rfl, ?_⟩; rw [HBIN.out]; exact HP.out)
    | some na =>
      have HNA := Lib.hid (HK.out a na hka).1
      rw [hka] at hla
      simp only [Option.getD_some, Option.isSome_some] at hla
      have HKA := Lib.hid hka
      clear hka
      go_quiet (fail)
      have S4 := Lib.hid (S3.out.drew nq)
      clear hla c1 c2 c3 c4 hp4 hlt
      generalize w1.drewN nq = w4 at S4 ⊢
      obtain ⟨_, _, c1, c2, c3, c4, hp4, hlt⟩ := S4.out
      go_wp2_with fail
      refine (turns_any op HO.out _).mono ?_
      rintro e wt ⟨rfl, rfl⟩
      cases ht : turnsS op with
      | false =>
        have HBIN : Hid (binS K op d a b = binRest op d a b) := Lib.hid (by rw [HBIN0.out, ht]; rfl)
        clear ht
        go_wp2_with fail
        refine (plain_any op HO.out _).mono ?_
        rintro e wz ⟨rfl, rfl⟩
        by_cases h11 : op ≤ 11
        · have hnz := plain_nz (op := op) ⟨HO.out.1, h11⟩
          go_wp2_with fail
          refine (three_any (plainS op) d a b _).mono ?_
          rintro e w8 ⟨rfl, hB8⟩
          have HB8 := Lib.hid hB8
          clear hB8
          go_wp2_with fail
          refine (put_one S4.out.at_ HB8.out (plainS op) d a b 0 ⟨#[]⟩ (by omega)).mono ?_
          rintro e w9 ⟨rfl, hP⟩
          have HP := Lib.hid (S4.out.picked hP)
          clear hP
          go_wp2_with fail
          go_returns
          refine ⟨rfl, ?_⟩
          rw [HBIN.out, binRest_plain ⟨HO.out.1, h11⟩]
          exact HP.out
        · have hrare : op = 12 ∨ op = 13 ∨ op = 14 ∨ op = 15 ∨ op = 16 := by have := HO.out; omega
          rcases hrare with rfl | rfl | rfl | rfl | rfl
          · go_wp2_with fail
            refine (with_any 5 d d 1 _).mono ?_
            rintro e w8 ⟨rfl, hB8⟩
            obtain ⟨wn, hwn, hbn, hln, hcn⟩ := box_new w8 #[.int .i64 5, .int .i64 d, .int .i64 d, .int .i64 (-1), .int .i32 1, .string ⟨#[]⟩, .slice none 0 0] 61
            have n0 := hcn 0
            have n1 := hcn 1
            have n2 := hcn 2
            have n3 := hcn 3
            have n4 := hcn 4
            have n5 := hcn 5
            have n6 := hcn 6
            simp only [List.getElem?_toArray, List.getElem?_cons_succ, List.getElem?_cons_zero] at n0 n1 n2 n3 n4 n5 n6
            have S7' := Lib.hid (S4.out.next hB8)
            have S7 := Lib.hid (S7'.out.next hbn)
            clear hB8 hbn hcn c1 c2 c3 c4 hp4 hlt
            obtain ⟨_, _, c1, c2, c3, c4, hp4, hlt⟩ := S7'.out
            have HWN := Lib.hid hwn
            clear hwn
            go_wp2_with fail
            rw [← HWN.out]
            clear c1 c2 c3 c4 hp4 hlt
            obtain ⟨_, _, c1, c2, c3, c4, hp4, hlt⟩ := S7.out
            have S7 := Lib.hid (S7.out.next (below_drew wn))
            have hltw8 : w.heap.size < w8.heap.size := S7'.out.lt
            have HNF : Hid (¬ FootP pb mb r w.heap.size) := Lib.hid fun hf => Nat.lt_irrefl _ (HH.out.lt _ hf)
            have HNF8 : Hid (¬ FootP pb mb r w8.heap.size) := Lib.hid fun hf => Nat.lt_asymm hltw8 (HH.out.lt _ hf)
            go_region_held3 (fun W => (W.cell? ⟨w.heap.size, 2, none⟩ = some (.int .i64 d) ∧ W.cell? ⟨w.heap.size, 3, none⟩ = some (.int .i64 a) ∧ W.cell? ⟨w.heap.size, 4, none⟩ = some (.int .i64 b)) ∧ W.cell? ⟨w8.heap.size, 0, none⟩ = some (.int .i64 5) ∧ W.cell? ⟨w8.heap.size, 1, none⟩ = some (.int .i64 d) ∧ W.cell? ⟨w8.heap.size, 2, none⟩ = some (.int .i64 d) ∧ W.cell? ⟨w8.heap.size, 3, none⟩ = some (.int .i64 (-1)) ∧ W.cell? ⟨w8.heap.size, 4, none⟩ = some (.int .i32 1) ∧ W.cell? ⟨w8.heap.size, 5, none⟩ = some (.string ⟨#[]⟩) ∧ W.cell? ⟨w8.heap.size, 6, none⟩ = some (.slice none 0 0)) (first | exact ⟨⟨c2, c3, c4⟩, n0, n1, n2, n3, n4, n5, n6⟩ | go_keep) (first | (go_at_call 34; refine (three_any _ _ _ _ _).mono ?_; rintro e wv ⟨rfl, hBv⟩; have n0 := (hBv.cell hln).trans n0; have n1 := (hBv.cell hln).trans n1; have n2 := (hBv.cell hln).trans n2; have n3 := (hBv.cell hln).trans n3; have n4 := (hBv.cell hln).trans n4; have n5 := (hBv.cell hln).trans n5; have n6 := (hBv.cell hln).trans n6; have hln := Nat.lt_of_lt_of_le hln hBv.size; have S7 := Lib.hid (S7.out.next hBv); clear hBv; obtain ⟨_, _, c1, c2, c3, c4, hp4, hlt⟩ := S7.out) | (go_at_call 20; refine (put_two S7.out.at_ (Below.refl _ _) 14 d b a 0 5 d d (-1) 1 ⟨#[]⟩ ⟨#[]⟩ (by omega)).mono ?_; rintro e wf ⟨rfl, v9, r9, hp9, hs9⟩; have c2 := hs9.chg.cell c2 HNF.out; have c3 := hs9.chg.cell c3 HNF.out; have c4 := hs9.chg.cell c4 HNF.out; have n0 := hs9.chg.cell n0 HNF8.out; have n1 := hs9.chg.cell n1 HNF8.out; have n2 := hs9.chg.cell n2 HNF8.out; have n3 := hs9.chg.cell n3 HNF8.out; have n4 := hs9.chg.cell n4 HNF8.out; have n5 := hs9.chg.cell n5 HNF8.out; have n6 := hs9.chg.cell n6 HNF8.out; have HP := Lib.hid (S7.out.picked ⟨v9, r9, hp9, hs9⟩); clear hp9 hs9))
            all_goals (go_wp2_with fail; go_returns; refine ⟨rfl, ?_⟩; rw [HBIN.out]; exact HP.out)
          · go_wp2_with fail
            refine (with_any 5 d d 1 _).mono ?_
            rintro e w8 ⟨rfl, hB8⟩
            obtain ⟨wn, hwn, hbn, hln, hcn⟩ := box_new w8 #[.int .i64 5, .int .i64 d, .int .i64 d, .int .i64 (-1), .int .i32 1, .string ⟨#[]⟩, .slice none 0 0] 61
            have n0 := hcn 0
            have n1 := hcn 1
            have n2 := hcn 2
            have n3 := hcn 3
            have n4 := hcn 4
            have n5 := hcn 5
            have n6 := hcn 6
            simp only [List.getElem?_toArray, List.getElem?_cons_succ, List.getElem?_cons_zero] at n0 n1 n2 n3 n4 n5 n6
            have S7' := Lib.hid (S4.out.next hB8)
            have S7 := Lib.hid (S7'.out.next hbn)
            clear hB8 hbn hcn c1 c2 c3 c4 hp4 hlt
            obtain ⟨_, _, c1, c2, c3, c4, hp4, hlt⟩ := S7'.out
            have HWN := Lib.hid hwn
            clear hwn
            go_wp2_with fail
            rw [← HWN.out]
            clear c1 c2 c3 c4 hp4 hlt
            obtain ⟨_, _, c1, c2, c3, c4, hp4, hlt⟩ := S7.out
            refine (three_any 14 d b a _).mono ?_
            rintro e w9 ⟨rfl, hB9⟩
            have HB9 := Lib.hid hB9
            clear hB9
            go_wp2_with fail
            refine (put_one S7.out.at_ HB9.out 14 d b a 0 ⟨#[]⟩ (by omega)).mono ?_
            rintro e wf ⟨rfl, hP⟩
            have HP := Lib.hid (S7.out.picked hP)
            clear hP
            go_wp2_with fail
            go_returns
            refine ⟨rfl, ?_⟩
            rw [HBIN.out]
            exact HP.out
          · go_wp2_with fail
            refine (with_any 5 d d 1 _).mono ?_
            rintro e w8 ⟨rfl, hB8⟩
            obtain ⟨wn, hwn, hbn, hln, hcn⟩ := box_new w8 #[.int .i64 5, .int .i64 d, .int .i64 d, .int .i64 (-1), .int .i32 1, .string ⟨#[]⟩, .slice none 0 0] 61
            have n0 := hcn 0
            have n1 := hcn 1
            have n2 := hcn 2
            have n3 := hcn 3
            have n4 := hcn 4
            have n5 := hcn 5
            have n6 := hcn 6
            simp only [List.getElem?_toArray, List.getElem?_cons_succ, List.getElem?_cons_zero] at n0 n1 n2 n3 n4 n5 n6
            have S7' := Lib.hid (S4.out.next hB8)
            have S7 := Lib.hid (S7'.out.next hbn)
            clear hB8 hbn hcn c1 c2 c3 c4 hp4 hlt
            obtain ⟨_, _, c1, c2, c3, c4, hp4, hlt⟩ := S7'.out
            have HWN := Lib.hid hwn
            clear hwn
            go_wp2_with fail
            rw [← HWN.out]
            clear c1 c2 c3 c4 hp4 hlt
            obtain ⟨_, _, c1, c2, c3, c4, hp4, hlt⟩ := S7.out
            have S7 := Lib.hid (S7.out.next (below_drew wn))
            have hltw8 : w.heap.size < w8.heap.size := S7'.out.lt
            have HNF : Hid (¬ FootP pb mb r w.heap.size) := Lib.hid fun hf => Nat.lt_irrefl _ (HH.out.lt _ hf)
            have HNF8 : Hid (¬ FootP pb mb r w8.heap.size) := Lib.hid fun hf => Nat.lt_asymm hltw8 (HH.out.lt _ hf)
            go_region_held3 (fun W => (W.cell? ⟨w.heap.size, 2, none⟩ = some (.int .i64 d) ∧ W.cell? ⟨w.heap.size, 3, none⟩ = some (.int .i64 a) ∧ W.cell? ⟨w.heap.size, 4, none⟩ = some (.int .i64 b)) ∧ W.cell? ⟨w8.heap.size, 0, none⟩ = some (.int .i64 5) ∧ W.cell? ⟨w8.heap.size, 1, none⟩ = some (.int .i64 d) ∧ W.cell? ⟨w8.heap.size, 2, none⟩ = some (.int .i64 d) ∧ W.cell? ⟨w8.heap.size, 3, none⟩ = some (.int .i64 (-1)) ∧ W.cell? ⟨w8.heap.size, 4, none⟩ = some (.int .i32 1) ∧ W.cell? ⟨w8.heap.size, 5, none⟩ = some (.string ⟨#[]⟩) ∧ W.cell? ⟨w8.heap.size, 6, none⟩ = some (.slice none 0 0)) (first | exact ⟨⟨c2, c3, c4⟩, n0, n1, n2, n3, n4, n5, n6⟩ | go_keep) (first | (go_at_call 34; refine (three_any _ _ _ _ _).mono ?_; rintro e wv ⟨rfl, hBv⟩; have n0 := (hBv.cell hln).trans n0; have n1 := (hBv.cell hln).trans n1; have n2 := (hBv.cell hln).trans n2; have n3 := (hBv.cell hln).trans n3; have n4 := (hBv.cell hln).trans n4; have n5 := (hBv.cell hln).trans n5; have n6 := (hBv.cell hln).trans n6; have hln := Nat.lt_of_lt_of_le hln hBv.size; have S7 := Lib.hid (S7.out.next hBv); clear hBv; obtain ⟨_, _, c1, c2, c3, c4, hp4, hlt⟩ := S7.out) | (go_at_call 20; refine (put_two S7.out.at_ (Below.refl _ _) 14 d a b 0 5 d d (-1) 1 ⟨#[]⟩ ⟨#[]⟩ (by omega)).mono ?_; rintro e wf ⟨rfl, v9, r9, hp9, hs9⟩; have c2 := hs9.chg.cell c2 HNF.out; have c3 := hs9.chg.cell c3 HNF.out; have c4 := hs9.chg.cell c4 HNF.out; have n0 := hs9.chg.cell n0 HNF8.out; have n1 := hs9.chg.cell n1 HNF8.out; have n2 := hs9.chg.cell n2 HNF8.out; have n3 := hs9.chg.cell n3 HNF8.out; have n4 := hs9.chg.cell n4 HNF8.out; have n5 := hs9.chg.cell n5 HNF8.out; have n6 := hs9.chg.cell n6 HNF8.out; have HP := Lib.hid (S7.out.picked ⟨v9, r9, hp9, hs9⟩); clear hp9 hs9))
            all_goals (go_wp2_with fail; go_returns; refine ⟨rfl, ?_⟩; rw [HBIN.out]; exact HP.out)
          · go_wp2_with fail
            refine (with_any 5 d d 1 _).mono ?_
            rintro e w8 ⟨rfl, hB8⟩
            obtain ⟨wn, hwn, hbn, hln, hcn⟩ := box_new w8 #[.int .i64 5, .int .i64 d, .int .i64 d, .int .i64 (-1), .int .i32 1, .string ⟨#[]⟩, .slice none 0 0] 61
            have n0 := hcn 0
            have n1 := hcn 1
            have n2 := hcn 2
            have n3 := hcn 3
            have n4 := hcn 4
            have n5 := hcn 5
            have n6 := hcn 6
            simp only [List.getElem?_toArray, List.getElem?_cons_succ, List.getElem?_cons_zero] at n0 n1 n2 n3 n4 n5 n6
            have S7' := Lib.hid (S4.out.next hB8)
            have S7 := Lib.hid (S7'.out.next hbn)
            clear hB8 hbn hcn c1 c2 c3 c4 hp4 hlt
            obtain ⟨_, _, c1, c2, c3, c4, hp4, hlt⟩ := S7'.out
            have HWN := Lib.hid hwn
            clear hwn
            go_wp2_with fail
            rw [← HWN.out]
            clear c1 c2 c3 c4 hp4 hlt
            obtain ⟨_, _, c1, c2, c3, c4, hp4, hlt⟩ := S7.out
            have S7 := Lib.hid (S7.out.next (below_drew wn))
            have hltw8 : w.heap.size < w8.heap.size := S7'.out.lt
            have HNF : Hid (¬ FootP pb mb r w.heap.size) := Lib.hid fun hf => Nat.lt_irrefl _ (HH.out.lt _ hf)
            have HNF8 : Hid (¬ FootP pb mb r w8.heap.size) := Lib.hid fun hf => Nat.lt_asymm hltw8 (HH.out.lt _ hf)
            go_region_held3 (fun W => (W.cell? ⟨w.heap.size, 2, none⟩ = some (.int .i64 d) ∧ W.cell? ⟨w.heap.size, 3, none⟩ = some (.int .i64 a) ∧ W.cell? ⟨w.heap.size, 4, none⟩ = some (.int .i64 b)) ∧ W.cell? ⟨w8.heap.size, 0, none⟩ = some (.int .i64 5) ∧ W.cell? ⟨w8.heap.size, 1, none⟩ = some (.int .i64 d) ∧ W.cell? ⟨w8.heap.size, 2, none⟩ = some (.int .i64 d) ∧ W.cell? ⟨w8.heap.size, 3, none⟩ = some (.int .i64 (-1)) ∧ W.cell? ⟨w8.heap.size, 4, none⟩ = some (.int .i32 1) ∧ W.cell? ⟨w8.heap.size, 5, none⟩ = some (.string ⟨#[]⟩) ∧ W.cell? ⟨w8.heap.size, 6, none⟩ = some (.slice none 0 0)) (first | exact ⟨⟨c2, c3, c4⟩, n0, n1, n2, n3, n4, n5, n6⟩ | go_keep) (first | (go_at_call 34; refine (three_any _ _ _ _ _).mono ?_; rintro e wv ⟨rfl, hBv⟩; have n0 := (hBv.cell hln).trans n0; have n1 := (hBv.cell hln).trans n1; have n2 := (hBv.cell hln).trans n2; have n3 := (hBv.cell hln).trans n3; have n4 := (hBv.cell hln).trans n4; have n5 := (hBv.cell hln).trans n5; have n6 := (hBv.cell hln).trans n6; have hln := Nat.lt_of_lt_of_le hln hBv.size; have S7 := Lib.hid (S7.out.next hBv); clear hBv; obtain ⟨_, _, c1, c2, c3, c4, hp4, hlt⟩ := S7.out) | (go_at_call 49; refine (with_any _ _ _ _ _).mono ?_; rintro e wv ⟨rfl, hBv⟩; have n0 := (hBv.cell hln).trans n0; have n1 := (hBv.cell hln).trans n1; have n2 := (hBv.cell hln).trans n2; have n3 := (hBv.cell hln).trans n3; have n4 := (hBv.cell hln).trans n4; have n5 := (hBv.cell hln).trans n5; have n6 := (hBv.cell hln).trans n6; have hln := Nat.lt_of_lt_of_le hln hBv.size; have S7 := Lib.hid (S7.out.next hBv); clear hBv; obtain ⟨_, _, c1, c2, c3, c4, hp4, hlt⟩ := S7.out) | (go_at_call 20; refine (put_two S7.out.at_ (Below.refl _ _) 12 d a b 0 4 d d (-1) 1 ⟨#[]⟩ ⟨#[]⟩ (by omega)).mono ?_; rintro e wf ⟨rfl, v9, r9, hp9, hs9⟩; have c2 := hs9.chg.cell c2 HNF.out; have c3 := hs9.chg.cell c3 HNF.out; have c4 := hs9.chg.cell c4 HNF.out; have n0 := hs9.chg.cell n0 HNF8.out; have n1 := hs9.chg.cell n1 HNF8.out; have n2 := hs9.chg.cell n2 HNF8.out; have n3 := hs9.chg.cell n3 HNF8.out; have n4 := hs9.chg.cell n4 HNF8.out; have n5 := hs9.chg.cell n5 HNF8.out; have n6 := hs9.chg.cell n6 HNF8.out; have HP := Lib.hid (S7.out.picked ⟨v9, r9, hp9, hs9⟩); clear hp9 hs9))
            all_goals (go_wp2_with fail; go_returns; refine ⟨rfl, ?_⟩; rw [HBIN.out]; exact HP.out)
          · go_wp2_with fail
            refine (with_any 5 d d 1 _).mono ?_
            rintro e w8 ⟨rfl, hB8⟩
            obtain ⟨wn, hwn, hbn, hln, hcn⟩ := box_new w8 #[.int .i64 5, .int .i64 d, .int .i64 d, .int .i64 (-1), .int .i32 1, .string ⟨#[]⟩, .slice none 0 0] 61
            have n0 := hcn 0
            have n1 := hcn 1
            have n2 := hcn 2
            have n3 := hcn 3
            have n4 := hcn 4
            have n5 := hcn 5
            have n6 := hcn 6
            simp only [List.getElem?_toArray, List.getElem?_cons_succ, List.getElem?_cons_zero] at n0 n1 n2 n3 n4 n5 n6
            have S7' := Lib.hid (S4.out.next hB8)
            have S7 := Lib.hid (S7'.out.next hbn)
            clear hB8 hbn hcn c1 c2 c3 c4 hp4 hlt
            obtain ⟨_, _, c1, c2, c3, c4, hp4, hlt⟩ := S7'.out
            have HWN := Lib.hid hwn
            clear hwn
            go_wp2_with fail
            rw [← HWN.out]
            clear c1 c2 c3 c4 hp4 hlt
            obtain ⟨_, _, c1, c2, c3, c4, hp4, hlt⟩ := S7.out
            have S7 := Lib.hid (S7.out.next (below_drew wn))
            have hltw8 : w.heap.size < w8.heap.size := S7'.out.lt
            have HNF : Hid (¬ FootP pb mb r w.heap.size) := Lib.hid fun hf => Nat.lt_irrefl _ (HH.out.lt _ hf)
            have HNF8 : Hid (¬ FootP pb mb r w8.heap.size) := Lib.hid fun hf => Nat.lt_asymm hltw8 (HH.out.lt _ hf)
            go_region_held3 (fun W => (W.cell? ⟨w.heap.size, 2, none⟩ = some (.int .i64 d) ∧ W.cell? ⟨w.heap.size, 3, none⟩ = some (.int .i64 a) ∧ W.cell? ⟨w.heap.size, 4, none⟩ = some (.int .i64 b)) ∧ W.cell? ⟨w8.heap.size, 0, none⟩ = some (.int .i64 5) ∧ W.cell? ⟨w8.heap.size, 1, none⟩ = some (.int .i64 d) ∧ W.cell? ⟨w8.heap.size, 2, none⟩ = some (.int .i64 d) ∧ W.cell? ⟨w8.heap.size, 3, none⟩ = some (.int .i64 (-1)) ∧ W.cell? ⟨w8.heap.size, 4, none⟩ = some (.int .i32 1) ∧ W.cell? ⟨w8.heap.size, 5, none⟩ = some (.string ⟨#[]⟩) ∧ W.cell? ⟨w8.heap.size, 6, none⟩ = some (.slice none 0 0)) (first | exact ⟨⟨c2, c3, c4⟩, n0, n1, n2, n3, n4, n5, n6⟩ | go_keep) (first | (go_at_call 34; refine (three_any _ _ _ _ _).mono ?_; rintro e wv ⟨rfl, hBv⟩; have n0 := (hBv.cell hln).trans n0; have n1 := (hBv.cell hln).trans n1; have n2 := (hBv.cell hln).trans n2; have n3 := (hBv.cell hln).trans n3; have n4 := (hBv.cell hln).trans n4; have n5 := (hBv.cell hln).trans n5; have n6 := (hBv.cell hln).trans n6; have hln := Nat.lt_of_lt_of_le hln hBv.size; have S7 := Lib.hid (S7.out.next hBv); clear hBv; obtain ⟨_, _, c1, c2, c3, c4, hp4, hlt⟩ := S7.out) | (go_at_call 20; refine (put_two S7.out.at_ (Below.refl _ _) 12 d a b 0 15 d (-1) d 0 ⟨#[]⟩ ⟨#[]⟩ (by omega)).mono ?_; rintro e wf ⟨rfl, v9, r9, hp9, hs9⟩; have c2 := hs9.chg.cell c2 HNF.out; have c3 := hs9.chg.cell c3 HNF.out; have c4 := hs9.chg.cell c4 HNF.out; have n0 := hs9.chg.cell n0 HNF8.out; have n1 := hs9.chg.cell n1 HNF8.out; have n2 := hs9.chg.cell n2 HNF8.out; have n3 := hs9.chg.cell n3 HNF8.out; have n4 := hs9.chg.cell n4 HNF8.out; have n5 := hs9.chg.cell n5 HNF8.out; have n6 := hs9.chg.cell n6 HNF8.out; have HP := Lib.hid (S7.out.picked ⟨v9, r9, hp9, hs9⟩); clear hp9 hs9))
            all_goals (go_wp2_with fail; go_returns; refine ⟨rfl, ?_⟩; rw [HBIN.out]; exact HP.out)
      | true =>
        have HTU := Lib.hid ht
        clear ht
        go_wp2_with fail
        refine (short_any op d b na HO.out HNA.out _).mono ?_
        rintro e wy ⟨y, rfl, hBy, hy⟩
        have S5 := Lib.hid (S4.out.next hBy)
        clear hBy c1 c2 c3 c4 hp4 hlt
        obtain ⟨_, _, c1, c2, c3, c4, hp4, hlt⟩ := S5.out
        cases hs : shortS op d b na with
        | some s =>
          obtain rfl := hy s hs
          have HBIN : Hid (binS K op d a b = [y]) := Lib.hid (by rw [HBIN0.out, HTU.out, HKA.out]; simp only [if_true, Option.bind_some]; rw [hs]; rfl)
          have HS := Lib.hid hs
          clear hs hy
          simp only [Option.isSome_some]
          go_wp2_with fail
          obtain ⟨w6, hw6, hb6, hlt6, hc6⟩ := box_new wy #[.int .i64 y.op, .int .i64 y.d, .int .i64 y.a, .int .i64 y.b, .int .i32 y.num, .string y.name, .slice none 0 0] 61
          have hsz6 : w6.heap.size = wy.heap.size + 1 := by rw [hw6]; simp
          rw [← hw6, ← hsz6]
          have HEQ := Lib.hid (vins_eta (short_args HS.out))
          clear hw6 hlt6 hc6 hsz6
          refine (put_one S5.out.at_ hb6 y.op y.d y.a y.b y.num y.name (by omega)).mono ?_
          rintro e w7 ⟨rfl, hP⟩
          have HP := Lib.hid (S5.out.picked hP)
          clear hP hb6
          go_wp2_with fail
          go_returns
          refine ⟨rfl, ?_⟩
          have hP := HP.out
          rw [HEQ.out] at hP
          rw [HBIN.out]
          exact hP
        | none =>
          have HBIN : Hid (binS K op d a b = binRest op d a b) := Lib.hid (by rw [HBIN0.out, HTU.out, HKA.out]; simp only [if_true, Option.bind_some]; rw [hs]; rfl)
          clear hs hy
          simp only [Option.isSome_none]
          have hby : Below wy.heap.size wy (wy.alloc (.cells #[.int .i64 y.op, .int .i64 y.d, .int .i64 y.a, .int .i64 y.b, .int .i32 y.num, .string y.name, .slice none 0 0] 61)) := (Below.refl _ _).alloc (Nat.le_refl _) _
          have S6 := Lib.hid (S5.out.next hby)
          clear hby
          go_wp2_with fail
          generalize wy.alloc (.cells #[.int .i64 y.op, .int .i64 y.d, .int .i64 y.a, .int .i64 y.b, .int .i32 y.num, .string y.name, .slice none 0 0] 61) = w6 at S6 ⊢
          clear c1 c2 c3 c4 hp4 hlt
          obtain ⟨_, _, c1, c2, c3, c4, hp4, hlt⟩ := S6.out
          refine (plain_any op HO.out _).mono ?_
          rintro e wz ⟨rfl, rfl⟩
          by_cases h11 : op ≤ 11
          · have hnz := plain_nz (op := op) ⟨HO.out.1, h11⟩
            go_wp2_with fail
            refine (three_any (plainS op) d a b _).mono ?_
            rintro e w8 ⟨rfl, hB8⟩
            have HB8 := Lib.hid hB8
            clear hB8
            go_wp2_with fail
            refine (put_one S6.out.at_ HB8.out (plainS op) d a b 0 ⟨#[]⟩ (by omega)).mono ?_
            rintro e w9 ⟨rfl, hP⟩
            have HP := Lib.hid (S6.out.picked hP)
            clear hP
            go_wp2_with fail
            go_returns
            refine ⟨rfl, ?_⟩
            rw [HBIN.out, binRest_plain ⟨HO.out.1, h11⟩]
            exact HP.out
          · exfalso
            have hrare : op = 12 ∨ op = 13 ∨ op = 14 ∨ op = 15 ∨ op = 16 := by have := HO.out; omega
            have ht := HTU.out
            rcases hrare with rfl | rfl | rfl | rfl | rfl <;> exact absurd ht (by decide)
end Go.Proofs.Ytnfneinonkpmeaa
