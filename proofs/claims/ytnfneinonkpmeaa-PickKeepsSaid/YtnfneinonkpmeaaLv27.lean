/- brazierref15.ins: the walk. -/
import Derived.Test.YtnfneinonkpmeaaLv26
import Derived.Test.YtnfneinonkpmeaaLv17
import Derived.Outline
import Derived.Deep.DeepCutAuto
import Derived.Test.YtnfneinonkpmeaaLv18
namespace Go.Proofs.Ytnfneinonkpmeaa
open Go.RowKit Go.Maps
variable {T T' : Nat → Prop} {w : World}

theorem CodeMade.from {w W w' : World} {l : List Vins} {e : Ending} (h : CodeMade W T l e w') (hB : Below w.heap.size w W) : CodeMade w T l e w' := by
  obtain ⟨g, ys, h1, h2, h3⟩ := h
  exact ⟨g, ys, h1, hB.trans (h2.mono hB.size), h3⟩
theorem two_allocs (w : World) (o1 o2 : Obj) : Below w.heap.size w ((w.alloc o1).alloc o2) := ((Below.refl _ _).alloc (Nat.le_refl _) _).alloc (by simp) _

set_option maxHeartbeats 8000000 in
set_option maxRecDepth 100000 in
theorem ins15_any (ps : List (Int × Int)) (A : Option Addr) (c : Nat) (hl : ps.length ≤ 1000000) (hK : ∀ r n, knownL ps r = some n → I32 n) (h : RdT w T' A (numCells ps)) (x : Ins) (N : Int) (hx : InsV N x) (Ax : Option Addr) (cx : Nat) (hrd : RdT w T Ax (ints x.args)) :
    Calls Try.prog 24 #[.agg #[.int .i64 x.kind, .int .i64 x.op, .int .i64 x.d, .int .i64 x.a, .int .i64 x.b, .int .i32 x.num, .string x.name, .slice Ax x.args.length cx], .slice A ps.length c] w (CodeMade w T (insS (knownL ps) x)) := by
  have HRD := Lib.hid hrd
  have HR := Lib.hid h
  have HK := Lib.hid hK
  clear hrd h hK
  cases hx with
  | num d z hd =>
    clear hd
    go_enter Try.func24, Try.ntmps24
    go_wp2_with fail
    go_ret
    exact made_one (two_allocs w _ _) 40 d (-1) (-1) z ⟨#[]⟩ (by simp)
  | copy d a hd ha =>
    clear hd ha
    go_enter Try.func24, Try.ntmps24
    go_wp2_with fail
    go_ret
    exact made_one (two_allocs w _ _) 41 d a (-1) 0 ⟨#[]⟩ (by simp)
  | un op d a hop hd ha =>
    clear hd ha
    have h3 : op = 19 ∨ op = 20 ∨ op = 21 := by omega
    clear hop
    rcases h3 with rfl | rfl | rfl
    · go_enter Try.func24, Try.ntmps24
      go_wp2_with fail
      refine (three15_any 12 d (-1) a _).mono ?_
      rintro e w2 ⟨rfl, hB⟩
      have HB := Lib.hid ((two_allocs w _ _).trans (hB.mono (by go_size)))
      clear hB
      go_wp2_with fail
      go_ret
      exact made_one HB.out 12 d (-1) a 0 ⟨#[]⟩ (by simp)
    · go_enter Try.func24, Try.ntmps24
      go_wp2_with fail
      refine (with15_any 4 d a 1 _).mono ?_
      rintro e w2 ⟨rfl, hB⟩
      have HB := Lib.hid ((two_allocs w _ _).trans (hB.mono (by go_size)))
      clear hB
      go_wp2_with fail
      go_ret
      exact made_one HB.out 4 d a (-1) 1 ⟨#[]⟩ (by simp)
    · go_enter Try.func24, Try.ntmps24
      go_wp2_with fail
      refine (with15_any 5 d a (-1) _).mono ?_
      rintro e w2 ⟨rfl, hB⟩
      have HB := Lib.hid ((two_allocs w _ _).trans (hB.mono (by go_size)))
      clear hB
      go_wp2_with fail
      go_ret
      exact made_one HB.out 5 d a (-1) (-1) ⟨#[]⟩ (by simp)
  | bin op d a b hop hd ha hbb =>
    clear hd ha hbb
    have HOP := Lib.hid hop
    clear hop
    go_enter Try.func24, Try.ntmps24
    go_wp2_with fail
    have HB := Lib.hid (two_allocs w (.cells #[.int .i64 4, .int .i64 op, .int .i64 d, .int .i64 a, .int .i64 b, .int .i32 0, .string ⟨#[]⟩, .slice Ax 0 cx] 54) (.cells #[.int .i64 0, .int .i64 d, .int .i64 a, .int .i64 b, .int .i32 0, .string ⟨#[]⟩, .slice none 0 0] 61))
    refine (binary15_any (T' := T) ps A c hl HK.out (ints_below HR.out HB.out) 4 op d a b 0 _ _ HOP.out).mono ?_
    rintro e w2 ⟨g, ys, rfl, hB, hg, hy, hC⟩
    have HF : Hid (CodeMade w T (binS (knownL ps) op d a b) (.returned (.slice (some ⟨g, 0, none⟩) (binS (knownL ps) op d a b).length (binS (knownL ps) op d a b).length)) w2) := Lib.hid ⟨g, ys, rfl, HB.out.trans (hB.mono HB.out.size), hg, hy, hC⟩
    clear hB hg hy hC
    go_wp2_with fail
    go_ret
    exact HF.out
  | load d a name hd ha hnm =>
    clear hd ha hnm
    by_cases q : a = -1
    · subst q
      go_enter Try.func24, Try.ntmps24
      go_wp2_with fail
      go_ret
      exact made_one (two_allocs w _ _) 42 d (-1) (-1) 0 name (by simp)
    · have qf : (a == -1) = false := beq_eq_false_iff_ne.2 q
      have e1 : insS (knownL ps) ⟨5, 0, d, a, -1, 0, name, []⟩ = [⟨44, d, a, -1, 0, name, []⟩] := by simp [insS, q]
      rw [e1]
      clear e1
      have Q := Lib.hid q
      clear q
      go_enter Try.func24, Try.ntmps24
      go_wp2_with fail
      go_ret
      exact made_one (two_allocs w _ _) 44 d a (-1) 0 name (by simp)
  | store a b name ha hbb hnm =>
    clear hbb ha hnm
    by_cases q : a = -1
    · subst q
      go_enter Try.func24, Try.ntmps24
      go_wp2_with fail
      go_ret
      exact made_one (two_allocs w _ _) 43 (-1) (-1) b 0 name (by simp)
    · have qf : (a == -1) = false := beq_eq_false_iff_ne.2 q
      have e1 : insS (knownL ps) ⟨6, 0, -1, a, b, 0, name, []⟩ = [⟨45, -1, a, b, 0, name, []⟩] := by simp [insS, q]
      rw [e1]
      clear e1
      have Q := Lib.hid q
      clear q
      go_enter Try.func24, Try.ntmps24
      go_wp2_with fail
      go_ret
      exact made_one (two_allocs w _ _) 45 (-1) a b 0 name (by simp)
  | call d name args hd hnm hl8 ha =>
    clear hd hnm hl8 ha
    go_enter Try.func24, Try.ntmps24
    go_wp2_with fail
    go_ret
    exact made_args (two_allocs w _ _) 46 d (-1) (-1) 0 name args Ax cx HRD.out (by simp)
  | read d hd =>
    clear hd
    go_enter Try.func24, Try.ntmps24
    go_wp2_with fail
    go_ret
    exact made_one (two_allocs w _ _) 47 d (-1) (-1) 0 ⟨#[]⟩ (by simp)
  | print a ha =>
    clear ha
    go_enter Try.func24, Try.ntmps24
    go_wp2_with fail
    go_ret
    exact made_one (two_allocs w _ _) 48 (-1) a (-1) 0 ⟨#[]⟩ (by simp)
end Go.Proofs.Ytnfneinonkpmeaa
namespace Go.Proofs.Ytnfneinonkpmeaa
open Go.RowKit Go.Maps
variable {T : Nat → Prop} {w : World}

theorem flat_at {L : List (List Value)} (n : Nat) (h : ∀ c ∈ L, c.length = n) (i j : Nat) (hj : j < n) : L.flatten[i * n + j]? = (L[i]?).bind fun c => c[j]? := by
  induction L generalizing i with
  | nil => simp
  | cons c L ih =>
    have hc := h c (by simp)
    cases i with
    | zero => rw [List.flatten_cons, List.getElem?_append_left (by omega)]; simp
    | succ i =>
      have e : (i + 1) * n + j - n = i * n + j := by rw [Nat.succ_mul]; omega
      rw [List.flatten_cons, List.getElem?_append_right (by rw [hc, Nat.succ_mul]; omega), hc, e, ih fun x hx => h x (by simp [hx])]
      simp
/-- Instructions without arguments in a block of memory. -/
theorem rd_inss {g e : Nat} {cs : Array Value} {fr : Nat × Nat} (h : w.heap[g]? = some (.cells cs e fr)) (xs : List Ins) (hcs : cs.toList = (xs.map fun x => insCells x (.slice none 0 0)).flatten) (hok : ∀ x ∈ xs, InsOk x ∧ x.args = []) (hT : T g) :
    RdSl 8 (RdIns w T) w T (some ⟨g, 0, none⟩) xs := by
  refine fun _ => ⟨g, 0, rfl, hT, lt_of_heap h, fun i x hi => ?_⟩
  obtain ⟨h1, h2⟩ := hok x (List.mem_of_getElem? hi)
  refine ⟨insCells x (.slice none 0 0), rfl, ⟨h1, none, 0, by rw [h2]; rfl, by rw [h2]; exact RdT.nil⟩, fun j u hu => ?_⟩
  have hj : j < 8 := (List.getElem?_eq_some_iff.1 hu).1
  rw [Nat.zero_add, cell_of_row _ _ _ _ _ _ h, ← Array.getElem?_toList, hcs, flat_at 8 (fun c hc => by obtain ⟨y, _, rfl⟩ := List.mem_map.1 hc; rfl) i j hj, List.getElem?_map, hi]
  exact hu
theorem rd_blk1 {g e c : Nat} {A : Option Addr} {cs : Array Value} {fr : Nat × Nat} (b : Blk) (h : w.heap[g]? = some (.cells cs e fr)) (hcs : cs.toList = blkCells b (.slice A b.ins.length c)) (hok : BlkOk b) (hr : RdSl 8 (RdIns w T) w T A b.ins) (hT : T g) :
    RdSl 5 (RdBlk w T) w T (some ⟨g, 0, none⟩) [b] := by
  refine fun _ => ⟨g, 0, rfl, hT, lt_of_heap h, fun i x hi => ?_⟩
  match i, hi with
  | 0, hi =>
    obtain rfl : b = x := by simpa using hi
    refine ⟨_, rfl, ⟨hok, A, c, rfl, hr⟩, fun j u hu => ?_⟩
    rw [Nat.zero_mul, Nat.zero_add, cell_of_row _ _ _ _ _ _ h, ← Array.getElem?_toList, hcs]
    exact hu

def insN : Ins := ⟨1, 0, 2, -1, -1, 5, ⟨#[]⟩, []⟩
def insA (op : Int) : Ins := ⟨4, op, 1, 0, 2, 0, ⟨#[]⟩, []⟩
def blkL (l : List Ins) : Blk := ⟨l, 3, 1, 0, 0⟩
def fnL (l : List Ins) : Fn := ⟨mainName, 0, 3, [blkL l]⟩
def code1 : List Vins := [labelS 0, ⟨40, 2, -1, -1, 5, ⟨#[]⟩, []⟩, ⟨2, 1, 0, -1, 5, ⟨#[]⟩, []⟩, threeS 49 (-1) 1 (-1)]
def code2 : List Vins := [labelS 0, threeS 14 1 2 0, withS 5 1 1 1, threeS 49 (-1) 1 (-1)]
theorem code1_eq : codeS (fnL [insN, insA 1]).blocks = code1 := by rfl
theorem code2_eq : codeS (fnL [insA 12]).blocks = code2 := by rfl
theorem okN : InsOk insN := ⟨⟨by decide, by decide⟩, ⟨by decide, by decide⟩, ⟨by decide, by decide⟩, ⟨by decide, by decide⟩, ⟨by decide, by decide⟩, ⟨by decide, by decide⟩, Nat.zero_le _, Nat.zero_le _, by simp [insN]⟩
theorem okA (op : Int) (h : 1 ≤ op ∧ op ≤ 16) : InsOk (insA op) := ⟨⟨by simp [insA], by simp [insA]⟩, by show I64 op; unfold I64; omega, ⟨by simp [insA], by simp [insA]⟩, ⟨by simp [insA], by simp [insA]⟩, ⟨by simp [insA], by simp [insA]⟩, ⟨by simp [insA], by simp [insA]⟩, Nat.zero_le _, Nat.zero_le _, by simp [insA]⟩
theorem vN : InsV 3 insN := .num 2 5 rfl
theorem vA (op : Int) (h : 1 ≤ op ∧ op ≤ 16) : InsV 3 (insA op) := .bin op 1 0 2 h rfl rfl rfl
theorem fnV (l : List Ins) (h : ∀ x ∈ l, InsV 3 x) : FnV (fnL l) := ⟨by show isName mainName = true; decide +kernel, by show (0 : Int) ≤ 0 ∧ (0 : Int) ≤ 8; omega, by show (0 : Int) ≤ 3 ∧ (3 : Int) ≤ 4096; omega, by simp [fnL], fun b hb => by
  obtain rfl : b = blkL l := by simpa [fnL] using hb
  exact .leave l 1 h rfl⟩
theorem fnLight (l : List Ins) (h : l.length ≤ 100) : LightFn (fnL l) := ⟨by simp [fnL], fun b hb => by
  obtain rfl : b = blkL l := by simpa [fnL] using hb
  exact h⟩
theorem okB (l : List Ins) (h : l.length ≤ 100) : BlkOk (blkL l) := ⟨⟨by simp [blkL], by simp [blkL]⟩, ⟨by simp [blkL], by simp [blkL]⟩, ⟨by simp [blkL], by simp [blkL]⟩, ⟨by simp [blkL], by simp [blkL]⟩, by show l.length ≤ maxLen; unfold maxLen; omega⟩

theorem twoV : ∀ x ∈ [insN, insA 1], InsV 3 x := by
  intro x hx
  simp at hx
  rcases hx with rfl | rfl
  · exact vN
  · exact vA 1 (by omega)
theorem twoOk : ∀ x ∈ [insN, insA 1], InsOk x ∧ x.args = [] := by
  intro x hx
  simp at hx
  rcases hx with rfl | rfl
  · exact ⟨okN, rfl⟩
  · exact ⟨okA 1 (by omega), rfl⟩
theorem oneV : ∀ x ∈ [insA 12], InsV 3 x := by
  intro x hx
  obtain rfl : x = insA 12 := by simpa using hx
  exact vA 12 (by omega)
theorem oneOk : ∀ x ∈ [insA 12], InsOk x ∧ x.args = [] := by
  intro x hx
  obtain rfl : x = insA 12 := by simpa using hx
  exact ⟨okA 12 (by omega), rfl⟩
theorem allocs4 (w : World) (o0 o1 o2 o3 : Obj) : ∃ W, W = (((w.alloc o0).alloc o1).alloc o2).alloc o3 ∧ Below w.heap.size w W ∧ W.heap[w.heap.size]? = some o0 ∧ W.heap[w.heap.size + 1]? = some o1 ∧ W.heap[w.heap.size + 1 + 1]? = some o2 ∧ W.heap[w.heap.size + 1 + 1 + 1]? = some o3 ∧ W.heap.size = w.heap.size + 4 := by
  have b1 : Below w.heap.size w (w.alloc o0) := (Below.refl _ _).alloc (Nat.le_refl _) _
  have b2 := b1.alloc b1.size o1
  have b3 := b2.alloc b2.size o2
  refine ⟨_, rfl, b3.alloc b3.size o3, ?_, ?_, ?_, ?_, by simp⟩
  · rw [Below.heap_alloc _ _ _ (by go_size), Below.heap_alloc _ _ _ (by go_size), Below.heap_alloc _ _ _ (by go_size)]; exact heap_alloc_new w _
  · rw [Below.heap_alloc _ _ _ (by go_size), Below.heap_alloc _ _ _ (by go_size)]
    have := heap_alloc_new (w.alloc o0) o1
    simpa using this
  · rw [Below.heap_alloc _ _ _ (by simp)]
    have := heap_alloc_new ((w.alloc o0).alloc o1) o2
    simpa using this
  · have := heap_alloc_new (((w.alloc o0).alloc o1).alloc o2) o3
    simpa using this

def Made4 (W : World) (l : List Vins) (e : Ending) (w' : World) : Prop := ∃ A c, e = .returned (.agg #[.string ⟨#[109, 97, 105, 110]⟩, .int .i64 0, .int .i64 3, .slice A 4 c]) ∧ Below W.heap.size W w' ∧ RdSl 7 (RdVins w' fun _ => True) w' (fun k => W.heap.size ≤ k) A l
theorem made4 {W w' : World} {e : Ending} {i : List Ins} {l : List Vins} (hl : l.length = 4) (h : VfnMade W (fnL i) l e w') : Made4 W l e w' := by
  obtain ⟨v, rfl, hb, A, c, rfl, hr⟩ := h
  rw [hl]
  exact ⟨A, c, rfl, hb, hr⟩
set_option maxHeartbeats 4000000 in
set_option maxRecDepth 100000 in
theorem lives_any (w : World) : Calls Try.prog 7 #[] w fun e w' => e = .returned (.bool true) ∧ Below w.heap.size w w' := by
  obtain ⟨W, hW, hB, h0, h1, h2, h3, hs⟩ := allocs4 w
    (.cells #[.int .i64 1, .int .i64 0, .int .i64 2, .int .i64 (-1), .int .i64 (-1), .int .i32 5, .string ⟨#[]⟩, .slice none 0 0] 54)
    (.cells #[.int .i64 1, .int .i64 0, .int .i64 2, .int .i64 (-1), .int .i64 (-1), .int .i32 5, .string ⟨#[]⟩, .slice none 0 0, .int .i64 4, .int .i64 1, .int .i64 1, .int .i64 0, .int .i64 2, .int .i32 0, .string ⟨#[]⟩, .slice none 0 0] 54)
    (.cells #[.slice (some ⟨w.heap.size + 1, 0, none⟩) 2 2, .int .i64 3, .int .i64 1, .int .i64 0, .int .i64 0] 58)
    (.cells #[.string ⟨#[109, 97, 105, 110]⟩, .int .i64 0, .int .i64 3, .slice (some ⟨w.heap.size + 1 + 1, 0, none⟩) 1 1] 30)
  have H1 := Fn_any (fnL [insN, insA 1]) (fnV _ twoV) (fnLight _ (by simp)) (some ⟨w.heap.size + 1 + 1, 0, none⟩) 1 W
    (rd_blk1 (T := fun _ => True) (c := 2) (blkL [insN, insA 1]) h2 rfl (okB _ (by simp)) (rd_inss h1 [insN, insA 1] rfl twoOk trivial) trivial)
  rw [code1_eq] at H1
  obtain ⟨p3, hp3⟩ : ∃ p3, p3 = w.heap.size + 1 + 1 + 1 := ⟨_, rfl⟩
  obtain ⟨p2, hp2⟩ : ∃ p2, p2 = w.heap.size + 1 + 1 := ⟨_, rfl⟩
  obtain ⟨p1, hp1⟩ : ∃ p1, p1 = w.heap.size + 1 := ⟨_, rfl⟩
  rw [← hp3] at h3
  rw [← hp2] at h2 h3 H1
  rw [← hp1] at h2
  have HP3 := Lib.hid hp3
  have HP2 := Lib.hid hp2
  have HP1 := Lib.hid hp1
  have HW := Lib.hid hW
  have HB := Lib.hid hB
  have HH2 := Lib.hid h2
  have HH3 := Lib.hid h3
  have HS := Lib.hid hs
  clear hW hB h0 h1 h2 h3 hs hp1 hp2 hp3
  go_enter Try.func7, Try.ntmps7
  go_wp2_with fail
  rw [← HW.out, ← HP3.out, ← HP2.out, ← HP1.out]
  refine (H1.mono fun e w' => made4 rfl).mono ?_
  clear H1
  rintro e w5 ⟨A5, c5, rfl, hB5, hr5⟩
  obtain ⟨g5, off5, A', c', rfl, hN5, hg5, _, a0, _, _, _, a4, _, _⟩ := vins_at hr5 2 (by decide) ⟨2, 1, 0, -1, 5, ⟨#[]⟩, []⟩ rfl
  have k2 := (hB5.block _ (lt_of_heap HH2.out)).trans HH2.out
  have k3 := (hB5.block _ (lt_of_heap HH3.out)).trans HH3.out
  have HK2 := Lib.hid k2
  have HK3 := Lib.hid k3
  have HB5 := Lib.hid hB5
  have HA0 := Lib.hid a0
  have HA4 := Lib.hid a4
  have d0 : w5.cell? ⟨p2, 0, none⟩ = some (.slice (some ⟨p1, 0, none⟩) 2 2) := cell_of_row _ _ _ _ _ _ k2
  have df : w5.frozen? ⟨p2, 0, none⟩ = false := by simp [World.frozen?, k2]
  have b0 : w5.cell? ⟨p3, 0, none⟩ = some (.string ⟨#[109, 97, 105, 110]⟩) := cell_of_row _ _ _ _ _ _ k3
  have b1 : w5.cell? ⟨p3, 1, none⟩ = some (.int .i64 0) := cell_of_row _ _ _ _ _ _ k3
  have b2 : w5.cell? ⟨p3, 2, none⟩ = some (.int .i64 3) := cell_of_row _ _ _ _ _ _ k3
  have b3 : w5.cell? ⟨p3, 3, none⟩ = some (.slice (some ⟨p2, 0, none⟩) 1 1) := cell_of_row _ _ _ _ _ _ k3
  have hlt4 : p2 < w5.heap.size := lt_of_heap k2
  have hlt5 : p3 < w5.heap.size := lt_of_heap k3
  clear k2 k3 hB5 a0 a4 hr5
  go_upto_region 5 with (fail)
  obtain ⟨W6, hW6⟩ : ∃ W6, W6 = ((w5.setCell ⟨p2, 0, none⟩ (.slice (some ⟨w5.heap.size + 1, 0, none⟩) 1 1)).alloc (.cells #[.string ⟨#[109, 97, 105, 110]⟩, .int .i64 0, .int .i64 3, .slice (some ⟨g5, off5, none⟩) 4 c5] 34)).alloc (.cells #[.int .i64 4, .int .i64 12, .int .i64 1, .int .i64 0, .int .i64 2, .int .i32 0, .string ⟨#[]⟩, .slice none 0 0] 54) := ⟨_, rfl⟩
  have hst := Chg.store w5 p2 0 (.slice (some ⟨w5.heap.size + 1, 0, none⟩) 1 1)
  have hz : (w5.setCell ⟨p2, 0, none⟩ (.slice (some ⟨w5.heap.size + 1, 0, none⟩) 1 1)).heap.size = w5.heap.size := by simp
  have m2 : (w5.setCell ⟨p2, 0, none⟩ (.slice (some ⟨w5.heap.size + 1, 0, none⟩) 1 1)).heap[p2]? = some (.cells #[.slice (some ⟨w5.heap.size + 1, 0, none⟩) 1 1, .int .i64 3, .int .i64 1, .int .i64 0, .int .i64 0] 58 (0, 0)) := (heap_setCell_same w5 p2 0 _ _ _ HK2.out).trans (by simp)
  generalize w5.setCell ⟨p2, 0, none⟩ (.slice (some ⟨w5.heap.size + 1, 0, none⟩) 1 1) = w5' at hst hz m2 hW6 ⊢
  have hb6 : Below w5'.heap.size w5' W6 := by rw [hW6]; exact two_allocs w5' _ _
  have n1 : W6.heap[w5.heap.size + 1]? = some (.cells #[.int .i64 4, .int .i64 12, .int .i64 1, .int .i64 0, .int .i64 2, .int .i32 0, .string ⟨#[]⟩, .slice none 0 0] 54 (0, 0)) := by
    have := heap_alloc_new (w5'.alloc (.cells #[.string ⟨#[109, 97, 105, 110]⟩, .int .i64 0, .int .i64 3, .slice (some ⟨g5, off5, none⟩) 4 c5] 34)) (.cells #[.int .i64 4, .int .i64 12, .int .i64 1, .int .i64 0, .int .i64 2, .int .i32 0, .string ⟨#[]⟩, .slice none 0 0] 54)
    rw [World.size_alloc, hz] at this
    rw [hW6]; exact this
  have n0 : W6.heap[w5.heap.size]? = some (.cells #[.string ⟨#[109, 97, 105, 110]⟩, .int .i64 0, .int .i64 3, .slice (some ⟨g5, off5, none⟩) 4 c5] 34 (0, 0)) := by
    rw [hW6, Below.heap_alloc _ _ _ (by rw [World.size_alloc]; omega), ← hz]; exact heap_alloc_new w5' _
  have n2 := (hb6.block p2 (by omega)).trans m2
  have n3 := (hb6.block p3 (by omega)).trans (hst.heap HK3.out (by have := HP2.out; have := HP3.out; omega))
  have hp2g : p2 ≠ g5 := by have := HP2.out; have := HS.out; omega
  have x0 := (hb6.cell (p := ⟨g5, off5 + 2 * 7, none⟩) (by show g5 < _; omega)).trans (hst.cell HA0.out hp2g.symm)
  have x4 := (hb6.cell (p := ⟨g5, off5 + 2 * 7 + 4, none⟩) (by show g5 < _; omega)).trans (hst.cell HA4.out hp2g.symm)
  have hB6 : Below w.heap.size w W6 := (HB.out.trans (HB5.out.mono HB.out.size)).trans ((hst.below (B := w.heap.size) (by have := HP2.out; omega) fun i e => by have := HP2.out; omega).trans (hb6.mono (by have := HP2.out; omega)))
  have hg6 : g5 < W6.heap.size := by have := hb6.size; omega
  have hs6 : w5.heap.size < W6.heap.size := lt_of_heap n0
  rw [← hW6]
  have H2 := Fn_any (fnL [insA 12]) (fnV _ oneV) (fnLight _ (by simp)) (some ⟨p2, 0, none⟩) 1 W6
    (rd_blk1 (T := fun _ => True) (c := 1) (blkL [insA 12]) n2 rfl (okB _ (by simp)) (rd_inss n1 [insA 12] rfl oneOk trivial) trivial)
  rw [code2_eq] at H2
  have b0 : W6.cell? ⟨p3, 0, none⟩ = some (.string ⟨#[109, 97, 105, 110]⟩) := cell_of_row _ _ _ _ _ _ n3
  have b1 : W6.cell? ⟨p3, 1, none⟩ = some (.int .i64 0) := cell_of_row _ _ _ _ _ _ n3
  have b2 : W6.cell? ⟨p3, 2, none⟩ = some (.int .i64 3) := cell_of_row _ _ _ _ _ _ n3
  have b3 : W6.cell? ⟨p3, 3, none⟩ = some (.slice (some ⟨p2, 0, none⟩) 1 1) := cell_of_row _ _ _ _ _ _ n3
  have HN0 := Lib.hid n0
  have HX0 := Lib.hid x0
  have HX4 := Lib.hid x4
  have HB6 := Lib.hid hB6
  clear hW6 hst hz m2 hb6 n0 n1 n2 n3 hp2g x0 x4 hB6 d0 df
  go_wp2_with fail
  refine (H2.mono fun e w' => made4 rfl).mono ?_
  clear H2
  rintro e w7 ⟨A7, c7, rfl, hB7, hr7⟩
  obtain ⟨g7, off7, A', c', rfl, hN7, hg7, _, y0, _, y2, _, _, _, _⟩ := vins_at hr7 1 (by decide) (threeS 14 1 2 0) rfl
  obtain ⟨_, _, A2, c2, hA2, _, _, _, z0, _, _, _, _, _, _⟩ := vins_at hr7 2 (by decide) (withS 5 1 1 1) rfl
  injection hA2 with hA2
  injection hA2 with e1 e2
  subst e1
  subst e2
  have x0 : w7.cell? ⟨g5, off5 + 14, none⟩ = some (.int .i64 2) := (hB7.cell (p := ⟨g5, off5 + 2 * 7, none⟩) hg6).trans HX0.out
  have x4 : w7.cell? ⟨g5, off5 + 14 + 4, none⟩ = some (.int .i32 5) := (hB7.cell (p := ⟨g5, off5 + 2 * 7 + 4, none⟩) hg6).trans HX4.out
  have v3 : w7.cell? ⟨w5.heap.size, 3, none⟩ = some (.slice (some ⟨g5, off5, none⟩) 4 c5) := cell_of_row _ _ _ _ _ _ ((hB7.block _ hs6).trans HN0.out)
  have y0 : w7.cell? ⟨g7, off7 + 7, none⟩ = some (.int .i64 14) := y0
  have y2 : w7.cell? ⟨g7, off7 + 7 + 2, none⟩ = some (.int .i64 2) := y2
  have z0 : w7.cell? ⟨g7, off7 + 14, none⟩ = some (.int .i64 5) := z0
  have hl7 : w5.heap.size < w7.heap.size := Nat.lt_of_lt_of_le hs6 hB7.size
  have hg57 : g5 < w7.heap.size := Nat.lt_of_lt_of_le hg6 hB7.size
  have HB7 := Lib.hid (HB6.out.trans (hB7.mono HB6.out.size))
  clear hB7 hr7 b0 b1 b2 b3
  go_wp2_with fail
  go_ret
  exact ⟨rfl, HB7.out.alloc HB7.out.size _⟩
end Go.Proofs.Ytnfneinonkpmeaa
