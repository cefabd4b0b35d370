/- brazierref15.ins: the walk. -/
import Derived.Test.YtnfneinonkpmeaaRefB
import Derived.Test.YtnfneinonkpmeaaPickN
namespace Go.Proofs.Ytnfneinonkpmeaa
open Go.RowKit Go.Maps
variable {T T' : Nat → Prop} {w : World}

theorem CodeMade.from {w W w' : World} {l : List Vins} {e : Ending} (h : CodeMade W T l e w') (hB : Below w.heap.size w W) : CodeMade w T l e w' := by
  obtain ⟨g, ys, h1, h2, h3⟩ := h
  exact ⟨g, ys, h1, hB.trans (h2.mono hB.size), h3⟩
theorem two_allocs (w : World) (o1 o2 : Obj) : Below w.heap.size w ((w.alloc o1).alloc o2) := ((Below.refl _ _).alloc (Nat.le_refl _) _).alloc (by simp) _

set_option maxHeartbeats 8000000 in
set_option maxRecDepth 100000 in
theorem ins15_any (ps : List (Int × Int)) (A : Option Addr) (c : Nat) (hl : ps.length ≤ 1000000) (hK : ∀ r n, knownL ps r = some n → I32 n) (h : RdT w T' A (numCells ps)) (x : Ins) (N : Int) (hx : InsV N x) (Ax : Option Addr) (cx : Nat) (hrd : RdT w T Ax (ints x.args)) :
    Calls Try.prog 24 #[.agg #[.int .i64 x.kind, .int .i64 x.op, .int .i64 x.d, .int .i64 x.a, .int .i64 x.b, .int .i32 x.num, .string x.name, .slice Ax x.args.length cx], .slice A ps.length c] w (CodeMade w T (insS (knownL ps) x)) := by
  have HRD := Lib.hid hrd
  have HR := Lib.hid h
  have HK := Lib.hid hK
  clear hrd h hK
  cases hx with
  | num d z hd =>
    clear hd
    go_enter Try.func24, Try.ntmps24
    go_wp2_with fail
    go_ret
    exact made_one (two_allocs w _ _) 40 d (-1) (-1) z ⟨#[]⟩ (by simp)
  | copy d a hd ha =>
    clear hd ha
    go_enter Try.func24, Try.ntmps24
    go_wp2_with fail
    go_ret
    exact made_one (two_allocs w _ _) 41 d a (-1) 0 ⟨#[]⟩ (by simp)
  | un op d a hop hd ha =>
    clear hd ha
    have h3 : op = 19 ∨ op = 20 ∨ op = 21 := by omega
    clear hop
    rcases h3 with rfl | rfl | rfl
    · go_enter Try.func24, Try.ntmps24
      go_wp2_with fail
      refine (three15_any 12 d (-1) a _).mono ?_
      rintro e w2 ⟨rfl, hB⟩
      have HB := Lib.hid ((two_allocs w _ _).trans (hB.mono (by go_size)))
      clear hB
      go_wp2_with fail
      go_ret
      exact made_one HB.out 12 d (-1) a 0 ⟨#[]⟩ (by simp)
    · go_enter Try.func24, Try.ntmps24
      go_wp2_with fail
      refine (with15_any 4 d a 1 _).mono ?_
      rintro e w2 ⟨rfl, hB⟩
      have HB := Lib.hid ((two_allocs w _ _).trans (hB.mono (by go_size)))
      clear hB
      go_wp2_with fail
      go_ret
      exact made_one HB.out 4 d a (-1) 1 ⟨#[]⟩ (by simp)
    · go_enter Try.func24, Try.ntmps24
      go_wp2_with fail
      refine (with15_any 5 d a (-1) _).mono ?_
      rintro e w2 ⟨rfl, hB⟩
      have HB := Lib.hid ((two_allocs w _ _).trans (hB.mono (by go_size)))
      clear hB
      go_wp2_with fail
      go_ret
      exact made_one HB.out 5 d a (-1) (-1) ⟨#[]⟩ (by simp)
  | bin op d a b hop hd ha hbb =>
    clear hd ha hbb
    have HOP := Lib.hid hop
    clear hop
    go_enter Try.func24, Try.ntmps24
    go_wp2_with fail
    have HB := Lib.hid (two_allocs w (.cells #[.int .i64 4, .int .i64 op, .int .i64 d, .int .i64 a, .int .i64 b, .int .i32 0, .string ⟨#[]⟩, .slice Ax 0 cx] 54) (.cells #[.int .i64 0, .int .i64 d, .int .i64 a, .int .i64 b, .int .i32 0, .string ⟨#[]⟩, .slice none 0 0] 61))
    refine (binary15_any (T' := T) ps A c hl HK.out (ints_below HR.out HB.out) 4 op d a b 0 _ _ HOP.out).mono ?_
    rintro e w2 ⟨g, ys, rfl, hB, hg, hy, hC⟩
    have HF : Hid (CodeMade w T (binS (knownL ps) op d a b) (.returned (.slice (some ⟨g, 0, none⟩) (binS (knownL ps) op d a b).length (binS (knownL ps) op d a b).length)) w2) := Lib.hid ⟨g, ys, rfl, HB.out.trans (hB.mono HB.out.size), hg, hy, hC⟩
    clear hB hg hy hC
    go_wp2_with fail
    go_ret
    exact HF.out
  | load d a name hd ha hnm =>
    clear hd ha hnm
    by_cases q : a = -1
    · subst q
      go_enter Try.func24, Try.ntmps24
      go_wp2_with fail
      go_ret
      exact made_one (two_allocs w _ _) 42 d (-1) (-1) 0 name (by simp)
    · have qf : (a == -1) = false := beq_eq_false_iff_ne.2 q
      have e1 : insS (knownL ps) ⟨5, 0, d, a, -1, 0, name, []⟩ = [⟨44, d, a, -1, 0, name, []⟩] := by simp [insS, q]
      rw [e1]
      clear e1
      have Q := Lib.hid q
      clear q
      go_enter Try.func24, Try.ntmps24
      go_wp2_with fail
      go_ret
      exact made_one (two_allocs w _ _) 44 d a (-1) 0 name (by simp)
  | store a b name ha hbb hnm =>
    clear hbb ha hnm
    by_cases q : a = -1
    · subst q
      go_enter Try.func24, Try.ntmps24
      go_wp2_with fail
      go_ret
      exact made_one (two_allocs w _ _) 43 (-1) (-1) b 0 name (by simp)
    · have qf : (a == -1) = false := beq_eq_false_iff_ne.2 q
      have e1 : insS (knownL ps) ⟨6, 0, -1, a, b, 0, name, []⟩ = [⟨45, -1, a, b, 0, name, []⟩] := by simp [insS, q]
      rw [e1]
      clear e1
      have Q := Lib.hid q
      clear q
      go_enter Try.func24, Try.ntmps24
      go_wp2_with fail
      go_ret
      exact made_one (two_allocs w _ _) 45 (-1) a b 0 name (by simp)
  | call d name args hd hnm hl8 ha =>
    clear hd hnm hl8 ha
    go_enter Try.func24, Try.ntmps24
    go_wp2_with fail
    go_ret
    exact made_args (two_allocs w _ _) 46 d (-1) (-1) 0 name args Ax cx HRD.out (by simp)
  | read d hd =>
    clear hd
    go_enter Try.func24, Try.ntmps24
    go_wp2_with fail
    go_ret
    exact made_one (two_allocs w _ _) 47 d (-1) (-1) 0 ⟨#[]⟩ (by simp)
  | print a ha =>
    clear ha
    go_enter Try.func24, Try.ntmps24
    go_wp2_with fail
    go_ret
    exact made_one (two_allocs w _ _) 48 (-1) a (-1) 0 ⟨#[]⟩ (by simp)
end Go.Proofs.Ytnfneinonkpmeaa
