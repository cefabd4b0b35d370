/- brazierref15.Run: written by mkvrun.py out of brazierref12.Run's walk. -/
import Derived.Test.YtnfneinonkpmeaaLv33
import Derived.Test.YtnfneinonkpmeaaLv23
namespace Go.Proofs.Ytnfneinonkpmeaa
open Go.RowKit
section
variable {T : Nat → Prop} {w w' : World}
theorem RdVins.old {x : Vins} {cs : List Value} (h : RdVins w T x cs) : RdVins w (Oldw w) x cs := by obtain ⟨A, c, h2, h3⟩ := h; exact ⟨A, c, h2, h3.old⟩
theorem RdVfn.old {x : VFn} {cs : List Value} (h : RdVfn w T x cs) : RdVfn w (Oldw w) x cs := by obtain ⟨h1, A, c, h2, h3⟩ := h; exact ⟨h1, A, c, h2, RdSl.old h3 fun _ _ h => h.old⟩
theorem RdProg.old {m : VProg} {A B : Option Addr} {c d : Nat} (h : RdProg w T m A c B d) : RdProg w (Oldw w) m A c B d := ⟨h.globals.old fun _ _ h => h, h.fns.old fun _ _ h => h.old, h.nglobals, h.nfns⟩
end
/-- What is asked of a program beside its code. -/
structure VMain (m : VProg) : Prop where
  px : VPX m
  ng : m.globals.length ≤ 64
  size : ∀ (k : Nat) (h : k < m.globals.length), 0 ≤ m.globals[k].size ∧ m.globals[k].size ≤ 4096
  main : ∃ (i : Nat) (h : i < m.fns.length), vfnAt m.fns mainN = i ∧ m.fns[i].params = 0
def RunPostV (m : VProg) (inp : List Int) (fuel : Int) (w : World) (e : Ending) (w' : World) : Prop :=
  ∃ (r : MS) (At : Option Addr) (ct : Nat), RunsToV m inp fuel r ∧ e = .returned (.agg #[.int .i64 r.fin, .int .i32 r.value, .slice At r.trace.length ct, .int .i64 r.steps, .int .i64 r.reads]) ∧ ReadsAt w' At (i32s r.trace) ∧ Below w.heap.size w w' ∧
    r.trace.length ≤ ct ∧ (∀ z ∈ r.trace, I32 z) ∧ r.trace.length ≤ r.steps ∧ r.steps ≤ 100000 ∧ r.reads ≤ inp.length ∧ ∀ g off, At = some ⟨g, off, none⟩ → w.heap.size ≤ g
def lenGV (m : VProg) (i : Nat) : Nat := (max 1 (m.globals.getD i noGlob).size).toNat
def encDV (m : VProg) (bs : List Nat) : List Value := bs.mapIdx fun i b => .slice (some ⟨b, 0, none⟩) (lenGV m i) (lenGV m i)
/-- The words of the first k globals are made. -/
structure DataIV (w : World) (m : VProg) (A : Option Addr) (c : Nat) (B : Option Addr) (d : Nat) (inp : List Int) (Ai : Option Addr) (ci : Nat) (fuel : Int) (rb mb k : Nat) (bs : List Nat) (vD : Value) (rd : Option Nat) (W : World) : Prop where
  below : Below w.heap.size w W
  obj : W.heap[mb]? = some (.cells #[.slice A m.globals.length c, .slice B m.fns.length d, vD, .slice Ai inp.length ci, .int .i64 fuel, .int .i64 0, .int .i64 0, .int .i32 0, .slice none 0 0, .int .i64 0, .int .i64 0] 87 (0, 0))
  res : W.heap[rb]? = some (.cells #[.int .i64 0, .int .i32 0, .slice none 0 0, .int .i64 0, .int .i64 0] 45 (0, 0))
  row : RowAt W 36 1 vD rd k (encDV m bs)
  bl : bs.length = k
  words : ∀ i (h : i < bs.length), WordsAt W bs[i] (List.replicate (lenGV m i) 0)
  nodup : bs.Nodup
  low : ∀ b ∈ bs, w.heap.size ≤ b
  rdl : ∀ q, rd = some q → w.heap.size ≤ q
  old : w.heap.size ≤ rb ∧ w.heap.size ≤ mb
section
variable {w : World} {m : VProg} {A : Option Addr} {c : Nat} {B : Option Addr} {d : Nat} {inp : List Int} {Ai : Option Addr} {ci : Nat} {fuel : Int} {rb mb k : Nat} {bs : List Nat} {vD : Value} {rd : Option Nat} {W W' : World}
theorem DataIV.below_ (h : DataIV w m A c B d inp Ai ci fuel rb mb k bs vD rd W) (hb : Below W.heap.size W W') : DataIV w m A c B d inp Ai ci fuel rb mb k bs vD rd W' :=
  ⟨h.below.trans (hb.mono h.below.size), (hb.block _ (lt_of_heap h.obj)).trans h.obj, (hb.block _ (lt_of_heap h.res)).trans h.res, h.row.kept (S := fun _ => False) (Chg.of_below hb _) fun _ _ h => h, h.bl, fun i hi => RowAt.kept (h.words i hi) (S := fun _ => False) (Chg.of_below hb _) fun _ _ h => h, h.nodup, h.low, h.rdl, h.old⟩
theorem DataIV.rowmb (h : DataIV w m A c B d inp Ai ci fuel rb mb k bs vD rd W) : rd ≠ some mb := row_not h.row h.obj (by decide)
theorem DataIV.push (h : DataIV w m A c B d inp Ai ci fuel rb mb k bs vD rd W) {v' : Value} {r' : Option Nat} {nn gb : Nat} (ho : W'.heap[mb]? = some (.cells #[.slice A m.globals.length c, .slice B m.fns.length d, vD, .slice Ai inp.length ci, .int .i64 fuel, .int .i64 0, .int .i64 0, .int .i32 0, .slice none 0 0, .int .i64 0, .int .i64 0] 87 (0, 0)))
    (hR : RowAt W' 36 1 v' r' (k + 1) (encDV m bs ++ [.slice (some ⟨gb, 0, none⟩) nn nn])) (hC : Chg (fun i => some i = rd) W W') (hN : NewOr W rd r') (hw : WordsAt W gb (List.replicate (lenGV m k) 0)) (hn : nn = lenGV m k) (hlt : ∀ b ∈ bs, b < gb) (hlo : w.heap.size ≤ gb) :
    DataIV w m A c B d inp Ai ci fuel rb mb (k + 1) (bs ++ [gb]) v' r' (W'.setCell ⟨mb, 2, none⟩ v') := by
  have hc1 := Chg.store W' mb 2 v'
  have hcc : Chg (fun i => some i = rd ∨ i = mb) W (W'.setCell ⟨mb, 2, none⟩ v') := (hC.mono fun _ _ e => .inl e).setCell ⟨mb, 2, none⟩ (fun _ => .inr rfl) _
  have hr : r' ≠ some mb := row_not hR ho (by decide)
  have hwk : ∀ {b : Nat} {l : List Int}, WordsAt W b l → 0 < l.length → WordsAt (W'.setCell ⟨mb, 2, none⟩ v') b l := fun {b l} hb hl => RowAt.kept hb hcc fun q hq e => by
    cases hq
    obtain ⟨g', off, cap, cur, hv, hr', hg, _⟩ : ∃ g' off cap cur, (Value.slice (some ⟨b, 0, none⟩) l.length l.length) = .slice (some ⟨g', off, none⟩) l.length cap ∧ some b = some g' ∧ W.heap[g']? = some (.cells cur 21 (0, 0)) ∧ True := by
      rcases hb.2 with ⟨h0, _⟩ | ⟨g', off, cap, cur, hv, hr', hg, _⟩
      · cases h0
      · exact ⟨g', off, cap, cur, hv, hr', hg, trivial⟩
    cases hr'
    rcases e with e | e
    · exact row_not h.row hg (by decide) e.symm
    · rw [e, h.obj] at hg
      injection hg with hg
      injection hg with _ ht _
      exact absurd ht (by decide)
  have hp : ∀ i, 0 < (List.replicate (lenGV m i) (0 : Int)).length := fun i => by rw [List.length_replicate]; unfold lenGV; omega
  refine ⟨h.below.trans (hcc.below h.below.size fun q e => ?_), ?_, ?_, ?_, by simp [h.bl], fun i hi => ?_, ?_, fun b hb => ?_, fun q hq => hN.ge h.below.size h.rdl q hq, h.old⟩
  · rcases e with e | e
    · exact h.rdl q e.symm
    · rw [e]; exact h.old.2
  · rw [heap_setCell_same W' mb 2 _ _ v' ho]; simp
  · refine hcc.heap h.res fun e => ?_
    rcases e with e | e
    · exact row_not h.row h.res (by decide) e.symm
    · have h1 := h.res
      rw [e, h.obj] at h1
      injection h1 with h1
      injection h1 with _ ht _
      exact absurd ht (by decide)
  · have e : encDV m (bs ++ [gb]) = encDV m bs ++ [.slice (some ⟨gb, 0, none⟩) nn nn] := by unfold encDV; rw [List.mapIdx_concat, h.bl, ← hn]
    rw [e]
    exact hR.kept hc1 fun q hq e => hr (e ▸ hq)
  · by_cases hi2 : i < bs.length
    · rw [List.getElem_append_left hi2]; exact hwk (h.words i hi2) (hp i)
    · have e : i = bs.length := by simp at hi; omega
      subst e
      rw [List.getElem_append_right (Nat.le_refl _)]
      simp only [Nat.sub_self, List.getElem_cons_zero]
      rw [h.bl]
      exact hwk hw (hp k)
  · rw [List.nodup_append]
    refine ⟨h.nodup, by simp, fun a ha b hb e => ?_⟩
    rw [List.mem_singleton] at hb
    have := hlt a ha
    omega
  · rcases List.mem_append.1 hb with hb | hb
    · exact h.low b hb
    · rw [List.mem_singleton.1 hb]; exact hlo
theorem DataIV.wordsObj (h : DataIV w m A c B d inp Ai ci fuel rb mb k bs vD rd W) {b : Nat} (hb : b ∈ bs) : ∃ cur, W.heap[b]? = some (.cells cur 21 (0, 0)) := by
  obtain ⟨i, hi, rfl⟩ := List.getElem_of_mem hb
  rcases (h.words i hi).2 with ⟨h0, _⟩ | ⟨g', off, cap, cur, hv, hr', hg, _⟩
  · cases h0
  · cases hr'; exact ⟨cur, hg⟩
theorem DataIV.rowAt {AD : Option Addr} {n cD : Nat} (h : DataIV w m A c B d inp Ai ci fuel rb mb k bs (.slice AD n cD) rd W) {q off : Nat} (e : AD = some ⟨q, off, none⟩) : ∃ cur, W.heap[q]? = some (.cells cur 36 (0, 0)) := by
  rcases h.row.2 with ⟨h0, _⟩ | ⟨g', off', cap, cur, hv, hr', hg, _⟩
  · injection h0 with h0 _ _; rw [e] at h0; cases h0
  · injection hv with hv _ _
    rw [e] at hv
    injection hv with hv
    injection hv with hv _
    exact ⟨cur, by rw [hv]; exact hg⟩
def envRV (w : World) (m : VProg) (A : Option Addr) (c : Nat) (B : Option Addr) (d : Nat) (inp : List Int) (Ai : Option Addr) (ci : Nat) (fuel : Int) (mb : Nat) (bs : List Nat) (AD : Option Addr) (cD : Nat) : EnvV := ⟨m, A, c, B, d, AD, cD, bs, inp, Ai, ci, fuel, mb, w.heap.size⟩
theorem DataIV.footBase (h : DataIV w m A c B d inp Ai ci fuel rb mb k bs vD rd W) {AD : Option Addr} {cD q : Nat} (hq : FootV (envRV w m A c B d inp Ai ci fuel mb bs AD cD) none q) : w.heap.size ≤ q := by
  rcases hq with e | e | e
  · rw [e]; exact h.old.2
  · exact h.low q e
  · cases e
theorem DataIV.resFoot (h : DataIV w m A c B d inp Ai ci fuel rb mb k bs vD rd W) {AD : Option Addr} {cD : Nat} : ¬ FootV (envRV w m A c B d inp Ai ci fuel mb bs AD cD) none rb := by
  rintro (e | e | e)
  · exact obj_ne h.res h.obj (by decide) e
  · obtain ⟨cur, hb⟩ := h.wordsObj e
    exact obj_ne h.res hb (by decide) rfl
  · cases e
theorem dataRow0V (m : VProg) (i : Nat) (h : i < m.globals.length) (s : MS) (hs : s.data = data0V m) : dataRow s i = List.replicate (lenGV m i) 0 := by
  unfold dataRow lenGV
  rw [hs]
  unfold data0V
  simp [List.getD, h]
theorem DataIV.env {T : Nat → Prop} {AD : Option Addr} {cD : Nat} (h : DataIV w m A c B d inp Ai ci fuel rb mb m.globals.length bs (.slice AD m.globals.length cD) rd W) (_ : VMain m) (hf : I64 fuel ∧ fuel ≤ 100000 ∧ inp.length ≤ maxLen ∧ ∀ z ∈ inp, I32 z) (hm : RdProg w T m A c B d) (hi : ReadsAt w Ai (i32s inp)) :
    EnvVOk (envRV w m A c B d inp Ai ci fuel mb bs AD cD) ∧ MacV (envRV w m A c B d inp Ai ci fuel mb bs AD cD) ⟨data0V m, 0, 0, [], 0, 0⟩ 0 none W := by
  have hT : ∀ k, k < w.heap.size → k < w.heap.size → ¬ (w.heap.size ≤ k) := fun k h1 _ h2 => by omega
  have hc := chg_of_below h.below
  refine ⟨⟨h.nodup, h.bl, fun hm => ?_, h.old.2, h.low, fun k hk => ?_, ⟨hf.1, hf.2.1⟩, hf.2.2.1, hf.2.2.2⟩, ⟨⟨_, h.obj, RowAt.nil _ _ _⟩, by show (data0V m).length = m.globals.length; simp [data0V], fun i hi => ?_, fun i hi => ?_, fun l hl z hz => ?_, fun i hi => ?_, hm.old.kept hc hT, (rdT_old hi).kept hc hT, fun k hk => (by cases hk), fun z hz => (by cases hz), Nat.le_refl _, Nat.zero_le _, Nat.zero_le _, Nat.zero_le _, fun k hk => ?_⟩⟩
  · obtain ⟨cur, hb⟩ := h.wordsObj hm
    exact obj_ne hb h.obj (by decide) rfl
  · obtain ⟨off, e⟩ := hk
    obtain ⟨cur, hq⟩ := h.rowAt e
    refine ⟨obj_ne hq h.obj (by decide), fun hm => ?_⟩
    obtain ⟨cur2, hb⟩ := h.wordsObj hm
    exact obj_ne hq hb (by decide) rfl
  · rw [dataRow0V m i hi _ rfl, List.length_replicate]
    unfold lenGV
    have hi' : i < m.globals.length := hi
    show _ = (max 1 (m.globals[i]'hi').size).toNat
    rw [List.getD_eq_getElem?_getD, List.getElem?_eq_getElem hi']; rfl
  · have hb : i < bs.length := hi
    rw [dataRow0V m i (by rw [← h.bl]; exact hb) _ rfl]
    exact h.words i hb
  · obtain ⟨g, _, rfl⟩ := List.mem_map.1 hl
    rw [(List.mem_replicate.1 hz).2]; unfold I32; simp
  · have hb : i < bs.length := hi
    have hn : i < m.globals.length := by rw [← h.bl]; exact hb
    obtain ⟨g, off, cap, hv, _, _, _, _, hcell, _⟩ := h.row.form (by omega)
    injection hv with hv _ _
    refine ⟨g, off, hv, ?_⟩
    rw [dataRow0V m i hn _ rfl, List.length_replicate]
    exact hcell i _ (by unfold encDV; rw [List.getElem?_mapIdx, List.getElem?_eq_getElem hb]; rfl)
  · obtain ⟨off, e⟩ := hk
    obtain ⟨cur, hq⟩ := h.rowAt e
    exact lt_of_heap hq
end
set_option maxHeartbeats 8000000 in
set_option maxRecDepth 100000 in
theorem vrun_any {T : Nat → Prop} (m : VProg) (hv : VMain m) (A B : Option Addr) (c d : Nat) (inp : List Int) (Ai : Option Addr) (ci : Nat) (fuel : Int) (hf : I64 fuel) (hf2 : fuel ≤ 100000) (hil : inp.length ≤ maxLen) (hiw : ∀ z ∈ inp, I32 z) (w : World) (hm : RdProg w T m A c B d) (hi : ReadsAt w Ai (i32s inp)) :
    Calls Try.prog 15 #[.agg #[.slice A m.globals.length c, .slice B m.fns.length d], .slice Ai inp.length ci, .int .i64 fuel] w (RunPostV m inp fuel w) := by
  have HM := Lib.hid hm
  have HV := Lib.hid hv
  have HI0 := Lib.hid hi
  have HF := Lib.hid (And.intro hf (And.intro hf2 (And.intro hil hiw)))
  clear hm hv hi hf hf2 hil hiw
  obtain ⟨w1, hw1, hb1, hlt1, hc1⟩ := box_new w #[.slice A m.globals.length c, .slice B m.fns.length d] 41
  obtain ⟨w2, hw2, hb2, hlt2, hc2⟩ := box_new w1 #[.int .i64 0, .int .i32 0, .slice none 0 0, .int .i64 0, .int .i64 0] 45
  obtain ⟨w3, hw3, hb3, hlt3, hc3⟩ := box_new w2 #[.slice A m.globals.length c, .slice B m.fns.length d, .slice none 0 0, .slice Ai inp.length ci, .int .i64 fuel, .int .i64 0, .int .i64 0, .int .i32 0, .slice none 0 0, .int .i64 0, .int .i64 0] 87
  obtain ⟨rb, hrb⟩ : ∃ rb, rb = w1.heap.size := ⟨_, rfl⟩
  obtain ⟨mb, hmb⟩ : ∃ mb, mb = w2.heap.size := ⟨_, rfl⟩
  have hd0 : DataIV w m A c B d inp Ai ci fuel rb mb 0 [] (.slice none 0 0) none w3 := by
    refine ⟨(hb1.trans (hb2.mono hb1.size)).trans (hb3.mono (hb1.trans (hb2.mono hb1.size)).size), ?_, ?_, RowAt.nil _ _ _, rfl, fun i hi => (by simp at hi), List.nodup_nil, fun b hb => (by cases hb), fun q hq => (by cases hq), ?_⟩
    · rw [hw3, hmb]; exact heap_alloc_new w2 _
    · rw [hw3, hrb, heap_alloc_old w2 _ hlt2, hw2]; exact heap_alloc_new w1 _
    · exact ⟨by rw [hrb]; exact hb1.size, by rw [hmb]; exact (hb1.trans (hb2.mono hb1.size)).size⟩
  have HD0 := Lib.hid hd0
  have e1 : w1.heap.size = w.heap.size + 1 := by rw [hw1]; simp
  have e2 : w2.heap.size = w.heap.size + 1 + 1 := by rw [hw2]; simp [e1]
  have HW1 := Lib.hid hw1
  have HW2 := Lib.hid hw2
  have HW3 := Lib.hid hw3
  have HRB := Lib.hid (hrb.trans e1)
  have HMB := Lib.hid (hmb.trans e2)
  clear hw1 hb1 hlt1 hc1 hw2 hb2 hlt2 hc2 hw3 hb3 hlt3 hc3 hrb hmb hd0 e1 e2
  have hng : m.globals.length ≤ 64 := HV.out.ng
  go_enter Try.func15, Try.ntmps15
  go_wp2_with fail
  rw [← HMB.out, ← HRB.out, ← HW1.out, ← HW2.out, ← HW3.out]
  go_loopw [19] (fun i W => ∃ (k : Nat) (bs : List Nat) (vD : Value) (rd : Option Nat), k ≤ m.globals.length ∧ i = .int .i64 (k : Nat) ∧ DataIV w m A c B d inp Ai ci fuel rb mb k bs vD rd W) (fun i _ => m.globals.length - (intOf i).toNat)
  case atStart => exact ⟨0, [], .slice none 0 0, none, Nat.zero_le _, rfl, HD0.out⟩
  case round =>
    clear HD0
    obtain ⟨k, bs, vD, rd, hk, rfl, hI⟩ := hrel
    have HI := Lib.hid hI
    clear hI
    by_cases hlt : k < m.globals.length
    · obtain ⟨gl, hgl⟩ : ∃ gl, gl = m.globals[k] := ⟨_, rfl⟩
      obtain ⟨gg, og, rfl, hgg, _, g0, g1⟩ := glob_at (globs_below HM.out.globals HI.out.below) k hlt gl hgl
      have hgv := HV.out.size k hlt
      rw [← hgl] at hgv
      obtain ⟨sz, hsz⟩ : ∃ sz, sz = gl.size := ⟨_, rfl⟩
      rw [← hsz] at g1
      have hsz0 : 0 ≤ sz := by rw [hsz]; exact hgv.1
      have hsz1 : sz ≤ 4096 := by rw [hsz]; exact hgv.2
      obtain ⟨nn, hnn⟩ : ∃ nn, nn = lenGV m k := ⟨_, rfl⟩
      have hnnI : (nn : Int) = max 1 sz := by rw [hnn]; unfold lenGV; rw [List.getD_eq_getElem?_getD, List.getElem?_eq_getElem hlt, ← hgl]; simp [← hsz]; omega
      have hnn4 : nn ≤ 4096 := by omega
      have HGL := Lib.hid hgl
      have HNE := Lib.hid hnn
      have HMX := Lib.hid hnnI
      clear hgv hsz hnn hgl hgg
      go_upto_region 5 with (fail)
      obtain ⟨W4, hW4⟩ : ∃ W4, W4 = wr.alloc (.cells #[.string gl.name, .int .i64 sz] 83) := ⟨_, rfl⟩
      obtain ⟨qx, hqx⟩ : ∃ qx, qx = wr.heap.size := ⟨_, rfl⟩
      rw [← hW4, ← hqx]
      have hb4 : Below wr.heap.size wr W4 := by rw [hW4]; exact (Below.refl _ wr).alloc (Nat.le_refl _) _
      have x1 : W4.cell? ⟨qx, 1, none⟩ = some (.int .i64 sz) := by rw [hW4, hqx]; exact cell_of_row _ _ _ _ _ _ (heap_alloc_new wr _)
      have hqr : ∀ q, rd = some q → q ≠ qx := fun q hq e => by have := HI.out.row.lt q hq; omega
      obtain ⟨wd, hwd⟩ : ∃ wd, wd = W4.drew := ⟨_, rfl⟩
      have hbd : Below W4.heap.size W4 wd := by rw [hwd]; exact dr
      have HId := Lib.hid ((HI.out.below_ hb4).below_ hbd)
      have hsel : SelR mb qx vD sz wd := ⟨cell_of_row _ _ _ _ _ _ HId.out.obj, cellB7 hbd x1⟩
      have HWD := Lib.hid hwd
      have HQX := Lib.hid hqr
      have HLT : Hid (∀ b ∈ bs, b < wd.heap.size) := Lib.hid fun b hb => by
        obtain ⟨i, hi, e⟩ := List.getElem_of_mem hb
        rw [← e]; exact RowAt.lt (HId.out.words i hi) _ rfl
      clear hW4 hqx hb4 hqr hwd hbd x1 g0 g1
      have HNN : Hid ((if 1 < sz then sz else 1) = (nn : Int)) := Lib.hid (by have := HMX.out; split <;> omega)
      all_goals
        -- GENERATED: region 5
        refine wp_region_T (SelR mb qx vD sz) [13] (by kernel_rfl) (by rw [← HWD.out]; exact hsel) (fun _ => ?_)
        rw [← HWD.out]
        refine wpAnyT_take (i := 0) (v := ?vg1) rfl (by kernel_rfl) (by kernel_rfl) (by kernel_rfl) rfl (fun _ _ _ h => h) (Or.inl ⟨by rfl, ?hyg1⟩) (DL.of hsel) ?restg1
        case hyg1 => (intro w hSw; go_simp; try rfl)
        try simp only [Act.put, List.setIfInBounds_toArray, List.set_cons_zero, List.set_cons_succ, List.getElem_toArray, List.getElem_cons_zero]
        refine wpAnyT_take (i := 1) (v := ?vg2) rfl (by kernel_rfl) (by kernel_rfl) (by kernel_rfl) rfl (fun _ _ _ h => h) (Or.inl ⟨by rfl, ?hyg2⟩) (DL.of hsel) ?restg2
        case hyg2 => (intro w hSw; go_simp; try rfl)
        try simp only [Act.put, List.setIfInBounds_toArray, List.set_cons_zero, List.set_cons_succ, List.getElem_toArray, List.getElem_cons_zero, List.getElem_cons_succ]
        refine wpAnyT_take (i := 2) (v := ?vg3) rfl (by kernel_rfl) (by kernel_rfl) (by kernel_rfl) rfl (fun _ _ _ h => h) (Or.inl ⟨by rfl, ?hyg3⟩) (DL.of hsel) ?restg3
        case hyg3 => (intro w hSw; go_simp; try rfl)
        try simp only [Act.put, List.setIfInBounds_toArray, List.set_cons_zero, List.set_cons_succ, List.getElem_toArray, List.getElem_cons_zero, List.getElem_cons_succ]
        refine wpAnyT_take (i := 3) (v := ?vg4) rfl (by kernel_rfl) (by kernel_rfl) (by kernel_rfl) rfl (fun _ _ _ h => h) (Or.inl ⟨by rfl, ?hyg4⟩) (DL.of hsel) ?restg4
        case hyg4 => (intro w hSw; go_simp; try rfl)
        try simp only [Act.put, List.setIfInBounds_toArray, List.set_cons_zero, List.set_cons_succ, List.getElem_toArray, List.getElem_cons_zero, List.getElem_cons_succ]
        refine wpAnyT_load (i := 4) (v := ?vg5) rfl (by kernel_rfl) (by kernel_rfl) (by kernel_rfl) rfl (by kernel_rfl) (by kernel_rfl) (fun _ _ _ h => h) (Or.inl ⟨by rfl, ?hyg5⟩) (DL.of hsel) ?restg5
        case hyg5 => (intro w hSw; obtain ⟨s1, s2⟩ := hSw rfl; go_simp; try rfl)
        try simp only [Act.put, List.setIfInBounds_toArray, List.set_cons_zero, List.set_cons_succ, List.getElem_toArray, List.getElem_cons_zero, List.getElem_cons_succ]
        refine wpAnyT_take (i := 5) (v := ?vg6) rfl (by kernel_rfl) (by kernel_rfl) (by kernel_rfl) rfl (fun _ _ _ h => h) (Or.inl ⟨by rfl, ?hyg6⟩) (DL.of hsel) ?restg6
        case hyg6 => (intro w hSw; go_simp; try rfl)
        try simp only [Act.put, List.setIfInBounds_toArray, List.set_cons_zero, List.set_cons_succ, List.getElem_toArray, List.getElem_cons_zero, List.getElem_cons_succ]
        refine wpAnyT_load (i := 6) (v := ?vg7) rfl (by kernel_rfl) (by kernel_rfl) (by kernel_rfl) rfl (by kernel_rfl) (by kernel_rfl) (fun _ _ _ h => h) (Or.inl ⟨by rfl, ?hyg7⟩) (DL.of hsel) ?restg7
        case hyg7 => (intro w hSw; obtain ⟨s1, s2⟩ := hSw rfl; go_simp; try rfl)
        try simp only [Act.put, List.setIfInBounds_toArray, List.set_cons_zero, List.set_cons_succ, List.getElem_toArray, List.getElem_cons_zero, List.getElem_cons_succ]
        refine wpAnyT_take (i := 7) (v := ?vg8) rfl (by kernel_rfl) (by kernel_rfl) (by kernel_rfl) rfl (fun _ _ _ h => h) (Or.inl ⟨by rfl, ?hyg8⟩) (DL.of hsel) ?restg8
        case hyg8 => (intro w hSw; go_simp; try rfl)
        try simp only [Act.put, List.setIfInBounds_toArray, List.set_cons_zero, List.set_cons_succ, List.getElem_toArray, List.getElem_cons_zero, List.getElem_cons_succ]
        refine wpAnyT_ready (rs := [8]) (by kernel_rfl) (by simp) ?_
        refine AllReadyT.cons rfl (fun K hK => ?_) AllReadyT.nil
        refine step_make_row _ (by rfl) _ _ 36 (by rfl) 0 21 (.int .i32 0) 1 4 Try.underlying36 info_w _ _ _ _ nn (by rfl) (by rfl) HNN.out HNN.out (by omega) (by unfold maxLen; omega) (Nat.zero_le _) ?_
        intro W6 hown hgrow
        obtain ⟨gb, hgb⟩ : ∃ gb, gb = wd.heap.size := ⟨_, rfl⟩
        rw [← hgb] at hown ⊢
        simp only [Nat.mul_one] at hown
        have hw6 := words_made hown
        have hb6 : Below wd.heap.size wd W6 := ⟨hgrow.os, hgrow.tape, hgrow.output, hgrow.size, fun k hk => hgrow.block k hk (by simp)⟩
        have hsel6 := hsel.below hb6
        have HI6 := Lib.hid (HId.out.below_ hb6)
        have HW6 := Lib.hid hw6
        have HGB : Hid (wd.heap.size ≤ gb ∧ gb < W6.heap.size) := Lib.hid ⟨by omega, RowAt.lt hw6 _ rfl⟩
        have HBD6 := Lib.hid hb6.size
        clear hown hgrow hgb hw6 hb6
        refine hK.out _ _ (DL.of hsel6) (fun _ => ?_)
        clear hK K
        try simp only [Act.put, List.setIfInBounds_toArray, List.set_cons_zero, List.set_cons_succ, List.getElem_toArray, List.getElem_cons_zero, List.getElem_cons_succ]
        refine wpAnyT_ready (rs := [9]) (by kernel_rfl) (by simp) ?_
        refine AllReadyT.cons rfl (fun K hK => ?_) AllReadyT.nil
        try simp only [Act.put, List.setIfInBounds_toArray, List.set_cons_zero, List.set_cons_succ, List.getElem_toArray, List.getElem_cons_zero, List.getElem_cons_succ]
        go_simp
        obtain ⟨W7, hW7⟩ : ∃ W7, W7 = W6.alloc (.cells #[.slice (some ⟨gb, 0, none⟩) nn nn] 36) := ⟨_, rfl⟩
        obtain ⟨q7, hq7⟩ : ∃ q7, q7 = W6.heap.size := ⟨_, rfl⟩
        have hb7 : Below W6.heap.size W6 W7 := by rw [hW7]; exact (Below.refl _ W6).alloc (Nat.le_refl _) _
        have hsel7 := hsel6.below hb7
        have hn7 : W7.cell? ⟨q7, 0, none⟩ = some (.slice (some ⟨gb, 0, none⟩) nn nn) := by rw [hW7, hq7]; exact cell_of_row _ _ _ _ _ _ (heap_alloc_new W6 _)
        have HI7 := Lib.hid (HI6.out.below_ hb7)
        have HW7 : Hid (WordsAt W7 gb (List.replicate nn 0)) := Lib.hid (RowAt.kept HW6.out (S := fun _ => False) (Chg.of_below hb7 _) fun _ _ h => h)
        have HN7 := Lib.hid hn7
        have HGB7 : Hid (gb < W7.heap.size) := Lib.hid (Nat.lt_of_lt_of_le HGB.out.2 hb7.size)
        try rw [← hW7, ← hq7]
        clear hb7 hn7 hW7 hq7
        refine hK.out _ _ (DL.of hsel7) (fun _ => ?_)
        clear hK K
        try simp only [Act.put, List.setIfInBounds_toArray, List.set_cons_zero, List.set_cons_succ, List.getElem_toArray, List.getElem_cons_zero, List.getElem_cons_succ]
        refine wpAnyT_ready (rs := [10]) (by kernel_rfl) (by simp) ?_
        refine AllReadyT.cons rfl (fun K hK => ?_) AllReadyT.nil
        refine step_append_row _ (by rfl) _ _ 79 36 _ 1 24 (by rfl) Try.underlying79 info_ws rfl HI7.out.row ⟨q7, 0, none⟩ 1 1 [.slice (some ⟨gb, 0, none⟩) nn nn] rfl (fun j u hu => one_cell HN7.out j u hu) (by intro u hu; rw [List.mem_singleton.1 hu]; rfl) (by rfl) (by rfl) (by omega) (by unfold maxLen; omega) (by omega) ?_
        intro v' r' W8 hR8 hC8 hN8
        obtain ⟨A8, c8, rfl, _⟩ := hR8.shape
        have ho8 := hC8.heap HI7.out.obj (fun e => HI7.out.rowmb e.symm)
        have y8 := cell_of_row W8 mb 2 _ _ _ ho8
        have y8f := frozen_of_row W8 mb 2 _ _ ho8
        simp only [List.getElem?_toArray, List.getElem?_cons_succ, List.getElem?_cons_zero] at y8
        have hsel8 : SelR mb qx vD sz W8 := ⟨y8, hC8.cell (p := ⟨qx, 1, none⟩) hsel7.e2 fun e => HQX.out _ e.symm rfl⟩
        have HO8 := Lib.hid ho8
        have HR8 := Lib.hid hR8
        have HC8 := Lib.hid hC8
        have HN8 := Lib.hid hN8
        clear ho8 hR8 hC8 hN8
        refine hK.out _ _ (DL.of hsel8) (fun _ => ?_)
        clear hK K
        try simp only [Act.put, List.setIfInBounds_toArray, List.set_cons_zero, List.set_cons_succ, List.getElem_toArray, List.getElem_cons_zero, List.getElem_cons_succ]
        refine wpAnyT_take (i := 11) (v := ?vg9) rfl (by kernel_rfl) (by kernel_rfl) (by kernel_rfl) rfl (fun _ _ _ h => h) (Or.inl ⟨by rfl, ?hyg9⟩) (DL.of hsel8) ?restg9
        case hyg9 => (intro w hSw; go_simp; try rfl)
        try simp only [Act.put, List.setIfInBounds_toArray, List.set_cons_zero, List.set_cons_succ, List.getElem_toArray, List.getElem_cons_zero, List.getElem_cons_succ]
        refine wpAnyT_take (i := 12) (v := ?vg10) rfl (by kernel_rfl) (by kernel_rfl) (by kernel_rfl) rfl (fun _ _ _ h => h) (Or.inl ⟨by rfl, ?hyg10⟩) (DL.of hsel8) ?restg10
        case hyg10 => (intro w hSw; go_simp; try rfl)
        try simp only [Act.put, List.setIfInBounds_toArray, List.set_cons_zero, List.set_cons_succ, List.getElem_toArray, List.getElem_cons_zero, List.getElem_cons_succ]
        refine wpAnyT_ready (rs := [13]) (by kernel_rfl) (by simp) ?_
        refine AllReadyT.cons rfl (fun K hK => ?_) AllReadyT.nil
        try simp only [Act.put, List.getElem_toArray, List.getElem_cons_zero, List.getElem_cons_succ]
        go_simp
        refine hK.out _ _ (DL.late (by kernel_rfl)) (fun _ => ?_)
        clear hK K
        try simp only [Act.put, List.setIfInBounds_toArray, List.set_cons_zero, List.set_cons_succ, List.getElem_toArray, List.getElem_cons_zero, List.getElem_cons_succ]
        refine wpAnyT_done (by kernel_rfl) ?_ _
        -- END region 5
        go_wp2_with fail
        go_roundw
        case rel => exact ⟨k + 1, bs ++ [gb], .slice A8 (k + 1) c8, r', by omega, by go_num, HI7.out.push HO8.out HR8.out HC8.out HN8.out (by rw [← HNE.out]; exact HW7.out) HNE.out (fun b hb => Nat.lt_of_lt_of_le (HLT.out b hb) HGB.out.1) (Nat.le_trans HId.out.below.size HGB.out.1)⟩
        case measure => simp [intOf]; omega
    · obtain rfl : k = m.globals.length := by omega
      obtain ⟨AD, cD, rfl, _⟩ := HI.out.row.shape
      obtain ⟨hE, hM⟩ := HI.out.env HV.out HF.out HM.out HI0.out
      obtain ⟨i0, hi0, hfn, hpar⟩ := HV.out.main
      have hpar0 : m.fns[i0].params = (([] : List Int).length : Nat) := by simpa using hpar
      have hcall := callv_any hE HV.out.px 31 0 (by omega) ⟨data0V m, 0, 0, [], 0, 0⟩ none wr mainN m.fns[i0] [] none 0 ⟨hM, rfl, ⟨i0, hi0, hfn, rfl⟩, hpar0, fun z hz => (by cases hz), fun h => (by simp [i32s] at h), fun g off e => (by cases e)⟩
      have HCA : Hid (Calls Try.prog 30 #[.pointer (some ⟨mb, 0, none⟩), .string ⟨#[109, 97, 105, 110]⟩, .slice none 0 0] wr (CallPostV (envRV w m A c B d inp Ai ci fuel mb bs AD cD) ⟨data0V m, 0, 0, [], 0, 0⟩ m.fns[i0] [] 0 none wr)) := Lib.hid hcall
      have HEE := Lib.hid hE
      have HNM : Hid (vNamed m mainN = m.fns[i0]) := Lib.hid (vnamed hi0 hfn rfl)
      clear hcall hE hM hfn hpar hpar0
      go_wp2_with fail
      refine HCA.out.mono ?_
      rintro e W9 ⟨v, s', r', c', rfl, hv, hch, hmac, hnew, hfin⟩
      have HRES := Lib.hid (hch.heap HI.out.res (HI.out.resFoot (bs := bs) (AD := AD) (cD := cD)))
      have HM9 := Lib.hid hmac
      have HB9 : Hid (Below w.heap.size w W9) := Lib.hid (HI.out.below.trans (hch.below HI.out.below.size fun k hk => HI.out.footBase hk))
      obtain ⟨vT, hob, htr⟩ := hmac.obj
      have HTR := Lib.hid htr
      obtain ⟨At, ct, rfl, _⟩ := htr.shape
      have hob : W9.heap[mb]? = some (.cells #[.slice A m.globals.length c, .slice B m.fns.length d, .slice AD m.globals.length cD, .slice Ai inp.length ci, .int .i64 fuel, .int .i64 c', .int .i64 s'.fin, .int .i32 s'.value, .slice At s'.trace.length ct, .int .i64 s'.steps, .int .i64 s'.reads] 87 (0, 0)) := hob
      have n6 := cell_of_row W9 mb 6 _ _ _ hob
      have n7 := cell_of_row W9 mb 7 _ _ _ hob
      have n8 := cell_of_row W9 mb 8 _ _ _ hob
      have n9 := cell_of_row W9 mb 9 _ _ _ hob
      have n10 := cell_of_row W9 mb 10 _ _ _ hob
      have nf := fun j => frozen_of_row W9 mb j _ _ hob
      have p0 := cell_of_row W9 rb 0 _ _ _ HRES.out
      have p1 := cell_of_row W9 rb 1 _ _ _ HRES.out
      have p2 := cell_of_row W9 rb 2 _ _ _ HRES.out
      have p3 := cell_of_row W9 rb 3 _ _ _ HRES.out
      have p4 := cell_of_row W9 rb 4 _ _ _ HRES.out
      have pf := fun j => frozen_of_row W9 rb j _ _ HRES.out
      simp only [List.getElem?_toArray, List.getElem?_cons_succ, List.getElem?_cons_zero] at n6 n7 n8 n9 n10 p0 p1 p2 p3 p4
      have hrm : rb ≠ mb := obj_ne HRES.out hob (by decide)
      have HFN := Lib.hid hfin
      have HROK := Lib.hid HI.out.old
      clear hv hch hmac hnew hob htr hfin HCA
      by_cases hf0 : s'.fin = 0
      · rw [hf0] at n6
        have HF0 := Lib.hid hf0
        clear hf0
        go_wp2_with fail
        obtain ⟨W10, hW10⟩ : ∃ W10, W10 = (W9.setCell ⟨mb, 6, none⟩ (.int .i64 1)).setCell ⟨mb, 7, none⟩ (.int .i32 v) := ⟨_, rfl⟩
        rw [← hW10]
        have hc10 : Chg (fun k => k = mb) W9 W10 := by rw [hW10]; exact ((Chg.refl (fun k => k = mb) W9).setCell ⟨mb, 6, none⟩ (fun _ => rfl) _).setCell ⟨mb, 7, none⟩ (fun _ => rfl) _
        have hr10 := hc10.heap HRES.out hrm
        obtain ⟨W11, hW11⟩ : ∃ W11, W11 = ((((W10.setCell ⟨rb, 0, none⟩ (.int .i64 1)).setCell ⟨rb, 1, none⟩ (.int .i32 v)).setCell ⟨rb, 2, none⟩ (.slice At s'.trace.length ct)).setCell ⟨rb, 3, none⟩ (.int .i64 s'.steps)).setCell ⟨rb, 4, none⟩ (.int .i64 s'.reads) := ⟨_, rfl⟩
        rw [← hW11]
        have hr11 := set5_box (a := .int .i64 1) (b := .int .i32 v) (c := .slice At s'.trace.length ct) (d := .int .i64 s'.steps) (e := .int .i64 s'.reads) hr10
        have hc11 := set5_chg W10 rb (.int .i64 1) (.int .i32 v) (.slice At s'.trace.length ct) (.int .i64 s'.steps) (.int .i64 s'.reads)
        rw [← hW11] at hr11 hc11
        have t0 := cell_of_row W11 rb 0 _ _ _ hr11
        have t1 := cell_of_row W11 rb 1 _ _ _ hr11
        have t2 := cell_of_row W11 rb 2 _ _ _ hr11
        have t3 := cell_of_row W11 rb 3 _ _ _ hr11
        have t4 := cell_of_row W11 rb 4 _ _ _ hr11
        simp only [List.getElem?_toArray, List.getElem?_cons_succ, List.getElem?_cons_zero] at t0 t1 t2 t3 t4
        have hcc : Chg (fun k => k = mb ∨ k = rb) W9 W11 := (hc10.mono fun _ _ e => .inl e).trans hc11 fun _ _ e => .inr e
        have hRD := RowAt.reads (HTR.out.kept hcc fun k hk e => by
          rcases e with e | e
          · exact (HM9.out.tr k hk).2.1 e
          · exact row_not HTR.out HRES.out (by decide) (e ▸ hk))
        have hBL := HB9.out.trans (hcc.below HB9.out.size fun k e => by
          rcases e with e | e
          · rw [e]; exact HROK.out.2
          · rw [e]; exact HROK.out.1)
        refine bodyPost_ret (v := .agg #[.int .i64 1, .int .i32 v, .slice At s'.trace.length ct, .int .i64 s'.steps, .int .i64 s'.reads]) (by simp [results, Try.results15, go_sem, t0, t1, t2, t3, t4]) rfl ⟨{ s' with fin := 1, value := v }, At, ct, ⟨by simp, [], ?_⟩, rfl, hRD, hBL, HTR.out.cap_le, HM9.out.trW, HM9.out.tl, HM9.out.sl, HM9.out.rl, fun _ _ e => (HM9.out.tr _ (row_addr HTR.out e)).1⟩
        rcases HFN.out with ⟨_, _, h3⟩ | ⟨h1, _⟩
        · have h4 := h3 [] (-1) rfl
          unfold startV
          rw [HNM.out]
          exact h4
        · exact absurd HF0.out h1
      · have hne : (s'.fin == 0) = false := beq_eq_false_iff_ne.2 hf0
        have HF0 := Lib.hid hf0
        clear hf0
        go_wp2_with fail
        obtain ⟨W11, hW11⟩ : ∃ W11, W11 = ((((W9.setCell ⟨rb, 0, none⟩ (.int .i64 s'.fin)).setCell ⟨rb, 1, none⟩ (.int .i32 s'.value)).setCell ⟨rb, 2, none⟩ (.slice At s'.trace.length ct)).setCell ⟨rb, 3, none⟩ (.int .i64 s'.steps)).setCell ⟨rb, 4, none⟩ (.int .i64 s'.reads) := ⟨_, rfl⟩
        rw [← hW11]
        have hr11 := set5_box (a := .int .i64 s'.fin) (b := .int .i32 s'.value) (c := .slice At s'.trace.length ct) (d := .int .i64 s'.steps) (e := .int .i64 s'.reads) HRES.out
        have hc11 := set5_chg W9 rb (.int .i64 s'.fin) (.int .i32 s'.value) (.slice At s'.trace.length ct) (.int .i64 s'.steps) (.int .i64 s'.reads)
        rw [← hW11] at hr11 hc11
        have t0 := cell_of_row W11 rb 0 _ _ _ hr11
        have t1 := cell_of_row W11 rb 1 _ _ _ hr11
        have t2 := cell_of_row W11 rb 2 _ _ _ hr11
        have t3 := cell_of_row W11 rb 3 _ _ _ hr11
        have t4 := cell_of_row W11 rb 4 _ _ _ hr11
        simp only [List.getElem?_toArray, List.getElem?_cons_succ, List.getElem?_cons_zero] at t0 t1 t2 t3 t4
        have hRD := RowAt.reads (HTR.out.kept hc11 fun k hk e => row_not HTR.out HRES.out (by decide) (e ▸ hk))
        have hBL := HB9.out.trans (hc11.below HB9.out.size fun k e => by rw [e]; exact HROK.out.1)
        refine bodyPost_ret (v := .agg #[.int .i64 s'.fin, .int .i32 s'.value, .slice At s'.trace.length ct, .int .i64 s'.steps, .int .i64 s'.reads]) (by simp [results, Try.results15, go_sem, t0, t1, t2, t3, t4]) rfl ?_
        rcases HFN.out with ⟨h1, _⟩ | ⟨h1, h3⟩
        · exact absurd h1 HF0.out
        · obtain ⟨K', h4⟩ := h3 [] (-1) rfl
          refine ⟨s', At, ct, ⟨h1, K', ?_⟩, rfl, hRD, hBL, HTR.out.cap_le, HM9.out.trW, HM9.out.tl, HM9.out.sl, HM9.out.rl, fun _ _ e => (HM9.out.tr _ (row_addr HTR.out e)).1⟩
          unfold startV
          rw [HNM.out]
          exact h4
end Go.Proofs.Ytnfneinonkpmeaa
