/- A region that draws its order: loads taken first under a condition S that holds as long as no 'late' operation (a store at the end) has come up. After the library's wpAnyH. -/
import Derived.OrdersHeld
import Derived.Deep.RegionHeld
import Derived.OrdersIn
import Derived.TacticsIn
import Derived.RangeFuncCalls
import Derived.Test.YtlniohgnkihefaaLk1
namespace Go.Proofs.Ytlniohgnkihefaa
open Go
section
variable {P : Program} {ops : Array Oper} {Q : Exit → Act → World → Prop} {md : Region.Mode} {S : World → Prop} {T : List Nat}

/-- As long as nothing late has come up, S holds. -/
def DL (T : List Nat) (S : World → Prop) (listed : Array Bool) (w : World) : Prop := (∀ t ∈ T, listed.getD t false = false) → S w
theorem getD_set_ne' {l : Array Bool} {i j : Nat} (h : i ≠ j) : (l.setIfInBounds i true).getD j false = l.getD j false := by
  simp [Array.getD_eq_getD_getElem?, Array.getElem?_setIfInBounds_ne h]
theorem DL.set_iff {listed : Array Bool} {i : Nat} {w : World} (hi : T.contains i = false) : DL T S (listed.setIfInBounds i true) w ↔ DL T S listed w := by
  have h : ∀ t ∈ T, (listed.setIfInBounds i true).getD t false = listed.getD t false := fun t ht => getD_set_ne' fun e => by
    subst e
    have : T.contains i = true := by simpa using ht
    rw [hi] at this; cases this
  constructor
  · intro hd hl; exact hd fun t ht => by rw [h t ht]; exact hl t ht
  · intro hd hl; exact hd fun t ht => by rw [← h t ht]; exact hl t ht
/-- Whatever order is picked from here on. -/
def wpAnyT (P : Program) (md : Region.Mode) (ops : Array Oper) (Q : Exit → Act → World → Prop) (S : World → Prop) (T : List Nat) : Nat → Array Bool → Act → World → Prop
  | 0, listed, a, w => Region.ready md ops listed = [] ∧ Q .normal a w
  | fuel + 1, listed, a, w =>
    (Region.ready md ops listed = [] → Q .normal a w) ∧
    ∀ i ∈ Region.ready md ops listed, wpOp P ops Q i (fun a' w' => DL T S (listed.setIfInBounds i true) w' ∧ wpAnyT P md ops Q S T fuel (listed.setIfInBounds i true) a' w') a w
theorem wpAny_of_T : ∀ (fuel : Nat) (listed : Array Bool) (a : Act) (w : World), wpAnyT P md ops Q S T fuel listed a w → wpAny P md ops Q fuel listed a w
  | 0, _, _, _, h => h
  | fuel + 1, _, _, _, h => ⟨h.1, fun i hi => wpOp_mono (fun a' w' h' => wpAny_of_T fuel _ a' w' h'.2) (h.2 i hi)⟩
/-- c: is it a load, for which the late ones wait? -/
theorem wpAnyT_first (c : Bool) {i : Nat} {oi : Oper} {v : Value} (hi : ops[i]? = some oi) (hsel : ∀ (j : Nat) (o : Oper) cs b, ops[j]? = some o → o.op ≠ .select cs b)
    (hQ : ∀ c a w, Q (.panic c) (a.put oi.dst v) w → Q (.panic c) a w) (hTi : T.contains i = false)
    (hwait : c = true → ∀ t ∈ T, ∀ ot, ops[t]? = some ot → ∃ e ∈ ot.after, Region.binds md e = true ∧ e.on = i) :
    ∀ (fuel : Nat) (listed : Array Bool) (a : Act) (w : World),
      (∀ j oj, ops[j]? = some oj → j ≠ i → listed.getD j true = false → (∀ e ∈ oj.after, Region.binds md e = true → e.on ≠ i) → oi.apart ops oj = true) →
      i ∈ Region.ready md ops listed → (c = true → ∀ t ∈ T, listed.getD t false = false) → YieldsIf P ops (fun w => c = true → S w) oi v a → DL T S listed w →
      wpAnyT P md ops Q S T fuel (listed.setIfInBounds i true) (a.put oi.dst v) w → wpAnyT P md ops Q S T (fuel + 1) listed a w := by
  intro fuel
  induction fuel with
  | zero =>
    intro listed a w _ hr hin hy hS H
    refine ⟨fun h => (by rw [h] at hr; cases hr), fun j hj => ?_⟩
    by_cases hji : j = i
    · subst hji; exact hy.wpOp hi (fun hc => hS (hin hc)) ⟨(DL.set_iff hTi).2 hS, H⟩
    · have := ready_mono hj hji
      rw [H.1] at this
      cases this
  | succ fuel ih =>
    intro listed a w hfree hr hin hy hS H
    refine ⟨fun h => (by rw [h] at hr; cases hr), fun j hj => ?_⟩
    by_cases hji : j = i
    · subst hji; exact hy.wpOp hi (fun hc => hS (hin hc)) ⟨(DL.set_iff hTi).2 hS, H⟩
    · have h1 := H.2 j (ready_mono hj hji)
      obtain ⟨hjun, oj, hoj, hall⟩ := mem_ready.1 hj
      have hnot : ∀ e ∈ oj.after, Region.binds md e = true → e.on ≠ i := fun e he hb heq => by
        have h1 := hall e he hb
        have h0 := (mem_ready.1 hr).1
        rw [heq] at h1
        rcases Nat.lt_or_ge i listed.size with h' | h'
        · simp [h'] at h0 h1; rw [h0] at h1; cases h1
        · simp [Array.getElem?_eq_none h'] at h1
      have h2 := wpOp_putIf hoj (hfree j oj hoj hji hjun hnot) (fun cs b => hsel i oi cs b hi) (fun cs b => hsel j oj cs b hoj) hQ hy h1
      have hfree' : ∀ k ok, ops[k]? = some ok → k ≠ i → (listed.setIfInBounds j true).getD k true = false →
          (∀ e ∈ ok.after, Region.binds md e = true → e.on ≠ i) → oi.apart ops ok = true := fun k ok hk hki hun hno => by
        refine hfree k ok hk hki ?_ hno
        by_cases hjk : j = k
        · subst hjk; exact hjun
        · rw [getD_set_ne true hjk] at hun; exact hun
      have hin' : c = true → ∀ t ∈ T, (listed.setIfInBounds j true).getD t false = false := fun hc t ht => by
        rw [getD_set_ne' fun e => ?_]
        · exact hin hc t ht
        · subst e
          obtain ⟨e, he, hb, he2⟩ := hwait hc j ht oj hoj
          exact hnot e he hb he2
      refine wpOp_mono (fun a' w' h3 => ?_) h2
      rw [Array.setIfInBounds_comm _ _ (Ne.symm hji)] at h3
      have h4 := (DL.set_iff hTi).1 h3.2.1
      exact ⟨h4, ih (listed.setIfInBounds j true) a' w' hfree' (ready_mono hr (Ne.symm hji)) hin' h3.1 h4 h3.2.2⟩

def waits (md : Region.Mode) (ops : Array Oper) (T : List Nat) (i : Nat) : Bool := T.all fun t => match ops[t]? with
  | some o => o.after.any fun e => Region.binds md e && e.on == i
  | none => true
theorem waits_spec {i : Nat} (h : waits md ops T i = true) : ∀ t ∈ T, ∀ ot, ops[t]? = some ot → ∃ e ∈ ot.after, Region.binds md e = true ∧ e.on = i := by
  intro t ht ot hot
  have h1 := List.all_eq_true.1 h t ht
  rw [hot] at h1
  simp only [Array.any_eq_true'] at h1
  obtain ⟨e, he, h2⟩ := h1
  simp only [Bool.and_eq_true, beq_iff_eq] at h2
  exact ⟨e, he, h2⟩
/-- A worldless operation, first. -/
theorem wpAnyT_take {i : Nat} {oi : Oper} {v : Value} {fuel : Nat} {listed : Array Bool} {a : Act} {w : World} (hi : ops[i]? = some oi)
    (hs : Region.noSelect ops = true) (hf : Region.free md ops listed i = true) (hr : (Region.ready md ops listed).contains i = true) (hT : T.contains i = false)
    (hQ : ∀ c a w, Q (.panic c) (a.put oi.dst v) w → Q (.panic c) a w) (hy : YieldsIf P ops (fun w => false = true → S w) oi v a) (hS : DL T S listed w)
    (h : wpAnyT P md ops Q S T fuel (listed.setIfInBounds i true) (a.put oi.dst v) w) : wpAnyT P md ops Q S T (fuel + 1) listed a w :=
  wpAnyT_first false hi (Region.noSelect_spec hs) hQ hT (fun h => by cases h) fuel listed a w (Region.free_spec hi hf) (by simpa using hr) (fun h => by cases h) hy hS h
/-- A load, first. -/
theorem wpAnyT_load {i : Nat} {oi : Oper} {v : Value} {fuel : Nat} {listed : Array Bool} {a : Act} {w : World} (hi : ops[i]? = some oi)
    (hs : Region.noSelect ops = true) (hf : Region.free md ops listed i = true) (hr : (Region.ready md ops listed).contains i = true) (hT : T.contains i = false) (hw : waits md ops T i = true) (hn : (T.all fun t => !listed.getD t false) = true)
    (hQ : ∀ c a w, Q (.panic c) (a.put oi.dst v) w → Q (.panic c) a w) (hy : YieldsIf P ops (fun w => true = true → S w) oi v a) (hS : DL T S listed w)
    (h : wpAnyT P md ops Q S T fuel (listed.setIfInBounds i true) (a.put oi.dst v) w) : wpAnyT P md ops Q S T (fuel + 1) listed a w :=
  wpAnyT_first true hi (Region.noSelect_spec hs) hQ hT (fun _ => waits_spec hw) fuel listed a w (Region.free_spec hi hf) (by simpa using hr) (fun _ t ht => by simpa using List.all_eq_true.1 hn t ht) hy hS h
def AllReadyT (P : Program) (md : Region.Mode) (ops : Array Oper) (Q : Exit → Act → World → Prop) (S : World → Prop) (T : List Nat) (fuel : Nat) (listed : Array Bool) (a : Act) (w : World) (rs : List Nat) : Prop :=
  ∀ i ∈ rs, wpOp P ops Q i (fun a' w' => DL T S (listed.setIfInBounds i true) w' ∧ wpAnyT P md ops Q S T fuel (listed.setIfInBounds i true) a' w') a w
theorem AllReadyT.nil {fuel : Nat} {listed : Array Bool} {a : Act} {w : World} : AllReadyT P md ops Q S T fuel listed a w [] := fun _ h => by cases h
theorem AllReadyT.cons {fuel : Nat} {listed : Array Bool} {a : Act} {w : World} {i : Nat} {o : Oper} {rs : List Nat} (ho : ops[i]? = some o)
    (h : ∀ K' : Act → World → Prop, Shut (∀ a w, DL T S (listed.setIfInBounds i true) w → (DL T S (listed.setIfInBounds i true) w → wpAnyT P md ops Q S T fuel (listed.setIfInBounds i true) a w) → K' a w) → if Region.wanted o (yielded ops a.tmps) = true then Oper.wp P o a w K' Q else K' (a.put o.dst undef) w)
    (hs : AllReadyT P md ops Q S T fuel listed a w rs) : AllReadyT P md ops Q S T fuel listed a w (i :: rs) := fun j hj => by
  rcases List.mem_cons.1 hj with rfl | hj
  · exact wpOp_step ho (fun K' hK => h K' (fun a w hS hW => hK a w ⟨hS, hW hS⟩))
  · exact hs j hj
theorem wpAnyT_ready {rs : List Nat} {fuel : Nat} {listed : Array Bool} {a : Act} {w : World} (hr : Region.ready md ops listed = rs) (hne : rs ≠ [])
    (h : AllReadyT P md ops Q S T fuel listed a w rs) : wpAnyT P md ops Q S T (fuel + 1) listed a w := ⟨fun h0 => absurd (hr ▸ h0) hne, hr ▸ h⟩
theorem wpAnyT_done {listed : Array Bool} {a : Act} {w : World} (hr : Region.ready md ops listed = []) (h : Q .normal a w) : ∀ fuel, wpAnyT P md ops Q S T fuel listed a w
  | 0 => ⟨hr, h⟩
  | _ + 1 => ⟨fun _ => h, by rw [hr]; simp⟩
theorem wp_region_T {id : Nat} {a : Act} {w : World} (S : World → Prop) (T : List Nat) (hm : P.follows .mixedOrders = true) (hS : S w.drew)
    (h : DL T S (Array.replicate ops.size false) w.drew → wpAnyT P .any ops Q S T ops.size (Array.replicate ops.size false) a w.drew) : (Code.region id ops true).wp P Q a w :=
  wp_region_any hm (wpAny_of_T _ _ _ _ (h fun _ => hS))
/-- Once something late has come up, nothing is asked of the world. -/
theorem DL.late {listed : Array Bool} {w : World} (h : (T.any fun t => listed.getD t false) = true) : DL T S listed w := fun hl => by
  obtain ⟨t, ht, h2⟩ := List.any_eq_true.1 h
  rw [hl t ht] at h2; cases h2
theorem DL.of {listed : Array Bool} {w : World} (h : S w) : DL T S listed w := fun _ => h
end
end Go.Proofs.Ytlniohgnkihefaa
namespace Go.Proofs.Ytlniohgnkihefaa
open Go

/-- Q at the normal end alone. -/
def PlainQ (Q : Exit → Act → World → Prop) : Exit → Act → World → Prop
  | .normal, a, w => Q .normal a w
  | _, _, _ => False
theorem PlainQ.imp {Q : Exit → Act → World → Prop} : ∀ (e : Exit) (a : Act) (w : World), PlainQ Q e a w → Q e a w := fun e a w h => by
  cases e <;> first | exact h | exact (h : False).elim
theorem PlainQ.out {Q : Exit → Act → World → Prop} : ¬ LetsOut (PlainQ Q) := fun ⟨_, _, h⟩ => h
theorem rowsIn_wide' {n : Nat} {P : Program} {row : String} {args : Array Value} {w : World} {R : Value → World → Prop} (h : Rows P row args w R) : RowsIn Fence.wide n P row args w R := by
  intro c cs _
  obtain ⟨v, w', r, s⟩ := h c cs
  exact ⟨v, w', r, stepsIn_wide.2 s⟩
section
variable {P : Program} {ops : Array Oper} {Q : Exit → Act → World → Prop} {l n : Nat}
theorem wpOpIn_of_wpOp {i : Nat} {K : Act → World → Prop} {a : Act} {w : World} (hnd : ∀ (o : Oper) (c : Call), ops[i]? = some o → o.op ≠ .defer c) (h : wpOp P ops (PlainQ Q) i K a w) :
    wpOpIn (Fence.wide.inRound l) n P ops (PlainQ Q) i K a w := by
  unfold wpOp at h
  unfold wpOpIn
  cases ho : ops[i]? with
  | none => rw [ho] at h; exact h
  | some o =>
    rw [ho] at h
    simp only at h ⊢
    by_cases hw : Region.wanted o (yielded ops a.tmps) = true
    · rw [if_pos hw] at h
      rw [if_pos hw]
      rcases h with h | ⟨_, h⟩
      · refine ⟨fun _ _ => trivial, ?_⟩
        rw [Fence.inRound_round, Oper.semAt_some _ _ _ fun c => hnd o c ho]
        unfold Oper.wp at h
        generalize (execOp a.eval o).run P w = r at h
        cases r with
        | ok v w' =>
          cases v with
          | value v => exact h
          | skip => exact h
          | defer d => exact h
          | enter f args => exact ⟨(fun hd => by cases hd), (CallsIn.inRound l (callsIn_wide.2 h)).mono fun e w' he => he⟩
          | row row args => exact ⟨(fun hd => by cases hd), rowsIn_wide' h⟩
          | _ => exact h.elim
        | halt x w' => cases x <;> first | exact h | exact (h : False).elim
      · exact absurd h PlainQ.out
    · rw [if_neg hw] at h
      rw [if_neg hw]
      exact ⟨fun _ _ => trivial, h⟩
theorem wpAnyIn_of_any {md : Region.Mode} (hnd : ∀ (i : Nat) (o : Oper) (c : Call), ops[i]? = some o → o.op ≠ .defer c) : ∀ (fuel : Nat) (listed : Array Bool) (a : Act) (w : World), wpAny P md ops (PlainQ Q) fuel listed a w → wpAnyIn (Fence.wide.inRound l) n P md ops (PlainQ Q) fuel listed a w
  | 0, _, _, _, h => h
  | fuel + 1, _, _, _, h => ⟨h.1, fun i hi => wpOpIn_mono (fun a' w' h' => wpAnyIn_of_any hnd fuel _ a' w' h') (wpOpIn_of_wpOp (hnd i) (h.2 i hi))⟩
def noDefer (ops : Array Oper) : Bool := ops.all fun o => match o.op with | .defer _ => false | _ => true
theorem noDefer_spec (h : noDefer ops = true)   : ∀ (i : Nat) (o : Oper) (c : Call), ops[i]? = some o → o.op ≠ .defer c := fun i o c ho e => by
  unfold noDefer at h
  rw [Array.all_eq_true] at h
  obtain ⟨hi, hio⟩ := Array.getElem?_eq_some_iff.1 ho
  have := h i hi
  rw [hio, e] at this
  cases this
theorem wpIn_region_T {id : Nat} {a : Act} {w : World} (S : World → Prop) (T : List Nat) (hm : P.follows .mixedOrders = true) (hnd : noDefer ops = true) (hS : S w.drew)
    (h : DL T S (Array.replicate ops.size false) w.drew → wpAnyT P .any ops (PlainQ Q) S T ops.size (Array.replicate ops.size false) a w.drew) : (Code.region id ops true).wpIn (Fence.wide.inRound l) n P Q a w :=
  wpIn_mono (wpIn_region_any hm (wpAnyIn_of_any (noDefer_spec hnd) _ _ _ _ (wpAny_of_T _ _ _ _ (h fun _ => hS)))) PlainQ.imp
end
end Go.Proofs.Ytlniohgnkihefaa
namespace Go.Proofs.Ytlniohgnkihefaa

def I64 (z : Int) : Prop := -9223372036854775808 ≤ z ∧ z ≤ 9223372036854775807
def ints (zs : List Int) : List Value := zs.map fun z => Value.int .i64 z
theorem ints_length (zs : List Int) : (ints zs).length = zs.length := by simp [ints]
theorem ints_at (zs : List Int) (i : Nat) (h : i < zs.length) : (ints zs)[i]? = some (.int .i64 (zs.getD i 0)) := by simp [ints, h]
end Go.Proofs.Ytlniohgnkihefaa
namespace Go.Proofs.Ytlniohgnkihefaa
open Go.RowKit

def inR (k : Int) : Bool := decide (0 ≤ k) && decide (k < 65536)
theorem put_mem (ws : List Nat) (k : Int) (n : Nat) : (memW ws n || (putOk ws k && n == k.toNat)) = (memW ws n || (inR k && n == k.toNat)) := by
  unfold putOk inR
  by_cases h : n = k.toNat
  · subst h; cases memW ws k.toNat <;> simp
  · have : (n == k.toNat) = false := by simpa using h
    simp [this]


/-- The set of some numbers. -/
def ofSet (zs : List Int) (m : Nat) : Bool := zs.any fun z => inR z && m == z.toNat
theorem ofSet_snoc (zs : List Int) (z : Int) (m : Nat) : ofSet (zs ++ [z]) m = (ofSet zs m || (inR z && m == z.toNat)) := by simp [ofSet]
theorem take_snoc' {α : Type} (zs : List α) (k : Nat) (h : k < zs.length) (d : α) : zs.take (k + 1) = zs.take k ++ [zs.getD k d] := by
  rw [List.take_succ_eq_append_getElem h]; simp [List.getD_eq_getElem?_getD, h]

theorem getD_of_all {P : Int → Prop} {zs : List Int} (h : ∀ z ∈ zs, P z) (k : Nat) (hk : k < zs.length) : P (zs.getD k 0) := by
  have : zs.getD k 0 = zs[k] := by simp [hk]
  rw [this]; exact h _ (List.getElem_mem hk)

/-- A set that the call made. -/
structure NewBits (w w' : World) (b : Nat) (r : Option Nat) (ws : List Nat) : Prop where
  at_ : BitsAt w' b r ws
  below : Below w.heap.size w w'
  nb : w.heap.size ≤ b
  nr : ∀ k, r = some k → w.heap.size ≤ k

theorem NewBits.grow {w w1 w2 : World} {b : Nat} {r r' : Option Nat} {ws ws' : List Nat} (h : NewBits w w1 b r ws) (g : GrowAt w1 b r ws w2 r' ws') : NewBits w w2 b r' ws' :=
  ⟨g.at_, h.below.trans (g.chg.below (h.below.size) (fun i hi => by
    rcases hi with hi | hi
    · rw [hi]; exact h.nb
    · exact h.nr i hi.symm)), h.nb, g.new.ge h.below.size h.nr⟩

set_option maxHeartbeats 1000000 in
set_option maxRecDepth 100000 in
theorem of_any (A : Option Addr) (c : Nat) (zs : List Int) (w : World) (hl : zs.length ≤ 9223372036854775807) (hz : ∀ z ∈ zs, I64 z) (hr : ReadsAt w A (ints zs)) :
    Calls Try.prog 66 #[.slice A zs.length c] w fun e w' => ∃ b r ws, e = .returned (.pointer (some ⟨b, 0, none⟩)) ∧ NewBits w w' b r ws ∧ ∀ m, memW ws m = ofSet zs m := by
  have HR := Lib.hid hr
  have HZ := Lib.hid hz
  clear hr hz
  go_enter Try.func66, Try.ntmps66
  go_wp2
  go_loopw [10] (fun i wr => ∃ k r1 ws1, k ≤ zs.length ∧ i = .int .i64 (k : Nat) ∧ NewBits w wr w.heap.size r1 ws1 ∧ ∀ m, memW ws1 m = ofSet (zs.take k) m) (fun i _ => zs.length - (intOf i).toNat)
  case atStart =>
    refine ⟨0, none, [], Nat.zero_le _, rfl, ⟨⟨⟨.slice none 0 0, heap_alloc_new w _, RowAt.nil _ _ _⟩, by simp, by simp⟩, (Below.refl _ _).alloc (Nat.le_refl _) _, Nat.le_refl _, by simp⟩, fun m => ?_⟩
    simp [memW, ofSet]
  case round =>
    obtain ⟨k, r1, ws1, hk, rfl, hN, hm⟩ := hrel
    by_cases hlt : k < zs.length
    · obtain ⟨g, off, rfl, hg, hc⟩ := HR.out (by rw [ints_length]; omega)
      have hx := (hN.below.cell (p := ⟨g, off + k, none⟩) hg).trans (hc k _ (ints_at zs k hlt))
      obtain ⟨z, hze⟩ : ∃ z, z = zs.getD k 0 := ⟨_, rfl⟩
      rw [← hze] at hx
      have hzb : I64 z := by rw [hze]; exact getD_of_all HZ.out k hlt
      have HX := Lib.hid hze
      have HN := Lib.hid hN
      have HM := Lib.hid hm
      have HB := Lib.hid hzb
      clear hc hze hN hm hzb
      go_wp2_with (go_at_call 57; refine (put_any HN.out.at_ z HB.out).mono ?_; rintro e w' ⟨rfl, r', ws', hG, hm'⟩)
      go_roundw
      case rel =>
        refine ⟨k + 1, r', ws', by omega, by go_num, HN.out.grow hG, fun m => ?_⟩
        rw [hm', put_mem, HM.out, take_snoc' zs k hlt 0, ofSet_snoc, HX.out]
      case measure => simp [intOf]; omega
    · obtain rfl : k = zs.length := by omega
      go_wp2
      go_ret
      exact ⟨_, r1, ws1, rfl, hN, fun m => by rw [hm, List.take_length]⟩
end Go.Proofs.Ytlniohgnkihefaa
namespace Go.Proofs.Ytlniohgnkihefaa
open Go.RowKit

/-- Is there a number below 64 k in the second set that is not in the first? -/
def newTo (ws wc : List Nat) (k : Nat) : Bool := (List.range (64 * k)).any fun n => memW wc n && !memW ws n
theorem newTo_succ (ws wc : List Nat) (k : Nat) : newTo ws wc (k + 1) = (newTo ws wc k || (List.range 64).any fun j => memW wc (64 * k + j) && !memW ws (64 * k + j)) := by
  unfold newTo
  rw [Nat.mul_add, Nat.mul_one, List.range_add, List.any_append, List.any_map]
  rfl
theorem word_any (x y : Nat) (hx : x < big64) (hy : y < big64) : (!(x &&& (big64 - 1 - y) == 0)) = (List.range 64).any fun j => x.testBit j && !y.testBit j := by
  rw [Bool.eq_iff_iff]
  simp only [Bool.not_eq_true', beq_eq_false_iff_ne, ne_eq, List.any_eq_true, List.mem_range, Bool.and_eq_true]
  rw [word_zero _ (and_lt64 hx)]
  constructor
  · intro h
    apply Classical.byContradiction
    intro hn
    apply h
    intro i hi
    rw [Nat.testBit_and, testBit_not64 _ _ hy hi]
    cases e1 : x.testBit i with
    | false => rfl
    | true =>
      cases e2 : y.testBit i with
      | true => rfl
      | false => exact absurd ⟨i, hi, e1, by rw [e2]⟩ hn
  · rintro ⟨i, hi, h1, h2⟩ h
    have := h i hi
    rw [Nat.testBit_and, testBit_not64 _ _ hy hi, h1] at this
    simp at this h2
    rw [h2] at this
    cases this
theorem memW_at (ws : List Nat) (k j : Nat) (hj : j < 64) : memW ws (64 * k + j) = (ws.getD k 0).testBit j := by
  unfold memW
  rw [show (64 * k + j) / 64 = k from by omega, show (64 * k + j) % 64 = j from by omega]
theorem newTo_step (ws wc : List Nat) (k : Nat) (h1 : ∀ x ∈ ws, x < big64) (h2 : ∀ x ∈ wc, x < big64) :
    newTo ws wc (k + 1) = (newTo ws wc k || !(wc.getD k 0 &&& (big64 - 1 - ws.getD k 0) == 0)) := by
  rw [newTo_succ, word_any _ _ (getD_lt h2 k) (getD_lt h1 k)]
  congr 1
  rw [Bool.eq_iff_iff]
  simp only [List.any_eq_true, List.mem_range]
  constructor
  · rintro ⟨j, hj, h⟩; exact ⟨j, hj, by rw [memW_at _ _ _ hj, memW_at _ _ _ hj] at h; exact h⟩
  · rintro ⟨j, hj, h⟩; exact ⟨j, hj, by rw [memW_at _ _ _ hj, memW_at _ _ _ hj]; exact h⟩

/-- What the round of Join leaves. -/
theorem memW_or (ws : List Nat) (k x n : Nat) (hi : k < ws.length) : memW (ws.set k (ws.getD k 0 ||| x)) n = (memW ws n || (decide (n / 64 = k) && x.testBit (n % 64))) := by
  rw [memW_set _ _ _ _ hi]
  by_cases h : n / 64 = k
  · rw [if_pos h, Nat.testBit_or]
    unfold memW
    rw [h]
    simp
  · rw [if_neg h]; simp [h]
def upTo (ws wc : List Nat) (k n : Nat) : Bool := memW ws n || (decide (n / 64 < k) && memW wc n)
theorem upTo_step (ws wc : List Nat) (k n : Nat) : (upTo ws wc k n || (decide (n / 64 = k) && (wc.getD k 0).testBit (n % 64))) = upTo ws wc (k + 1) n := by
  unfold upTo
  by_cases h : n / 64 = k
  · have : memW wc n = (wc.getD k 0).testBit (n % 64) := by unfold memW; rw [h]
    rw [this]
    simp [h]
  · have e : decide (n / 64 < k + 1) = decide (n / 64 < k) := by rw [Bool.eq_iff_iff]; simp; omega
    simp [h, e]
theorem upTo_all (ws wc : List Nat) (n : Nat) : upTo ws wc wc.length n = (memW ws n || memW wc n) := by
  unfold upTo
  by_cases h : n / 64 < wc.length
  · simp [h]
  · rw [memW_none wc n (by omega)]; simp
theorem upTo_at (ws wc : List Nat) (k j : Nat) (hj : j < 64) : upTo ws wc k (64 * k + j) = memW ws (64 * k + j) := by
  unfold upTo
  rw [show (64 * k + j) / 64 = k from by omega]; simp
/-- The words at a place that has not been come to are the same. -/
theorem word_eq (ws ws1 wc : List Nat) (k : Nat) (h : ∀ n, memW ws1 n = upTo ws wc k n) (h1 : ∀ x ∈ ws, x < big64) (h2 : ∀ x ∈ ws1, x < big64) : ws1.getD k 0 = ws.getD k 0 := by
  apply Nat.eq_of_testBit_eq
  intro j
  by_cases hj : j < 64
  · rw [← memW_at ws1 k j hj, ← memW_at ws k j hj, h, upTo_at _ _ _ _ hj]
  · have a1 := getD_lt h1 k
    have a2 := getD_lt h2 k
    rw [big64_eq] at a1 a2
    rw [Nat.testBit_lt_two_pow (Nat.lt_of_lt_of_le a1 (Nat.pow_le_pow_right (by omega) (by omega))), Nat.testBit_lt_two_pow (Nat.lt_of_lt_of_le a2 (Nat.pow_le_pow_right (by omega) (by omega)))]

theorem andNot_bits (x y : Nat) (hx : x < big64) (hy : y < big64) : bits BinOp.andNot .u64 (x : Int) (y : Int) = ((x &&& (big64 - 1 - y) : Nat) : Int) := u64_andNot_nat x y hx hy
theorem or_bits (x y : Nat) (hx : x < big64) (hy : y < big64) : bits BinOp.or .u64 (x : Int) (y : Int) = ((x ||| y : Nat) : Int) := u64_or_nat x y hx hy

theorem cast_ne (n : Nat) : ((n : Int) != 0) = !(n == 0) := by cases n <;> simp <;> omega

set_option maxRecDepth 100000 in
set_option maxHeartbeats 4000000 in
theorem join_any {w : World} {b c : Nat} {r rc : Option Nat} {ws wc : List Nat} (h : BitsAt w b r ws) (hc : BitsAt w c rc wc) (hd : ∀ k, rc = some k → r ≠ some k) :
    Calls Try.prog 39 #[.pointer (some ⟨b, 0, none⟩), .pointer (some ⟨c, 0, none⟩)] w fun e w' => e = .returned (.bool (newTo ws wc wc.length)) ∧
      ∃ r' ws', GrowAt w b r ws w' r' ws' ∧ ∀ n, memW ws' n = (memW ws n || memW wc n) := by
  obtain ⟨vc, hc1, hc2⟩ := hc.ex
  obtain ⟨Ac, cc, rfl, _⟩ := hc2.shape
  have hcc := cell_of_one hc1
  have hrd := hc2.reads
  have hll := hc.len
  have hrb : ∀ k, rc = some k → k < w.heap.size ∧ ¬ FootB b r k := by
    intro k hk
    refine ⟨hc.rlt k hk, ?_⟩
    rintro (e | e)
    · obtain ⟨v, h1, _⟩ := h.ex
      exact row_ne_of_type hc2 h1 (by decide) (by rw [hk, e])
    · exact hd k hk e.symm
  have hAc : ∀ g off, 0 < wc.length → Ac = some ⟨g, off, none⟩ → rc = some g := by
    intro g off hp hA
    obtain ⟨g', off', cap', hv, hr, _⟩ := hc2.form hp
    injection hv with ha _ _
    rw [hA] at ha; cases ha; exact hr
  have H := Lib.hid h
  have HCL := Lib.hid hc.lt
  have HRD := Lib.hid hrd
  have HRB := Lib.hid hrb
  have HAC := Lib.hid hAc
  clear h hc hd hrd hc2 hrb hAc hc1
  go_enter Try.func39, Try.ntmps39
  go_wp2_with (go_at_call 55; refine (words_cell _ _ _ hcc).mono ?_; rintro e w' ⟨rfl, rfl⟩)
  go_loopw [5, 13] (fun t i wr => ∃ k r1 ws1, k ≤ wc.length ∧ i = .int .i64 (k : Nat) ∧ t = .bool (newTo ws wc k) ∧ GrowAt w b r ws wr r1 ws1 ∧ ∀ n, memW ws1 n = upTo ws wc k n) (fun _ i _ => wc.length - (intOf i).toNat)
  case atStart => exact ⟨0, r, ws, Nat.zero_le _, rfl, rfl, GrowAt.refl H.out, fun n => by simp [upTo]⟩
  case round =>
    obtain ⟨k, r1, ws1, hk, rfl, rfl, hg, hm⟩ := hrel
    by_cases hlt : k < wc.length
    · obtain ⟨g, off, rfl, hgl, hcl⟩ := HRD.out (by simp [cells64]; omega)
      have hrg := HAC.out g off (by omega) rfl
      have hx := hg.chg.cell (p := ⟨g, off + k, none⟩) (hcl k _ (cells64_at wc k hlt)) (HRB.out g hrg).2
      obtain ⟨x, hxe⟩ : ∃ x, x = wc.getD k 0 := ⟨_, rfl⟩
      rw [← hxe] at hx
      obtain ⟨t0, ht0⟩ : ∃ t0, t0 = newTo ws wc k := ⟨_, rfl⟩
      rw [← ht0]
      have HX := Lib.hid hxe
      have HT := Lib.hid ht0
      have HG := Lib.hid hg
      have HM := Lib.hid hm
      clear hcl hxe ht0 hg hm hrg
      have hk' : (k : Int) < 1024 := by omega
      go_wp2_with fail
      obtain ⟨wo, rfl⟩ : ∃ wo : World, wo = wr := ⟨_, rfl⟩
      go_loopw [18] (fun _ wq => ∃ r2 m, GrowAt wo b r1 ws1 wq r2 (ws1 ++ List.replicate m 0) ∧ (m = 0 ∨ ws1.length + m ≤ k + 1)) (fun _ wq => k + 1 - lenAt wq b)
      case atStart => exact ⟨r1, 0, by simpa using GrowAt.refl HG.out.at_, .inl rfl⟩
      case round =>
        obtain ⟨r2, m, hg2, hm2⟩ := hrel
        obtain ⟨ws2, hws⟩ : ∃ ws2, ws2 = ws1 ++ List.replicate m 0 := ⟨_, rfl⟩
        rw [← hws] at hg2
        have hl2 : ws2.length = ws1.length + m := by rw [hws]; simp
        have HW := Lib.hid hws
        have HL2 := Lib.hid hl2
        clear hws
        obtain ⟨v, hb, hR⟩ := hg2.at_.ex
        obtain ⟨A, c', rfl, hmx⟩ := hR.shape
        have hcb := cell_of_one hb
        have hfz := free_of_one hb
        have hle := hg2.at_.len
        have hlen := lenAt_of hcb
        have HGR := Lib.hid hg2
        have HLN := Lib.hid hlen
        have HM2 := Lib.hid hm2
        clear hg2 hlen hm2 hl2 hx
        by_cases ht : ws2.length ≤ k
        · go_wp2_with (at_builtin; refine wpList_append_one _ rfl _ _ 79 101 (.int .u64 0) 8 rfl Try.underlying79 info_u64 rfl hR _ rfl rfl rfl (by omega) (by unfold maxLen; omega) ?_; intro v' r' w' hR' hC hN; obtain ⟨A', cq, rfl, _⟩ := hR'.shape; obtain ⟨hb', hG⟩ := GrowAt.appended HGR.out.at_ hb hR' hC hN (by omega); have hc' := cell_of_one hb'; have hfz' := free_of_one hb')
          go_roundw
          case rel =>
            refine ⟨r', m + 1, ?_, .inr (by have := HL2.out; omega)⟩
            have e : ws1 ++ List.replicate (m + 1) 0 = ws2 ++ [0] := by rw [HW.out, List.replicate_succ', List.append_assoc]
            rw [e]
            exact HGR.out.trans hG
          case measure =>
            have hcs := cell_of_one (one_setCell (u := .slice A' (ws2.length + 1) cq) hb')
            rw [HLN.out, lenAt_of hcs]
            omega
        · have hg' : k < ws2.length := by omega
          clear hmx ht
          obtain ⟨gb, offb, cb', hv, _, _, _, _, hcl, hfz2⟩ := hR.form (by omega)
          injection hv with hA _ hcc'
          subst hA; subst hcc'
          have hy := hcl k _ (cells64_at ws2 k hg')
          have hfx := hfz2 (offb + k)
          clear hcl hfz2
          obtain ⟨y, hye⟩ : ∃ y, y = ws2.getD k 0 := ⟨_, rfl⟩
          rw [← hye] at hy
          have HY := Lib.hid hye
          clear hye
          have hxl : x < big64 := by rw [HX.out]; exact getD_lt HCL.out _
          have hyl : y < big64 := by rw [HY.out]; exact getD_lt HGR.out.at_.lt _
          have hmem : ∀ n, memW (ws2.set k (y ||| x)) n = upTo ws wc (k + 1) n := by
            intro n
            rw [HY.out, memW_or _ _ _ _ hg', HW.out, memW_zeros, HM.out, HX.out, upTo_step]
          have hyw : y = ws.getD k 0 := by
            rw [HY.out]
            exact word_eq ws ws2 wc k (fun n => by rw [HW.out, memW_zeros, HM.out]) H.out.lt HGR.out.at_.lt
          have hstep := newTo_step ws wc k H.out.lt HCL.out
          rw [← HX.out, ← hyw, ← HT.out] at hstep
          have hgrow := HG.out.trans (HGR.out.trans (GrowAt.set HGR.out.at_ hb k (y ||| x) hg' (or_lt64 hyl hxl)))
          rw [← or_bits _ _ hyl hxl] at hgrow
          have han := andNot_bits _ _ hxl hyl
          have HS := Lib.hid hstep
          have HGW := Lib.hid hgrow
          have HME := Lib.hid hmem
          have HAN := Lib.hid han
          clear hxl hyl hmem hyw hstep hgrow han
          cases t0 with
          | true =>
            go_wp2
            go_roundw
            case rel => exact ⟨k + 1, r2, _, by omega, by go_num, by rw [HS.out]; rfl, HGW.out, HME.out⟩
            case measure => simp [intOf]; omega
          | false =>
            go_wp2
            go_roundw
            case rel =>
              refine ⟨k + 1, r2, _, by omega, by go_num, ?_, HGW.out, HME.out⟩
              rw [HS.out, HAN.out]
              rw [Bool.false_or, cast_ne]
            case measure => simp [intOf]; omega
    · obtain rfl : k = wc.length := by omega
      go_wp2
      go_ret
      exact ⟨rfl, r1, ws1, hg, fun n => by rw [hm, upTo_all]⟩

theorem newTo_self (ws : List Nat) (k : Nat) : newTo ws ws k = false := by
  unfold newTo
  rw [List.any_eq_false]
  intro n _
  simp
theorem newTo_none (ws wc : List Nat) (h : ∀ n, memW wc n = false) (k : Nat) : newTo ws wc k = false := by
  unfold newTo
  rw [List.any_eq_false]
  intro n _
  simp [h]
theorem set_same (ws : List Nat) (k : Nat) (hk : k < ws.length) : ws.set k (ws.getD k 0) = ws := by
  apply List.ext_getElem?
  intro i
  rw [List.getElem?_set]
  by_cases h : k = i
  · subst h; simp [hk]
  · rw [if_neg h]

set_option maxRecDepth 100000 in
set_option maxHeartbeats 4000000 in
theorem join_self {w : World} {b : Nat} {r : Option Nat} {ws : List Nat} (h : BitsAt w b r ws) :
    Calls Try.prog 39 #[.pointer (some ⟨b, 0, none⟩), .pointer (some ⟨b, 0, none⟩)] w fun e w' => e = .returned (.bool false) ∧ GrowAt w b r ws w' r ws := by
  obtain ⟨v, hb0, hc2⟩ := h.ex
  obtain ⟨Ac, cc, rfl, _⟩ := hc2.shape
  have hcc := cell_of_one hb0
  have hll := h.len
  have H := Lib.hid h
  have HB0 := Lib.hid hb0
  have HR0 := Lib.hid hc2
  clear h hc2 hb0
  go_enter Try.func39, Try.ntmps39
  go_wp2_with (go_at_call 55; refine (words_cell _ _ _ hcc).mono ?_; rintro e w' ⟨rfl, rfl⟩)
  go_loopw [5, 13] (fun t i wr => ∃ k : Nat, k ≤ ws.length ∧ i = .int .i64 (k : Nat) ∧ t = .bool false ∧ GrowAt w b r ws wr r ws ∧ wr.heap[b]? = some (.cells #[.slice Ac ws.length cc] 81 (0, 0))) (fun _ i _ => ws.length - (intOf i).toNat)
  case atStart => exact ⟨0, Nat.zero_le _, rfl, rfl, GrowAt.refl H.out, HB0.out⟩
  case round =>
    obtain ⟨k, hk, rfl, rfl, hg, hb⟩ := hrel
    have hcb := cell_of_one hb
    have hfz := free_of_one hb
    by_cases hlt : k < ws.length
    · obtain ⟨v1, hb1, hR⟩ := hg.at_.ex
      have hv1 : v1 = .slice Ac ws.length cc := by rw [hb] at hb1; injection hb1 with e1; injection e1 with e1; injection e1 with e1; injection e1 with e1 _; exact e1.symm
      subst hv1
      obtain ⟨g, off, cap, hv, hrg, _, _, _, hcl, hfz2⟩ := hR.form (by omega)
      injection hv with hA _ hce
      subst hA; subst hce
      have hx := hcl k _ (cells64_at ws k hlt)
      have hfx := hfz2 (off + k)
      clear hcl hfz2
      obtain ⟨x, hxe⟩ : ∃ x, x = ws.getD k 0 := ⟨_, rfl⟩
      rw [← hxe] at hx
      have hxl : x < big64 := by rw [hxe]; exact getD_lt H.out.lt _
      have hgrow := hg.trans (GrowAt.set hg.at_ hb k (x ||| x) hlt (or_lt64 hxl hxl))
      rw [Nat.or_self, hxe, set_same ws k hlt, ← hxe] at hgrow
      have hor := or_bits _ _ hxl hxl
      rw [Nat.or_self] at hor
      have han := andNot_bits _ _ hxl hxl
      have hz : x &&& (big64 - 1 - x) = 0 := by
        rw [word_zero _ (and_lt64 hxl)]
        intro i hi
        rw [Nat.testBit_and, testBit_not64 _ _ hxl hi]; simp
      rw [hz] at han
      have hxa : ((bits BinOp.andNot IntKind.u64 (x : Int) (x : Int)) != 0) = false := by rw [han]; rfl
      have hne : r ≠ some b := H.out.ne
      have hgb : g ≠ b := fun e => hne (by rw [hrg, e])
      have hb2 : ∀ u, (wr.setCell ⟨g, off + k, none⟩ u).heap[b]? = some (.cells #[.slice (some ⟨g, off, none⟩) ws.length cc] 81 (0, 0)) := fun u => (Chg.store wr g (off + k) u).heap hb (fun e => hgb e.symm)
      have HX := Lib.hid hxe
      have HG := Lib.hid hg
      have HGW := Lib.hid hgrow
      have HOR := Lib.hid hor
      have HXA := Lib.hid hxa
      have HB2 := Lib.hid hb2
      have hk' : (k : Int) < 1024 := by omega
      clear hxe hg hgrow hor han hz hxa hxl hb2 hb1 hR hrg hgb
      go_wp2_with fail
      obtain ⟨wo, rfl⟩ : ∃ wo : World, wo = wr := ⟨_, rfl⟩
      refine wp_loop_rounds 1 ?_
      rw [rounds_succ]
      go_wp2
      go_roundw
      case rel =>
        refine ⟨k + 1, by omega, by go_num, ?_, ?_, HB2.out _⟩
        · rw [HXA.out]
        · rw [HOR.out]; exact HGW.out
      case measure => simp [intOf]; omega
    · obtain rfl : k = ws.length := by omega
      go_wp2
      go_ret
      exact ⟨rfl, hg⟩
theorem join_none {w : World} (b : Nat) :
    Calls Try.prog 39 #[.pointer (some ⟨b, 0, none⟩), .pointer none] w fun e w' => e = .returned (.bool false) ∧ w = w' := by
  go_enter Try.func39, Try.ntmps39
  go_wp2_with (go_at_call 55; refine (words_nil _).mono ?_; rintro e w' ⟨rfl, rfl⟩)
  refine wp_loop_rounds 1 ?_
  rw [rounds_succ]
  go_wp2
  go_ret
  exact ⟨rfl, rfl⟩
theorem join_nil {w : World} (p : Option Addr) :
    Calls Try.prog 39 #[.pointer none, .pointer p] w fun e w' => e = .returned (.bool false) ∧ w = w' := by
  go_enter Try.func39, Try.ntmps39
  go_wp2_with fail
  go_ret
  exact ⟨rfl, rfl⟩
end Go.Proofs.Ytlniohgnkihefaa
namespace Go.Proofs.Ytlniohgnkihefaa
open Go.RowKit

theorem andNot_pow (x j : Nat) (hx : x < big64) (hj : j < 64) : bits BinOp.andNot .u64 (x : Int) (IntKind.u64.wrap (2 ^ j)) = ((x &&& (big64 - 1 - 2 ^ j) : Nat) : Int) := by
  have hp := pow_lt64 hj
  have e : IntKind.u64.wrap (2 ^ j) = ((2 ^ j : Nat) : Int) := by
    rw [IntKind.wrap_u64]
    rw [show ((2 : Int) ^ j) = ((2 ^ j : Nat) : Int) from by simp]
    generalize 2 ^ j = p at hp ⊢
    unfold big64 at hp
    omega
  rw [e, andNot_bits _ _ hx hp]
theorem hasW_lt {ws : List Nat} {k : Int} (h : hasW ws k = true) : 0 ≤ k ∧ k.toNat / 64 < ws.length ∧ memW ws k.toNat = true := by
  unfold hasW at h
  simp only [Bool.and_eq_true, decide_eq_true_eq] at h
  refine ⟨h.1, ?_, h.2⟩
  rcases Nat.lt_or_ge (k.toNat / 64) ws.length with h' | h'
  · exact h'
  · rw [memW_none _ _ h'] at h; exact absurd h.2 (by decide)
set_option maxRecDepth 100000 in
set_option maxHeartbeats 1000000 in
theorem drop_any {w : World} {b : Nat} {r : Option Nat} {ws : List Nat} (h : BitsAt w b r ws) (k : Int) (h63 : k ≤ 9223372036854775807) :
    Calls Try.prog 59 #[.pointer (some ⟨b, 0, none⟩), .int .i64 k] w fun e w' => e = .returned (.bool (hasW ws k)) ∧
      ∃ ws', GrowAt w b r ws w' r ws' ∧ ∀ n, memW ws' n = (memW ws n && !(hasW ws k && n == k.toNat)) := by
  have hhas := has_any h k h63
  cases hh : hasW ws k with
  | false =>
    rw [hh] at hhas
    have H := Lib.hid h
    have HF := Lib.hid hhas
    clear h hhas hh
    go_enter Try.func59, Try.ntmps59
    go_wp2_with (go_at_call 43; refine HF.out.mono ?_; rintro e w' ⟨rfl, rfl⟩)
    go_ret
    exact ⟨rfl, ws, GrowAt.refl H.out, fun n => by simp⟩
  | true =>
    rw [hh] at hhas
    obtain ⟨h0, hl, _⟩ := hasW_lt hh
    obtain ⟨v, hb, hR⟩ := h.ex
    obtain ⟨A, c, rfl, _⟩ := hR.shape
    have hlen := h.len
    have hc := cell_of_one hb
    obtain ⟨g, off, c', hv, _, hcap, _, _, hcl, hfz2⟩ := hR.form (by omega)
    injection hv with hA _ hcc
    subst hA; subst hcc
    have hx := hcl (k / 64).toNat _ (cells64_at ws _ (by omega))
    have hfx := hfz2 (off + (k / 64).toNat)
    obtain ⟨x, hxe⟩ : ∃ x, x = ws.getD (k / 64).toNat 0 := ⟨_, rfl⟩
    rw [← hxe] at hx
    have hg' : k / 64 < ws.length := by omega
    have hg0 : 0 ≤ k / 64 := by omega
    have HX := Lib.hid hxe
    have H := Lib.hid h
    have HF := Lib.hid hhas
    have HBB := Lib.hid hb
    clear h hhas hh hxe hcl hfz2 hR hb hl hlen
    go_enter Try.func59, Try.ntmps59
    go_wp2_with (go_at_call 43; refine HF.out.mono ?_; rintro e w' ⟨rfl, rfl⟩)
    go_region
    go_wp2
    go_ret
    have hxl : x < big64 := by rw [HX.out]; exact getD_lt H.out.lt _
    refine ⟨rfl, ws.set (k / 64).toNat (x &&& (big64 - 1 - 2 ^ (k % 64).toNat)), ?_, fun n => ?_⟩
    · rw [andNot_pow _ _ hxl (by omega)]
      exact (GrowAt.set H.out HBB.out _ _ (by omega) (and_lt64 hxl)).drew
    · rw [HX.out, show (k / 64).toNat = k.toNat / 64 from by omega, show (k % 64).toNat = k.toNat % 64 from by omega, memW_drop _ _ _ (by omega)]
      simp
end Go.Proofs.Ytlniohgnkihefaa
