/- A row in memory: Put of a new key, Drop. -/
import Derived.Test.YtdnlgcomhgnegaaRowM
import Derived.Test.YtdnlgcomhgnegaaHeldT
import Derived.Deep.RegionWith
namespace Go.Proofs.Ytdnlgcomhgnegaa
open Go.RowKit

/-- Behind find, ahead of the two calls; V: the world behind find. -/
structure PutA (V W : World) (b l : Nat) (kv vv : Value) (rk rv : Option Nat) (K Vs : List Value) : Prop where
  hb : W.heap[b]? = some (.cells #[kv, vv] 35 (0, 0))
  k : RowAt W 3 1 kv rk l K
  v : RowAt W 9 1 vv rv l Vs
  chg : Chg (FootR b rk rv) V W
  lt : ∀ j, FootR b rk rv j → j < V.heap.size
/-- Behind the first. -/
structure PutB (V W : World) (b l l' : Nat) (kv vv kv' : Value) (rk rv rk' : Option Nat) (K' Vs : List Value) : Prop where
  hb : W.heap[b]? = some (.cells #[kv, vv] 35 (0, 0))
  k : RowAt W 3 1 kv' rk' l' K'
  v : RowAt W 9 1 vv rv l Vs
  chg : Chg (FootR b rk rv) V W
  lt : ∀ j, FootR b rk rv j → j < V.heap.size
  nk : NewOr V rk rk'
/-- Behind both. -/
structure PutC (V W : World) (b l' : Nat) (kv vv kv' vv' : Value) (rk rv rk' rv' : Option Nat) (K' Vs' : List Value) : Prop where
  hb : W.heap[b]? = some (.cells #[kv, vv] 35 (0, 0))
  k : RowAt W 3 1 kv' rk' l' K'
  v : RowAt W 9 1 vv' rv' l' Vs'
  chg : Chg (FootR b rk rv) V W
  nk : NewOr V rk rk'
  nv : NewOr V rv rv'
section
variable {V W : World} {b l l' : Nat} {kv vv kv' vv' : Value} {rk rv rk' rv' : Option Nat} {K K' Vs Vs' : List Value}
theorem PutA.alloc (h : PutA V W b l kv vv rk rv K Vs) (o : Obj) : PutA V (W.alloc o) b l kv vv rk rv K Vs :=
  ⟨(Chg.heap ((Chg.refl (fun _ => False) W).alloc o) h.hb (fun h => h)), h.k.alloc o, h.v.alloc o, h.chg.alloc o, h.lt⟩
theorem PutA.drew (h : PutA V W b l kv vv rk rv K Vs) : PutA V W.drew b l kv vv rk rv K Vs := ⟨h.hb, h.k, h.v, h.chg.drew, h.lt⟩
theorem PutB.alloc (h : PutB V W b l l' kv vv kv' rk rv rk' K' Vs) (o : Obj) : PutB V (W.alloc o) b l l' kv vv kv' rk rv rk' K' Vs :=
  ⟨(Chg.heap ((Chg.refl (fun _ => False) W).alloc o) h.hb (fun h => h)), h.k.alloc o, h.v.alloc o, h.chg.alloc o, h.lt, h.nk⟩
theorem PutA.first (h : PutA V W b l kv vv rk rv K Vs) (h1 : ∀ u ∈ K, u.oneCell' = true) {p : Nat} {x : Int} (hp : p ≤ l) (hl : l ≤ 1000) {tb : Nat} (ht : W.heap[tb]? = some (.cells #[.int .i64 x] 3 (0, 0))) (htb : V.heap.size ≤ tb) :
    Calls Try.prog 24 #[kv, .int .i64 (p : Nat), .slice (some ⟨tb, 0, none⟩) 1 1] W fun e W1 => ∃ kv' rk', e = .returned kv' ∧ PutB V W1 b l (l + 1) kv vv kv' rk rv rk' (insL K p (.int .i64 x)) Vs ∧ ∀ k o, V.heap.size ≤ k → W.heap[k]? = some o → W1.heap[k]? = some o := by
  refine (insert_int h.k h1 p hp (by omega) tb (.int .i64 x) rfl ht fun e => by have := h.lt tb (.inr (.inl e.symm)); omega).mono ?_
  rintro e W1 ⟨kv', rk', rfl, hr, hc, hn⟩
  refine ⟨kv', rk', rfl, ⟨hc.heap h.hb fun e => row_box_ne h.k h.hb (by decide) e.symm, hr, h.v.kept hc fun k hk e => row_blk_ne h.k h.v (by decide) k e.symm hk, h.chg.trans hc fun i _ e => .inr (.inl e), h.lt, hn.mono h.chg.size⟩, fun k o hk ho => hc.heap ho fun e => by have := h.lt k (.inr (.inl e)); omega⟩
theorem PutB.second (h : PutB V W b l l' kv vv kv' rk rv rk' K' Vs) (h1 : ∀ u ∈ Vs, u.oneCell' = true) {p : Nat} {x : ByteArray} (hp : p ≤ l) (hl : l ≤ 1000) (hl' : l' = l + 1) {tb : Nat} (ht : W.heap[tb]? = some (.cells #[.string x] 9 (0, 0))) (htb : V.heap.size ≤ tb) :
    Calls Try.prog 25 #[vv, .int .i64 (p : Nat), .slice (some ⟨tb, 0, none⟩) 1 1] W fun e W1 => ∃ vv' rv', e = .returned vv' ∧ PutC V W1 b l' kv vv kv' vv' rk rv rk' rv' K' (insL Vs p (.string x)) := by
  subst hl'
  refine (insert_string h.v h1 p hp (by omega) tb (.string x) rfl ht fun e => by have := h.lt tb (.inr (.inr e.symm)); omega).mono ?_
  rintro e W1 ⟨vv', rv', rfl, hr, hc, hn⟩
  exact ⟨vv', rv', rfl, ⟨hc.heap h.hb fun e => row_box_ne h.v h.hb (by decide) e.symm, h.k.kept hc fun k hk e => row_blk_ne h.v h.k (by decide) k e.symm hk, hr, h.chg.trans hc fun i _ e => .inr (.inr e), h.nk, hn.mono h.chg.size⟩⟩
/-- Behind the two stores. -/
theorem PutC.shut (h : PutC V W b l' kv vv kv' vv' rk rv rk' rv' K' Vs') {L' : List Pr} (hL : l' = L'.length) (hK : K' = ints (keysP L')) (hV : Vs' = strs (valsP L')) (hr : Rise L') (hs : L'.length ≤ 1000) :
    RStep V b rk rv ((W.setCell ⟨b, 0, none⟩ kv').setCell ⟨b, 1, none⟩ vv') rk' rv' L' := by
  subst hL; subst hK; subst hV
  have h1 := heap_setCell_same W b 0 #[kv, vv] 35 kv' h.hb
  have h2 := heap_setCell_same _ b 1 _ 35 vv' h1
  have hc : Chg (fun k => k = b) W ((W.setCell ⟨b, 0, none⟩ kv').setCell ⟨b, 1, none⟩ vv') := (Chg.store W b 0 kv').trans (Chg.store _ b 1 vv') fun _ _ h => h
  refine ⟨⟨⟨kv', vv', h2, h.k.kept hc fun k hk e => row_box_ne h.k h.hb (by decide) (by rw [hk, e]), h.v.kept hc fun k hk e => row_box_ne h.v h.hb (by decide) (by rw [hk, e])⟩, hr, hs⟩, h.chg.trans hc fun i _ e => .inl e, h.nk, h.nv⟩
theorem PutC.cells (h : PutC V W b l' kv vv kv' vv' rk rv rk' rv' K' Vs') : W.cell? ⟨b, 0, none⟩ = some kv ∧ W.cell? ⟨b, 1, none⟩ = some vv ∧ W.frozen? ⟨b, 0, none⟩ = false ∧ W.frozen? ⟨b, 1, none⟩ = false :=
  ⟨by simp [World.cell?, h.hb], by simp [World.cell?, h.hb], by simp [World.frozen?, h.hb], by simp [World.frozen?, h.hb]⟩
theorem PutA.cells (h : PutA V W b l kv vv rk rv K Vs) : W.cell? ⟨b, 0, none⟩ = some kv ∧ W.cell? ⟨b, 1, none⟩ = some vv :=
  ⟨by simp [World.cell?, h.hb], by simp [World.cell?, h.hb]⟩
theorem PutB.cells (h : PutB V W b l l' kv vv kv' rk rv rk' K' Vs) : W.cell? ⟨b, 0, none⟩ = some kv ∧ W.cell? ⟨b, 1, none⟩ = some vv :=
  ⟨by simp [World.cell?, h.hb], by simp [World.cell?, h.hb]⟩
end
theorem RStep.from {V w w' : World} {b : Nat} {rk rv rk' rv' : Option Nat} {L' : List Pr} (h : RStep V b rk rv w' rk' rv' L') (hb : Below w.heap.size w V) : RStep w b rk rv w' rk' rv' L' :=
  ⟨h.at_, (Chg.of_below hb (FootR b rk rv)).trans h.chg fun _ _ e => e, h.nk.mono hb.size, h.nv.mono hb.size⟩

theorem heap_alloc_old2 (V : World) (o o' : Obj) : ((V.alloc o).alloc o').heap[V.heap.size]? = some o := (Chg.block ((Chg.refl (fun _ => False) (V.alloc o)).alloc o') _ (by simp) (fun h => h)).trans (heap_alloc_new V o)
theorem heap_alloc_new2 (V : World) (o o' : Obj) : ((V.alloc o).alloc o').heap[V.heap.size + 1]? = some o' := by
  have h := heap_alloc_new (V.alloc o) o'
  rwa [World.size_alloc] at h
theorem heap_alloc_old (W : World) (o : Obj) (k : Nat) (h : k < W.heap.size) : (W.alloc o).heap[k]? = W.heap[k]? := Chg.block ((Chg.refl (fun _ => False) W).alloc o) k h (fun h => h)
set_option maxHeartbeats 8000000 in
set_option maxRecDepth 100000 in
theorem rput_new {w : World} {b : Nat} {rk rv : Option Nat} {L : List Pr} (h : RAt w b rk rv L) (hl9 : L.length < 1000) (x : Int) (v : ByteArray) (hx : inP L x = false) :
    Calls Try.prog 9 #[.pointer (some ⟨b, 0, none⟩), .int .i64 x, .string v] w fun e w' => e = .returned (.bool true) ∧ ∃ rk' rv', RStep w b rk rv w' rk' rv' (putP L x v) := by
  have hF := find_any h x
  rw [hx] at hF
  have hp := posP_le L x
  have HH := Lib.hid h
  have HF := Lib.hid hF
  have HX := Lib.hid hx
  obtain ⟨p, hpe⟩ : ∃ p, p = posP L x := ⟨_, rfl⟩
  rw [← hpe] at HF hp
  obtain ⟨l, hl⟩ : ∃ l, l = L.length := ⟨_, rfl⟩
  rw [← hl] at hp hl9
  have HL := Lib.hid hl
  have HPP := Lib.hid hpe
  have HPL := Lib.hid hp
  have HL9 := Lib.hid hl9
  clear hF h hpe hl hx hp hl9
  go_enter Try.func9, Try.ntmps9
  go_wp2_with fail
  refine HF.out.mono ?_
  rintro e V ⟨rfl, hb⟩
  have hR := HH.out.below hb
  obtain ⟨kv, vv, h1, h2, h3⟩ := hR.ex
  rw [← HL.out] at h2 h3
  have hA : PutA V V b l kv vv rk rv (ints (keysP L)) (strs (valsP L)) := ⟨h1, h2, h3, Chg.refl _ _, hR.lt⟩
  have hck : V.cell? ⟨b, 0, none⟩ = some kv := by simp [World.cell?, h1]
  have hcv : V.cell? ⟨b, 1, none⟩ = some vv := by simp [World.cell?, h1]
  have HB := Lib.hid hb
  have HA := Lib.hid hA
  have HBV := Lib.hid (lt_of_heap h1)
  have H1K : Hid (∀ u ∈ ints (keysP L), u.oneCell' = true) := Lib.hid fun u hu => by obtain ⟨z, _, rfl⟩ := List.mem_map.1 hu; rfl
  have H1V : Hid (∀ u ∈ strs (valsP L), u.oneCell' = true) := Lib.hid fun u hu => by obtain ⟨z, _, rfl⟩ := List.mem_map.1 hu; rfl
  clear hb h1 h2 h3 hR hA
  go_wp2_with fail
  have HEND : Hid (∀ W2 Ak ck Av cv (rk' rv' : Option Nat), PutC V W2 b (l + 1) kv vv (.slice Ak (l + 1) ck) (.slice Av (l + 1) cv) rk rv rk' rv' (insL (ints (keysP L)) p (.int .i64 x)) (insL (strs (valsP L)) p (.string v)) →
      RStep w b rk rv ((W2.setCell ⟨b, 0, none⟩ (.slice Ak (l + 1) ck)).setCell ⟨b, 1, none⟩ (.slice Av (l + 1) cv)) rk' rv' (putP L x v)) := Lib.hid (by
    intro W2 Ak ck Av cv rk' rv' hC
    have he := put_new_eq HH.out.rise HX.out v
    rw [← HPP.out] at he
    have hlen : (putP L x v).length = l + 1 := by
      have h1 := HPL.out; have h2 := HL.out
      rw [← he, List.length_append, List.length_append, List.length_take, List.length_drop, List.length_singleton]; omega
    refine (hC.shut hlen.symm ?_ ?_ (rise_put HH.out.rise x v) (by have := HL9.out; omega)).from HB.out
    · rw [← he]; unfold insL ints keysP; rw [List.map_append, List.map_append, List.map_append, List.map_append, List.map_take, List.map_take, List.map_drop, List.map_drop]; rfl
    · rw [← he]; unfold insL strs valsP; rw [List.map_append, List.map_append, List.map_append, List.map_append, List.map_take, List.map_take, List.map_drop, List.map_drop]; rfl)
  -- GENERATED: put
  refine wp_region_T (fun W => W.cell? ⟨b, 0, none⟩ = some kv ∧ W.cell? ⟨b, 1, none⟩ = some vv) [20, 23] (by kernel_rfl) ⟨hck, hcv⟩ (fun _ => ?_)
  refine wpAnyT_take (i := 0) (v := ?v1) rfl (by kernel_rfl) (by kernel_rfl) (by kernel_rfl) rfl (fun _ _ _ h => h) (Or.inl ⟨by rfl, ?hy1⟩) (DL.of ⟨hck, hcv⟩) ?rest1
  case hy1 => (intro w hSw; go_simp; try rfl)
  simp only [Act.put, List.setIfInBounds_toArray, List.set_cons_zero, List.set_cons_succ, List.getElem_toArray, List.getElem_cons_zero]
  refine wpAnyT_take (i := 1) (v := ?v2) rfl (by kernel_rfl) (by kernel_rfl) (by kernel_rfl) rfl (fun _ _ _ h => h) (Or.inl ⟨by rfl, ?hy2⟩) (DL.of ⟨hck, hcv⟩) ?rest2
  case hy2 => (intro w hSw; go_simp; try rfl)
  simp only [Act.put, List.setIfInBounds_toArray, List.set_cons_zero, List.set_cons_succ, List.getElem_toArray, List.getElem_cons_zero, List.getElem_cons_succ]
  refine wpAnyT_take (i := 2) (v := ?v3) rfl (by kernel_rfl) (by kernel_rfl) (by kernel_rfl) rfl (fun _ _ _ h => h) (Or.inl ⟨by rfl, ?hy3⟩) (DL.of ⟨hck, hcv⟩) ?rest3
  case hy3 => (intro w hSw; go_simp; try rfl)
  simp only [Act.put, List.setIfInBounds_toArray, List.set_cons_zero, List.set_cons_succ, List.getElem_toArray, List.getElem_cons_zero, List.getElem_cons_succ]
  refine wpAnyT_take (i := 3) (v := ?v4) rfl (by kernel_rfl) (by kernel_rfl) (by kernel_rfl) rfl (fun _ _ _ h => h) (Or.inl ⟨by rfl, ?hy4⟩) (DL.of ⟨hck, hcv⟩) ?rest4
  case hy4 => (intro w hSw; go_simp; try rfl)
  simp only [Act.put, List.setIfInBounds_toArray, List.set_cons_zero, List.set_cons_succ, List.getElem_toArray, List.getElem_cons_zero, List.getElem_cons_succ]
  refine wpAnyT_take (i := 4) (v := ?v5) rfl (by kernel_rfl) (by kernel_rfl) (by kernel_rfl) rfl (fun _ _ _ h => h) (Or.inl ⟨by rfl, ?hy5⟩) (DL.of ⟨hck, hcv⟩) ?rest5
  case hy5 => (intro w hSw; go_simp; try rfl)
  simp only [Act.put, List.setIfInBounds_toArray, List.set_cons_zero, List.set_cons_succ, List.getElem_toArray, List.getElem_cons_zero, List.getElem_cons_succ]
  refine wpAnyT_load (i := 5) (v := ?v6) rfl (by kernel_rfl) (by kernel_rfl) (by kernel_rfl) rfl (by kernel_rfl) (by kernel_rfl) (fun _ _ _ h => h) (Or.inl ⟨by rfl, ?hy6⟩) (DL.of ⟨hck, hcv⟩) ?rest6
  case hy6 => (intro w hSw; obtain ⟨hs1, hs2⟩ := hSw rfl; go_simp; try rfl)
  simp only [Act.put, List.setIfInBounds_toArray, List.set_cons_zero, List.set_cons_succ, List.getElem_toArray, List.getElem_cons_zero, List.getElem_cons_succ]
  refine wpAnyT_take (i := 6) (v := ?v7) rfl (by kernel_rfl) (by kernel_rfl) (by kernel_rfl) rfl (fun _ _ _ h => h) (Or.inl ⟨by rfl, ?hy7⟩) (DL.of ⟨hck, hcv⟩) ?rest7
  case hy7 => (intro w hSw; go_simp; try rfl)
  simp only [Act.put, List.setIfInBounds_toArray, List.set_cons_zero, List.set_cons_succ, List.getElem_toArray, List.getElem_cons_zero, List.getElem_cons_succ]
  refine wpAnyT_take (i := 7) (v := ?v8) rfl (by kernel_rfl) (by kernel_rfl) (by kernel_rfl) rfl (fun _ _ _ h => h) (Or.inl ⟨by rfl, ?hy8⟩) (DL.of ⟨hck, hcv⟩) ?rest8
  case hy8 => (intro w hSw; go_simp; try rfl)
  simp only [Act.put, List.setIfInBounds_toArray, List.set_cons_zero, List.set_cons_succ, List.getElem_toArray, List.getElem_cons_zero, List.getElem_cons_succ]
  refine wpAnyT_take (i := 10) (v := ?v9) rfl (by kernel_rfl) (by kernel_rfl) (by kernel_rfl) rfl (fun _ _ _ h => h) (Or.inl ⟨by rfl, ?hy9⟩) (DL.of ⟨hck, hcv⟩) ?rest9
  case hy9 => (intro w hSw; go_simp; try rfl)
  simp only [Act.put, List.setIfInBounds_toArray, List.set_cons_zero, List.set_cons_succ, List.getElem_toArray, List.getElem_cons_zero, List.getElem_cons_succ]
  refine wpAnyT_take (i := 11) (v := ?v10) rfl (by kernel_rfl) (by kernel_rfl) (by kernel_rfl) rfl (fun _ _ _ h => h) (Or.inl ⟨by rfl, ?hy10⟩) (DL.of ⟨hck, hcv⟩) ?rest10
  case hy10 => (intro w hSw; go_simp; try rfl)
  simp only [Act.put, List.setIfInBounds_toArray, List.set_cons_zero, List.set_cons_succ, List.getElem_toArray, List.getElem_cons_zero, List.getElem_cons_succ]
  refine wpAnyT_take (i := 12) (v := ?v11) rfl (by kernel_rfl) (by kernel_rfl) (by kernel_rfl) rfl (fun _ _ _ h => h) (Or.inl ⟨by rfl, ?hy11⟩) (DL.of ⟨hck, hcv⟩) ?rest11
  case hy11 => (intro w hSw; go_simp; try rfl)
  simp only [Act.put, List.setIfInBounds_toArray, List.set_cons_zero, List.set_cons_succ, List.getElem_toArray, List.getElem_cons_zero, List.getElem_cons_succ]
  refine wpAnyT_load (i := 13) (v := ?v12) rfl (by kernel_rfl) (by kernel_rfl) (by kernel_rfl) rfl (by kernel_rfl) (by kernel_rfl) (fun _ _ _ h => h) (Or.inl ⟨by rfl, ?hy12⟩) (DL.of ⟨hck, hcv⟩) ?rest12
  case hy12 => (intro w hSw; obtain ⟨hs1, hs2⟩ := hSw rfl; go_simp; try rfl)
  simp only [Act.put, List.setIfInBounds_toArray, List.set_cons_zero, List.set_cons_succ, List.getElem_toArray, List.getElem_cons_zero, List.getElem_cons_succ]
  refine wpAnyT_take (i := 14) (v := ?v13) rfl (by kernel_rfl) (by kernel_rfl) (by kernel_rfl) rfl (fun _ _ _ h => h) (Or.inl ⟨by rfl, ?hy13⟩) (DL.of ⟨hck, hcv⟩) ?rest13
  case hy13 => (intro w hSw; go_simp; try rfl)
  simp only [Act.put, List.setIfInBounds_toArray, List.set_cons_zero, List.set_cons_succ, List.getElem_toArray, List.getElem_cons_zero, List.getElem_cons_succ]
  refine wpAnyT_take (i := 15) (v := ?v14) rfl (by kernel_rfl) (by kernel_rfl) (by kernel_rfl) rfl (fun _ _ _ h => h) (Or.inl ⟨by rfl, ?hy14⟩) (DL.of ⟨hck, hcv⟩) ?rest14
  case hy14 => (intro w hSw; go_simp; try rfl)
  simp only [Act.put, List.setIfInBounds_toArray, List.set_cons_zero, List.set_cons_succ, List.getElem_toArray, List.getElem_cons_zero, List.getElem_cons_succ]
  refine wpAnyT_ready (rs := [8, 16]) (by kernel_rfl) (by simp) ?_
  refine AllReadyT.cons rfl (fun K hK => ?_) (AllReadyT.cons rfl (fun K hK => ?_) AllReadyT.nil)
  · simp only [Act.put, List.setIfInBounds_toArray, List.set_cons_zero, List.set_cons_succ, List.getElem_toArray, List.getElem_cons_zero, List.getElem_cons_succ]
    go_simp
    refine hK.out _ _ (DL.of (HA.out.alloc _).cells) (fun _ => ?_)
    clear hK K
    try simp only [Act.put, List.setIfInBounds_toArray, List.set_cons_zero, List.set_cons_succ, List.getElem_toArray, List.getElem_cons_zero, List.getElem_cons_succ]
    refine wpAnyT_ready (rs := [9, 16]) (by kernel_rfl) (by simp) ?_
    refine AllReadyT.cons rfl (fun K hK => ?_) (AllReadyT.cons rfl (fun K hK => ?_) AllReadyT.nil)
    · simp only [Act.put, List.setIfInBounds_toArray, List.set_cons_zero, List.set_cons_succ, List.getElem_toArray, List.getElem_cons_zero, List.getElem_cons_succ]
      go_simp
      go_at_call 24
      refine ((HA.out.alloc _).drew.first H1K.out HPL.out (Nat.le_of_lt HL9.out) (heap_alloc_new V _) (Nat.le_refl _)).mono ?_
      rintro e W1 ⟨kv', rk', rfl, hP, hK1⟩
      obtain ⟨Ak, ck, rfl, _⟩ := hP.k.shape
      have HPB := Lib.hid hP
      have HK1 := Lib.hid hK1
      have hck := hP.cells.1
      have hcv := hP.cells.2
      clear hP hK1
      try go_simp
      refine hK.out _ _ (DL.of HPB.out.cells) (fun _ => ?_)
      clear hK K
      try simp only [Act.put, List.setIfInBounds_toArray, List.set_cons_zero, List.set_cons_succ, List.getElem_toArray, List.getElem_cons_zero, List.getElem_cons_succ]
      refine wpAnyT_ready (rs := [16]) (by kernel_rfl) (by simp) ?_
      refine AllReadyT.cons rfl (fun K hK => ?_) AllReadyT.nil
      simp only [Act.put, List.setIfInBounds_toArray, List.set_cons_zero, List.set_cons_succ, List.getElem_toArray, List.getElem_cons_zero, List.getElem_cons_succ]
      go_simp
      refine hK.out _ _ (DL.of (HPB.out.alloc _).cells) (fun _ => ?_)
      clear hK K
      try simp only [Act.put, List.setIfInBounds_toArray, List.set_cons_zero, List.set_cons_succ, List.getElem_toArray, List.getElem_cons_zero, List.getElem_cons_succ]
      refine wpAnyT_ready (rs := [17]) (by kernel_rfl) (by simp) ?_
      refine AllReadyT.cons rfl (fun K hK => ?_) AllReadyT.nil
      simp only [Act.put, List.setIfInBounds_toArray, List.set_cons_zero, List.set_cons_succ, List.getElem_toArray, List.getElem_cons_zero, List.getElem_cons_succ]
      go_simp
      go_at_call 25
      refine ((HPB.out.alloc _).second H1V.out HPL.out (Nat.le_of_lt HL9.out) rfl (heap_alloc_new W1 _) (HPB.out.chg.size)).mono ?_
      rintro e W2 ⟨vv', rv', rfl, hP⟩
      obtain ⟨Av, cv, rfl, _⟩ := hP.v.shape
      have HPC := Lib.hid hP
      obtain ⟨hck, hcv, hfk, hfv⟩ := hP.cells
      clear hP
      try go_simp
      refine hK.out _ _ (DL.of ⟨hck, hcv⟩) (fun _ => ?_)
      clear hK K
      try simp only [Act.put, List.setIfInBounds_toArray, List.set_cons_zero, List.set_cons_succ, List.getElem_toArray, List.getElem_cons_zero, List.getElem_cons_succ]
      refine wpAnyT_take (i := 18) (v := ?v15) rfl (by kernel_rfl) (by kernel_rfl) (by kernel_rfl) rfl (fun _ _ _ h => h) (Or.inl ⟨by rfl, ?hy15⟩) (DL.of ⟨hck, hcv⟩) ?rest15
      case hy15 => (intro w hSw; go_simp; try rfl)
      simp only [Act.put, List.setIfInBounds_toArray, List.set_cons_zero, List.set_cons_succ, List.getElem_toArray, List.getElem_cons_zero, List.getElem_cons_succ]
      refine wpAnyT_take (i := 19) (v := ?v16) rfl (by kernel_rfl) (by kernel_rfl) (by kernel_rfl) rfl (fun _ _ _ h => h) (Or.inl ⟨by rfl, ?hy16⟩) (DL.of ⟨hck, hcv⟩) ?rest16
      case hy16 => (intro w hSw; go_simp; try rfl)
      simp only [Act.put, List.setIfInBounds_toArray, List.set_cons_zero, List.set_cons_succ, List.getElem_toArray, List.getElem_cons_zero, List.getElem_cons_succ]
      refine wpAnyT_ready (rs := [20]) (by kernel_rfl) (by simp) ?_
      refine AllReadyT.cons rfl (fun K hK => ?_) AllReadyT.nil
      simp only [Act.put, List.getElem_toArray, List.getElem_cons_zero, List.getElem_cons_succ]
      go_simp
      refine hK.out _ _ (DL.late (by kernel_rfl)) (fun _ => ?_)
      clear hK K
      try simp only [Act.put, List.setIfInBounds_toArray, List.set_cons_zero, List.set_cons_succ, List.getElem_toArray, List.getElem_cons_zero, List.getElem_cons_succ]
      refine wpAnyT_take (i := 21) (v := ?v17) rfl (by kernel_rfl) (by kernel_rfl) (by kernel_rfl) rfl (fun _ _ _ h => h) (Or.inl ⟨by rfl, ?hy17⟩) (DL.late (by kernel_rfl)) ?rest17
      case hy17 => (intro w hSw; go_simp; try rfl)
      simp only [Act.put, List.setIfInBounds_toArray, List.set_cons_zero, List.set_cons_succ, List.getElem_toArray, List.getElem_cons_zero, List.getElem_cons_succ]
      refine wpAnyT_take (i := 22) (v := ?v18) rfl (by kernel_rfl) (by kernel_rfl) (by kernel_rfl) rfl (fun _ _ _ h => h) (Or.inl ⟨by rfl, ?hy18⟩) (DL.late (by kernel_rfl)) ?rest18
      case hy18 => (intro w hSw; go_simp; try rfl)
      simp only [Act.put, List.setIfInBounds_toArray, List.set_cons_zero, List.set_cons_succ, List.getElem_toArray, List.getElem_cons_zero, List.getElem_cons_succ]
      refine wpAnyT_ready (rs := [23]) (by kernel_rfl) (by simp) ?_
      refine AllReadyT.cons rfl (fun K hK => ?_) AllReadyT.nil
      simp only [Act.put, List.getElem_toArray, List.getElem_cons_zero, List.getElem_cons_succ]
      go_simp
      refine hK.out _ _ (DL.late (by kernel_rfl)) (fun _ => ?_)
      clear hK K
      try simp only [Act.put, List.setIfInBounds_toArray, List.set_cons_zero, List.set_cons_succ, List.getElem_toArray, List.getElem_cons_zero, List.getElem_cons_succ]
      refine wpAnyT_done (by kernel_rfl) ?_ _
      go_wp2_with fail
      go_ret
      exact ⟨rfl, _, _, HEND.out _ _ _ _ _ _ _ HPC.out⟩
    · simp only [Act.put, List.setIfInBounds_toArray, List.set_cons_zero, List.set_cons_succ, List.getElem_toArray, List.getElem_cons_zero, List.getElem_cons_succ]
      go_simp
      refine hK.out _ _ (DL.of ((HA.out.alloc _).alloc _).cells) (fun _ => ?_)
      clear hK K
      try simp only [Act.put, List.setIfInBounds_toArray, List.set_cons_zero, List.set_cons_succ, List.getElem_toArray, List.getElem_cons_zero, List.getElem_cons_succ]
      refine wpAnyT_ready (rs := [9]) (by kernel_rfl) (by simp) ?_
      refine AllReadyT.cons rfl (fun K hK => ?_) AllReadyT.nil
      simp only [Act.put, List.setIfInBounds_toArray, List.set_cons_zero, List.set_cons_succ, List.getElem_toArray, List.getElem_cons_zero, List.getElem_cons_succ]
      go_simp
      go_at_call 24
      refine (((HA.out.alloc _).alloc _).drew.first H1K.out HPL.out (Nat.le_of_lt HL9.out) (heap_alloc_old2 V _ _) (Nat.le_refl _)).mono ?_
      rintro e W1 ⟨kv', rk', rfl, hP, hK1⟩
      obtain ⟨Ak, ck, rfl, _⟩ := hP.k.shape
      have HPB := Lib.hid hP
      have HK1 := Lib.hid hK1
      have hck := hP.cells.1
      have hcv := hP.cells.2
      clear hP hK1
      try go_simp
      refine hK.out _ _ (DL.of HPB.out.cells) (fun _ => ?_)
      clear hK K
      try simp only [Act.put, List.setIfInBounds_toArray, List.set_cons_zero, List.set_cons_succ, List.getElem_toArray, List.getElem_cons_zero, List.getElem_cons_succ]
      refine wpAnyT_ready (rs := [17]) (by kernel_rfl) (by simp) ?_
      refine AllReadyT.cons rfl (fun K hK => ?_) AllReadyT.nil
      simp only [Act.put, List.setIfInBounds_toArray, List.set_cons_zero, List.set_cons_succ, List.getElem_toArray, List.getElem_cons_zero, List.getElem_cons_succ]
      go_simp
      go_at_call 25
      refine (HPB.out.second H1V.out HPL.out (Nat.le_of_lt HL9.out) rfl (HK1.out _ _ (Nat.le_succ _) (heap_alloc_new2 V _ _)) (Nat.le_succ _)).mono ?_
      rintro e W2 ⟨vv', rv', rfl, hP⟩
      obtain ⟨Av, cv, rfl, _⟩ := hP.v.shape
      have HPC := Lib.hid hP
      obtain ⟨hck, hcv, hfk, hfv⟩ := hP.cells
      clear hP
      try go_simp
      refine hK.out _ _ (DL.of ⟨hck, hcv⟩) (fun _ => ?_)
      clear hK K
      try simp only [Act.put, List.setIfInBounds_toArray, List.set_cons_zero, List.set_cons_succ, List.getElem_toArray, List.getElem_cons_zero, List.getElem_cons_succ]
      refine wpAnyT_take (i := 18) (v := ?v19) rfl (by kernel_rfl) (by kernel_rfl) (by kernel_rfl) rfl (fun _ _ _ h => h) (Or.inl ⟨by rfl, ?hy19⟩) (DL.of ⟨hck, hcv⟩) ?rest19
      case hy19 => (intro w hSw; go_simp; try rfl)
      simp only [Act.put, List.setIfInBounds_toArray, List.set_cons_zero, List.set_cons_succ, List.getElem_toArray, List.getElem_cons_zero, List.getElem_cons_succ]
      refine wpAnyT_take (i := 19) (v := ?v20) rfl (by kernel_rfl) (by kernel_rfl) (by kernel_rfl) rfl (fun _ _ _ h => h) (Or.inl ⟨by rfl, ?hy20⟩) (DL.of ⟨hck, hcv⟩) ?rest20
      case hy20 => (intro w hSw; go_simp; try rfl)
      simp only [Act.put, List.setIfInBounds_toArray, List.set_cons_zero, List.set_cons_succ, List.getElem_toArray, List.getElem_cons_zero, List.getElem_cons_succ]
      refine wpAnyT_ready (rs := [20]) (by kernel_rfl) (by simp) ?_
      refine AllReadyT.cons rfl (fun K hK => ?_) AllReadyT.nil
      simp only [Act.put, List.getElem_toArray, List.getElem_cons_zero, List.getElem_cons_succ]
      go_simp
      refine hK.out _ _ (DL.late (by kernel_rfl)) (fun _ => ?_)
      clear hK K
      try simp only [Act.put, List.setIfInBounds_toArray, List.set_cons_zero, List.set_cons_succ, List.getElem_toArray, List.getElem_cons_zero, List.getElem_cons_succ]
      refine wpAnyT_take (i := 21) (v := ?v21) rfl (by kernel_rfl) (by kernel_rfl) (by kernel_rfl) rfl (fun _ _ _ h => h) (Or.inl ⟨by rfl, ?hy21⟩) (DL.late (by kernel_rfl)) ?rest21
      case hy21 => (intro w hSw; go_simp; try rfl)
      simp only [Act.put, List.setIfInBounds_toArray, List.set_cons_zero, List.set_cons_succ, List.getElem_toArray, List.getElem_cons_zero, List.getElem_cons_succ]
      refine wpAnyT_take (i := 22) (v := ?v22) rfl (by kernel_rfl) (by kernel_rfl) (by kernel_rfl) rfl (fun _ _ _ h => h) (Or.inl ⟨by rfl, ?hy22⟩) (DL.late (by kernel_rfl)) ?rest22
      case hy22 => (intro w hSw; go_simp; try rfl)
      simp only [Act.put, List.setIfInBounds_toArray, List.set_cons_zero, List.set_cons_succ, List.getElem_toArray, List.getElem_cons_zero, List.getElem_cons_succ]
      refine wpAnyT_ready (rs := [23]) (by kernel_rfl) (by simp) ?_
      refine AllReadyT.cons rfl (fun K hK => ?_) AllReadyT.nil
      simp only [Act.put, List.getElem_toArray, List.getElem_cons_zero, List.getElem_cons_succ]
      go_simp
      refine hK.out _ _ (DL.late (by kernel_rfl)) (fun _ => ?_)
      clear hK K
      try simp only [Act.put, List.setIfInBounds_toArray, List.set_cons_zero, List.set_cons_succ, List.getElem_toArray, List.getElem_cons_zero, List.getElem_cons_succ]
      refine wpAnyT_done (by kernel_rfl) ?_ _
      go_wp2_with fail
      go_ret
      exact ⟨rfl, _, _, HEND.out _ _ _ _ _ _ _ HPC.out⟩
  · simp only [Act.put, List.setIfInBounds_toArray, List.set_cons_zero, List.set_cons_succ, List.getElem_toArray, List.getElem_cons_zero, List.getElem_cons_succ]
    go_simp
    refine hK.out _ _ (DL.of (HA.out.alloc _).cells) (fun _ => ?_)
    clear hK K
    try simp only [Act.put, List.setIfInBounds_toArray, List.set_cons_zero, List.set_cons_succ, List.getElem_toArray, List.getElem_cons_zero, List.getElem_cons_succ]
    refine wpAnyT_ready (rs := [8]) (by kernel_rfl) (by simp) ?_
    refine AllReadyT.cons rfl (fun K hK => ?_) AllReadyT.nil
    simp only [Act.put, List.setIfInBounds_toArray, List.set_cons_zero, List.set_cons_succ, List.getElem_toArray, List.getElem_cons_zero, List.getElem_cons_succ]
    go_simp
    refine hK.out _ _ (DL.of ((HA.out.alloc _).alloc _).cells) (fun _ => ?_)
    clear hK K
    try simp only [Act.put, List.setIfInBounds_toArray, List.set_cons_zero, List.set_cons_succ, List.getElem_toArray, List.getElem_cons_zero, List.getElem_cons_succ]
    refine wpAnyT_ready (rs := [9]) (by kernel_rfl) (by simp) ?_
    refine AllReadyT.cons rfl (fun K hK => ?_) AllReadyT.nil
    simp only [Act.put, List.setIfInBounds_toArray, List.set_cons_zero, List.set_cons_succ, List.getElem_toArray, List.getElem_cons_zero, List.getElem_cons_succ]
    go_simp
    go_at_call 24
    refine (((HA.out.alloc _).alloc _).drew.first H1K.out HPL.out (Nat.le_of_lt HL9.out) (heap_alloc_new2 V _ _) (Nat.le_succ _)).mono ?_
    rintro e W1 ⟨kv', rk', rfl, hP, hK1⟩
    obtain ⟨Ak, ck, rfl, _⟩ := hP.k.shape
    have HPB := Lib.hid hP
    have HK1 := Lib.hid hK1
    have hck := hP.cells.1
    have hcv := hP.cells.2
    clear hP hK1
    try go_simp
    refine hK.out _ _ (DL.of HPB.out.cells) (fun _ => ?_)
    clear hK K
    try simp only [Act.put, List.setIfInBounds_toArray, List.set_cons_zero, List.set_cons_succ, List.getElem_toArray, List.getElem_cons_zero, List.getElem_cons_succ]
    refine wpAnyT_ready (rs := [17]) (by kernel_rfl) (by simp) ?_
    refine AllReadyT.cons rfl (fun K hK => ?_) AllReadyT.nil
    simp only [Act.put, List.setIfInBounds_toArray, List.set_cons_zero, List.set_cons_succ, List.getElem_toArray, List.getElem_cons_zero, List.getElem_cons_succ]
    go_simp
    go_at_call 25
    refine (HPB.out.second H1V.out HPL.out (Nat.le_of_lt HL9.out) rfl (HK1.out _ _ (Nat.le_refl _) (heap_alloc_old2 V _ _)) (Nat.le_refl _)).mono ?_
    rintro e W2 ⟨vv', rv', rfl, hP⟩
    obtain ⟨Av, cv, rfl, _⟩ := hP.v.shape
    have HPC := Lib.hid hP
    obtain ⟨hck, hcv, hfk, hfv⟩ := hP.cells
    clear hP
    try go_simp
    refine hK.out _ _ (DL.of ⟨hck, hcv⟩) (fun _ => ?_)
    clear hK K
    try simp only [Act.put, List.setIfInBounds_toArray, List.set_cons_zero, List.set_cons_succ, List.getElem_toArray, List.getElem_cons_zero, List.getElem_cons_succ]
    refine wpAnyT_take (i := 18) (v := ?v23) rfl (by kernel_rfl) (by kernel_rfl) (by kernel_rfl) rfl (fun _ _ _ h => h) (Or.inl ⟨by rfl, ?hy23⟩) (DL.of ⟨hck, hcv⟩) ?rest23
    case hy23 => (intro w hSw; go_simp; try rfl)
    simp only [Act.put, List.setIfInBounds_toArray, List.set_cons_zero, List.set_cons_succ, List.getElem_toArray, List.getElem_cons_zero, List.getElem_cons_succ]
    refine wpAnyT_take (i := 19) (v := ?v24) rfl (by kernel_rfl) (by kernel_rfl) (by kernel_rfl) rfl (fun _ _ _ h => h) (Or.inl ⟨by rfl, ?hy24⟩) (DL.of ⟨hck, hcv⟩) ?rest24
    case hy24 => (intro w hSw; go_simp; try rfl)
    simp only [Act.put, List.setIfInBounds_toArray, List.set_cons_zero, List.set_cons_succ, List.getElem_toArray, List.getElem_cons_zero, List.getElem_cons_succ]
    refine wpAnyT_ready (rs := [20]) (by kernel_rfl) (by simp) ?_
    refine AllReadyT.cons rfl (fun K hK => ?_) AllReadyT.nil
    simp only [Act.put, List.getElem_toArray, List.getElem_cons_zero, List.getElem_cons_succ]
    go_simp
    refine hK.out _ _ (DL.late (by kernel_rfl)) (fun _ => ?_)
    clear hK K
    try simp only [Act.put, List.setIfInBounds_toArray, List.set_cons_zero, List.set_cons_succ, List.getElem_toArray, List.getElem_cons_zero, List.getElem_cons_succ]
    refine wpAnyT_take (i := 21) (v := ?v25) rfl (by kernel_rfl) (by kernel_rfl) (by kernel_rfl) rfl (fun _ _ _ h => h) (Or.inl ⟨by rfl, ?hy25⟩) (DL.late (by kernel_rfl)) ?rest25
    case hy25 => (intro w hSw; go_simp; try rfl)
    simp only [Act.put, List.setIfInBounds_toArray, List.set_cons_zero, List.set_cons_succ, List.getElem_toArray, List.getElem_cons_zero, List.getElem_cons_succ]
    refine wpAnyT_take (i := 22) (v := ?v26) rfl (by kernel_rfl) (by kernel_rfl) (by kernel_rfl) rfl (fun _ _ _ h => h) (Or.inl ⟨by rfl, ?hy26⟩) (DL.late (by kernel_rfl)) ?rest26
    case hy26 => (intro w hSw; go_simp; try rfl)
    simp only [Act.put, List.setIfInBounds_toArray, List.set_cons_zero, List.set_cons_succ, List.getElem_toArray, List.getElem_cons_zero, List.getElem_cons_succ]
    refine wpAnyT_ready (rs := [23]) (by kernel_rfl) (by simp) ?_
    refine AllReadyT.cons rfl (fun K hK => ?_) AllReadyT.nil
    simp only [Act.put, List.getElem_toArray, List.getElem_cons_zero, List.getElem_cons_succ]
    go_simp
    refine hK.out _ _ (DL.late (by kernel_rfl)) (fun _ => ?_)
    clear hK K
    try simp only [Act.put, List.setIfInBounds_toArray, List.set_cons_zero, List.set_cons_succ, List.getElem_toArray, List.getElem_cons_zero, List.getElem_cons_succ]
    refine wpAnyT_done (by kernel_rfl) ?_ _
    go_wp2_with fail
    go_ret
    exact ⟨rfl, _, _, HEND.out _ _ _ _ _ _ _ HPC.out⟩
  -- END
end Go.Proofs.Ytdnlgcomhgnegaa
