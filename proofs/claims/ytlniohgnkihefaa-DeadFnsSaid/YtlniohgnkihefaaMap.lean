/- A map with plain elements in memory, told by a function from its keys. -/
import Derived.Test.YtlniohgnkihefaaBase
import Derived.Maps.OwnSet
import Derived.Maps.OwnOps
namespace Go.Proofs.Ytlniohgnkihefaa
open Go.RowKit Go.Maps

/-- The value that reads as such a datum. -/
def litV : Lit → Value
  | .bool b => .bool b
  | .int k n => .int k n
  | .string l => .string ⟨l.toArray⟩
  | _ => undef

/-- f, but v at one key. -/
noncomputable def upd (f : Lit → Option Lit) (kl : Lit) (v : Option Lit) : Lit → Option Lit := fun k => @ite _ (k = kl) (Classical.propDecidable _) v (f k)
theorem upd_same (f : Lit → Option Lit) (kl : Lit) (v : Option Lit) : upd f kl v kl = v := by unfold upd; rw [if_pos rfl]
theorem upd_other (f : Lit → Option Lit) {kl k : Lit} (v : Option Lit) (h : k ≠ kl) : upd f kl v k = f k := by unfold upd; rw [if_neg h]

section
variable {P : Program} {kt et : Nat} {w : World} {b n : Nat} {f : Lit → Option Lit}

theorem plain_lit {v : Value} {l : Lit} {ps : List MemPlace} (h : plainElem (H := Unit) P et v = some (.lit l, ps)) : v = litV l := by
  unfold plainElem at h
  split at h
  · cases h; rfl
  · split at h
    · rename_i hc; obtain ⟨rfl, _⟩ := hc; cases h; rfl
    · cases h
  · split at h
    · cases h; rfl
    · cases h
  · cases h

/-- Block b is a map of at most n entries: f. -/
def MapAt (P : Program) (kt et : Nat) (w : World) (b n : Nat) (f : Lit → Option Lit) : Prop :=
  ∃ D : DataW Unit, w.ownsMap P kt (plainElem P et) b n D ∧ (∀ k, Maps.has D k = (f k).isSome) ∧ ∀ k z, D.atKey k z = match f k with | some l => .lit l | none => z

theorem MapAt.made (w : World) (P : Program) (kt et : Nat) : MapAt P kt et (w.alloc (.map #[] 0)) w.heap.size 0 fun _ => none :=
  ⟨.map [], World.ownsMap_made _ _ _ _, fun _ => rfl, fun _ _ => rfl⟩
theorem MapAt.lt (h : MapAt P kt et w b n f) : b < w.heap.size := by obtain ⟨D, h1, _⟩ := h; exact h1.lt
theorem MapAt.kept {w' : World} {S : Nat → Prop} (h : MapAt P kt et w b n f) (hc : Chg S w w') (hn : ¬ S b) : MapAt P kt et w' b n f := by
  obtain ⟨D, ⟨es, clock, hb, h1⟩, h2⟩ := h
  exact ⟨D, ⟨es, clock, hc.heap hb hn, h1⟩, h2⟩
theorem MapAt.mono {n' : Nat} (h : MapAt P kt et w b n f) (hn : n ≤ n') : MapAt P kt et w b n' f := by
  obtain ⟨D, h1, h2⟩ := h
  exact ⟨D, h1.mono hn, h2⟩
theorem MapAt.congr {g : Lit → Option Lit} (h : MapAt P kt et w b n f) (e : ∀ k, f k = g k) : MapAt P kt et w b n g := by
  rw [← show f = g from funext e]; exact h
theorem MapAt.obj (h : MapAt P kt et w b n f) : ∃ es clock, w.heap[b]? = some (.map es clock) := by
  obtain ⟨D, ⟨es, clock, hb, _⟩, _⟩ := h
  exact ⟨es, clock, hb⟩
theorem MapAt.ne_cells {c : Array Value} {t : Nat} {fr : Nat × Nat} {k : Nat} (h : MapAt P kt et w b n f) (hk : w.heap[k]? = some (.cells c t fr)) : k ≠ b := by
  obtain ⟨es, clock, hb⟩ := h.obj
  intro e; subst e; rw [hb] at hk; cases hk

theorem MapAt.look {t : Nat} (h : MapAt P kt et w b n f) (K : Keyed P kt) (ht : P.underlying t = some (.map kt et)) {z : Value} {zl : Lit} {zp : List MemPlace} (hz : (zeroValue et).run P w = .ok z w)
    (hzl : plainElem (H := Unit) P et z = some (.lit zl, zp)) {key : Value} {kl : Lit} (hkey : keyOf P kt key = some kl) :
    (Instr.lookup t (.map (some b)) key false).run P w = .ok (litV ((f kl).getD zl)) w := by
  obtain ⟨D, h1, _, h2⟩ := h
  obtain ⟨v, ps, hrun, hv⟩ := h1.lookup K ht hz hzl hkey
  rw [hrun]
  rw [h2] at hv
  cases e : f kl with
  | none => rw [e] at hv; rw [plain_lit hv]; rfl
  | some l => rw [e] at hv; rw [plain_lit hv]; rfl
theorem MapAt.look_ok {t : Nat} (h : MapAt P kt et w b n f) (K : Keyed P kt) (ht : P.underlying t = some (.map kt et)) {z : Value} {zl : Lit} {zp : List MemPlace} (hz : (zeroValue et).run P w = .ok z w)
    (hzl : plainElem (H := Unit) P et z = some (.lit zl, zp)) {key : Value} {kl : Lit} (hkey : keyOf P kt key = some kl) :
    (Instr.lookup t (.map (some b)) key true).run P w = .ok (.tuple #[litV ((f kl).getD zl), .bool (f kl).isSome]) w := by
  obtain ⟨D, h1, h3, h2⟩ := h
  obtain ⟨v, ps, hrun, hv⟩ := h1.look_ok K ht hz hzl hkey
  rw [hrun, h3]
  rw [h2] at hv
  cases e : f kl with
  | none => rw [e] at hv; rw [plain_lit hv]; rfl
  | some l => rw [e] at hv; rw [plain_lit hv]; rfl

theorem put_fn {D : DataW Unit} {f : Lit → Option Lit} (hD : IsMap D) (h3 : ∀ k, Maps.has D k = (f k).isSome) (h2 : ∀ k z, D.atKey k z = match f k with | some l => .lit l | none => z)
    {kl vl : Lit} (hk : WideAt.IsKeyLit kl) : (∀ k, Maps.has (D.put kl (.lit vl)) k = (upd f kl (some vl) k).isSome) ∧ ∀ k z, (D.put kl (.lit vl)).atKey k z = match (upd f kl (some vl) k) with | some l => .lit l | none => z := by
  constructor
  · intro k
    by_cases e : k = kl
    · subst e; rw [Maps.has_put_same hD hk, upd_same]; rfl
    · rw [Maps.has_put_other e, upd_other _ _ e, h3]
  · intro k z
    by_cases e : k = kl
    · subst e; rw [Maps.atKey_put_same hD hk, upd_same]
    · rw [Maps.atKey_put_other e, upd_other _ _ e, h2]
theorem del_fn {D : DataW Unit} {f : Lit → Option Lit} (h3 : ∀ k, Maps.has D k = (f k).isSome) (h2 : ∀ k z, D.atKey k z = match f k with | some l => .lit l | none => z)
    (kl : Lit) : (∀ k, Maps.has (D.del kl) k = (upd f kl none k).isSome) ∧ ∀ k z, (D.del kl).atKey k z = match (upd f kl none k) with | some l => .lit l | none => z := by
  constructor
  · intro k
    by_cases e : k = kl
    · subst e; rw [Maps.has_del_same, upd_same]; rfl
    · rw [Maps.has_del_other e, upd_other _ _ e, h3]
  · intro k z
    by_cases e : k = kl
    · subst e; rw [Maps.atKey_del_same, upd_same]
    · rw [Maps.atKey_del_other e, upd_other _ _ e, h2]

/-- m[k] = v: behind 'at_mapUpdate'. -/
theorem wpList_map_put {ops : Array Oper} {rest : List Oper} {o : Oper} {a : Act} {Q : Exit → Act → World → Prop} (hg : o.guard = none) (m x v : Operand) (t : Nat) (hop : o.op = Op.mapUpdate t m x v)
    (kt et : Nat) (K : Keyed P kt) (ht : P.underlying t = some (.map kt et)) (h : MapAt P kt et w b n f) (hn : n < maxLen) (hm : a.eval m = .map (some b)) (key val : Value) (kl vl : Lit) (hx : a.eval x = key) (hv : a.eval v = val) (hkey : keyOf P kt key = some kl)
    (hk : WideAt.IsKeyLit kl) (ps : List MemPlace) (hval : plainElem (H := Unit) P et val = some (.lit vl, ps))
    (hK : ∀ w', MapAt P kt et w' b (n + 1) (upd f kl (some vl)) → Chg (fun k => k = b) w w' → wpList P ops Q rest (a.put o.dst undef) w') :
    wpList P ops Q (o :: rest) a w := by
  obtain ⟨D, h1, h3, h2⟩ := h
  have hf := put_fn (h1.isMap) h3 h2 (kl := kl) (vl := vl) hk
  refine wpList_mapUpdate_own w hg m x v t hop kt et K ht (plainElem P et) b n D hm h1 hn key val kl hx hv hkey (.lit vl) ps hval fun w' h1' hgr => ?_
  exact hK w' ⟨_, h1', hf.1, hf.2⟩ ((Chg.of_grownBy hgr).mono fun i _ e => by cases e; rfl)
/-- delete(m, k): behind 'at_delete'. -/
theorem wpList_map_del {ops : Array Oper} {rest : List Oper} {o : Oper} {a : Act} {Q : Exit → Act → World → Prop} (hg : o.guard = none) (m x : Operand) (t kt : Nat) (hop : o.op = Op.call { callee := Callee.builtin Builtin.delete, args := #[m, x], argTypes := #[t, kt] })
    (et : Nat) (K : Keyed P kt) (ht : P.underlying t = some (.map kt et)) (h : MapAt P kt et w b n f) (hm : a.eval m = .map (some b)) (key : Value) (kl : Lit) (hx : a.eval x = key) (hkey : keyOf P kt key = some kl)
    (hK : ∀ w', MapAt P kt et w' b n (upd f kl none) → Chg (fun k => k = b) w w' → wpList P ops Q rest (a.put o.dst (.tuple #[])) w') :
    wpList P ops Q (o :: rest) a w := by
  obtain ⟨D, h1, h3, h2⟩ := h
  have hf := del_fn h3 h2 kl
  refine wpList_delete_own w hg m x t kt hop et K ht (plainElem P et) b n D hm h1 key kl hx hkey fun w' h1' hgr => ?_
  exact hK w' ⟨_, h1', hf.1, hf.2⟩ ((Chg.of_grownBy hgr.grown).mono fun i _ e => by cases e; rfl)
end
end Go.Proofs.Ytlniohgnkihefaa
