/- What is read of a program of blocks, at a place. -/
import Derived.Test.YtlniohgnkihefaaFinds
namespace Go.Proofs.Ytlniohgnkihefaa
open Go.RowKit
variable {T : Nat → Prop} {w w' : World}

theorem old_ne {w : World} : ∀ k, T k → k < w.heap.size → ¬ (w.heap.size ≤ k) := fun _ _ h h' => Nat.lt_irrefl _ (Nat.lt_of_lt_of_le h h')
theorem fns_below {B : Option Addr} {fs : List Fn} (h : RdSl 4 (RdFn w T) w T B fs) (hb : Below w.heap.size w w') : RdSl 4 (RdFn w' T) w' T B fs := h.kept (chg_of_below hb) old_ne fun _ _ h => h.kept (chg_of_below hb) old_ne
theorem blks_below {B : Option Addr} {fs : List Blk} (h : RdSl 5 (RdBlk w T) w T B fs) (hb : Below w.heap.size w w') : RdSl 5 (RdBlk w' T) w' T B fs := h.kept (chg_of_below hb) old_ne fun _ _ h => h.kept (chg_of_below hb) old_ne
theorem inss_below {B : Option Addr} {fs : List Ins} (h : RdSl 8 (RdIns w T) w T B fs) (hb : Below w.heap.size w w') : RdSl 8 (RdIns w' T) w' T B fs := h.kept (chg_of_below hb) old_ne fun _ _ h => h.kept (chg_of_below hb) old_ne
theorem globs_below {B : Option Addr} {fs : List Glob} (h : RdSl 2 RdGlob w T B fs) (hb : Below w.heap.size w w') : RdSl 2 RdGlob w' T B fs := h.kept (chg_of_below hb) old_ne fun _ _ h => h
theorem ints_below {B : Option Addr} {xs : List Value} (h : RdT w T B xs) (hb : Below w.heap.size w w') : RdT w' T B xs := h.kept (chg_of_below hb) old_ne
theorem mid_below {m : Mid} {A B : Option Addr} {c d : Nat} (h : RdMid w T m A c B d) (hb : Below w.heap.size w w') : RdMid w' T m A c B d := h.kept (chg_of_below hb) old_ne

theorem fn_at {B : Option Addr} {fs : List Fn} (h : RdSl 4 (RdFn w T) w T B fs) (k : Nat) (hk : k < fs.length) (f : Fn) (hf : f = fs[k]) :
    ∃ g off A c, B = some ⟨g, off, none⟩ ∧ g < w.heap.size ∧ FnOk f ∧ RdSl 5 (RdBlk w T) w T A f.blocks ∧ w.cell? ⟨g, off + k * 4, none⟩ = some (.string f.name) ∧ w.cell? ⟨g, off + k * 4 + 1, none⟩ = some (.int .i64 f.params)
      ∧ w.cell? ⟨g, off + k * 4 + 2, none⟩ = some (.int .i64 f.regs) ∧ w.cell? ⟨g, off + k * 4 + 3, none⟩ = some (.slice A f.blocks.length c) := by
  subst hf
  obtain ⟨g, off, rfl, ht, hg, hcl⟩ := h (by omega)
  obtain ⟨cs, hcs, ⟨hok, A1, c1, rfl, hsub⟩, hat⟩ := hcl k _ (List.getElem?_eq_getElem hk)
  exact ⟨g, off, A1, c1, rfl, hg, hok, hsub, hat 0 _ rfl, hat 1 _ rfl, hat 2 _ rfl, hat 3 _ rfl⟩
theorem blk_at {B : Option Addr} {fs : List Blk} (h : RdSl 5 (RdBlk w T) w T B fs) (k : Nat) (hk : k < fs.length) (f : Blk) (hf : f = fs[k]) :
    ∃ g off A c, B = some ⟨g, off, none⟩ ∧ g < w.heap.size ∧ BlkOk f ∧ RdSl 8 (RdIns w T) w T A f.ins ∧ w.cell? ⟨g, off + k * 5, none⟩ = some (.slice A f.ins.length c) ∧ w.cell? ⟨g, off + k * 5 + 1, none⟩ = some (.int .i64 f.kind)
      ∧ w.cell? ⟨g, off + k * 5 + 2, none⟩ = some (.int .i64 f.a) ∧ w.cell? ⟨g, off + k * 5 + 3, none⟩ = some (.int .i64 f.to) ∧ w.cell? ⟨g, off + k * 5 + 4, none⟩ = some (.int .i64 f.els) := by
  subst hf
  obtain ⟨g, off, rfl, ht, hg, hcl⟩ := h (by omega)
  obtain ⟨cs, hcs, ⟨hok, A1, c1, rfl, hsub⟩, hat⟩ := hcl k _ (List.getElem?_eq_getElem hk)
  exact ⟨g, off, A1, c1, rfl, hg, hok, hsub, hat 0 _ rfl, hat 1 _ rfl, hat 2 _ rfl, hat 3 _ rfl, hat 4 _ rfl⟩
theorem ins_at {B : Option Addr} {fs : List Ins} (h : RdSl 8 (RdIns w T) w T B fs) (k : Nat) (hk : k < fs.length) (f : Ins) (hf : f = fs[k]) :
    ∃ g off A c, B = some ⟨g, off, none⟩ ∧ g < w.heap.size ∧ InsOk f ∧ RdT w T A (ints f.args) ∧ w.cell? ⟨g, off + k * 8, none⟩ = some (.int .i64 f.kind) ∧ w.cell? ⟨g, off + k * 8 + 1, none⟩ = some (.int .i64 f.op)
      ∧ w.cell? ⟨g, off + k * 8 + 2, none⟩ = some (.int .i64 f.d) ∧ w.cell? ⟨g, off + k * 8 + 3, none⟩ = some (.int .i64 f.a) ∧ w.cell? ⟨g, off + k * 8 + 4, none⟩ = some (.int .i64 f.b) ∧ w.cell? ⟨g, off + k * 8 + 5, none⟩ = some (.int .i32 f.num)
      ∧ w.cell? ⟨g, off + k * 8 + 6, none⟩ = some (.string f.name) ∧ w.cell? ⟨g, off + k * 8 + 7, none⟩ = some (.slice A f.args.length c) := by
  subst hf
  obtain ⟨g, off, rfl, ht, hg, hcl⟩ := h (by omega)
  obtain ⟨cs, hcs, ⟨hok, A1, c1, rfl, hsub⟩, hat⟩ := hcl k _ (List.getElem?_eq_getElem hk)
  exact ⟨g, off, A1, c1, rfl, hg, hok, hsub, hat 0 _ rfl, hat 1 _ rfl, hat 2 _ rfl, hat 3 _ rfl, hat 4 _ rfl, hat 5 _ rfl, hat 6 _ rfl, hat 7 _ rfl⟩
theorem glob_at {B : Option Addr} {fs : List Glob} (h : RdSl 2 RdGlob w T B fs) (k : Nat) (hk : k < fs.length) (f : Glob) (hf : f = fs[k]) :
    ∃ g off, B = some ⟨g, off, none⟩ ∧ g < w.heap.size ∧ (f.name.size ≤ maxLen ∧ I64 f.size) ∧ w.cell? ⟨g, off + k * 2, none⟩ = some (.string f.name) ∧ w.cell? ⟨g, off + k * 2 + 1, none⟩ = some (.int .i64 f.size) := by
  subst hf
  obtain ⟨g, off, rfl, ht, hg, hcl⟩ := h (by omega)
  obtain ⟨cs, hcs, ⟨hok, rfl⟩, hat⟩ := hcl k _ (List.getElem?_eq_getElem hk)
  exact ⟨g, off, rfl, hg, hok, hat 0 _ rfl, hat 1 _ rfl⟩
theorem fold_names {α : Type} {P : α → Prop} {l : List α} (h : ∀ j (hl : j < l.length), P l[j]) : ∀ x ∈ l, P x := fun x hx => by
  obtain ⟨j, hj, rfl⟩ := List.getElem_of_mem hx
  exact h j hj
theorem upto_succ {α : Type} {P : α → Prop} {l : List α} {k : Nat} (h : ∀ j (hl : j < l.length), j < k → P l[j]) {x : α} (hk : k < l.length) (he : x = l[k]) (hp : P x) : ∀ j (hl : j < l.length), j < k + 1 → P l[j] := by
  intro j hl hj
  rcases Nat.lt_succ_iff_lt_or_eq.1 hj with h' | rfl
  · exact h j hl h'
  · rw [← he]; exact hp
end Go.Proofs.Ytlniohgnkihefaa
