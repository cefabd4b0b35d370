/- How many bits of a word are set: Go's sum over ever wider fields, in plain numbers. -/
namespace Go.Proofs.Ytdnlgcomhgnegaa

/-- How many of the lowest n bits are set. -/
def pc : Nat → Nat → Nat
  | 0, _ => 0
  | n + 1, x => x % 2 + pc n (x / 2)

theorem pc_add (n m : Nat) : ∀ x, pc (n + m) x = pc n x + pc m (x / 2 ^ n) := by
  induction n with
  | zero => intro x; simp [pc]
  | succ n ih =>
    intro x
    rw [Nat.add_right_comm]
    simp only [pc]
    rw [ih, Nat.div_div_eq_div_mul, Nat.pow_succ', Nat.add_assoc]

theorem pc_mod (n : Nat) : ∀ x, pc n (x % 2 ^ n) = pc n x := by
  induction n with
  | zero => intro x; rfl
  | succ n ih =>
    intro x
    simp only [pc]
    rw [← ih (x / 2), Nat.pow_succ', Nat.mod_mul_right_div_self, Nat.mod_mul_right_mod]

def val : List Nat → Nat
  | [] => 0
  | c :: l => c + 256 * val l

theorem and_split (a b p q : Nat) (hp : p < 256) (hq : q < 256) : (p + 256 * a) &&& (q + 256 * b) = (p &&& q) + 256 * (a &&& b) := by
  have hpq : p &&& q < 2 ^ 8 := Nat.lt_of_le_of_lt Nat.and_le_left hp
  apply Nat.eq_of_testBit_eq
  intro i
  rw [Nat.testBit_and, Nat.add_comm p, Nat.add_comm q, Nat.add_comm (p &&& q), show 256 = 2 ^ 8 from rfl,
    Nat.testBit_two_pow_mul_add _ hp, Nat.testBit_two_pow_mul_add _ hq, Nat.testBit_two_pow_mul_add _ hpq]
  split <;> simp [Nat.testBit_and]

def b1 (c : Nat) : Nat := (c / 2 &&& 85) + (c &&& 85)
def b2 (c : Nat) : Nat := (c / 4 &&& 51) + (c &&& 51)
def b3 (c : Nat) : Nat := c / 16 + c % 16

theorem half_low (y c : Nat) : ((c + 256 * y) / 2) = (c / 2 + 128 * (y % 2)) + 256 * (y / 2) := by omega
theorem quarter_low (y c : Nat) : ((c + 256 * y) / 4) = (c / 4 + 64 * (y % 4)) + 256 * (y / 4) := by omega
theorem and85 : ∀ c, c < 256 → ∀ z, z < 2 → (c / 2 + 128 * z) &&& 85 = c / 2 &&& 85 := by decide +kernel
theorem and51 : ∀ c, c < 256 → ∀ z, z < 4 → (c / 4 + 64 * z) &&& 51 = c / 4 &&& 51 := by decide +kernel
theorem b1_lt : ∀ c, c < 256 → b1 c < 256 := by decide +kernel
theorem b2_le : ∀ c, c < 256 → b2 (b1 c) / 16 ≤ 4 ∧ b2 (b1 c) % 16 ≤ 4 := by decide +kernel
theorem b2_lt (c : Nat) (h : c < 256) : b2 (b1 c) < 256 := by have := b2_le c h; omega
theorem b3_pc : ∀ c, c < 256 → b3 (b2 (b1 c)) = pc 8 c := by decide +kernel

theorem step1 (l : List Nat) (h : ∀ c ∈ l, c < 256) : (val l / 2 &&& val (List.replicate l.length 85)) + (val l &&& val (List.replicate l.length 85)) = val (l.map b1) := by
  induction l with
  | nil => rfl
  | cons c l ih =>
    have hc := h c (by simp)
    have ih := ih (fun x hx => h x (by simp [hx]))
    simp only [List.length_cons, List.replicate_succ, List.map_cons, val]
    rw [half_low, and_split _ _ _ _ (by omega) (by omega), and_split _ _ _ _ hc (by omega), and85 c hc _ (by omega), ← ih]
    unfold b1
    omega
theorem step2 (l : List Nat) (h : ∀ c ∈ l, c < 256) : (val l / 4 &&& val (List.replicate l.length 51)) + (val l &&& val (List.replicate l.length 51)) = val (l.map b2) := by
  induction l with
  | nil => rfl
  | cons c l ih =>
    have hc := h c (by simp)
    have ih := ih (fun x hx => h x (by simp [hx]))
    simp only [List.length_cons, List.replicate_succ, List.map_cons, val]
    rw [quarter_low, and_split _ _ _ _ (by omega) (by omega), and_split _ _ _ _ hc (by omega), and51 c hc _ (by omega), ← ih]
    unfold b2
    omega
theorem val_mod16 (l : List Nat) (h : ∀ c ∈ l, c / 16 ≤ 4 ∧ c % 16 ≤ 4) : val l % 16 ≤ 4 := by
  cases l with
  | nil => simp [val]
  | cons c l => have := h c (by simp); simp only [val]; omega
theorem step3 (l : List Nat) (h : ∀ c ∈ l, c / 16 ≤ 4 ∧ c % 16 ≤ 4) : (val l / 16 + val l) &&& val (List.replicate l.length 15) = val (l.map b3) := by
  induction l with
  | nil => rfl
  | cons c l ih =>
    have hc := h c (by simp)
    have hm := val_mod16 l (fun x hx => h x (by simp [hx]))
    have ih := ih (fun x hx => h x (by simp [hx]))
    simp only [List.length_cons, List.replicate_succ, List.map_cons, val]
    have e : (c + 256 * val l) / 16 + (c + 256 * val l) = (c / 16 + c + 16 * (val l % 16)) + 256 * (val l / 16 + val l) := by omega
    have e2 : (c / 16 + c + 16 * (val l % 16)) &&& 15 = b3 c := by
      rw [show 15 = 2 ^ 4 - 1 from rfl, Nat.and_two_pow_sub_one_eq_mod]
      unfold b3
      omega
    rw [e, and_split _ _ _ _ (by omega) (by omega), ih, e2]

def bytes : Nat → Nat → List Nat
  | 0, _ => []
  | n + 1, x => x % 256 :: bytes n (x / 256)
theorem bytes_length (n : Nat) : ∀ x, (bytes n x).length = n := by
  induction n with
  | zero => intro x; rfl
  | succ n ih => intro x; simp [bytes, ih]
theorem bytes_lt (n : Nat) : ∀ x, ∀ c ∈ bytes n x, c < 256 := by
  induction n with
  | zero => intro x c h; cases h
  | succ n ih =>
    intro x c h
    rcases List.mem_cons.1 h with h | h
    · omega
    · exact ih _ c h
theorem val_bytes (n : Nat) : ∀ x, x < 256 ^ n → val (bytes n x) = x := by
  induction n with
  | zero => intro x h; simp at h; subst h; rfl
  | succ n ih =>
    intro x h
    simp only [bytes, val]
    rw [ih (x / 256) (by rw [Nat.pow_succ] at h; exact Nat.div_lt_of_lt_mul (by rw [Nat.mul_comm]; exact h))]
    omega
theorem pc_bytes (n : Nat) : ∀ x, pc (8 * n) x = ((bytes n x).map (pc 8)).sum := by
  induction n with
  | zero => intro x; rfl
  | succ n ih =>
    intro x
    rw [Nat.mul_add, Nat.mul_one, Nat.add_comm, pc_add, ih]
    simp only [bytes, List.map_cons, List.sum_cons]
    rw [show 256 = 2 ^ 8 from rfl, pc_mod]

def n1 (x : Nat) : Nat := (x / 2 &&& 6148914691236517205) + (x &&& 6148914691236517205)
def n2 (x : Nat) : Nat := (x / 4 &&& 3689348814741910323) + (x &&& 3689348814741910323)
def n3 (x : Nat) : Nat := (x / 16 + x) &&& 1085102592571150095
def n4 (x : Nat) : Nat := x + x / 256
def n5 (x : Nat) : Nat := x + x / 65536
def n6 (x : Nat) : Nat := x + x / 4294967296

theorem last (a b c d e f g h : Nat) (ha : a ≤ 8) (hb : b ≤ 8) (hc : c ≤ 8) (hd : d ≤ 8) (he : e ≤ 8) (hf : f ≤ 8) (hg : g ≤ 8) (hh : h ≤ 8) :
    n6 (n5 (n4 (val [a, b, c, d, e, f, g, h]))) % 128 = a + b + c + d + e + f + g + h := by
  have e4 : n4 (val [a, b, c, d, e, f, g, h]) = val [a + b, b + c, c + d, d + e, e + f, f + g, g + h, h] := by
    have q : val [a, b, c, d, e, f, g, h] / 256 = val [b, c, d, e, f, g, h] := by simp only [val]; omega
    unfold n4; rw [q]; simp only [val]; omega
  have e5 : n5 (val [a + b, b + c, c + d, d + e, e + f, f + g, g + h, h]) = val [a + b + c + d, b + c + d + e, c + d + e + f, d + e + f + g, e + f + g + h, f + g + h, g + h, h] := by
    have q : val [a + b, b + c, c + d, d + e, e + f, f + g, g + h, h] / 65536 = val [c + d, d + e, e + f, f + g, g + h, h] := by simp only [val]; omega
    unfold n5; rw [q]; simp only [val]; omega
  have e6 : ∀ p q r s t u v w, p < 256 → q < 256 → r < 256 → s < 256 → val [p, q, r, s, t, u, v, w] / 4294967296 = val [t, u, v, w] := by
    intro p q r s t u v w h1 h2 h3 h4; simp only [val]; omega
  rw [e4, e5]
  unfold n6
  rw [e6 _ _ _ _ _ _ _ _ (by omega) (by omega) (by omega) (by omega)]
  simp only [val]
  omega

theorem cons_of {l : List Nat} {n : Nat} (h : l.length = n + 1) : ∃ a m, l = a :: m ∧ m.length = n := by
  cases l with
  | nil => simp at h
  | cons a m => exact ⟨a, m, rfl, by simpa using h⟩
theorem m85 : val (List.replicate 8 85) = 6148914691236517205 := by decide +kernel
theorem m51 : val (List.replicate 8 51) = 3689348814741910323 := by decide +kernel
theorem m15 : val (List.replicate 8 15) = 1085102592571150095 := by decide +kernel
theorem p8 : 256 ^ 8 = 18446744073709551616 := by decide +kernel

theorem ones_pc (x : Nat) (hx : x < 18446744073709551616) : n6 (n5 (n4 (n3 (n2 (n1 x))))) % 128 = pc 64 x := by
  have hl := bytes_length 8 x
  have hb := bytes_lt 8 x
  have hv := val_bytes 8 x (by rw [p8]; exact hx)
  have hp := pc_bytes 8 x
  rw [show 8 * 8 = 64 from rfl] at hp
  generalize hL : bytes 8 x = l at hl hb hv hp
  have s1 : n1 x = val (l.map b1) := by
    rw [← step1 l hb, hl, hv, m85, n1]
  have hb1 : ∀ c ∈ l.map b1, c < 256 := by
    intro c hc
    obtain ⟨d, hd, rfl⟩ := List.mem_map.1 hc
    exact b1_lt d (hb d hd)
  have s2 : n2 (n1 x) = val ((l.map b1).map b2) := by
    rw [s1, ← step2 _ hb1, List.length_map, hl, m51, n2]
  have hb2 : ∀ c ∈ (l.map b1).map b2, c / 16 ≤ 4 ∧ c % 16 ≤ 4 := by
    intro c hc
    obtain ⟨d, hd, rfl⟩ := List.mem_map.1 hc
    obtain ⟨d', hd', rfl⟩ := List.mem_map.1 hd
    exact b2_le d' (hb d' hd')
  have s3 : n3 (n2 (n1 x)) = val (((l.map b1).map b2).map b3) := by
    rw [s2, ← step3 _ hb2, List.length_map, List.length_map, hl, m15, n3]
  rw [s3, hp]
  have h8 : ∀ c ∈ l, b3 (b2 (b1 c)) = pc 8 c ∧ pc 8 c ≤ 8 := by
    intro c hc
    have h1 := b3_pc c (hb c hc)
    have h2 := b2_le c (hb c hc)
    refine ⟨h1, ?_⟩
    rw [← h1]; unfold b3; omega
  clear s1 s2 s3 hb1 hb2 hb hv hp hL
  obtain ⟨a, l0, rfl, q0⟩ := cons_of hl
  obtain ⟨b, l1, rfl, q1⟩ := cons_of q0
  obtain ⟨c, l2, rfl, q2⟩ := cons_of q1
  obtain ⟨d, l3, rfl, q3⟩ := cons_of q2
  obtain ⟨e, l4, rfl, q4⟩ := cons_of q3
  obtain ⟨f, l5, rfl, q5⟩ := cons_of q4
  obtain ⟨g, l6, rfl, q6⟩ := cons_of q5
  obtain ⟨h, l7, rfl, q7⟩ := cons_of q6
  obtain rfl := List.eq_nil_of_length_eq_zero q7
  have ea := h8 a (by simp)
  have eb := h8 b (by simp)
  have ec := h8 c (by simp)
  have ed := h8 d (by simp)
  have ee := h8 e (by simp)
  have ef := h8 f (by simp)
  have eg := h8 g (by simp)
  have eh := h8 h (by simp)
  simp only [List.map_cons, List.map_nil]
  rw [ea.1, eb.1, ec.1, ed.1, ee.1, ef.1, eg.1, eh.1, last _ _ _ _ _ _ _ _ ea.2 eb.2 ec.2 ed.2 ee.2 ef.2 eg.2 eh.2]
  simp only [List.sum_cons, List.sum_nil]
  omega

theorem n1_lt (x : Nat) : n1 x < 18446744073709551616 := by
  unfold n1
  have h1 : x / 2 &&& 6148914691236517205 ≤ 6148914691236517205 := Nat.and_le_right
  have h2 : x &&& 6148914691236517205 ≤ 6148914691236517205 := Nat.and_le_right
  omega
theorem n2_lt (x : Nat) : n2 x < 8446744073709551616 := by
  unfold n2
  have h1 : x / 4 &&& 3689348814741910323 ≤ 3689348814741910323 := Nat.and_le_right
  have h2 : x &&& 3689348814741910323 ≤ 3689348814741910323 := Nat.and_le_right
  omega
theorem n3_lt (x : Nat) : n3 x ≤ 1085102592571150095 := Nat.and_le_right

theorem pc_le (n : Nat) : ∀ x, pc n x ≤ n := by
  induction n with
  | zero => intro x; simp [pc]
  | succ n ih => intro x; have := ih (x / 2); simp only [pc]; omega
theorem pc_bits (n : Nat) : ∀ x, pc n x = ((List.range n).filter fun i => x.testBit i).length := by
  induction n with
  | zero => intro x; rfl
  | succ n ih =>
    intro x
    rw [List.range_succ_eq_map, List.filter_cons]
    simp only [pc]
    rw [ih (x / 2), List.filter_map, Nat.testBit_zero]
    have e : (fun i => x.testBit i) ∘ Nat.succ = fun i => (x / 2).testBit i := by
      funext i
      simp [Nat.testBit_succ]
    rw [e]
    by_cases h : x % 2 = 1
    · simp [h, Nat.add_comm]
    · have : x % 2 = 0 := by omega
      simp [this]
end Go.Proofs.Ytdnlgcomhgnegaa
