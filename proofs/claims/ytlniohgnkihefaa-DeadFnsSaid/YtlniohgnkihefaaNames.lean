/- Names: letters, digits, words. -/
import Derived.Test.YtlniohgnkihefaaData
import Derived.RegionTactic
import Derived.ChangeAlike
import Derived.BigRegion
import Derived.BigQuiet
import Derived.Lib.Hide
import Derived.WalkSpells
namespace Go.Proofs.Ytlniohgnkihefaa
open Go.RowKit

def isLetter (c : Int) : Bool := (decide (97 ≤ c) && decide (c ≤ 122)) || (decide (65 ≤ c) && decide (c ≤ 90)) || decide (c = 95)
def isDigit (c : Int) : Bool := decide (48 ≤ c) && decide (c ≤ 57)
theorem ret_bool {a b : Bool} (h : a = b) : Ending.returned (.bool a) = .returned (.bool b) := by rw [h]
theorem ret_int {k : IntKind} {a b : Int} (h : a = b) : Ending.returned (.int k a) = .returned (.int k b) := by rw [h]

theorem letter_any (c : Int) (w : World) :
    Calls Try.prog 49 #[.int .u8 c] w fun e w' => e = .returned (.bool (isLetter c)) ∧ w = w' := by
  unfold isLetter
  by_cases h1 : 97 ≤ c <;> by_cases h2 : c ≤ 122 <;> by_cases h3 : 65 ≤ c <;> by_cases h4 : c ≤ 90 <;> by_cases h5 : c = 95 <;> first
  | (exfalso; omega)
  | (first | subst h5 | skip
     go_enter Try.func49, Try.ntmps49
     go_wp2
     go_ret
     refine ⟨ret_bool ?_, rfl⟩
     refine Bool.eq_iff_iff.2 ?_; first | (simp; done) | (simp; omega))
theorem digit_any (c : Int) (w : World) :
    Calls Try.prog 47 #[.int .u8 c] w fun e w' => e = .returned (.bool (isDigit c)) ∧ w = w' := by
  unfold isDigit
  by_cases h1 : 48 ≤ c <;> by_cases h2 : c ≤ 57 <;> first
  | (exfalso; omega)
  | (go_enter Try.func47, Try.ntmps47
     go_wp2
     go_ret
     refine ⟨ret_bool ?_, rfl⟩
     rw [Bool.eq_iff_iff]; simp <;> omega)

theorem reads_new (W : World) (cs : Array Value) (e : Nat) (xs : List Value) (h : cs = xs.toArray) : ReadsAt (W.alloc (.cells cs e)) (some ⟨W.heap.size, 0, none⟩) xs := by
  intro _
  refine ⟨W.heap.size, 0, rfl, by simp, fun j u hu => ?_⟩
  subst h
  rw [Nat.zero_add, cell_of_row _ _ _ _ _ _ (heap_alloc_new W _)]
  simpa using hu
def wordsList : List ByteArray := [⟨#[105, 110, 116]⟩, ⟨#[105, 102]⟩, ⟨#[101, 108, 115, 101]⟩, ⟨#[119, 104, 105, 108, 101]⟩, ⟨#[98, 114, 101, 97, 107]⟩, ⟨#[99, 111, 110, 116, 105, 110, 117, 101]⟩, ⟨#[114, 101, 116, 117, 114, 110]⟩, ⟨#[112, 114, 105, 110, 116]⟩, ⟨#[114, 101, 97, 100]⟩]
def isWord (s : ByteArray) : Bool := wordsList.any fun y => y.toList == s.toList
theorem Words_any (w : World) :
    Calls Try.prog 61 #[] w fun e w' => ∃ A, e = .returned (.slice A 9 9) ∧ Below w.heap.size w w' ∧ ReadsAt w' A (wordsList.map Value.string) := by
  go_enter Try.func61, Try.ntmps61
  go_wp2
  go_ret
  exact ⟨_, rfl, (Below.refl _ _).alloc (Nat.le_refl _) _, reads_new _ _ _ _ rfl⟩

theorem any_take_succ {α : Type} (f : α → Bool) (l : List α) (k : Nat) (h : k < l.length) : (l.take (k + 1)).any f = ((l.take k).any f || f l[k]) := by
  rw [List.take_succ_eq_append_getElem h, List.any_append]; simp
theorem all_take_succ {α : Type} (f : α → Bool) (l : List α) (k : Nat) (h : k < l.length) : (l.take (k + 1)).all f = ((l.take k).all f && f l[k]) := by
  rw [List.take_succ_eq_append_getElem h, List.all_append]; simp
theorem any_of_at {α : Type} (f : α → Bool) (l : List α) (k : Nat) (h : k < l.length) (hf : f l[k] = true) : l.any f = true := List.any_eq_true.2 ⟨_, List.getElem_mem h, hf⟩
theorem not_all_of_at {α : Type} (f : α → Bool) (l : List α) (k : Nat) (h : k < l.length) (hf : f l[k] = false) : l.all f = false := by
  rw [Bool.eq_false_iff]; intro h'; rw [List.all_eq_true.1 h' _ (List.getElem_mem h)] at hf; cases hf

theorem IsWord_any (s : ByteArray) (w : World) :
    Calls Try.prog 48 #[.string s] w fun e w' => e = .returned (.bool (isWord s)) ∧ Below w.heap.size w w' := by
  go_enter Try.func48, Try.ntmps48
  go_wp2_with fail
  refine (Words_any w).mono ?_
  rintro e w1 ⟨A, rfl, hB, hR⟩
  have HB := Lib.hid hB
  have HR := Lib.hid hR
  clear hB hR
  go_wp2_with fail
  go_loop [7] (fun i => ∃ k : Nat, k ≤ 9 ∧ i = .int .i64 (k : Nat) ∧ (wordsList.take k).any (fun y => y.toList == s.toList) = false) (fun i => 9 - (intOf i).toNat)
  case atStart => exact ⟨0, by omega, rfl, rfl⟩
  case round =>
    obtain ⟨k, hk, rfl, hn⟩ := hrel
    by_cases hlt : k < 9
    · obtain ⟨g, off, rfl, hg, hcl⟩ := HR.out (by decide)
      have hlw : k < wordsList.length := hlt
      have hx := hcl k (.string wordsList[k]) (by rw [List.getElem?_map, List.getElem?_eq_getElem hlw]; rfl)
      have hst := any_take_succ (fun y => y.toList == s.toList) wordsList k hlw
      obtain ⟨y, hye⟩ : ∃ y, y = wordsList[k] := ⟨_, rfl⟩
      rw [← hye] at hx hst
      have hin := any_of_at (fun y => y.toList == s.toList) wordsList k hlw
      rw [← hye] at hin
      have HN := Lib.hid hn
      have HST := Lib.hid hst
      have HIN := Lib.hid hin
      clear hcl hn hst hin hlw hye
      cases hb : (y.toList == s.toList) with
      | true =>
        go_wp2_with fail
        go_ret
        exact ⟨ret_bool (HIN.out hb).symm, HB.out⟩
      | false =>
        go_wp2_with fail
        go_round
        case rel => exact ⟨k + 1, by omega, by go_num, by rw [HST.out, HN.out]; exact hb⟩
        case measure => simp [intOf]; omega
    · obtain rfl : k = 9 := by omega
      have HN := Lib.hid hn
      clear hn
      go_wp2_with fail
      go_ret
      exact ⟨ret_bool HN.out.symm, HB.out⟩

def okByte (c : Int) : Bool := isLetter c || isDigit c
def byteAt (s : ByteArray) (i : Nat) : Int := (((s[i]?).getD 0).toNat : Nat)
def isName (s : ByteArray) : Bool := !(decide (s.size = 0) || decide (64 < s.size) || isDigit (byteAt s 0) || isWord s) && (List.range s.size).all fun i => okByte (byteAt s i)

theorem byteAt_eq (s : ByteArray) (i : Nat) (h : i < s.size) : byteAt s i = ((s[i].toNat : Nat) : Int) := by unfold byteAt; simp [h]

theorem IsName_any (s : ByteArray) (w : World) (hs : s.size ≤ maxLen) :
    Calls Try.prog 26 #[.string s] w fun e w' => e = .returned (.bool (isName s)) ∧ Below w.heap.size w w' := by
  have hs' : s.size ≤ 9223372036854775807 := by unfold maxLen at hs; omega
  clear hs
  by_cases h0 : s.size = 0
  · go_enter Try.func26, Try.ntmps26
    go_wp2_with fail
    go_ret
    exact ⟨ret_bool (by unfold isName; simp [h0]), Below.refl _ _⟩
  by_cases h64 : 64 < s.size
  · go_enter Try.func26, Try.ntmps26
    go_wp2_with fail
    go_ret
    exact ⟨ret_bool (by unfold isName; simp [h64]), Below.refl _ _⟩
  have hz : ((s.size : Int) == 0) = false := beq_eq_false_iff_ne.2 (by omega)
  have hb0 := byteAt_eq s 0 (by omega)
  have hd := digit_any (byteAt s 0) w
  rw [hb0] at hd
  cases hdc : isDigit (byteAt s 0) with
  | true =>
    rw [← hb0, hdc, hb0] at hd
    clear hb0
    have HDC := Lib.hid hdc
    clear hdc
    go_enter Try.func26, Try.ntmps26
    go_wp2_with fail
    refine hd.mono ?_
    rintro e w1 ⟨rfl, rfl⟩
    clear hd
    go_wp2_with fail
    go_ret
    exact ⟨ret_bool (by unfold isName; simp [HDC.out]), Below.refl _ _⟩
  | false =>
  rw [← hb0, hdc, hb0] at hd
  clear hb0
  have HDC := Lib.hid hdc
  clear hdc
  have hw := IsWord_any s w
  cases hwc : isWord s with
  | true =>
    rw [hwc] at hw
    have HWC := Lib.hid hwc
    clear hwc
    go_enter Try.func26, Try.ntmps26
    go_wp2_with fail
    refine hd.mono ?_
    rintro e w1 ⟨rfl, rfl⟩
    clear hd
    go_wp2_with fail
    refine hw.mono ?_
    rintro e w1 ⟨rfl, hB⟩
    clear hw
    have HB := Lib.hid hB
    clear hB
    go_wp2_with fail
    go_ret
    exact ⟨ret_bool (by unfold isName; simp [HWC.out]), HB.out⟩
  | false =>
    rw [hwc] at hw
    have HWC := Lib.hid hwc
    clear hwc
    go_enter Try.func26, Try.ntmps26
    go_wp2_with fail
    refine hd.mono ?_
    rintro e w1 ⟨rfl, rfl⟩
    clear hd
    go_wp2_with fail
    refine hw.mono ?_
    rintro e w1 ⟨rfl, hB⟩
    clear hw
    have HB := Lib.hid hB
    clear hB
    go_wp2_with fail
    go_loop [3] (fun i => ∃ k : Nat, k ≤ s.size ∧ i = .int .i64 (k : Nat) ∧ (∀ j, j < k → okByte (byteAt s j) = true)) (fun i => s.size - (intOf i).toNat)
    case atStart => exact ⟨0, by omega, rfl, fun j hj => by omega⟩
    case round =>
      obtain ⟨k, hk, rfl, hn⟩ := hrel
      have HN := Lib.hid hn
      clear hn
      by_cases hlt : k < s.size
      · have hbk := byteAt_eq s k hlt
        have hl := letter_any (byteAt s k) w1
        have hd := digit_any (byteAt s k) w1
        rw [hbk] at hl hd
        cases hlc : isLetter (byteAt s k) with
        | true =>
          rw [← hbk, hlc, hbk] at hl
          have HLC := Lib.hid hlc
          clear hbk hlc hd
          go_wp2_with fail
          refine hl.mono ?_
          rintro e w2 ⟨rfl, rfl⟩
          clear hl
          go_wp2_with fail
          go_round
          case rel => exact ⟨k + 1, by omega, by go_num, fun j hj => by
            rcases Nat.lt_succ_iff_lt_or_eq.1 hj with h | rfl
            · exact HN.out j h
            · unfold okByte; rw [HLC.out]; rfl⟩
          case measure => simp [intOf]; omega
        | false =>
          rw [← hbk, hlc, hbk] at hl
          have HLC := Lib.hid hlc
          clear hlc
          cases hdc : isDigit (byteAt s k) with
          | true =>
            rw [← hbk, hdc, hbk] at hd
            have HDC := Lib.hid hdc
            clear hbk hdc
            go_wp2_with fail
            refine hl.mono ?_
            rintro e w2 ⟨rfl, rfl⟩
            clear hl
            go_wp2_with fail
            refine hd.mono ?_
            rintro e w2 ⟨rfl, rfl⟩
            clear hd
            go_wp2_with fail
            go_round
            case rel => exact ⟨k + 1, by omega, by go_num, fun j hj => by
              rcases Nat.lt_succ_iff_lt_or_eq.1 hj with h | rfl
              · exact HN.out j h
              · unfold okByte; rw [HDC.out]; simp⟩
            case measure => simp [intOf]; omega
          | false =>
            rw [← hbk, hdc, hbk] at hd
            have HDC := Lib.hid hdc
            clear hbk hdc
            go_wp2_with fail
            refine hl.mono ?_
            rintro e w2 ⟨rfl, rfl⟩
            clear hl
            go_wp2_with fail
            refine hd.mono ?_
            rintro e w2 ⟨rfl, rfl⟩
            clear hd
            go_wp2_with fail
            go_ret
            refine ⟨ret_bool ?_, HB.out⟩
            have : (List.range s.size).all (fun i => okByte (byteAt s i)) = false := by
              rw [Bool.eq_false_iff]
              intro h
              have := List.all_eq_true.1 h k (List.mem_range.2 hlt)
              unfold okByte at this
              rw [HLC.out, HDC.out] at this
              cases this
            unfold isName
            rw [this]; simp
      · obtain rfl : k = s.size := by omega
        go_wp2_with fail
        go_ret
        refine ⟨ret_bool ?_, HB.out⟩
        have : (List.range s.size).all (fun i => okByte (byteAt s i)) = true := List.all_eq_true.2 fun i hi => HN.out i (List.mem_range.1 hi)
        unfold isName
        rw [this, HDC.out, HWC.out, decide_eq_false h0, decide_eq_false h64]; rfl

/-- May a register be so? -/
def regB (r n : Int) (none : Bool) : Bool := (decide (0 ≤ r) && decide (r < n)) || (none && decide (r = -1))
theorem reg12_any (r n : Int) (none : Bool) (w : World) :
    Calls Try.prog 51 #[.int .i64 r, .int .i64 n, .bool none] w fun e w' => e = .returned (.bool (regB r n none)) ∧ w = w' := by
  unfold regB
  cases none <;> by_cases h1 : 0 ≤ r <;> by_cases h2 : r < n <;> by_cases h3 : r = -1 <;> first
  | (exfalso; omega)
  | (first | subst h3 | skip
     go_enter Try.func51, Try.ntmps51
     go_wp2
     go_ret
     refine ⟨ret_bool ?_, rfl⟩
     refine Bool.eq_iff_iff.2 ?_; first | (simp; done) | (simp; omega))
/-- An instruction that may be, among n registers. -/
inductive InsV (n : Int) : Ins → Prop
  | num (d z : Int) (hd : regB d n false = true) : InsV n ⟨1, 0, d, -1, -1, z, ⟨#[]⟩, []⟩
  | copy (d a : Int) (hd : regB d n false = true) (ha : regB a n false = true) : InsV n ⟨2, 0, d, a, -1, 0, ⟨#[]⟩, []⟩
  | un (op d a : Int) (ho : 19 ≤ op ∧ op ≤ 21) (hd : regB d n false = true) (ha : regB a n false = true) : InsV n ⟨3, op, d, a, -1, 0, ⟨#[]⟩, []⟩
  | bin (op d a b : Int) (ho : 1 ≤ op ∧ op ≤ 16) (hd : regB d n false = true) (ha : regB a n false = true) (hb : regB b n false = true) : InsV n ⟨4, op, d, a, b, 0, ⟨#[]⟩, []⟩
  | load (d a : Int) (name : ByteArray) (hd : regB d n false = true) (ha : regB a n true = true) (hn : isName name = true) : InsV n ⟨5, 0, d, a, -1, 0, name, []⟩
  | store (a b : Int) (name : ByteArray) (ha : regB a n true = true) (hb : regB b n false = true) (hn : isName name = true) : InsV n ⟨6, 0, -1, a, b, 0, name, []⟩
  | call (d : Int) (name : ByteArray) (args : List Int) (hd : regB d n true = true) (hn : isName name = true) (hl : args.length ≤ 8) (ha : ∀ r ∈ args, regB r n false = true) : InsV n ⟨7, 0, d, -1, -1, 0, name, args⟩
  | read (d : Int) (hd : regB d n false = true) : InsV n ⟨8, 0, d, -1, -1, 0, ⟨#[]⟩, []⟩
  | print (a : Int) (ha : regB a n false = true) : InsV n ⟨9, 0, -1, a, -1, 0, ⟨#[]⟩, []⟩
end Go.Proofs.Ytlniohgnkihefaa
