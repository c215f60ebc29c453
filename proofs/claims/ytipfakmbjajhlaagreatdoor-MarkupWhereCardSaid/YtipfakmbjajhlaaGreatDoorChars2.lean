/-
  chars.Name and the scanner's tests of bytes: contracts.
-/
import Derived.Test.YtipfakmbjajhlaaGreatDoorChars1
set_option linter.unusedVariables false
set_option linter.unusedSimpArgs false
namespace Go.Proofs.YtipfakmbjajhlaaGreatDoor 
open Go.RowKit
theorem named_split (c : UInt8) (hl : Pure.letter c = false) : Pure.named c = ((decide (48 ≤ (c.toNat : Int)) && decide ((c.toNat : Int) ≤ 57)) || (c.toNat : Int) == 45 || (c.toNat : Int) == 46) := by
  rw [Bool.eq_iff_iff]; simp [Pure.named, hl]; omega
theorem isName_long (l : Pure.Bytes) (h : 32 < l.length) : Pure.isName l = false := by
  cases l with
  | nil => rfl
  | cons c r => have : decide ((c :: r).length ≤ 32) = false := by simp at *; omega
                simp only [Pure.isName, this, Bool.false_and]
theorem isName_head (l : Pure.Bytes) (h : 0 < l.length) (hl : Pure.letter l[0] = false) : Pure.isName l = false := by
  cases l with
  | nil => rfl
  | cons c r => simp at hl; simp [Pure.isName, hl]
theorem isName_bad (l : Pure.Bytes) (k : Nat) (h : k < l.length) (hl : Pure.named l[k] = false) : Pure.isName l = false := by
  cases l with
  | nil => rfl
  | cons c r =>
    simp only [Pure.isName, Bool.and_eq_false_iff]
    right
    rw [List.all_eq_false]
    exact ⟨(c :: r)[k], List.getElem_mem h, by simp [hl]⟩
theorem isName_good (l : Pure.Bytes) (h0 : 0 < l.length) (h32 : l.length ≤ 32) (hl : Pure.letter l[0] = true) (ha : ∀ i (h : i < l.length), Pure.named l[i] = true) : Pure.isName l = true := by
  cases l with
  | nil => simp at h0
  | cons c r =>
    have h1 : decide ((c :: r).length ≤ 32) = true := by simpa using h32
    have h2 : (c :: r).all Pure.named = true := by
      rw [List.all_eq_true]
      intro x hx
      obtain ⟨i, hi, rfl⟩ := List.getElem_of_mem hx
      exact ha i hi
    simp only [List.getElem_cons_zero] at hl
    simp only [Pure.isName, h1, h2, hl, Bool.and_true]
theorem toL_get (s : ByteArray) (k : Nat) (h : k < s.size) : (Pure.toL s)[k]'(by rw [Pure.length_toL]; exact h) = s[k] := rfl
theorem empty_of_size {s : ByteArray} (h : s.size = 0) : s = ByteArray.empty := by
  apply ByteArray.ext
  apply Array.ext
  · simpa using h
  · intro i hi _; exact absurd hi (by have : s.data.size = 0 := h; omega)
/-- The first k bytes can be in names. -/
def NamedTo (s : ByteArray) (k : Nat) : Prop := ∀ i (h : i < s.size), i < k → Pure.named s[i] = true
theorem NamedTo.succ {s : ByteArray} {k : Nat} (h : NamedTo s k) (hk : k < s.size) (hn : Pure.named s[k] = true) : NamedTo s (k + 1) := by
  intro i hi hik
  by_cases e : i = k
  · subst e; exact hn
  · exact h i hi (by omega)
theorem toList_nonempty {s : ByteArray} (h : ¬ s.size = 0) : s.toList.isEmpty = false := by
  cases hb : s.toList.isEmpty with
  | false => rfl
  | true =>
    rw [← decide_eq_emptyBytes] at hb
    have e : s = ByteArray.empty := by simpa using hb
    subst e
    exact absurd rfl h
set_option maxHeartbeats 800000 in
theorem name_any (s : ByteArray) (w : World) (hs : s.size ≤ 140737488355328) : Calls Tryz.prog 140 #[.string s] w (RetB (Pure.isName (Pure.toL s)) w) := by
  by_cases h0 : s.size = 0
  · obtain rfl := empty_of_size h0
    go_enter Tryz.func140, Tryz.ntmps140; go_wp2; go_ret; exact retB_of rfl _
  have he : s.toList.isEmpty = false := toList_nonempty h0
  by_cases h32 : 32 < s.size
  · have HF := Lib.hid (isName_long (Pure.toL s) (by rw [Pure.length_toL]; exact h32))
    go_enter Tryz.func140, Tryz.ntmps140
    go_wp2
    go_ret
    exact retB_of HF.out.symm _
  have hpos : 0 < s.size := by omega
  have hpos' : (0 : Int) < (s.size : Int) := by omega
  have hlc := letter_any s[0]
  cases hl : Pure.letter s[0] with
  | false =>
    have HF := Lib.hid (isName_head (Pure.toL s) (by rw [Pure.length_toL]; exact hpos) hl)
    rw [hl] at hlc
    have HL := Lib.hid hlc
    clear hlc hl
    go_enter Tryz.func140, Tryz.ntmps140
    go_wp2_with (go_at_call 151; refine (HL.out _).mono ?_; rintro e w' ⟨rfl, rfl⟩)
    go_ret
    exact retB_of HF.out.symm _
  | true =>
    have HG := Lib.hid (isName_good (Pure.toL s) (by rw [Pure.length_toL]; exact hpos) (by rw [Pure.length_toL]; omega) hl)
    have HB := Lib.hid (isName_bad (Pure.toL s))
    rw [hl] at hlc
    have HL := Lib.hid hlc
    clear hlc hl
    go_enter Tryz.func140, Tryz.ntmps140
    go_wp2_with (go_at_call 151; refine (HL.out _).mono ?_; rintro e w' ⟨rfl, rfl⟩)
    go_loop [20] (fun i => ∃ k : Nat, k ≤ s.size ∧ i = .int .i64 k ∧ NamedTo s k) (fun i => s.size - (intOf i).toNat)
    case atStart => exact ⟨0, Nat.zero_le _, rfl, fun i h1 h2 => absurd h2 (Nat.not_lt_zero _)⟩
    case round =>
      obtain ⟨k, hk, rfl, hN⟩ := hrel
      by_cases hlt : k < s.size
      · have hlk := letter_any s[k]
        have HS : Hid (Pure.named s[k] = true → NamedTo s (k + 1)) := fun hn => hN.succ hlt hn
        have HBk : Hid (Pure.named s[k] = false → Pure.isName (Pure.toL s) = false) := fun hn => HB.out k (by rw [Pure.length_toL]; exact hlt) hn
        clear hN
        cases hl : Pure.letter s[k] with
        | true =>
          have hn : Pure.named s[k] = true := by simp [Pure.named, hl]
          have HS' := Lib.hid (HS.out hn)
          rw [hl] at hlk
          have HL' := Lib.hid hlk
          clear hlk hl HS HBk hn
          go_wp2_with (go_at_call 151; refine (HL'.out _).mono ?_; rintro e w' ⟨rfl, rfl⟩)
          go_round
          case rel => exact ⟨k + 1, by omega, by go_num, HS'.out⟩
          case measure => simp [intOf]; omega
        | false =>
          have HE := Lib.hid (named_split s[k] hl)
          rw [hl] at hlk
          have HL' := Lib.hid hlk
          clear hlk hl
          go_wp2_with (go_at_call 151; refine (HL'.out _).mono ?_; rintro e w' ⟨rfl, rfl⟩)
          all_goals
            try simp only [bne_iff_ne, ne_eq, bne_eq_false_iff_eq] at *
            first
            | (go_ret; refine retB_of (HBk.out ?_).symm _; rw [HE.out, Bool.eq_false_iff]; simp only [ne_eq, Bool.or_eq_true, Bool.and_eq_true, decide_eq_true_eq, beq_iff_eq]; omega)
            | (refine ⟨⟨k + 1, by omega, by go_num, HS.out ?_⟩, by simp [intOf]; omega⟩; rw [HE.out]; simp only [Bool.or_eq_true, Bool.and_eq_true, decide_eq_true_eq, beq_iff_eq]; omega)
      · go_wp2_with fail
        go_ret
        obtain rfl : k = s.size := by omega
        exact retB_of (HG.out fun i hi => hN i (by rw [Pure.length_toL] at hi; exact hi) (by rw [Pure.length_toL] at hi; exact hi)).symm _
/-! ### scan.letter, scan.named -/
theorem encode_small (c : UInt8) (h : c.toNat < 128) : Utf8.encode (c.toNat : Int) = ⟨#[c]⟩ := by
  have hv : Utf8.valid (c.toNat : Int) = true := by simp only [Utf8.valid, Bool.or_eq_true, Bool.and_eq_true, decide_eq_true_eq]; omega
  simp only [Utf8.encode, hv, if_true, Int.toNat_natCast]
  rw [if_pos h]
  simp
theorem encode_head (c : UInt8) (h : ¬ c.toNat < 128) : ∃ b r, Pure.toL (Utf8.encode (c.toNat : Int)) = b :: r ∧ 192 ≤ b.toNat := by
  have hv : Utf8.valid (c.toNat : Int) = true := by have := c.toNat_lt; simp only [Utf8.valid, Bool.or_eq_true, Bool.and_eq_true, decide_eq_true_eq]; omega
  have h2 : c.toNat < 2048 := by have := c.toNat_lt; omega
  simp only [Utf8.encode, hv, if_true, Int.toNat_natCast]
  rw [if_neg h, if_pos h2]
  refine ⟨_, _, rfl, ?_⟩
  have := c.toNat_lt
  simp
  omega
theorem name_of_rune (c : UInt8) : (Pure.isName (Pure.toL (Utf8.encode (c.toNat : Int))) && decide (c.toNat < 128)) = Pure.letter c := by
  by_cases h : c.toNat < 128
  · rw [encode_small c h]
    simp [Pure.toL, Pure.isName, h, Pure.named]
    exact fun hl => .inl (.inl (.inl hl))
  · have h1 : Pure.letter c = false := by simp [Pure.letter]; omega
    rw [h1]
    simp [h]
theorem encode_size (c : UInt8) : (Utf8.encode (c.toNat : Int)).size ≤ 140737488355328 := by
  unfold Utf8.encode
  dsimp only
  repeat' split
  all_goals (simp [ByteArray.size])
set_option maxHeartbeats 400000 in
theorem sletter_any (c : UInt8) (w : World) : Calls Tryz.prog 129 #[.int .u8 (c.toNat : Int)] w (RetB (Pure.letter c) w) := by
  have HN := Lib.hid (name_any (Utf8.encode (c.toNat : Int)) w (encode_size c))
  have HR := Lib.hid (name_of_rune c)
  have h0 : 0 ≤ (c.toNat : Int) := by omega
  have h1 := u8_lt c
  cases hb : Pure.isName (Pure.toL (Utf8.encode (c.toNat : Int))) with
  | false =>
    rw [hb] at HN HR
    go_enter Tryz.func129, Tryz.ntmps129
    go_wp2_with (go_at_call 140; refine (HN.out).mono ?_; rintro e w' ⟨rfl, rfl⟩)
    go_ret
    exact retB_of HR.out _
  | true =>
    rw [hb] at HN HR
    go_enter Tryz.func129, Tryz.ntmps129
    go_wp2_with (go_at_call 140; refine (HN.out).mono ?_; rintro e w' ⟨rfl, rfl⟩)
    all_goals
      go_ret
      refine retB_of ?_ _
      rw [← HR.out, Bool.true_and, Bool.eq_iff_iff]
      simp only [decide_eq_true_eq, true_iff, Bool.false_eq_true, false_iff]
      omega
set_option maxHeartbeats 400000 in
theorem snamed_any (c : UInt8) (w : World) : Calls Tryz.prog 152 #[.int .u8 (c.toNat : Int)] w (RetB (Pure.named c) w) := by
  have hlk := sletter_any c w
  cases hl : Pure.letter c with
  | true =>
    have HF := Lib.hid (show Pure.named c = true by simp [Pure.named, hl])
    rw [hl] at hlk
    have HL := Lib.hid hlk
    clear hlk hl
    go_enter Tryz.func152, Tryz.ntmps152
    go_wp2_with (go_at_call 129; refine (HL.out).mono ?_; rintro e w' ⟨rfl, rfl⟩)
    all_goals
      go_ret
      exact retB_of HF.out.symm _
  | false =>
    have HE := Lib.hid (named_split c hl)
    rw [hl] at hlk
    have HL := Lib.hid hlk
    clear hlk hl
    go_enter Tryz.func152, Tryz.ntmps152
    go_wp2_with (go_at_call 129; refine (HL.out).mono ?_; rintro e w' ⟨rfl, rfl⟩)
    all_goals
      go_ret
      refine retB_of ?_ _
      rw [HE.out]
      clear HE HL
      try simp only [bne_iff_ne, ne_eq, bne_eq_false_iff_eq] at *
      first | rfl | (rw [Bool.eq_iff_iff]; simp only [Bool.or_eq_true, Bool.and_eq_true, decide_eq_true_eq, beq_iff_eq, true_iff, Bool.false_eq_true, false_iff, Bool.not_eq_true', decide_eq_false_iff_not]; omega)
end Go.Proofs.YtipfakmbjajhlaaGreatDoor 
