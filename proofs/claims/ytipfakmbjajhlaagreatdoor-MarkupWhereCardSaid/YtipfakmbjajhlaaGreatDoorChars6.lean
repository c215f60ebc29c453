/-
  chars.numbered in base 10: contract.
-/
import Derived.Test.YtipfakmbjajhlaaGreatDoorChars5
import Derived.Lib.ParseIntB
import Derived.Lib.SmallJoins
set_option linter.unusedVariables false
set_option linter.unusedSimpArgs false
namespace Go.Proofs.YtipfakmbjajhlaaGreatDoor 
open Go.RowKit
theorem digits_foldl (M : Nat) (hM : 9999999 ≤ M) : ∀ (l : Pure.Bytes) (acc k : Nat), l.all Pure.isDigit10 = true → acc < 10 ^ k → k + l.length ≤ 7 →
    Lib.parseUintM M acc l = .ok (l.foldl (fun n c => n * 10 + (c.toNat - 48)) acc) ∧ l.foldl (fun n c => n * 10 + (c.toNat - 48)) acc < 10 ^ (k + l.length) := by
  intro l
  induction l with
  | nil => intro acc k _ h _; exact ⟨rfl, h⟩
  | cons c l ih =>
    intro acc k ha hk hl
    simp only [List.all_cons, Bool.and_eq_true, Pure.isDigit10, decide_eq_true_eq] at ha
    simp only [List.length_cons] at hl
    have h1 : acc * 10 + (c.toNat - 48) < 10 ^ (k + 1) := by rw [Nat.pow_succ]; omega
    have h7 : 10 ^ (k + 1) ≤ 10 ^ 7 := Nat.pow_le_pow_right (by decide) (by omega)
    have h7' : (10 : Nat) ^ 7 = 10000000 := by decide
    obtain ⟨e1, e2⟩ := ih (acc * 10 + (c.toNat - 48)) (k + 1) (by simpa [Pure.isDigit10] using ha.2) h1 (by omega)
    simp only [List.foldl_cons, List.length_cons]
    refine ⟨?_, by rw [show k + (l.length + 1) = k + 1 + l.length from by omega]; exact e2⟩
    unfold Lib.parseUintM
    rw [if_pos ha.1, if_neg (by omega), if_neg (by omega)]
    exact e1
theorem parse_digits (l : Pure.Bytes) (h0 : l ≠ []) (ha : l.all Pure.isDigit10 = true) (h7 : l.length ≤ 7) :
    Lib.parseIntB 64 l = .ok (Pure.digitsVal l : Int) ∧ Pure.digitsVal l < 10000000 := by
  obtain ⟨e1, e2⟩ := digits_foldl (2 ^ 64 - 1) (by decide) l 0 0 ha (by decide) (by omega)
  have hle : 10 ^ (0 + l.length) ≤ 10 ^ 7 := Nat.pow_le_pow_right (by decide) (by omega)
  have h7' : (10 : Nat) ^ 7 = 10000000 := by decide
  have hv : Pure.digitsVal l < 10000000 := by unfold Pure.digitsVal; omega
  refine ⟨?_, hv⟩
  cases l with
  | nil => exact absurd rfl h0
  | cons c r =>
    simp only [List.all_cons, Bool.and_eq_true, Pure.isDigit10, decide_eq_true_eq] at ha
    have n43 : ¬ (c.toNat = 43 ∨ c.toNat = 45) := by omega
    have n45 : ¬ c.toNat = 45 := by omega
    unfold Lib.parseIntB
    simp only
    rw [if_neg n43]
    unfold Lib.parseUintB
    rw [if_neg (by simp), e1]
    simp only
    have hv' : Pure.digitsVal (c :: r) = List.foldl (fun n c => n * 10 + (c.toNat - 48)) 0 (c :: r) := rfl
    rw [hv'] at hv
    rw [if_neg (by rintro ⟨_, h⟩; have : (2 : Nat) ^ (64 - 1) = 9223372036854775808 := by decide
                   omega), if_neg (by rintro ⟨h, _⟩; exact n45 h), if_neg n45]
    rfl
/-- The digits of a reference by a number. -/
def digs (l : Pure.Bytes) : Pure.Bytes := ((l.drop 2).take 7).takeWhile Pure.isDigit10
theorem takeWhile_next {α : Type} (p : α → Bool) (l : List α) : (l.takeWhile p).length = l.length ∨ ∃ a, l[(l.takeWhile p).length]? = some a ∧ p a = false := by
  induction l with
  | nil => exact .inl rfl
  | cons a l ih =>
    by_cases ha : p a = true
    · simp only [List.takeWhile_cons_of_pos ha, List.length_cons]
      rcases ih with ih | ⟨b, h, ih⟩
      · exact .inl (by rw [ih])
      · exact .inr ⟨b, by simpa using h, ih⟩
    · rw [List.takeWhile_cons_of_neg ha]
      exact .inr ⟨a, by simp, by simpa using ha⟩
theorem takeWhile_eq_take {α : Type} (p : α → Bool) (l : List α) : l.takeWhile p = l.take (l.takeWhile p).length := by
  induction l with
  | nil => rfl
  | cons a l ih =>
    by_cases ha : p a = true
    · simp only [List.takeWhile_cons_of_pos ha, List.length_cons, List.take_succ_cons]
      rw [← ih]
    · rw [List.takeWhile_cons_of_neg ha]; rfl
theorem takeWhile_all {α : Type} (p : α → Bool) (l : List α) : (l.takeWhile p).all p = true := by
  induction l with
  | nil => rfl
  | cons a l ih =>
    by_cases ha : p a = true
    · rw [List.takeWhile_cons_of_pos ha]; simp [ha, ih]
    · rw [List.takeWhile_cons_of_neg ha]; rfl
/-- All that the walk asks of the digits. -/
structure Digs (s : ByteArray) (d : Nat) : Prop where
  eq : digs (Pure.toL s) = ((Pure.toL s).drop 2).take d
  le : d ≤ 7
  fits : 2 + d ≤ s.size
  good : ∀ j (h : 2 + j < s.size), j < d → Pure.isDigit10 s[2 + j] = true
  stop : d = 7 ∨ 2 + d = s.size ∨ ∃ h : 2 + d < s.size, Pure.isDigit10 s[2 + d] = false
  len : (digs (Pure.toL s)).length = d
theorem digs_at (s : ByteArray) (h2 : 2 ≤ s.size) : Digs s (digs (Pure.toL s)).length := by
  have hl := Pure.length_toL s
  have hn := takeWhile_next Pure.isDigit10 (((Pure.toL s).drop 2).take 7)
  have ht := takeWhile_eq_take Pure.isDigit10 (((Pure.toL s).drop 2).take 7)
  have ha := takeWhile_all Pure.isDigit10 (((Pure.toL s).drop 2).take 7)
  have hle : (digs (Pure.toL s)).length ≤ (((Pure.toL s).drop 2).take 7).length := (List.takeWhile_prefix _).length_le
  change (digs (Pure.toL s)).length = _ ∨ ∃ a, (((Pure.toL s).drop 2).take 7)[(digs (Pure.toL s)).length]? = some a ∧ _ at hn
  change digs (Pure.toL s) = List.take (digs (Pure.toL s)).length _ at ht
  change (digs (Pure.toL s)).all _ = true at ha
  have hL : (((Pure.toL s).drop 2).take 7).length = min 7 (s.size - 2) := by rw [List.length_take, List.length_drop, hl]
  rw [hL] at hle
  have heq : digs (Pure.toL s) = ((Pure.toL s).drop 2).take (digs (Pure.toL s)).length := by
    have h := ht
    rw [List.take_take] at h
    rw [show min (digs (Pure.toL s)).length 7 = (digs (Pure.toL s)).length from by omega] at h
    exact h
  refine ⟨heq, by omega, by omega, fun j hj hjd => ?_, ?_, rfl⟩
  · rw [List.all_eq_true] at ha
    have hjl : j < (digs (Pure.toL s)).length := hjd
    have hm := ha _ (List.getElem_mem hjl)
    have hg : (digs (Pure.toL s))[j] = s[2 + j] := by
      have h1 : (digs (Pure.toL s))[j]? = (((Pure.toL s).drop 2).take (digs (Pure.toL s)).length)[j]? := by rw [← heq]
      rw [List.getElem?_eq_getElem hjl, List.getElem?_take_of_lt hjl, List.getElem?_drop, List.getElem?_eq_getElem (by omega)] at h1
      have h3 := Option.some.inj h1
      rw [h3]
      exact toL_get s (2 + j) hj
    rw [hg] at hm
    exact hm
  · rcases hn with hn | ⟨x, hn, hp⟩
    · rw [hL] at hn
      omega
    · right; right
      have hlt : (digs (Pure.toL s)).length < min 7 (s.size - 2) := by
        have := (List.getElem?_eq_some_iff.1 hn).1
        rw [hL] at this; exact this
      refine ⟨by omega, ?_⟩
      rw [List.getElem?_take_of_lt (by omega), List.getElem?_drop, List.getElem?_eq_getElem (by omega)] at hn
      have h3 := Option.some.inj hn
      rw [← h3] at hp
      exact hp
end Go.Proofs.YtipfakmbjajhlaaGreatDoor 
