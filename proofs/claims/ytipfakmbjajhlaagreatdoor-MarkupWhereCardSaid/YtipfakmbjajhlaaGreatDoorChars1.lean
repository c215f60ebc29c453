/-
  chars: which characters and bytes can be: contracts.
-/
import Derived.Test.YtipfakmbjajhlaaGreatDoorKit
set_option linter.unusedVariables false
set_option linter.unusedSimpArgs false
namespace Go.Proofs.YtipfakmbjajhlaaGreatDoor 
open Go.RowKit
set_option maxHeartbeats 400000 in
theorem can_any (r : Int) (w : World) : Calls Tryz.prog 136 #[.int .i64 r] w (RetB (Pure.can r) w) := by
  by_cases h9 : r = 9
  · subst h9; go_enter Tryz.func136, Tryz.ntmps136; go_wp2; go_ret; exact retB_of rfl _
  by_cases h10 : r = 10
  · subst h10; go_enter Tryz.func136, Tryz.ntmps136; go_wp2; go_ret; exact retB_of rfl _
  by_cases h13 : r = 13
  · subst h13; go_enter Tryz.func136, Tryz.ntmps136; go_wp2; go_ret; exact retB_of rfl _
  have b9 : (r == 9) = false := by simp [h9]
  have b10 : (r == 10) = false := by simp [h10]
  have b13 : (r == 13) = false := by simp [h13]
  have hc : Pure.can r = ((decide (32 ≤ r) && decide (r ≤ 55295)) || (decide (57344 ≤ r) && decide (r ≤ 65533)) || (decide (65536 ≤ r) && decide (r ≤ 1114111))) := by simp [Pure.can, b9, b10, b13]
  have HC := Lib.hid hc
  clear hc h9 h10 h13
  go_enter Tryz.func136, Tryz.ntmps136
  go_wp2
  all_goals
    go_ret
    refine retB_of ?_ _
    rw [HC.out]
    clear HC
    first | rfl | (rw [Bool.eq_iff_iff]; simp only [Bool.or_eq_true, Bool.and_eq_true, decide_eq_true_eq, beq_iff_eq, true_iff, Bool.false_eq_true, false_iff, Bool.not_eq_true', decide_eq_false_iff_not]; omega)
theorem letter_any (c : UInt8) (w : World) : Calls Tryz.prog 151 #[.int .u8 (c.toNat : Int)] w (RetB (Pure.letter c) w) := by
  have hc : Pure.letter c = ((decide (97 ≤ (c.toNat : Int)) && decide ((c.toNat : Int) ≤ 122)) || (decide (65 ≤ (c.toNat : Int)) && decide ((c.toNat : Int) ≤ 90)) || (c.toNat : Int) == 95) := by
    rw [Bool.eq_iff_iff]; simp [Pure.letter]; omega
  rw [hc]
  clear hc
  have h0 : 0 ≤ (c.toNat : Int) := by omega
  have h1 := u8_lt c
  generalize (c.toNat : Int) = n at *
  go_enter Tryz.func151, Tryz.ntmps151
  go_wp2
  all_goals
    go_ret
    refine retB_of ?_ _
    first | rfl | (rw [Bool.eq_iff_iff]; simp only [Bool.or_eq_true, Bool.and_eq_true, decide_eq_true_eq, beq_iff_eq, true_iff, Bool.false_eq_true, false_iff, Bool.not_eq_true', decide_eq_false_iff_not]; omega)
set_option maxHeartbeats 400000 in
theorem blank_any (c : UInt8) (w : World) : Calls Tryz.prog 153 #[.int .u8 (c.toNat : Int)] w (RetB (Pure.blank c) w) := by
  have hc : Pure.blank c = ((c.toNat : Int) == 32 || (c.toNat : Int) == 9 || (c.toNat : Int) == 10 || (c.toNat : Int) == 13) := by
    rw [Bool.eq_iff_iff]; simp [Pure.blank]; omega
  rw [hc]
  clear hc
  have h0 : 0 ≤ (c.toNat : Int) := by omega
  have h1 := u8_lt c
  generalize (c.toNat : Int) = n at *
  go_enter Tryz.func153, Tryz.ntmps153
  go_wp2
  all_goals
    go_ret
    refine retB_of ?_ _
    first | rfl | (rw [Bool.eq_iff_iff]; simp only [Bool.or_eq_true, Bool.and_eq_true, decide_eq_true_eq, beq_iff_eq, true_iff, Bool.false_eq_true, false_iff, Bool.not_eq_true', decide_eq_false_iff_not]; omega)
/-- The byte is a decimal digit, or (base 16) a letter of a to f, A to F. -/
def digitB (c : Int) (base : Int) : Bool := (decide (48 ≤ c) && decide (c ≤ 57)) || (base == 16 && ((decide (97 ≤ c) && decide (c ≤ 102)) || (decide (65 ≤ c) && decide (c ≤ 70))))
set_option maxHeartbeats 400000 in
theorem digit_10 (c : UInt8) (w : World) : Calls Tryz.prog 164 #[.int .u8 (c.toNat : Int), .int .i64 10] w (RetB (Pure.isDigit10 c) w) := by
  have hc : Pure.isDigit10 c = (decide (48 ≤ (c.toNat : Int)) && decide ((c.toNat : Int) ≤ 57)) := by
    rw [Bool.eq_iff_iff]; simp [Pure.isDigit10]; omega
  rw [hc]
  clear hc
  have h0 : 0 ≤ (c.toNat : Int) := by omega
  have h1 := u8_lt c
  generalize (c.toNat : Int) = n at *
  go_enter Tryz.func164, Tryz.ntmps164
  go_wp2
  all_goals
    go_ret
    refine retB_of ?_ _
    first | rfl | (rw [Bool.eq_iff_iff]; simp only [Bool.or_eq_true, Bool.and_eq_true, decide_eq_true_eq, beq_iff_eq, true_iff, Bool.false_eq_true, false_iff, Bool.not_eq_true', decide_eq_false_iff_not]; omega)
end Go.Proofs.YtipfakmbjajhlaaGreatDoor 
