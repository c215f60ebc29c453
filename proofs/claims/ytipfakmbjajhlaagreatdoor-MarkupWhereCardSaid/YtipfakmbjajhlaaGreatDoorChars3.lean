/-
  chars.first, First, text, Text: contracts.
-/
import Derived.Test.YtipfakmbjajhlaaGreatDoorChars2
import Derived.Test.YtipfakmbjajhlaaGreatDoorShelf
set_option linter.unusedVariables false
set_option linter.unusedSimpArgs false
namespace Go.Proofs.YtipfakmbjajhlaaGreatDoor 
open Go.RowKit
/-- The library's and the program's own tables lie where the program's text lays them. -/
structure Tabs (w : World) : Prop where
  utf : Lib.Utf8Tabs 2 3 w
  maxlen : ∃ m, w.cell? ⟨0, 0, none⟩ = some (.int .i64 m)
  named : ∀ i (h : i < Pure.namedRefs.length), w.cell? ⟨1, 2 * i, none⟩ = some (.string (Pure.ofL Pure.namedRefs[i].1)) ∧ w.cell? ⟨1, 2 * i + 1, none⟩ = some (.int .u8 (Pure.namedRefs[i].2.toNat : Int))
  size : 9 ≤ w.heap.size
theorem Tabs.below {w w' : World} {B : Nat} (h : Tabs w) (hb : Below B w w') (hB : 9 ≤ B) : Tabs w' := by
  have hc : ∀ g o, g < 9 → w'.cell? ⟨g, o, none⟩ = w.cell? ⟨g, o, none⟩ := fun g o hg => hb.cell (p := ⟨g, o, none⟩) (by show g < B; omega)
  refine ⟨⟨fun c hc' => ?_, fun i hi => ⟨?_, ?_⟩⟩, ?_, fun i hi => ⟨?_, ?_⟩, Nat.le_trans h.size hb.size⟩
  · rw [hc _ _ (by omega)]; exact h.utf.1 c hc'
  · rw [hc _ _ (by omega)]; exact (h.utf.2 i hi).1
  · rw [hc _ _ (by omega)]; exact (h.utf.2 i hi).2
  · obtain ⟨m, hm⟩ := h.maxlen
    exact ⟨m, by rw [hc _ _ (by omega)]; exact hm⟩
  · rw [hc _ _ (by omega)]; exact (h.named i hi).1
  · rw [hc _ _ (by omega)]; exact (h.named i hi).2
theorem Tabs.drewN {w : World} (h : Tabs w) (n : Nat) : Tabs (w.drewN n) := ⟨h.utf, h.maxlen, h.named, h.size⟩
theorem Tabs.new {w w' : World} (h : Tabs w) (hb : Below w.heap.size w w') : Tabs w' := h.below hb h.size
theorem get!_toL (s : ByteArray) (i : Nat) : (s.get! i).toNat = Pure.byteAt (Pure.toL s) i := by
  unfold Pure.byteAt Pure.toL
  show (s.data[i]!).toNat = _
  simp [List.getD_eq_getElem?_getD, Array.getElem!_eq_getD, Array.getD_eq_getD_getElem?]
  rfl
theorem decodeGo_eq (s : ByteArray) : Lib.decodeGo s = Pure.dec (Pure.toL s) := by
  unfold Lib.decodeGo Pure.dec
  have h : s.size = 0 ↔ Pure.toL s = [] := by rw [← Pure.length_toL]; exact List.length_eq_zero_iff
  by_cases h0 : s.size = 0
  · rw [if_pos h0, if_pos (h.1 h0)]
  · rw [if_neg h0, if_neg (fun e => h0 (h.2 e)), Lib.decode_at, Nat.sub_zero, ← Pure.length_toL]
    simp only [get!_toL, Nat.zero_add]
/-- A rune, a width and an error, as values. -/
def vFirst (x : Int × Int × Int) : Value := .tuple #[.int .i64 x.1, .int .i64 x.2.1, .int .i64 x.2.2]
theorem decN_le (n b0 b1 b2 b3 : Nat) : (Lib.decodeN n b0 b1 b2 b3).2 ≤ 4 := by
  unfold Lib.decodeN
  repeat' split
  all_goals simp
theorem decN_pos (n b0 b1 b2 b3 : Nat) : 1 ≤ (Lib.decodeN n b0 b1 b2 b3).2 := by
  unfold Lib.decodeN
  repeat' split
  all_goals simp
theorem decN_rune (n b0 b1 b2 b3 : Nat) (h0 : b0 < 256) : (Lib.decodeN n b0 b1 b2 b3).1 ≤ 1114111 := by
  unfold Lib.decodeN
  repeat' split
  all_goals (simp only; omega)
theorem byteAt_lt (l : Pure.Bytes) (i : Nat) : Pure.byteAt l i < 256 := UInt8.toNat_lt _
theorem dec_le (l : Pure.Bytes) : (Pure.dec l).2 ≤ 4 := by
  unfold Pure.dec; split
  · simp
  · exact decN_le _ _ _ _ _
theorem dec_rune (l : Pure.Bytes) : (Pure.dec l).1 ≤ 1114111 := by
  unfold Pure.dec; split
  · simp
  · exact decN_rune _ _ _ _ _ (byteAt_lt l 0)
set_option maxHeartbeats 800000 in
theorem first_any (s : ByteArray) (w : World) (hT : Tabs w) : Calls Tryz.prog 119 #[.string s] w (RetN (vFirst (Pure.first (Pure.toL s))) w) := by
  have HD := Lib.hid (Tryz.utf8_DecodeRuneInString s w hT.utf)
  rw [decodeGo_eq] at HD
  have h4 := dec_le (Pure.toL s)
  have h1 := dec_rune (Pure.toL s)
  have hF : Pure.first (Pure.toL s) = (if (Pure.dec (Pure.toL s)).2 = 0 then (0, 0, 4)
  else if ((Pure.dec (Pure.toL s)).1 = 65533 ∧ (Pure.dec (Pure.toL s)).2 = 1) ∨ Pure.can (Pure.dec (Pure.toL s)).1 = false then (0, 0, 7)
  else (((Pure.dec (Pure.toL s)).1 : Int), ((Pure.dec (Pure.toL s)).2 : Int), 0)) := rfl
  rw [hF]
  clear hF
  generalize (Pure.dec (Pure.toL s)).1 = r at *
  generalize (Pure.dec (Pure.toL s)).2 = n at *
  by_cases hn0 : n = 0
  · subst hn0
    go_enter Tryz.func119, Tryz.ntmps119
    go_wp2_with (go_at_call 135; refine (HD.out).mono ?_; rintro e w' ⟨rfl, hb⟩)
    go_ret3
    exact ⟨rfl, hb⟩
  by_cases hbad : r = 65533 ∧ n = 1
  · obtain ⟨rfl, rfl⟩ := hbad
    go_enter Tryz.func119, Tryz.ntmps119
    go_wp2_with (go_at_call 135; refine (HD.out).mono ?_; rintro e w' ⟨rfl, hb⟩)
    go_ret3
    exact ⟨rfl, hb⟩
  have hcn := fun w => can_any (r : Int) w
  have en : (((n : Nat) : Int) == 0) = false := by simp; omega
  have hr32 : 0 ≤ (r : Int) ∧ (r : Int) ≤ 1114111 := by omega
  obtain ⟨r0, r1⟩ := hr32
  cases hc : Pure.can (r : Int) with
  | false =>
    rw [hc] at hcn
    have HC := Lib.hid hcn
    have HV : Hid ((if n = 0 then ((0 : Int), (0 : Int), (4 : Int)) else if (r = 65533 ∧ n = 1) ∨ false = false then (0, 0, 7) else ((r : Int), (n : Int), 0)) = (0, 0, 7)) := by rw [if_neg hn0, if_pos (.inr rfl)]; exact rfl
    rw [HV.out]
    clear HV hcn hc
    by_cases hr : r = 65533
    · subst hr
      have en1 : (((n : Nat) : Int) == 1) = false := by simp; omega
      clear hbad hn0
      go_enter Tryz.func119, Tryz.ntmps119
      go_wp2_with (first | (go_at_call 135; refine (HD.out).mono ?_; rintro e w' ⟨rfl, hb⟩) | (go_at_call 136; refine (HC.out _).mono ?_; rintro e w' ⟨rfl, rfl⟩))
      go_ret3
      exact ⟨rfl, by assumption⟩
    · have er : (((r : Nat) : Int) == 65533) = false := by simp; omega
      clear hbad hn0 hr
      go_enter Tryz.func119, Tryz.ntmps119
      go_wp2_with (first | (go_at_call 135; refine (HD.out).mono ?_; rintro e w' ⟨rfl, hb⟩) | (go_at_call 136; refine (HC.out _).mono ?_; rintro e w' ⟨rfl, rfl⟩))
      go_ret3
      exact ⟨rfl, by assumption⟩
  | true =>
    rw [hc] at hcn
    have HC := Lib.hid hcn
    have HV : Hid ((if n = 0 then ((0 : Int), (0 : Int), (4 : Int)) else if (r = 65533 ∧ n = 1) ∨ true = false then (0, 0, 7) else ((r : Int), (n : Int), 0)) = ((r : Int), (n : Int), 0)) := by rw [if_neg hn0, if_neg (by rintro (h | h); exact hbad h; cases h)]; exact rfl
    rw [HV.out]
    clear HV hcn hc
    by_cases hr : r = 65533
    · subst hr
      have en1 : (((n : Nat) : Int) == 1) = false := by simp; omega
      clear hbad hn0
      go_enter Tryz.func119, Tryz.ntmps119
      go_wp2_with (first | (go_at_call 135; refine (HD.out).mono ?_; rintro e w' ⟨rfl, hb⟩) | (go_at_call 136; refine (HC.out _).mono ?_; rintro e w' ⟨rfl, rfl⟩))
      go_ret3
      exact ⟨rfl, by assumption⟩
    · have er : (((r : Nat) : Int) == 65533) = false := by simp; omega
      clear hbad hn0 hr
      go_enter Tryz.func119, Tryz.ntmps119
      go_wp2_with (first | (go_at_call 135; refine (HD.out).mono ?_; rintro e w' ⟨rfl, hb⟩) | (go_at_call 136; refine (HC.out _).mono ?_; rintro e w' ⟨rfl, rfl⟩))
      go_ret3
      exact ⟨rfl, by assumption⟩
theorem First_any (s : ByteArray) (w : World) (hT : Tabs w) : Calls Tryz.prog 134 #[.string s] w (RetN (vFirst (Pure.first (Pure.toL s))) w) := by
  have HF := Lib.hid (first_any s w hT)
  unfold vFirst at *
  generalize (Pure.first (Pure.toL s)).1 = r at *
  generalize (Pure.first (Pure.toL s)).2.1 = n at *
  generalize (Pure.first (Pure.toL s)).2.2 = e at *
  go_enter Tryz.func134, Tryz.ntmps134
  go_wp2_with (go_at_call 119; refine (HF.out).mono ?_; rintro e w' ⟨rfl, hb⟩)
  go_ret3
  exact ⟨rfl, by assumption⟩
end Go.Proofs.YtipfakmbjajhlaaGreatDoor 
