/-
  chars.text, Text: contracts.
-/
import Derived.Test.YtipfakmbjajhlaaGreatDoorChars3
set_option linter.unusedVariables false
set_option linter.unusedSimpArgs false
namespace Go.Proofs.YtipfakmbjajhlaaGreatDoor 
open Go.RowKit
theorem decN_len (n b0 b1 b2 b3 : Nat) (hn : 0 < n) : (Lib.decodeN n b0 b1 b2 b3).2 ≤ n := by
  unfold Lib.decodeN
  repeat' split
  all_goals (simp only; omega)
theorem first_len (l : Pure.Bytes) (h : (Pure.first l).2.2 = 0) : 1 ≤ (Pure.first l).2.1 ∧ (Pure.first l).2.1 ≤ l.length := by
  by_cases hl : l = []
  · subst hl; exact absurd h (by decide)
  have e : Pure.dec l = Lib.decodeN l.length (Pure.byteAt l 0) (Pure.byteAt l 1) (Pure.byteAt l 2) (Pure.byteAt l 3) := by unfold Pure.dec; rw [if_neg hl]
  have hp : 0 < l.length := List.length_pos_iff.2 hl
  have h1 : 1 ≤ (Pure.dec l).2 := by rw [e]; exact decN_pos _ _ _ _ _
  have h2 : (Pure.dec l).2 ≤ l.length := by rw [e]; exact decN_len _ _ _ _ _ hp
  unfold Pure.first at h ⊢
  rw [if_neg (by omega)] at h ⊢
  by_cases hb : ((Pure.dec l).1 = 65533 ∧ (Pure.dec l).2 = 1) ∨ Pure.can (Pure.dec l).1 = false
  · rw [if_pos hb] at h; exact absurd h (by decide)
  · rw [if_neg hb]; simp only; omega
theorem first_err (l : Pure.Bytes) : (Pure.first l).2.2 = 0 ∨ (Pure.first l).2.2 = 4 ∨ (Pure.first l).2.2 = 7 := by
  unfold Pure.first
  split
  · simp
  · split <;> simp
theorem toL_extract (s : ByteArray) (k : Nat) : Pure.toL (s.extract k s.size) = (Pure.toL s).drop k := by
  unfold Pure.toL
  rw [Lib.extract_data]
  have : s.size = s.data.toList.length := (Array.length_toList).symm
  rw [this, List.take_of_length_le (by simp)]
/-- What is left of a text to be looked at, from byte k on. -/
def TextAt (s : ByteArray) (R : Int × Int) (k f : Nat) : Prop := Pure.textFrom f ((Pure.toL s).drop k) k = R
theorem TextAt.bad {s : ByteArray} {R : Int × Int} {k f : Nat} (h : TextAt s R k (f + 1)) (hk : k < s.size) (he : ¬ (Pure.first ((Pure.toL s).drop k)).2.2 = 0) : R = ((k : Int), (Pure.first ((Pure.toL s).drop k)).2.2) := by
  unfold TextAt at h
  rw [← h]
  have hne : (Pure.toL s).drop k ≠ [] := by
    intro e; have := congrArg List.length e; simp [Pure.length_toL] at this; omega
  simp only [Pure.textFrom]
  rw [if_neg hne, if_neg he]
theorem TextAt.good {s : ByteArray} {R : Int × Int} {k f : Nat} {n : Nat} (h : TextAt s R k (f + 1)) (hk : k < s.size) (he : (Pure.first ((Pure.toL s).drop k)).2.2 = 0) (hn : (Pure.first ((Pure.toL s).drop k)).2.1 = n) : TextAt s R (k + n) f := by
  unfold TextAt at h ⊢
  rw [← h]
  have hne : (Pure.toL s).drop k ≠ [] := by
    intro e; have := congrArg List.length e; simp [Pure.length_toL] at this; omega
  simp only [Pure.textFrom]
  rw [if_neg hne, if_pos he, hn, List.drop_drop]
  simp
theorem TextAt.stop {s : ByteArray} {R : Int × Int} {f : Nat} (h : TextAt s R s.size (f + 1)) : R = (0, 0) := by
  unfold TextAt at h
  rw [← h]
  simp only [Pure.textFrom]
  rw [if_pos (by rw [← Pure.length_toL]; exact List.drop_length)]
/-- A place and an error. -/
def vPair (x : Int × Int) : Value := .tuple #[.int .i64 x.1, .int .i64 x.2]
def RetP (x : Int × Int) (w : World) (e : Ending) (w' : World) : Prop := e = .returned (vPair x) ∧ Below w.heap.size w w'
set_option maxHeartbeats 1000000 in
theorem text_any (s : ByteArray) (w : World) (hT : Tabs w) (hs : s.size ≤ 140737488355328) : Calls Tryz.prog 98 #[.string s] w (RetP (Pure.text (Pure.toL s)) w) := by
  by_cases hl : 16384 < s.size
  · have hR : Pure.text (Pure.toL s) = (0, 2) := by unfold Pure.text; rw [if_pos (by rw [Pure.length_toL]; exact hl)]
    rw [hR]
    clear hR
    go_enter Tryz.func98, Tryz.ntmps98
    go_wp2
    go_ret2
    exact ⟨rfl, Below.refl _ _⟩
  have hR : TextAt s (Pure.text (Pure.toL s)) 0 (s.size + 1) := by unfold Pure.text TextAt; rw [if_neg (by rw [Pure.length_toL]; exact hl), Pure.length_toL]; rfl
  generalize Pure.text (Pure.toL s) = R at *
  have HR := Lib.hid hR
  clear hR
  go_enter Tryz.func98, Tryz.ntmps98
  go_wp2
  go_loopw [4] (fun i wr => ∃ k f : Nat, k ≤ s.size ∧ i = .int .i64 k ∧ s.size < k + f ∧ TextAt s R k f ∧ Below w.heap.size w wr) (fun i _ => s.size - (intOf i).toNat)
  case atStart => exact ⟨0, s.size + 1, Nat.zero_le _, rfl, by omega, HR.out, Below.refl _ _⟩
  case round =>
    obtain ⟨k, f, hk, rfl, hf, hA, hb⟩ := hrel
    obtain ⟨f, rfl⟩ : ∃ f', f = f' + 1 := ⟨f - 1, by omega⟩
    by_cases hlt : k < s.size
    · have hF := first_any (s.extract k s.size) wr (hT.below hb hT.size)
      rw [toL_extract] at hF
      have hlen := first_len ((Pure.toL s).drop k)
      have HBad := Lib.hid (hA.bad hlt)
      have HGood := Lib.hid (fun n => hA.good (n := n) hlt)
      clear hA
      unfold vFirst at hF
      have hr := first_err ((Pure.toL s).drop k)
      have hdl : ((Pure.toL s).drop k).length = s.size - k := by rw [List.length_drop, Pure.length_toL]
      rw [hdl] at hlen
      generalize (Pure.first ((Pure.toL s).drop k)).1 = r at *
      generalize (Pure.first ((Pure.toL s).drop k)).2.1 = n at *
      generalize (Pure.first ((Pure.toL s).drop k)).2.2 = e at *
      have HF := Lib.hid hF
      clear hF hdl
      have HB := Lib.hid hb
      clear hb
      by_cases he : e = 0
      · obtain ⟨n1, n2⟩ := hlen he
        clear hlen hr
        subst he
        obtain ⟨m, rfl⟩ : ∃ m : Nat, n = m := ⟨n.toNat, by omega⟩
        have HN := Lib.hid (HGood m rfl rfl)
        clear HGood HBad
        go_wp2_with (go_at_call 119; refine (HF.out).mono ?_; rintro e w' ⟨rfl, hb1⟩)
        go_roundw
        case rel => exact ⟨k + m, f, by omega, by go_num, by omega, HN.out, Below.thenNew HB.out HB.out.size (by assumption)⟩
        case measure => simp [intOf]; omega
      · have hne : (e != 0) = true := by rw [bne_iff_ne]; exact he
        have HV := Lib.hid (HBad.out he)
        clear hlen HGood HBad he
        go_wp2_with (go_at_call 119; refine (HF.out).mono ?_; rintro e w' ⟨rfl, hb1⟩)
        go_ret2
        exact ⟨by rw [HV.out]; rfl, Below.thenNew HB.out HB.out.size (by assumption)⟩
    · obtain rfl : k = s.size := by omega
      have HV := Lib.hid hA.stop
      clear hA
      go_wp2
      go_ret2
      exact ⟨by rw [HV.out]; rfl, by assumption⟩
end Go.Proofs.YtipfakmbjajhlaaGreatDoor 
