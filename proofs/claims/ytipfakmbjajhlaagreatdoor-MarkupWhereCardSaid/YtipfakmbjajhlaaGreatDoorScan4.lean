/-
  The reader's methods: blanks, name.
-/
import Derived.Test.YtipfakmbjajhlaaGreatDoorScan3
set_option linter.unusedVariables false
set_option linter.unusedSimpArgs false
namespace Go.Proofs.YtipfakmbjajhlaaGreatDoor 
open Go.RowKit
variable {T : Teller} {B : Nat} {src : ByteArray} {rb : Nat} {st : Pure.St} {w : World}
theorem blank_q (c : UInt8) (w : World) : Calls Tryz.prog 153 #[.int .u8 (c.toNat : Int)] w fun e w' => e = .returned (.bool (Pure.blank c)) ∧ w' = w := (blank_any c w).mono fun e w' h => ⟨h.1, h.2.symm⟩
theorem named_q (c : UInt8) (w : World) : Calls Tryz.prog 152 #[.int .u8 (c.toNat : Int)] w fun e w' => e = .returned (.bool (Pure.named c)) ∧ w' = w := (snamed_any c w).mono fun e w' h => ⟨h.1, h.2.symm⟩
/-- The bytes from k0 to k all meet a test. -/
def Ran (p : UInt8 → Bool) (src : ByteArray) (k0 k : Nat) : Prop := k0 ≤ k ∧ k ≤ src.size ∧ ∀ i (h : i < src.size), k0 ≤ i → i < k → p src[i] = true
theorem Ran.next {p : UInt8 → Bool} {k0 k : Nat} (h : Ran p src k0 k) (hk : k < src.size) (hp : p src[k] = true) : Ran p src k0 (k + 1) :=
  ⟨by have := h.1; omega, hk, fun i hi h0 h1 => by by_cases e : i = k; subst e; exact hp; exact h.2.2 i hi h0 (by omega)⟩
theorem Ran.drop {p : UInt8 → Bool} {k0 k : Nat} (h : Ran p src k0 k) (hs : k = src.size ∨ ∃ hk : k < src.size, p src[k] = false) : ((Pure.toL src).drop k0).dropWhile p = (Pure.toL src).drop k := by
  obtain ⟨d, rfl⟩ : ∃ d, k = k0 + d := ⟨k - k0, by have := h.1; omega⟩
  induction d generalizing k0 with
  | zero =>
    rw [Nat.add_zero] at *
    rcases hs with hs | ⟨hk, hs⟩
    · rw [hs, ← Pure.length_toL, List.drop_length]; rfl
    · rw [drop_cons src k0 hk, List.dropWhile_cons_of_neg (by rw [hs]; decide)]
  | succ d ih =>
    have hlt : k0 < src.size := by have := h.2.1; omega
    rw [drop_cons src k0 hlt, List.dropWhile_cons_of_pos (h.2.2 k0 hlt (Nat.le_refl _) (by omega))]
    have e : k0 + (d + 1) = k0 + 1 + d := by omega
    rw [e]
    refine ih (k0 := k0 + 1) ?_ ?_
    · rw [← e]; exact ⟨by omega, h.2.1, fun i hi h0 h1 => h.2.2 i hi (by omega) h1⟩
    · rw [← e]; exact hs
theorem Ran.take {p : UInt8 → Bool} {k0 k : Nat} (h : Ran p src k0 k) (hs : k = src.size ∨ ∃ hk : k < src.size, p src[k] = false) : ((Pure.toL src).drop k0).takeWhile p = ((Pure.toL src).drop k0).take (k - k0) := by
  have h1 := h.drop hs
  have h2 := List.takeWhile_append_dropWhile (p := p) (l := (Pure.toL src).drop k0)
  rw [h1] at h2
  have h3 : ((Pure.toL src).drop k0).take (k - k0) ++ ((Pure.toL src).drop k0).drop (k - k0) = (Pure.toL src).drop k0 := List.take_append_drop _ _
  rw [List.drop_drop, show k0 + (k - k0) = k from by have := h.1; omega] at h3
  exact List.append_cancel_right (h2.trans h3.symm)
theorem Inv.at_ {k : Nat} {ov tp tv : Value} {S : Nat → Prop} (h : Inv T B src rb st w) (hm : Mem T B src rb k st ov tp tv S w) (hk : k ≤ src.size) (r : Pure.Bytes) (hr : r = (Pure.toL src).drop k) : Inv T B src rb { st with rest := r } w :=
  { h with mem := ⟨k, ov, tp, tv, S, ⟨hm.rd, hm.opn, hm.own, hm.buf, hm.told, hm.above, hm.apart⟩, hk, hr⟩ }
theorem moved {k nq : Nat} {r : Pure.Bytes} {ov tp tv : Value} {S : Nat → Prop} (h : Inv T B src rb { st with rest := r } w) (hm : Mem T B src rb k { st with rest := r } ov tp tv S w) (hk : k < src.size) :
    Inv T B src rb { st with rest := (Pure.toL src).drop (k + 1) } ((w.setCell ⟨rb, 1, none⟩ (.int .i64 ((k : Int) + 1))).drewN nq) := by
  have := h.move hm (k' := k + 1) hk nq
  exact this
theorem blanks_eq {k0 k : Nat} (hr : st.rest = (Pure.toL src).drop k0) (h : Ran Pure.blank src k0 k) (hs : k = src.size ∨ ∃ hk : k < src.size, Pure.blank src[k] = false) :
    Pure.blanks st = .ok (decide (k0 < k)) { st with rest := (Pure.toL src).drop k } := by
  unfold Pure.blanks
  rw [hr, h.drop hs]
  congr 1
  by_cases hlt : k0 < src.size
  · rw [drop_cons src k0 hlt]
    simp only
    by_cases hkk : k0 < k
    · rw [h.2.2 k0 hlt (Nat.le_refl _) hkk]; simp [hkk]
    · have e : k = k0 := by have := h.1; omega
      subst e
      rcases hs with hs | ⟨_, hs⟩
      · omega
      · rw [hs]; simp
  · have e : k0 = src.size := by have := h.1; have := h.2.1; omega
    have e2 : k = src.size := by have := h.1; have := h.2.1; omega
    subst e2
    rw [← Pure.length_toL, List.drop_eq_nil_of_le (by rw [Pure.length_toL]; omega)]
    simp [e, Pure.length_toL]
set_option maxRecDepth 100000 in
set_option maxHeartbeats 1600000 in
theorem blanks_R (h : Inv T B src rb st w) : Calls Tryz.prog 145 #[.pointer (some ⟨rb, 0, none⟩)] w (Out T B src rb w (fun b => .bool b) (Pure.blanks st)) := by
  obtain ⟨k, ov, tp, tv, S, Hm, hk, Hr, Hl, c0, c1, c2, c3, c4, c5, c6, hf⟩ := h.parts
  have hs := h.size
  have H := Lib.hid h
  clear h
  have hst : Hid (st = { st with rest := (Pure.toL src).drop k }) := by rw [← Hr.out]; exact rfl
  go_enter Tryz.func145, Tryz.ntmps145
  go_wp2_with fail
  go_loopg [] (src.size - k) (fun n wr => ∃ k', Ran Pure.blank src k k' ∧ n = src.size - k' ∧ Inv T B src rb { st with rest := (Pure.toL src).drop k' } wr ∧ Below B w wr)
  case atStart => exact ⟨k, ⟨Nat.le_refl _, hk, fun i _ h0 h1 => by omega⟩, rfl, hst.out ▸ H.out, Below.refl _ _⟩
  case round =>
    obtain ⟨k', hR, rfl, hI, hb⟩ := hrel
    obtain ⟨k2, ov2, tp2, tv2, S2, Hm2, hk2, Hr2, Hl2, d0, d1, d2, d3, d4, d5, d6, df⟩ := hI.parts
    obtain rfl : k2 = k' := by
      have h1 := Hl2.out
      simp only [List.length_drop, Pure.length_toL] at h1
      have := hR.2.1
      omega
    have HI := Lib.hid hI
    have HR := Lib.hid hR
    have Hb := Lib.hid hb
    clear hI hR hb c0 c1 c2 c3 c4 c5 c6 hf
    by_cases hlt : k2 < src.size
    · cases hbl : Pure.blank src[k2] with
      | true =>
        have hq := blank_q src[k2]
        rw [hbl] at hq
        have HQ := Lib.hid hq
        have HN := Lib.hid (HR.out.next hlt hbl)
        clear hq hbl
        go_wp2_with fail
        go_quiet ((go_at_call 153; exact Calls.quiet_of_same (HQ.out _)))
        go_wp2_with fail
        go_roundg (src.size - (k2 + 1))
        case measure => omega
        case rel => exact ⟨k2 + 1, HN.out, rfl, moved HI.out Hm2.out hlt, Below.setCell (Below.drewN Hb.out _) HI.out.base _⟩
      | false =>
        have hq := blank_q src[k2]
        rw [hbl] at hq
        have HQ := Lib.hid hq
        have HN := Lib.hid (HR.out.drop (.inr ⟨hlt, hbl⟩))
        have HV := Lib.hid (blanks_eq Hr.out HR.out (.inr ⟨hlt, hbl⟩))
        clear hq hbl
        go_wp2_with fail
        go_quiet ((go_at_call 153; exact Calls.quiet_of_same (HQ.out _)))
        go_wp2_with fail
        go_ret
        rw [HV.out]
        exact ⟨rfl, HI.out.drewN _, Below.drewN Hb.out _⟩
    · obtain rfl : k2 = src.size := by omega
      have hd : decide ((src.size : Int) < (src.size : Int)) = false := by simp
      have HV := Lib.hid (blanks_eq Hr.out HR.out (.inl rfl))
      go_wp2_with fail
      go_quiet (fail)
      go_wp2_with fail
      go_ret
      rw [HV.out]
      exact ⟨rfl, HI.out.drewN _, Below.drewN Hb.out _⟩
end Go.Proofs.YtipfakmbjajhlaaGreatDoor 
