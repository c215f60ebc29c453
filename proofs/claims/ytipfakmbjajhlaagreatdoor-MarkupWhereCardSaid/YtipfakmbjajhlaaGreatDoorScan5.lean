/-
  The reader's method name.
-/
import Derived.Test.YtipfakmbjajhlaaGreatDoorScan4
set_option linter.unusedVariables false
set_option linter.unusedSimpArgs false
namespace Go.Proofs.YtipfakmbjajhlaaGreatDoor 
open Go.RowKit
variable {T : Teller} {B : Nat} {src : ByteArray} {rb : Nat} {st : Pure.St} {w : World}
theorem Name_q (s : ByteArray) (w : World) (hs : s.size ≤ 140737488355328) : Calls Tryz.prog 140 #[.string s] w fun e w' => e = .returned (.bool (Pure.isName (Pure.toL s))) ∧ w' = w := (name_any s w hs).mono fun e w' h => ⟨h.1, h.2.symm⟩
def encS (s : ByteArray) : Value := .string s
theorem name_eq {k0 k : Nat} (hr : st.rest = (Pure.toL src).drop k0) (h : Ran Pure.named src k0 k) (hs : k = src.size ∨ ∃ hk : k < src.size, Pure.named src[k] = false) :
    Pure.name st = if Pure.isName (Pure.toL (src.extract k0 k)) = true then .ok (src.extract k0 k) { st with rest := (Pure.toL src).drop k } else .fail ((Pure.toL src).drop k0).length 6 st.evs := by
  unfold Pure.name
  rw [hr, h.drop hs, h.take hs]
  have e : Pure.toL (src.extract k0 k) = ((Pure.toL src).drop k0).take (k - k0) := by
    have := extract_from src k0 (k - k0)
    rw [show k0 + (k - k0) = k from by have := h.1; omega] at this
    exact this
  rw [← e, Pure.ofL_toL]
/-- At the end of the loop: what is left to be walked. -/
theorem name_size (k0 k : Nat) (hk : k ≤ src.size) (hs : src.size ≤ 262144) : (src.extract k0 k).size ≤ 140737488355328 := by simp; omega
set_option maxRecDepth 100000 in
set_option maxHeartbeats 3200000 in
theorem name_R (h : Inv T B src rb st w) : Calls Tryz.prog 144 #[.pointer (some ⟨rb, 0, none⟩)] w (Out T B src rb w encS (Pure.name st)) := by
  obtain ⟨k, ov, tp, tv, S, Hm, hk, Hr, Hl, c0, c1, c2, c3, c4, c5, c6, hf⟩ := h.parts
  have hs := h.size
  have H := Lib.hid h
  clear h
  have hst : Hid (st = { st with rest := (Pure.toL src).drop k }) := by rw [← Hr.out]; exact rfl
  go_enter Tryz.func144, Tryz.ntmps144
  go_wp2_with fail
  go_loopg [] (src.size - k) (fun n wr => ∃ k', Ran Pure.named src k k' ∧ n = src.size - k' ∧ Inv T B src rb { st with rest := (Pure.toL src).drop k' } wr ∧ Below B w wr)
  case atStart => exact ⟨k, ⟨Nat.le_refl _, hk, fun i _ h0 h1 => by omega⟩, rfl, hst.out ▸ H.out, Below.refl _ _⟩
  case round =>
    obtain ⟨k', hR, rfl, hI, hb⟩ := hrel
    obtain ⟨k2, ov2, tp2, tv2, S2, Hm2, hk2, Hr2, Hl2, d0, d1, d2, d3, d4, d5, d6, df⟩ := hI.parts
    obtain rfl : k2 = k' := by
      have h1 := Hl2.out
      simp only [List.length_drop, Pure.length_toL] at h1
      have := hR.2.1
      omega
    have hkk := hR.1
    have HI := Lib.hid hI
    have HR := Lib.hid hR
    have Hb := Lib.hid hb
    clear hI hR hb c0 c1 c2 c3 c4 c5 c6 hf
    by_cases hlt : k2 < src.size
    · cases hbl : Pure.named src[k2] with
      | true =>
        have hq := named_q src[k2]
        rw [hbl] at hq
        have HQ := Lib.hid hq
        have HN := Lib.hid (HR.out.next hlt hbl)
        clear hq hbl
        go_wp2_with fail
        go_quiet ((go_at_call 152; exact Calls.quiet_of_same (HQ.out _)))
        go_wp2_with fail
        go_roundg (src.size - (k2 + 1))
        case measure => omega
        case rel => exact ⟨k2 + 1, HN.out, rfl, moved HI.out Hm2.out hlt, Below.setCell (Below.drewN Hb.out _) HI.out.base _⟩
      | false =>
        have hq := named_q src[k2]
        rw [hbl] at hq
        have HQ := Lib.hid hq
        have HN := Lib.hid (fun w => Name_q (src.extract k k2) w (name_size k k2 hk2 hs))
        have HV := Lib.hid (name_eq Hr.out HR.out (.inr ⟨hlt, hbl⟩))
        clear hq hbl
        go_wp2_with fail
        go_quiet ((go_at_call 152; exact Calls.quiet_of_same (HQ.out _)))
        cases hnm : Pure.isName (Pure.toL (src.extract k k2)) with
        | true =>
          rw [hnm] at HN
          have HV2 := Lib.hid (HV.out.trans (if_pos hnm))
          clear hnm HV
          go_wp2_with fail
          go_quiet (fail)
          go_wp2_with (go_at_call 140; refine (HN.out _).mono ?_; rintro e' w' ⟨rfl, rfl⟩)
          go_ret
          rw [HV2.out]
          exact ⟨rfl, HI.out.drewN _, Below.drewN Hb.out _⟩
        | false =>
          rw [hnm] at HN
          have HV2 := Lib.hid (HV.out.trans (if_neg (by rw [hnm]; decide)))
          clear hnm HV
          go_wp2_with fail
          go_quiet (fail)
          go_wp2_with (first | (go_at_call 140; refine (HN.out _).mono ?_; rintro e' w' ⟨rfl, rfl⟩) | (go_at_call 96; refine (fail_any _ _ _ _).mono ?_; rintro e' w2 ⟨rfl, rfl⟩))
          rw [HV2.out]
          exact ⟨rfl, out_fail (st := { st with rest := (Pure.toL src).drop k2 }) (left := ((Pure.toL src).drop k).length) (HI.out.drewN _) (Below.drewN Hb.out _) (by rw [List.length_drop, Pure.length_toL]; omega)⟩
    · obtain rfl : k2 = src.size := by omega
      have hd : decide ((src.size : Int) < (src.size : Int)) = false := by simp
      have HN := Lib.hid (fun w => Name_q (src.extract k src.size) w (name_size k src.size hk2 hs))
      have HV := Lib.hid (name_eq Hr.out HR.out (.inl rfl))
      go_wp2_with fail
      go_quiet (fail)
      cases hnm : Pure.isName (Pure.toL (src.extract k src.size)) with
      | true =>
        rw [hnm] at HN
        have HV2 := Lib.hid (HV.out.trans (if_pos hnm))
        clear hnm HV
        go_wp2_with fail
        go_quiet (fail)
        go_wp2_with (go_at_call 140; refine (HN.out _).mono ?_; rintro e' w' ⟨rfl, rfl⟩)
        go_ret
        rw [HV2.out]
        exact ⟨rfl, HI.out.drewN _, Below.drewN Hb.out _⟩
      | false =>
        rw [hnm] at HN
        have HV2 := Lib.hid (HV.out.trans (if_neg (by rw [hnm]; decide)))
        clear hnm HV
        go_wp2_with fail
        go_quiet (fail)
        go_wp2_with (first | (go_at_call 140; refine (HN.out _).mono ?_; rintro e' w' ⟨rfl, rfl⟩) | (go_at_call 96; refine (fail_any _ _ _ _).mono ?_; rintro e' w2 ⟨rfl, rfl⟩))
        rw [HV2.out]
        exact ⟨rfl, out_fail (st := { st with rest := (Pure.toL src).drop src.size }) (left := ((Pure.toL src).drop k).length) (HI.out.drewN _) (Below.drewN Hb.out _) (by rw [List.length_drop, Pure.length_toL]; omega)⟩
end Go.Proofs.YtipfakmbjajhlaaGreatDoor 
