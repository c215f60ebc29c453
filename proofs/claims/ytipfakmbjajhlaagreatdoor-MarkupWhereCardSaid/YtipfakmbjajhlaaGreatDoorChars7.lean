/-
  chars.numbered in base 10: the walk.
-/
import Derived.Test.YtipfakmbjajhlaaGreatDoorChars6
set_option linter.unusedVariables false
set_option linter.unusedSimpArgs false
namespace Go.Proofs.YtipfakmbjajhlaaGreatDoor 
open Go.RowKit
theorem below_parse {w w' : World} (h : w' = w ∨ ∃ t, w' = Lib.bytesWorld w 5 t) : Below w.heap.size w w' := by
  rcases h with rfl | ⟨t, rfl⟩
  · exact Below.refl _ _
  · exact Go.Joins.below_bytesWorld _ _ _ _ (Nat.le_refl _)
theorem runeStr (v : Nat) (h : v < 10000000) : Utf8.encode (v : Int) = Pure.ofL (Pure.runeBytes (v : Int)) := by unfold Pure.runeBytes; rw [Pure.ofL_toL]
theorem digs_extract (s : ByteArray) (d : Nat) (h : Digs s d) : Pure.toL (s.extract 2 (2 + d)) = digs (Pure.toL s) := by
  rw [h.eq]
  unfold Pure.toL
  rw [Lib.extract_data]
  rw [show 2 + d - 2 = d from by omega]
theorem parse_digs (s : ByteArray) (d : Nat) (h : Digs s d) (h0 : d ≠ 0) : Lib.parseIntB 64 (digs (Pure.toL s)) = .ok (Pure.digitsVal (digs (Pure.toL s)) : Int) ∧ Pure.digitsVal (digs (Pure.toL s)) < 10000000 := by
  have hlen := h.len
  have hle := h.le
  have ha : (digs (Pure.toL s)).all Pure.isDigit10 = true := takeWhile_all _ _
  generalize digs (Pure.toL s) = l at *
  exact parse_digits l (fun e => h0 (by rw [← hlen, e]; rfl)) ha (by omega)
theorem vText_rune (v j : Nat) (h : v < 10000000) : Ending.returned (.tuple #[.string (Utf8.encode (v : Int)), .int .i64 (2 + (j : Int) + 1), .int .i64 0]) = .returned (vText (Pure.runeBytes (v : Int), ((2 + j + 1 : Nat) : Int), 0)) := by
  rw [runeStr v h]
  unfold vText
  rw [show ((2 + j + 1 : Nat) : Int) = 2 + (j : Int) + 1 from by omega]
set_option maxRecDepth 100000 in
set_option maxHeartbeats 4000000 in
theorem numbered_any (s : ByteArray) (w : World) (h2 : 2 ≤ s.size) (hs : s.size ≤ 140737488355328) :
    Calls Tryz.prog 159 #[.string s, .int .i64 2, .int .i64 10, .int .i64 7] w (RetT (Pure.numbered10 (Pure.toL s)) w) := by
  have hD := digs_at s h2
  generalize hd : (digs (Pure.toL s)).length = d at hD
  have hP : Pure.numbered10 (Pure.toL s) = (match (Pure.toL s).drop (2 + d) with
    | [] => ([], 0, 4)
    | c :: _ => if c ≠ 59 ∨ digs (Pure.toL s) = [] then ([], 0, 20) else if Pure.can (Pure.digitsVal (digs (Pure.toL s)) : Int) = false then ([], 0, 7) else (Pure.runeBytes (Pure.digitsVal (digs (Pure.toL s)) : Int), ((2 + d + 1 : Nat) : Int), 0)) := by rw [← hd]; rfl
  have hle := hD.le
  have hfit := hD.fits
  have HG := Lib.hid hD.good
  have HS := Lib.hid hD.stop
  have HDg := Lib.hid hD
  have HDig : Hid (∀ j (h : 2 + j < s.size), ∀ w, Calls Tryz.prog 164 #[.int .u8 (s[2 + j].toNat : Int), .int .i64 10] w (RetB (Pure.isDigit10 s[2 + j]) w)) := fun j h w => digit_10 _ w
  clear hd hD
  by_cases hend : 2 + d = s.size
  · have hV : Pure.numbered10 (Pure.toL s) = ([], 0, 4) := by
      rw [hP, hend, ← Pure.length_toL, List.drop_length]
    rw [hV]
    clear hP hV
    have HE := Lib.hid hend
    clear hend
    go_enter Tryz.func159, Tryz.ntmps159
    go_wp2_with fail
    go_loop [11] (fun i => ∃ j : Nat, j ≤ d ∧ i = .int .i64 ((2 + j : Nat) : Int)) (fun i => s.size - (intOf i).toNat)
    case atStart => exact ⟨0, Nat.zero_le _, rfl⟩
    case round =>
      obtain ⟨j, hj, rfl⟩ := hrel
      by_cases hlt : j < d
      · have hb : 2 + j < s.size := by omega
        have hj7 : j < 7 := by omega
        have hdg := HDig.out j hb w
        rw [HG.out j hb hlt] at hdg
        have HC := Lib.hid hdg
        clear hdg
        go_wp2_with (go_at_call 164; refine (HC.out).mono ?_; rintro e w' ⟨rfl, rfl⟩)
        go_round
        case rel => exact ⟨j + 1, by omega, by go_num⟩
        case measure => simp [intOf]; omega
      · obtain rfl : j = d := by omega
        have e1 : (((2 + j : Nat) : Int) == (s.size : Int)) = true := by rw [beq_iff_eq, HE.out]
        have e2 : ((2 + (j : Int)) == (s.size : Int)) = true := by rw [beq_iff_eq, ← HE.out]; simp
        have e3 : ¬ (((2 + j : Nat) : Int) < (s.size : Int)) := by rw [HE.out]; omega
        have e4 : ¬ (2 + (j : Int) < (s.size : Int)) := by have := HE.out; omega
        go_wp2_with fail
        go_ret3
        exact ⟨rfl, Below.refl _ _⟩
  · have hb : 2 + d < s.size := by omega
    have hdrop : (Pure.toL s).drop (2 + d) = s[2 + d] :: (Pure.toL s).drop (2 + d + 1) := by
      rw [List.drop_eq_getElem_cons (by rw [Pure.length_toL]; exact hb)]
      rw [toL_get s (2 + d) hb]
    rw [hdrop] at hP
    simp only at hP
    have HP := Lib.hid hP
    clear hP hdrop hend
    have HC : Hid (d < 7 → ∀ w, Calls Tryz.prog 164 #[.int .u8 (s[2 + d].toNat : Int), .int .i64 10] w (RetB false w)) := by
      intro h7 w
      have := digit_10 s[2 + d] w
      rcases HS.out with h | h | ⟨_, h⟩
      · omega
      · omega
      · rw [h] at this; exact this
    have HN : Hid (d = 0 → digs (Pure.toL s) = []) := fun h => List.eq_nil_of_length_eq_zero (by rw [HDg.out.len, h])
    have HI := Lib.hid (fun h0 : d ≠ 0 => Tryz.strconv_ParseInt_10_at64_ok (s.extract 2 (2 + d)) (by simp; omega) (Pure.digitsVal (digs (Pure.toL s)) : Int) (by
      have hx : (s.extract 2 (2 + d)).data.toList = digs (Pure.toL s) := digs_extract s d HDg.out
      rw [hx]
      exact (parse_digs s d HDg.out h0).1))
    have HV := Lib.hid (fun h0 => (parse_digs s d HDg.out h0).2)
    generalize hgv : Pure.digitsVal (digs (Pure.toL s)) = v at HP HI HV
    clear hgv
    by_cases hd0 : d = 0
    · have hV : Pure.numbered10 (Pure.toL s) = ([], 0, 20) := by rw [HP.out, if_pos (.inr (HN.out hd0))]
      rw [hV]
      clear hV
      subst hd0
      have HC' := Lib.hid (HC.out (by decide))
      clear HC
      go_enter Tryz.func159, Tryz.ntmps159
      go_wp2_with fail
      refine wp_loop_rounds 1 ?_
      rw [rounds_succ]
      go_wp2_with (go_at_call 164; refine (HC'.out _).mono ?_; rintro e w' ⟨rfl, rfl⟩)
      all_goals (go_ret3; exact ⟨rfl, Below.refl _ _⟩)
    by_cases h59 : ¬ s[2 + d] = 59
    · have hV : Pure.numbered10 (Pure.toL s) = ([], 0, 20) := by rw [HP.out, if_pos (.inl h59)]
      rw [hV]
      clear hV
      have hb59 : ((s[2 + d].toNat : Int) != 59) = true := by rw [bne_iff_ne]; intro h; apply h59; have h' : s[2 + d].toNat = 59 := by omega
                                                              exact UInt8.toNat_inj.1 h'
      clear h59
      go_enter Tryz.func159, Tryz.ntmps159
      go_wp2_with fail
      go_loop [11] (fun i => ∃ j : Nat, j ≤ d ∧ i = .int .i64 ((2 + j : Nat) : Int)) (fun i => s.size - (intOf i).toNat)
      case atStart => exact ⟨0, Nat.zero_le _, rfl⟩
      case round =>
        obtain ⟨j, hj, rfl⟩ := hrel
        by_cases hlt : j < d
        · have hbj : 2 + j < s.size := by omega
          have hj7 : j < 7 := by omega
          have hdg := HDig.out j hbj w
          rw [HG.out j hbj hlt] at hdg
          have HC2 := Lib.hid hdg
          clear hdg
          go_wp2_with (go_at_call 164; refine (HC2.out).mono ?_; rintro e w' ⟨rfl, rfl⟩)
          go_round
          case rel => exact ⟨j + 1, by omega, by go_num⟩
          case measure => simp [intOf]; omega
        · obtain rfl : j = d := by omega
          have e1 : (((2 + j : Nat) : Int) == (s.size : Int)) = false := by rw [beq_eq_false_iff_ne]; omega
          have e2 : ((2 + (j : Int)) == (s.size : Int)) = false := by rw [beq_eq_false_iff_ne]; omega
          have e3 : (((2 + j : Nat) : Int) == 2) = false := by rw [beq_eq_false_iff_ne]; omega
          have e4 : ((2 + (j : Int)) == 2) = false := by rw [beq_eq_false_iff_ne]; omega
          clear hlt
          by_cases h7 : j = 7
          · subst h7
            go_wp2_with fail
            all_goals (go_ret3; exact ⟨rfl, Below.refl _ _⟩)
          · have HC3 := Lib.hid (HC.out (by omega))
            go_wp2_with (go_at_call 164; refine (HC3.out _).mono ?_; rintro e w' ⟨rfl, rfl⟩)
            all_goals (go_ret3; exact ⟨rfl, Below.refl _ _⟩)
    have h59 := Classical.not_not.1 h59
    have hb59 : ((s[2 + d].toNat : Int) != 59) = false := by rw [h59]; rfl
    have hDne : digs (Pure.toL s) ≠ [] := fun h => hd0 (by rw [← HDg.out.len, h]; rfl)
    have hCan := fun w => can_any (v : Int) w
    cases hc : Pure.can (v : Int) with
    | false =>
      have hV : Pure.numbered10 (Pure.toL s) = ([], 0, 7) := by
        rw [HP.out, if_neg (by rintro (h | h); exact h h59; exact hDne h), if_pos hc]
      rw [hV]
      clear hV hDne h59
      rw [hc] at hCan
      have HCan := Lib.hid hCan
      clear hCan hc
      go_enter Tryz.func159, Tryz.ntmps159
      go_wp2_with fail
      go_loop [11] (fun i => ∃ j : Nat, j ≤ d ∧ i = .int .i64 ((2 + j : Nat) : Int)) (fun i => s.size - (intOf i).toNat)
      case atStart => exact ⟨0, Nat.zero_le _, rfl⟩
      case round =>
        obtain ⟨j, hj, rfl⟩ := hrel
        by_cases hlt : j < d
        · have hbj : 2 + j < s.size := by omega
          have hj7 : j < 7 := by omega
          have hdg := HDig.out j hbj w
          rw [HG.out j hbj hlt] at hdg
          have HC2 := Lib.hid hdg
          clear hdg
          go_wp2_with (go_at_call 164; refine (HC2.out).mono ?_; rintro e w' ⟨rfl, rfl⟩)
          go_round
          case rel => exact ⟨j + 1, by omega, by go_num⟩
          case measure => simp [intOf]; omega
        · obtain rfl : j = d := by omega
          have e1 : (((2 + j : Nat) : Int) == (s.size : Int)) = false := by rw [beq_eq_false_iff_ne]; omega
          have e2 : ((2 + (j : Int)) == (s.size : Int)) = false := by rw [beq_eq_false_iff_ne]; omega
          have e3 : (((2 + j : Nat) : Int) == 2) = false := by rw [beq_eq_false_iff_ne]; omega
          have e4 : ((2 + (j : Int)) == 2) = false := by rw [beq_eq_false_iff_ne]; omega
          clear hlt
          have HI2 := Lib.hid (HI.out hd0)
          have hv := HV.out hd0
          by_cases h7 : j = 7
          · subst h7
            go_wp2_with (first | (go_at_call 165; refine ((HI2.out _)).mono ?_; rintro e w' ⟨rfl, hbw⟩) | (go_at_call 136; refine (HCan.out _).mono ?_; rintro e w' ⟨rfl, rfl⟩))
            all_goals (go_ret3; exact ⟨rfl, below_parse (by assumption)⟩)
          · have HC3 := Lib.hid (HC.out (by omega))
            go_wp2_with (first | (go_at_call 164; refine (HC3.out _).mono ?_; rintro e w' ⟨rfl, rfl⟩) | (go_at_call 165; refine ((HI2.out _)).mono ?_; rintro e w' ⟨rfl, hbw⟩) | (go_at_call 136; refine (HCan.out _).mono ?_; rintro e w' ⟨rfl, rfl⟩))
            all_goals (go_ret3; exact ⟨rfl, below_parse (by assumption)⟩)
    | true =>
      have hV : Pure.numbered10 (Pure.toL s) = (Pure.runeBytes (v : Int), ((2 + d + 1 : Nat) : Int), 0) := by
        rw [HP.out, if_neg (by rintro (h | h); exact h h59; exact hDne h), if_neg (by rw [hc]; decide)]
      rw [hV]
      clear hV hDne h59
      rw [hc] at hCan
      have HCan := Lib.hid hCan
      clear hCan hc
      go_enter Tryz.func159, Tryz.ntmps159
      go_wp2_with fail
      go_loop [11] (fun i => ∃ j : Nat, j ≤ d ∧ i = .int .i64 ((2 + j : Nat) : Int)) (fun i => s.size - (intOf i).toNat)
      case atStart => exact ⟨0, Nat.zero_le _, rfl⟩
      case round =>
        obtain ⟨j, hj, rfl⟩ := hrel
        by_cases hlt : j < d
        · have hbj : 2 + j < s.size := by omega
          have hj7 : j < 7 := by omega
          have hdg := HDig.out j hbj w
          rw [HG.out j hbj hlt] at hdg
          have HC2 := Lib.hid hdg
          clear hdg
          go_wp2_with (go_at_call 164; refine (HC2.out).mono ?_; rintro e w' ⟨rfl, rfl⟩)
          go_round
          case rel => exact ⟨j + 1, by omega, by go_num⟩
          case measure => simp [intOf]; omega
        · obtain rfl : j = d := by omega
          have e1 : (((2 + j : Nat) : Int) == (s.size : Int)) = false := by rw [beq_eq_false_iff_ne]; omega
          have e2 : ((2 + (j : Int)) == (s.size : Int)) = false := by rw [beq_eq_false_iff_ne]; omega
          have e3 : (((2 + j : Nat) : Int) == 2) = false := by rw [beq_eq_false_iff_ne]; omega
          have e4 : ((2 + (j : Int)) == 2) = false := by rw [beq_eq_false_iff_ne]; omega
          clear hlt
          have HI2 := Lib.hid (HI.out hd0)
          have hv := HV.out hd0
          by_cases h7 : j = 7
          · subst h7
            go_wp2_with (first | (go_at_call 165; refine ((HI2.out _)).mono ?_; rintro e w' ⟨rfl, hbw⟩) | (go_at_call 136; refine (HCan.out _).mono ?_; rintro e w' ⟨rfl, rfl⟩))
            all_goals (go_ret3; exact ⟨(by rw [← vText_rune v _ (by omega)]; rfl), below_parse (by assumption)⟩)
          · have HC3 := Lib.hid (HC.out (by omega))
            go_wp2_with (first | (go_at_call 164; refine (HC3.out _).mono ?_; rintro e w' ⟨rfl, rfl⟩) | (go_at_call 165; refine ((HI2.out _)).mono ?_; rintro e w' ⟨rfl, hbw⟩) | (go_at_call 136; refine (HCan.out _).mono ?_; rintro e w' ⟨rfl, rfl⟩))
            all_goals (go_ret3; exact ⟨(by rw [← vText_rune v _ (by omega)]; rfl), below_parse (by assumption)⟩)
end Go.Proofs.YtipfakmbjajhlaaGreatDoor 
