/-
  The reader's method tag.
-/
import Derived.Test.YtipfakmbjajhlaaGreatDoorTag
set_option linter.unusedVariables false
set_option linter.unusedSimpArgs false
namespace Go.Proofs.YtipfakmbjajhlaaGreatDoor 
open Go.RowKit Go.Shelf
variable {T : Teller} {B : Nat} {src : ByteArray} {rb : Nat} {st : Pure.St} {w : World}
def cLt : ByteArray := ⟨#[60]⟩
theorem pre_any (a b : ByteArray) (W : World) : Calls Tryz.prog 126 #[.string a, .string b] W (RetB (Pure.hasPre (Pure.toL a) (Pure.toL b)) W) := (Tryz.strings_HasPrefix a b W).mono fun e w' ⟨he, hw⟩ => ⟨he, hw.symm⟩
theorem beqL (a b : Pure.Bytes) : (a == b) = decide (a = b) := by
  by_cases h : a = b
  · subst h; simp
  · rw [decide_eq_false h, beq_eq_false_iff_ne]; exact h
/-- The tag's tests, and what each way comes to. -/
structure TagTests (st : Pure.St) (rs : ByteArray) (b1 b2 q2 b3 q3 h4 h5 h6 h7 l8 : Bool) : Prop where
  e1 : (rs.toList == [60]) = b1
  e2 : (rs.toList == [60, 33, 45, 45]) = b2
  e3 : (rs.toList == [60, 33, 91, 67, 68, 65, 84, 65, 91]) = b3
  p2 : ∀ W, Calls Tryz.prog 126 #[.string ⟨#[60, 33, 45, 45]⟩, .string rs] W (RetB q2 W)
  p3 : ∀ W, Calls Tryz.prog 126 #[.string ⟨#[60, 33, 91, 67, 68, 65, 84, 65, 91]⟩, .string rs] W (RetB q3 W)
  p4 : ∀ W, Calls Tryz.prog 126 #[.string rs, .string ⟨#[60, 33, 45, 45]⟩] W (RetB h4 W)
  p5 : ∀ W, Calls Tryz.prog 126 #[.string rs, .string ⟨#[60, 63]⟩] W (RetB h5 W)
  p6 : ∀ W, Calls Tryz.prog 126 #[.string rs, .string ⟨#[60, 33, 91, 67, 68, 65, 84, 65, 91]⟩] W (RetB h6 W)
  p7 : ∀ W, Calls Tryz.prog 126 #[.string rs, .string ⟨#[60, 47]⟩] W (RetB h7 W)
  e8 : Pure.letter (st.rest.getD 1 0) = l8
  val : Pure.tag st = if (b1 || (!b2 && q2) || (!b3 && q3)) = true then .fail st.rest.length 4 st.evs
    else if h4 = true then Pure.past 4 [45, 45, 62] st
    else if h5 = true then Pure.past 2 [63, 62] st
    else if h6 = true then (Pure.past 9 [93, 93, 62] st).bind fun _ s1 => (Pure.rawLoop (st.rest.length + 1) (s1.rest.length + 3) { s1 with rest := st.rest.drop 9 }).bind fun _ s2 => .ok () { s2 with rest := s1.rest }
    else if h7 = true then Pure.closes st
    else if l8 = true then Pure.opens st
    else .fail st.rest.length 3 st.evs
theorem tag_tests (rs : ByteArray) (hrs : Pure.toL rs = st.rest) : ∃ b1 b2 q2 b3 q3 h4 h5 h6 h7 l8, TagTests st rs b1 b2 q2 b3 q3 h4 h5 h6 h7 l8 ∧ b1 = decide (st.rest = [60]) ∧ b2 = decide (st.rest = Pure.bRemark) ∧ b3 = decide (st.rest = Pure.bRaw) ∧
    q2 = Pure.hasPre Pure.bRemark st.rest ∧ q3 = Pure.hasPre Pure.bRaw st.rest ∧ h4 = Pure.hasPre st.rest Pure.bRemark ∧ h5 = Pure.hasPre st.rest [60, 63] ∧ h6 = Pure.hasPre st.rest Pure.bRaw ∧ h7 = Pure.hasPre st.rest [60, 47] := by
  refine ⟨_, _, _, _, _, _, _, _, _, _, ⟨?_, ?_, ?_, ?_, ?_, ?_, ?_, ?_, ?_, rfl, ?_⟩, rfl, rfl, rfl, rfl, rfl, rfl, rfl, rfl, rfl⟩
  · rw [toList_eq, hrs]; exact beqL _ _
  · rw [toList_eq, hrs]; exact beqL _ _
  · rw [toList_eq, hrs]; exact beqL _ _
  · intro W; have := pre_any ⟨#[60, 33, 45, 45]⟩ rs W; rw [hrs] at this; exact this
  · intro W; have := pre_any ⟨#[60, 33, 91, 67, 68, 65, 84, 65, 91]⟩ rs W; rw [hrs] at this; exact this
  · intro W; have := pre_any rs ⟨#[60, 33, 45, 45]⟩ W; rw [hrs] at this; exact this
  · intro W; have := pre_any rs ⟨#[60, 63]⟩ W; rw [hrs] at this; exact this
  · intro W; have := pre_any rs ⟨#[60, 33, 91, 67, 68, 65, 84, 65, 91]⟩ W; rw [hrs] at this; exact this
  · intro W; have := pre_any rs ⟨#[60, 47]⟩ W; rw [hrs] at this; exact this
  · unfold Pure.tag
    by_cases h1 : st.rest = [60]
    · rw [if_pos (.inl h1), decide_eq_true h1]; rfl
    by_cases h2 : st.rest ≠ Pure.bRemark ∧ Pure.hasPre Pure.bRemark st.rest = true
    · rw [if_pos (.inr (.inl h2)), decide_eq_false h1, decide_eq_false h2.1, h2.2]; rfl
    by_cases h3 : st.rest ≠ Pure.bRaw ∧ Pure.hasPre Pure.bRaw st.rest = true
    · rw [if_pos (.inr (.inr h3)), decide_eq_false h3.1, h3.2, if_pos (by simp)]
    · rw [if_neg (by rintro (h | h | h); exact h1 h; exact h2 h; exact h3 h)]
      have hb : (decide (st.rest = [60]) || (!decide (st.rest = Pure.bRemark) && Pure.hasPre Pure.bRemark st.rest) || (!decide (st.rest = Pure.bRaw) && Pure.hasPre Pure.bRaw st.rest)) = false := by
        rw [← Bool.not_eq_true]
        simp only [Bool.or_eq_true, Bool.and_eq_true, Bool.not_eq_true', decide_eq_true_eq, decide_eq_false_iff_not]
        rintro ((h | h) | h)
        · exact h1 h
        · exact h2 h
        · exact h3 h
      rw [hb]
      rfl
set_option maxRecDepth 100000 in
set_option maxHeartbeats 3200000 in
theorem tag_short1 (h : Inv T B src rb st w) {k : Nat} (hk : k < src.size) (hrest : Hid (st.rest = (Pure.toL src).drop k)) {b2 q2 b3 q3 h4 h5 h6 h7 l8 : Bool} (hT : TagTests st (src.extract k src.size) true b2 q2 b3 q3 h4 h5 h6 h7 l8) :
    Calls Tryz.prog 114 #[.pointer (some ⟨rb, 0, none⟩)] w (Out T B src rb w encU (Pure.tag st)) := by
  obtain ⟨k1, ov, tp, tv, S, Hm, hk1, Hr, Hl, c0, c1, c2, c3, c4, c5, c6, hf⟩ := h.parts
  obtain rfl : k1 = k := by
    have h1 := Hl.out
    have h2 := congrArg List.length hrest.out
    rw [List.length_drop, Pure.length_toL] at h2
    omega
  have hs := h.size
  obtain ⟨e1, e2, e3, p2, p3, p4, p5, p6, p7, e8, hV⟩ := hT
  have H2 := Lib.hid p2
  have H3 := Lib.hid p3
  have H4 := Lib.hid p4
  have H5 := Lib.hid p5
  have H6 := Lib.hid p6
  have H7 := Lib.hid p7
  have HV : Hid (Pure.tag st = .fail st.rest.length 4 st.evs) := by rw [hV]; rfl
  have HI := Lib.hid h
  clear hV h hrest p2 p3 p4 p5 p6 p7 e8
  go_enter Tryz.func114, Tryz.ntmps114
  go_wp2_with fail
  go_quiet (fail)
  go_wp2_with (first | (go_at_call 126; first | ((with_reducible refine (H2.out _).mono ?_); rintro e' w' ⟨rfl, rfl⟩) | ((with_reducible refine (H3.out _).mono ?_); rintro e' w' ⟨rfl, rfl⟩) | ((with_reducible refine (H4.out _).mono ?_); rintro e' w' ⟨rfl, rfl⟩) | ((with_reducible refine (H5.out _).mono ?_); rintro e' w' ⟨rfl, rfl⟩) | ((with_reducible refine (H6.out _).mono ?_); rintro e' w' ⟨rfl, rfl⟩) | ((with_reducible refine (H7.out _).mono ?_); rintro e' w' ⟨rfl, rfl⟩)) | (go_at_call 96; refine (fail_any _ _ _ _).mono ?_; rintro e' w2 ⟨rfl, rfl⟩))
  rw [HV.out]
  exact ⟨rfl, out_fail (HI.out.drewN _) (Below.drewN (Below.refl B w) _) Hl.out⟩
set_option maxRecDepth 100000 in
set_option maxHeartbeats 3200000 in
theorem tag_short2 (h : Inv T B src rb st w) {k : Nat} (hk : k < src.size) (hrest : Hid (st.rest = (Pure.toL src).drop k)) {b3 q3 h4 h5 h6 h7 l8 : Bool} (hT : TagTests st (src.extract k src.size) false false true b3 q3 h4 h5 h6 h7 l8) :
    Calls Tryz.prog 114 #[.pointer (some ⟨rb, 0, none⟩)] w (Out T B src rb w encU (Pure.tag st)) := by
  obtain ⟨k1, ov, tp, tv, S, Hm, hk1, Hr, Hl, c0, c1, c2, c3, c4, c5, c6, hf⟩ := h.parts
  obtain rfl : k1 = k := by
    have h1 := Hl.out
    have h2 := congrArg List.length hrest.out
    rw [List.length_drop, Pure.length_toL] at h2
    omega
  have hs := h.size
  obtain ⟨e1, e2, e3, p2, p3, p4, p5, p6, p7, e8, hV⟩ := hT
  have H2 := Lib.hid p2
  have H3 := Lib.hid p3
  have H4 := Lib.hid p4
  have H5 := Lib.hid p5
  have H6 := Lib.hid p6
  have H7 := Lib.hid p7
  have HV : Hid (Pure.tag st = .fail st.rest.length 4 st.evs) := by rw [hV]; rfl
  have HI := Lib.hid h
  clear hV h hrest p2 p3 p4 p5 p6 p7 e8
  go_enter Tryz.func114, Tryz.ntmps114
  go_wp2_with fail
  go_quiet (fail)
  go_wp2_with (first | (go_at_call 126; first | ((with_reducible refine (H2.out _).mono ?_); rintro e' w' ⟨rfl, rfl⟩) | ((with_reducible refine (H3.out _).mono ?_); rintro e' w' ⟨rfl, rfl⟩) | ((with_reducible refine (H4.out _).mono ?_); rintro e' w' ⟨rfl, rfl⟩) | ((with_reducible refine (H5.out _).mono ?_); rintro e' w' ⟨rfl, rfl⟩) | ((with_reducible refine (H6.out _).mono ?_); rintro e' w' ⟨rfl, rfl⟩) | ((with_reducible refine (H7.out _).mono ?_); rintro e' w' ⟨rfl, rfl⟩)) | (go_at_call 96; refine (fail_any _ _ _ _).mono ?_; rintro e' w2 ⟨rfl, rfl⟩))
  rw [HV.out]
  exact ⟨rfl, out_fail (HI.out.drewN _) (Below.drewN (Below.refl B w) _) Hl.out⟩
set_option maxRecDepth 100000 in
set_option maxHeartbeats 3200000 in
theorem tag_short3 (h : Inv T B src rb st w) {k : Nat} (hk : k < src.size) (hrest : Hid (st.rest = (Pure.toL src).drop k)) {h4 h5 h6 h7 l8 : Bool} (hT : TagTests st (src.extract k src.size) false false false false true h4 h5 h6 h7 l8) :
    Calls Tryz.prog 114 #[.pointer (some ⟨rb, 0, none⟩)] w (Out T B src rb w encU (Pure.tag st)) := by
  obtain ⟨k1, ov, tp, tv, S, Hm, hk1, Hr, Hl, c0, c1, c2, c3, c4, c5, c6, hf⟩ := h.parts
  obtain rfl : k1 = k := by
    have h1 := Hl.out
    have h2 := congrArg List.length hrest.out
    rw [List.length_drop, Pure.length_toL] at h2
    omega
  have hs := h.size
  obtain ⟨e1, e2, e3, p2, p3, p4, p5, p6, p7, e8, hV⟩ := hT
  have H2 := Lib.hid p2
  have H3 := Lib.hid p3
  have H4 := Lib.hid p4
  have H5 := Lib.hid p5
  have H6 := Lib.hid p6
  have H7 := Lib.hid p7
  have HV : Hid (Pure.tag st = .fail st.rest.length 4 st.evs) := by rw [hV]; rfl
  have HI := Lib.hid h
  clear hV h hrest p2 p3 p4 p5 p6 p7 e8
  go_enter Tryz.func114, Tryz.ntmps114
  go_wp2_with fail
  go_quiet (fail)
  go_wp2_with (first | (go_at_call 126; first | ((with_reducible refine (H2.out _).mono ?_); rintro e' w' ⟨rfl, rfl⟩) | ((with_reducible refine (H3.out _).mono ?_); rintro e' w' ⟨rfl, rfl⟩) | ((with_reducible refine (H4.out _).mono ?_); rintro e' w' ⟨rfl, rfl⟩) | ((with_reducible refine (H5.out _).mono ?_); rintro e' w' ⟨rfl, rfl⟩) | ((with_reducible refine (H6.out _).mono ?_); rintro e' w' ⟨rfl, rfl⟩) | ((with_reducible refine (H7.out _).mono ?_); rintro e' w' ⟨rfl, rfl⟩)) | (go_at_call 96; refine (fail_any _ _ _ _).mono ?_; rintro e' w2 ⟨rfl, rfl⟩))
  rw [HV.out]
  exact ⟨rfl, out_fail (HI.out.drewN _) (Below.drewN (Below.refl B w) _) Hl.out⟩
set_option maxRecDepth 100000 in
set_option maxHeartbeats 3200000 in
theorem tag_remark1 (h : Inv T B src rb st w) {k : Nat} (hk : k < src.size) (hrest : Hid (st.rest = (Pure.toL src).drop k)) {q2 h5 h6 h7 l8 : Bool} (hT : TagTests st (src.extract k src.size) false true q2 false false true h5 h6 h7 l8) (hlen : 4 ≤ st.rest.length) :
    Calls Tryz.prog 114 #[.pointer (some ⟨rb, 0, none⟩)] w (Out T B src rb w encU (Pure.tag st)) := by
  obtain ⟨k1, ov, tp, tv, S, Hm, hk1, Hr, Hl, c0, c1, c2, c3, c4, c5, c6, hf⟩ := h.parts
  obtain rfl : k1 = k := by
    have h1 := Hl.out
    have h2 := congrArg List.length hrest.out
    rw [List.length_drop, Pure.length_toL] at h2
    omega
  have hs := h.size
  obtain ⟨e1, e2, e3, p2, p3, p4, p5, p6, p7, e8, hV⟩ := hT
  have H2 := Lib.hid p2
  have H3 := Lib.hid p3
  have H4 := Lib.hid p4
  have H5 := Lib.hid p5
  have H6 := Lib.hid p6
  have H7 := Lib.hid p7
  have HV : Hid (Pure.tag st = Pure.past 4 (Pure.toL ⟨#[45, 45, 62]⟩) st) := by rw [hV]; rfl
  have HC := Lib.hid (fun n => (past_R 4 (k1 + 4) ⟨#[45, 45, 62]⟩ (h.drewN n) (by have := Hl.out; omega) hlen (by decide) (by decide) : Calls _ _ #[_, .int .i64 ((k1 + 4 : Nat) : Int), _] _ _))
  clear hV h hrest p2 p3 p4 p5 p6 p7 e8
  go_enter Tryz.func114, Tryz.ntmps114
  go_wp2_with fail
  go_quiet (fail)
  go_wp2_with (first | (go_at_call 126; first | ((with_reducible refine (H2.out _).mono ?_); rintro e' w' ⟨rfl, rfl⟩) | ((with_reducible refine (H3.out _).mono ?_); rintro e' w' ⟨rfl, rfl⟩) | ((with_reducible refine (H4.out _).mono ?_); rintro e' w' ⟨rfl, rfl⟩) | ((with_reducible refine (H5.out _).mono ?_); rintro e' w' ⟨rfl, rfl⟩) | ((with_reducible refine (H6.out _).mono ?_); rintro e' w' ⟨rfl, rfl⟩) | ((with_reducible refine (H7.out _).mono ?_); rintro e' w' ⟨rfl, rfl⟩)) | (go_at_call 127; refine (HC.out _).mono ?_))
  rintro e9 w9 ho
  replace ho := ho.also (Below.drewN (Below.refl B w) _)
  cases hx : Pure.past 4 (Pure.toL ⟨#[45, 45, 62]⟩) st with
  | ok a s => rw [hx] at ho; obtain ⟨rfl, ho⟩ := ho; have HX := Lib.hid (HV.out.trans hx); clear hx; unfold encU; go_wp2_with fail; go_end0; rw [HX.out]; exact ⟨rfl, ho⟩
  | fail l y ev => rw [hx] at ho; obtain ⟨rfl, ho⟩ := ho; have HX := Lib.hid (HV.out.trans hx); clear hx; go_wp2_with fail; rw [HX.out]; exact ⟨rfl, rfl, ho⟩
set_option maxRecDepth 100000 in
set_option maxHeartbeats 3200000 in
theorem tag_remark2 (h : Inv T B src rb st w) {k : Nat} (hk : k < src.size) (hrest : Hid (st.rest = (Pure.toL src).drop k)) {h5 h6 h7 l8 : Bool} (hT : TagTests st (src.extract k src.size) false false false false false true h5 h6 h7 l8) (hlen : 4 ≤ st.rest.length) :
    Calls Tryz.prog 114 #[.pointer (some ⟨rb, 0, none⟩)] w (Out T B src rb w encU (Pure.tag st)) := by
  obtain ⟨k1, ov, tp, tv, S, Hm, hk1, Hr, Hl, c0, c1, c2, c3, c4, c5, c6, hf⟩ := h.parts
  obtain rfl : k1 = k := by
    have h1 := Hl.out
    have h2 := congrArg List.length hrest.out
    rw [List.length_drop, Pure.length_toL] at h2
    omega
  have hs := h.size
  obtain ⟨e1, e2, e3, p2, p3, p4, p5, p6, p7, e8, hV⟩ := hT
  have H2 := Lib.hid p2
  have H3 := Lib.hid p3
  have H4 := Lib.hid p4
  have H5 := Lib.hid p5
  have H6 := Lib.hid p6
  have H7 := Lib.hid p7
  have HV : Hid (Pure.tag st = Pure.past 4 (Pure.toL ⟨#[45, 45, 62]⟩) st) := by rw [hV]; rfl
  have HC := Lib.hid (fun n => (past_R 4 (k1 + 4) ⟨#[45, 45, 62]⟩ (h.drewN n) (by have := Hl.out; omega) hlen (by decide) (by decide) : Calls _ _ #[_, .int .i64 ((k1 + 4 : Nat) : Int), _] _ _))
  clear hV h hrest p2 p3 p4 p5 p6 p7 e8
  go_enter Tryz.func114, Tryz.ntmps114
  go_wp2_with fail
  go_quiet (fail)
  go_wp2_with (first | (go_at_call 126; first | ((with_reducible refine (H2.out _).mono ?_); rintro e' w' ⟨rfl, rfl⟩) | ((with_reducible refine (H3.out _).mono ?_); rintro e' w' ⟨rfl, rfl⟩) | ((with_reducible refine (H4.out _).mono ?_); rintro e' w' ⟨rfl, rfl⟩) | ((with_reducible refine (H5.out _).mono ?_); rintro e' w' ⟨rfl, rfl⟩) | ((with_reducible refine (H6.out _).mono ?_); rintro e' w' ⟨rfl, rfl⟩) | ((with_reducible refine (H7.out _).mono ?_); rintro e' w' ⟨rfl, rfl⟩)) | (go_at_call 127; refine (HC.out _).mono ?_))
  rintro e9 w9 ho
  replace ho := ho.also (Below.drewN (Below.refl B w) _)
  cases hx : Pure.past 4 (Pure.toL ⟨#[45, 45, 62]⟩) st with
  | ok a s => rw [hx] at ho; obtain ⟨rfl, ho⟩ := ho; have HX := Lib.hid (HV.out.trans hx); clear hx; unfold encU; go_wp2_with fail; go_end0; rw [HX.out]; exact ⟨rfl, ho⟩
  | fail l y ev => rw [hx] at ho; obtain ⟨rfl, ho⟩ := ho; have HX := Lib.hid (HV.out.trans hx); clear hx; go_wp2_with fail; rw [HX.out]; exact ⟨rfl, rfl, ho⟩
set_option maxRecDepth 100000 in
set_option maxHeartbeats 3200000 in
theorem tag_ask (h : Inv T B src rb st w) {k : Nat} (hk : k < src.size) (hrest : Hid (st.rest = (Pure.toL src).drop k)) {h6 h7 l8 : Bool} (hT : TagTests st (src.extract k src.size) false false false false false false true h6 h7 l8) (hlen : 2 ≤ st.rest.length) :
    Calls Tryz.prog 114 #[.pointer (some ⟨rb, 0, none⟩)] w (Out T B src rb w encU (Pure.tag st)) := by
  obtain ⟨k1, ov, tp, tv, S, Hm, hk1, Hr, Hl, c0, c1, c2, c3, c4, c5, c6, hf⟩ := h.parts
  obtain rfl : k1 = k := by
    have h1 := Hl.out
    have h2 := congrArg List.length hrest.out
    rw [List.length_drop, Pure.length_toL] at h2
    omega
  have hs := h.size
  obtain ⟨e1, e2, e3, p2, p3, p4, p5, p6, p7, e8, hV⟩ := hT
  have H2 := Lib.hid p2
  have H3 := Lib.hid p3
  have H4 := Lib.hid p4
  have H5 := Lib.hid p5
  have H6 := Lib.hid p6
  have H7 := Lib.hid p7
  have HV : Hid (Pure.tag st = Pure.past 2 (Pure.toL ⟨#[63, 62]⟩) st) := by rw [hV]; rfl
  have HC := Lib.hid (fun n => (past_R 2 (k1 + 2) ⟨#[63, 62]⟩ (h.drewN n) (by have := Hl.out; omega) hlen (by decide) (by decide) : Calls _ _ #[_, .int .i64 ((k1 + 2 : Nat) : Int), _] _ _))
  clear hV h hrest p2 p3 p4 p5 p6 p7 e8
  go_enter Tryz.func114, Tryz.ntmps114
  go_wp2_with fail
  go_quiet (fail)
  go_wp2_with (first | (go_at_call 126; first | ((with_reducible refine (H2.out _).mono ?_); rintro e' w' ⟨rfl, rfl⟩) | ((with_reducible refine (H3.out _).mono ?_); rintro e' w' ⟨rfl, rfl⟩) | ((with_reducible refine (H4.out _).mono ?_); rintro e' w' ⟨rfl, rfl⟩) | ((with_reducible refine (H5.out _).mono ?_); rintro e' w' ⟨rfl, rfl⟩) | ((with_reducible refine (H6.out _).mono ?_); rintro e' w' ⟨rfl, rfl⟩) | ((with_reducible refine (H7.out _).mono ?_); rintro e' w' ⟨rfl, rfl⟩)) | (go_at_call 127; refine (HC.out _).mono ?_))
  rintro e9 w9 ho
  replace ho := ho.also (Below.drewN (Below.refl B w) _)
  cases hx : Pure.past 2 (Pure.toL ⟨#[63, 62]⟩) st with
  | ok a s => rw [hx] at ho; obtain ⟨rfl, ho⟩ := ho; have HX := Lib.hid (HV.out.trans hx); clear hx; unfold encU; go_wp2_with fail; go_end0; rw [HX.out]; exact ⟨rfl, ho⟩
  | fail l y ev => rw [hx] at ho; obtain ⟨rfl, ho⟩ := ho; have HX := Lib.hid (HV.out.trans hx); clear hx; go_wp2_with fail; rw [HX.out]; exact ⟨rfl, rfl, ho⟩
set_option maxRecDepth 100000 in
set_option maxHeartbeats 3200000 in
theorem tag_close (h : Inv T B src rb st w) {k : Nat} (hk : k < src.size) (hrest : Hid (st.rest = (Pure.toL src).drop k)) {l8 : Bool} (hT : TagTests st (src.extract k src.size) false false false false false false false false true l8) (hlen : 2 ≤ st.rest.length) :
    Calls Tryz.prog 114 #[.pointer (some ⟨rb, 0, none⟩)] w (Out T B src rb w encU (Pure.tag st)) := by
  obtain ⟨k1, ov, tp, tv, S, Hm, hk1, Hr, Hl, c0, c1, c2, c3, c4, c5, c6, hf⟩ := h.parts
  obtain rfl : k1 = k := by
    have h1 := Hl.out
    have h2 := congrArg List.length hrest.out
    rw [List.length_drop, Pure.length_toL] at h2
    omega
  have hs := h.size
  obtain ⟨e1, e2, e3, p2, p3, p4, p5, p6, p7, e8, hV⟩ := hT
  have H2 := Lib.hid p2
  have H3 := Lib.hid p3
  have H4 := Lib.hid p4
  have H5 := Lib.hid p5
  have H6 := Lib.hid p6
  have H7 := Lib.hid p7
  have HV : Hid (Pure.tag st = Pure.closes st) := by rw [hV]; rfl
  have HC := Lib.hid (fun n => closes_R (h.drewN n) hlen)
  clear hV h hrest p2 p3 p4 p5 p6 p7 e8
  go_enter Tryz.func114, Tryz.ntmps114
  go_wp2_with fail
  go_quiet (fail)
  go_wp2_with (first | (go_at_call 126; first | ((with_reducible refine (H2.out _).mono ?_); rintro e' w' ⟨rfl, rfl⟩) | ((with_reducible refine (H3.out _).mono ?_); rintro e' w' ⟨rfl, rfl⟩) | ((with_reducible refine (H4.out _).mono ?_); rintro e' w' ⟨rfl, rfl⟩) | ((with_reducible refine (H5.out _).mono ?_); rintro e' w' ⟨rfl, rfl⟩) | ((with_reducible refine (H6.out _).mono ?_); rintro e' w' ⟨rfl, rfl⟩) | ((with_reducible refine (H7.out _).mono ?_); rintro e' w' ⟨rfl, rfl⟩)) | (go_at_call 128; refine (HC.out _).mono ?_))
  rintro e9 w9 ho
  replace ho := ho.also (Below.drewN (Below.refl B w) _)
  cases hx : Pure.closes st with
  | ok a s => rw [hx] at ho; obtain ⟨rfl, ho⟩ := ho; have HX := Lib.hid (HV.out.trans hx); clear hx; unfold encU; go_wp2_with fail; go_end0; rw [HX.out]; exact ⟨rfl, ho⟩
  | fail l y ev => rw [hx] at ho; obtain ⟨rfl, ho⟩ := ho; have HX := Lib.hid (HV.out.trans hx); clear hx; go_wp2_with fail; rw [HX.out]; exact ⟨rfl, rfl, ho⟩
end Go.Proofs.YtipfakmbjajhlaaGreatDoor 
