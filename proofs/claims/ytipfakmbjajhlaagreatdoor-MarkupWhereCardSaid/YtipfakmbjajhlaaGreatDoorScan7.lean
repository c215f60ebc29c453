/-
  The reader's methods adds, past, reference.
-/
import Derived.Test.YtipfakmbjajhlaaGreatDoorScan6
set_option linter.unusedVariables false
set_option linter.unusedSimpArgs false
namespace Go.Proofs.YtipfakmbjajhlaaGreatDoor 
open Go.RowKit
variable {T : Teller} {B : Nat} {src : ByteArray} {rb : Nat} {st : Pure.St} {w : World}
theorem adds_end {k : Nat} {ov tp tv : Value} {S : Nat → Prop} {w0 w' : World} {t : Pure.Bytes} (h : Inv T B src rb st w) (hm : Mem T B src rb k st ov tp tv S w) (hk : k ≤ src.size) (hr : st.rest = (Pure.toL src).drop k)
    (hpost : ∃ v', BufAt w' B v' (st.txt ++ t) ∧ w'.heap[rb]? = some (.cells (((#[.string src, .int .i64 (k : Int), ov, tp, tv, .int .i64 (st.nodes : Int), T.val] : Array Value).setIfInBounds 3 (.pointer (some ⟨rb, 3, none⟩))).setIfInBounds (3 + 1) v') 126 (0, 0)) ∧ Chg (fun i => i = rb ∨ tv.ownBlock = some i) w w' ∧ ∀ i, v'.ownBlock = some i → tv.ownBlock = some i ∨ w.heap.size ≤ i)
    (hlen : ¬ st.txt.length + t.length > 16384) (hfew : st.evs.length + st.opn.length + 1 ≤ 2 * st.nodes) (hb : Below B w0 w) :
    Out T B src rb w0 encU (.ok () { st with txt := st.txt ++ t }) (.returned (.tuple #[])) w' := by
  obtain ⟨v', h1, h2, h3, h4⟩ := hpost
  have hbel : Below B w w' := h3.below h.room (by rintro i (rfl | hi); exact h.base; exact (hm.buf.1.lt i hi).1)
  refine ⟨rfl, ?_, hb.trans hbel⟩
  exact { h with
    mem := ⟨k, ov, .pointer (some ⟨rb, 3, none⟩), v', S, ⟨h2, owns_keep hm.opn (fun i hi => h3.block i (hm.opn.lt i hi).2 (by rintro (rfl | hi'); exact hm.ne_ov hi; exact hm.ne_ovtv i hi' hi)), .inr rfl, h1, T.keep hm.told h3.size (fun i hi => h3.block i (T.lt hm.told hi) (by rintro (rfl | hi'); exact hm.ne_rb hi; exact hm.ne_tvS i hi' hi)), hm.above, fun i hi hS => by rcases h4 i hi with h5 | h5; exact hm.apart i h5 hS; exact absurd (T.lt hm.told hS) (by omega)⟩, hk, hr⟩
    tabs := h.tabs.below hbel h.glob
    room := Nat.le_trans h.room hbel.size
    text := by rw [List.length_append]; omega
    few := by show st.evs.length + st.opn.length + _ ≤ 2 * st.nodes
              split <;> omega }
set_option maxRecDepth 100000 in
set_option maxHeartbeats 3200000 in
theorem adds_R (t : ByteArray) (left a : Nat) (h : Inv T B src rb st w) (ha : left + a = src.size) (ht : t.size ≤ 262144) :
    Calls Tryz.prog 115 #[.pointer (some ⟨rb, 0, none⟩), .string t, .int .i64 (a : Int)] w (Out T B src rb w encU (Pure.adds (Pure.toL t) left st)) := by
  obtain ⟨k, ov, tp, tv, S, Hm, hk, Hr, Hl, c0, c1, c2, c3, c4, c5, c6, hf⟩ := h.parts
  obtain ⟨q, c, htv⟩ := Hm.out.buf.form
  have HL := Lib.hid (fun W hc => bLen_any rb 3 tv st.txt.length q c W htv hc)
  have htl := Pure.length_toL t
  by_cases he : st.txt = []
  · have hB := begins_R left a h ha
    have h0 : st.txt.length = 0 := by rw [he]; rfl
    have hV : Pure.adds (Pure.toL t) left st = (Pure.begins left st).bind fun _ s => if s.txt.length + (Pure.toL t).length > 16384 then .fail left 2 s.evs else .ok () { s with txt := s.txt ++ Pure.toL t } := by unfold Pure.adds; rw [if_pos he]
    rw [hV]
    rw [h0] at HL
    clear hV
    cases hb : Pure.begins left st with
    | fail l y e =>
      rw [hb] at hB
      have HB := Lib.hid hB
      clear hB hb htv h he h0
      rw [bind_fail]
      go_enter Tryz.func115, Tryz.ntmps115
      go_wp2_with (first | (go_at_call 91; refine (HL.out _ c4).mono ?_; rintro e' w1 ⟨rfl, rfl⟩) | (go_at_call 131; refine (HB.out).mono ?_; rintro e' w1 ⟨rfl, ho⟩))
      exact ⟨rfl, rfl, by assumption⟩
    | ok u st1 =>
      rw [hb] at hB
      have HB := Lib.hid hB
      have hst1 : st1 = { st with nodes := st.nodes + 1 } := by unfold Pure.begins at hb; split at hb; cases hb; cases hb; rfl
      have hfew : st1.evs.length + st1.opn.length + 1 ≤ 2 * st1.nodes := by
        have := h.few
        rw [if_pos he] at this
        subst hst1
        simp only
        omega
      have htx : st1.txt.length = 0 := by rw [hst1]; exact h0
      have HF := Lib.hid hfew
      clear hB hb htv h he h0 hst1 hfew
      rw [bind_ok]
      have hts : (t.size : Int) ≤ 262144 := by omega
      by_cases hl : t.size > 16384
      · rw [if_pos (by rw [htx, htl]; omega)]
        go_enter Tryz.func115, Tryz.ntmps115
        go_wp2_with (first | (go_at_call 91; first | (refine (HL.out _ c4).mono ?_; rintro e' w1 ⟨rfl, rfl⟩) | (refine (HL1.out).mono ?_; rw [htx]; rintro e' w2 ⟨rfl, rfl⟩)) | (go_at_call 131; refine (HB.out).mono ?_; rintro e' w1 ⟨rfl, h1, hb1⟩; unfold encU; obtain ⟨k1, ov1, tp1, tv1, S1, Hm1, hk1, Hr1, Hl1, d0, d1, d2, d3, d4, d5, d6, df⟩ := h1.parts; obtain ⟨q1, cc1, htv1⟩ := Hm1.out.buf.form; have HL1 := Lib.hid (bLen_any rb 3 tv1 _ q1 cc1 w1 htv1 d4); have HW1 := Lib.hid (fun hx => bWriteAt_any rb 3 _ 126 B tp1 tv1 _ t w1 Hm1.out.rd rfl rfl placeReader Hm1.out.own (by decide) Hm1.out.buf h1.room hx); have H1 := Lib.hid h1; have Hb1 := Lib.hid hb1; clear h1 hb1 htv1) | (go_at_call 96; refine (fail_any _ _ _ _).mono ?_; rintro e' w2 ⟨rfl, rfl⟩))
        exact ⟨rfl, out_fail H1.out Hb1.out ha⟩
      · rw [if_neg (by rw [htx, htl]; omega)]
        go_enter Tryz.func115, Tryz.ntmps115
        go_wp2_with (first | (go_at_call 91; first | (refine (HL.out _ c4).mono ?_; rintro e' w1 ⟨rfl, rfl⟩) | (refine (HL1.out).mono ?_; rw [htx]; rintro e' w2 ⟨rfl, rfl⟩)) | (go_at_call 131; refine (HB.out).mono ?_; rintro e' w1 ⟨rfl, h1, hb1⟩; unfold encU; obtain ⟨k1, ov1, tp1, tv1, S1, Hm1, hk1, Hr1, Hl1, d0, d1, d2, d3, d4, d5, d6, df⟩ := h1.parts; obtain ⟨q1, cc1, htv1⟩ := Hm1.out.buf.form; have HL1 := Lib.hid (bLen_any rb 3 tv1 _ q1 cc1 w1 htv1 d4); have HW1 := Lib.hid (fun hx => bWriteAt_any rb 3 _ 126 B tp1 tv1 _ t w1 Hm1.out.rd rfl rfl placeReader Hm1.out.own (by decide) Hm1.out.buf h1.room hx); have H1 := Lib.hid h1; have Hb1 := Lib.hid hb1; clear h1 hb1 htv1) | (go_at_call 99; refine (HW1.out (by rw [htx]; omega)).mono ?_; rintro e' w2 ⟨rfl, hpost⟩))
        go_end0
        exact adds_end H1.out Hm1.out hk1 Hr1.out hpost (by rw [htx, htl]; omega) HF.out Hb1.out
  · have hV : Pure.adds (Pure.toL t) left st = if st.txt.length + (Pure.toL t).length > 16384 then .fail left 2 st.evs else .ok () { st with txt := st.txt ++ Pure.toL t } := by unfold Pure.adds; rw [if_neg he]; rfl
    rw [hV]
    have hfew : st.evs.length + st.opn.length + 1 ≤ 2 * st.nodes := by
      have := h.few
      rw [if_neg he] at this
      exact this
    have hpos : ((st.txt.length : Int) == 0) = false := by rw [beq_eq_false_iff_ne]; have := List.length_pos_iff.2 he; omega
    have htx := h.text
    have HF := Lib.hid hfew
    have HW1 := Lib.hid (fun hx => bWriteAt_any rb 3 _ 126 B tp tv _ t w Hm.out.rd rfl rfl placeReader Hm.out.own (by decide) Hm.out.buf h.room hx)
    have H := Lib.hid h
    clear hV he hfew h htv
    by_cases hl : st.txt.length + t.size > 16384
    · rw [if_pos (by rw [htl]; omega)]
      go_enter Tryz.func115, Tryz.ntmps115
      go_wp2_with (first | (go_at_call 91; refine (HL.out _ c4).mono ?_; rintro e' w1 ⟨rfl, rfl⟩) | (go_at_call 96; refine (fail_any _ _ _ _).mono ?_; rintro e' w2 ⟨rfl, rfl⟩))
      exact ⟨rfl, out_fail H.out (Below.refl _ _) ha⟩
    · rw [if_neg (by rw [htl]; omega)]
      go_enter Tryz.func115, Tryz.ntmps115
      go_wp2_with (first | (go_at_call 91; refine (HL.out _ c4).mono ?_; rintro e' w1 ⟨rfl, rfl⟩) | (go_at_call 99; refine (HW1.out (by omega)).mono ?_; rintro e' w2 ⟨rfl, hpost⟩))
      go_end0
      exact adds_end H.out Hm.out hk Hr.out hpost (by rw [htl]; omega) HF.out (Below.refl _ _)
end Go.Proofs.YtipfakmbjajhlaaGreatDoor 
