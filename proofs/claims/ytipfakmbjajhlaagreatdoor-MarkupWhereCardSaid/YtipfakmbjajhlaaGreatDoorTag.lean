/-
  The reader's methods tag, piece.
-/
import Derived.Test.YtipfakmbjajhlaaGreatDoorOpens2
import Derived.Test.YtipfakmbjajhlaaGreatDoorCloses
set_option linter.unusedVariables false
set_option linter.unusedSimpArgs false
namespace Go.Proofs.YtipfakmbjajhlaaGreatDoor 
open Go.RowKit Go.Shelf
variable {T : Teller} {B : Nat} {src : ByteArray} {rb : Nat} {st : Pure.St} {w : World}
/-- A part that is called, and whose end is the whole's. -/
theorem Out.also {α : Type} {enc : α → Value} {r : Pure.R α} {w0 w1 w2 : World} {e : Ending} (h : Out T B src rb w1 enc r e w2) (hb : Below B w0 w1) : Out T B src rb w0 enc r e w2 := by
  cases r with
  | ok a s => exact ⟨h.1, h.2.1, hb.trans h.2.2⟩
  | fail l y ev => exact ⟨h.1, h.2.1, hb.trans h.2.2⟩
/-- A part's answer is added to the text. -/
theorem adds_of {left a : Nat} {t : Pure.Bytes} {s : Pure.St} {w1 : World} (h1 : Inv T B src rb s w1) (ha : left + a = src.size) (ht : t.length ≤ 262144) (hb : Below B w w1) :
    Calls Tryz.prog 115 #[.pointer (some ⟨rb, 0, none⟩), .string (Pure.ofL t), .int .i64 (a : Int)] w1 (Out T B src rb w encU (Pure.adds t left s)) := by
  have := adds_R (Pure.ofL t) left a h1 ha (by rw [← Pure.length_toL]; exact ht)
  rw [Pure.toL_ofL] at this
  exact this.mono fun e w' h => h.also hb
theorem rest_byte {k : Nat} {c : UInt8} {r : Pure.Bytes} (hr : st.rest = (Pure.toL src).drop k) (hc : st.rest = c :: r) : ∃ hk : k < src.size, src[k] = c := by
  have hk : k < src.size := by
    have h1 := congrArg List.length (hr.symm.trans hc)
    rw [List.length_drop, Pure.length_toL] at h1
    simp only [List.length_cons] at h1
    omega
  refine ⟨hk, ?_⟩
  have := hr.symm.trans hc
  rw [drop_cons src k hk] at this
  exact (List.cons.inj this).1
set_option maxRecDepth 100000 in
set_option maxHeartbeats 3200000 in
theorem piece_R (h : Inv T B src rb st w) (hne : st.rest ≠ []) (hT : ∀ r, st.rest = 60 :: r → Calls Tryz.prog 114 #[.pointer (some ⟨rb, 0, none⟩)] w (Out T B src rb w encU (Pure.tag st))) :
    Calls Tryz.prog 94 #[.pointer (some ⟨rb, 0, none⟩)] w (Out T B src rb w encU (Pure.piece st)) := by
  obtain ⟨k, ov, tp, tv, S, Hm, hk, Hr, Hl, c0, c1, c2, c3, c4, c5, c6, hf⟩ := h.parts
  have hs := h.size
  obtain ⟨c, r, hc⟩ : ∃ c r, st.rest = c :: r := by cases hr : st.rest with | nil => exact absurd hr hne | cons c r => exact ⟨c, r, rfl⟩
  obtain ⟨hlt, hbyte⟩ := rest_byte Hr.out hc
  have hV : Pure.piece st = if c = 60 then Pure.tag st else if c = 38 then (Pure.refer st).bind fun t s' => Pure.adds t st.rest.length s' else (Pure.char st).bind fun t s' => Pure.adds t st.rest.length s' := by unfold Pure.piece; rw [hc]
  by_cases h60 : c = 60
  · rw [if_pos h60] at hV
    have HT := Lib.hid (hT r (by rw [hc, h60]))
    have h1 : ((src[k].toNat : Int) == 60) = true := by rw [hbyte, h60]; rfl
    have HV := Lib.hid hV
    clear hV h hc hT hne h60 hbyte
    go_enter Tryz.func94, Tryz.ntmps94
    go_wp2_with (go_at_call 114; refine (HT.out).mono ?_)
    rintro e9 w9 ho
    cases hx : Pure.tag st with
    | ok a s => rw [hx] at ho; obtain ⟨rfl, ho⟩ := ho; have HX := Lib.hid (HV.out.trans hx); clear hx; unfold encU; go_wp2_with fail; go_end0; rw [HX.out]; exact ⟨rfl, ho⟩
    | fail l y ev => rw [hx] at ho; obtain ⟨rfl, ho⟩ := ho; have HX := Lib.hid (HV.out.trans hx); clear hx; go_wp2_with fail; rw [HX.out]; exact ⟨rfl, rfl, ho⟩
  · rw [if_neg h60] at hV
    have h1 : ((src[k].toNat : Int) == 60) = false := by rw [beq_eq_false_iff_ne, hbyte]; intro e; exact h60 (UInt8.toNat_inj.1 (by show c.toNat = 60; omega))
    by_cases h38 : c = 38
    · rw [if_pos h38] at hV
      have h2 : ((src[k].toNat : Int) == 38) = true := by rw [hbyte, h38]; rfl
      have HR := Lib.hid (refer_R h)
      have hls := fun t s (hx : Pure.refer st = .ok t s) => (refer_less hx hne).2
      have hl := rest_length hk Hr.out
      have HV0 := Lib.hid hV
      clear h hc hT hne h60 hbyte h38 hV
      go_enter Tryz.func94, Tryz.ntmps94
      go_wp2_with (go_at_call 116; refine (HR.out).mono ?_)
      rintro e1 w1 ho
      cases hrf : Pure.refer st with
      | fail l y ev =>
        have hV := HV0.out
        rw [hrf] at ho hV
        obtain ⟨rfl, ho⟩ := ho
        have HV : Hid (Pure.piece st = .fail l y ev) := hV
        clear hV hls hl
        go_wp2_with fail
        rw [HV.out]
        exact ⟨rfl, rfl, ho⟩
      | ok t s1 =>
        have hV := HV0.out
        rw [hrf] at ho hV
        obtain ⟨rfl, hi, hb⟩ := ho
        have HV : Hid (Pure.piece st = Pure.adds t st.rest.length s1) := hV
        have htl : t.length ≤ 262144 := by have := hls t s1 hrf; omega
        have HA := Lib.hid (adds_of (left := st.rest.length) (a := k) hi Hl.out htl hb)
        clear hV hi hb hrf hls HR hl htl
        go_wp2_with (go_at_call 115; refine (HA.out).mono ?_)
        rintro e9 w9 ho
        cases hx : Pure.adds t st.rest.length s1 with
        | ok a s => rw [hx] at ho; obtain ⟨rfl, ho⟩ := ho; have HX := Lib.hid (HV.out.trans hx); clear hx; unfold encU; go_wp2_with fail; go_end0; rw [HX.out]; exact ⟨rfl, ho⟩
        | fail l y ev => rw [hx] at ho; obtain ⟨rfl, ho⟩ := ho; have HX := Lib.hid (HV.out.trans hx); clear hx; go_wp2_with fail; rw [HX.out]; exact ⟨rfl, rfl, ho⟩
    · rw [if_neg h38] at hV
      have h2 : ((src[k].toNat : Int) == 38) = false := by rw [beq_eq_false_iff_ne, hbyte]; intro e; exact h38 (UInt8.toNat_inj.1 (by show c.toNat = 38; omega))
      have HR := Lib.hid (char_R h)
      have hls := fun t s (hx : Pure.char st = .ok t s) => (char_less hx).2
      have hl := rest_length hk Hr.out
      have HV0 := Lib.hid hV
      clear h hc hT hne h60 hbyte h38 hV
      go_enter Tryz.func94, Tryz.ntmps94
      go_wp2_with (go_at_call 117; refine (HR.out).mono ?_)
      rintro e1 w1 ho
      cases hrf : Pure.char st with
      | fail l y ev =>
        have hV := HV0.out
        rw [hrf] at ho hV
        obtain ⟨rfl, ho⟩ := ho
        have HV : Hid (Pure.piece st = .fail l y ev) := hV
        clear hV hls hl
        go_wp2_with fail
        rw [HV.out]
        exact ⟨rfl, rfl, ho⟩
      | ok t s1 =>
        have hV := HV0.out
        rw [hrf] at ho hV
        obtain ⟨rfl, hi, hb⟩ := ho
        have HV : Hid (Pure.piece st = Pure.adds t st.rest.length s1) := hV
        have htl : t.length ≤ 262144 := by have := hls t s1 hrf; omega
        have HA := Lib.hid (adds_of (left := st.rest.length) (a := k) hi Hl.out htl hb)
        clear hV hi hb hrf hls HR hl htl
        go_wp2_with (go_at_call 115; refine (HA.out).mono ?_)
        rintro e9 w9 ho
        cases hx : Pure.adds t st.rest.length s1 with
        | ok a s => rw [hx] at ho; obtain ⟨rfl, ho⟩ := ho; have HX := Lib.hid (HV.out.trans hx); clear hx; unfold encU; go_wp2_with fail; go_end0; rw [HX.out]; exact ⟨rfl, ho⟩
        | fail l y ev => rw [hx] at ho; obtain ⟨rfl, ho⟩ := ho; have HX := Lib.hid (HV.out.trans hx); clear hx; go_wp2_with fail; rw [HX.out]; exact ⟨rfl, rfl, ho⟩
end Go.Proofs.YtipfakmbjajhlaaGreatDoor 
