/-
  The reader's method tag: an element's beginning, what is none, raw text; and all ways together.
-/
import Derived.Test.YtipfakmbjajhlaaGreatDoorTag2
set_option linter.unusedVariables false
set_option linter.unusedSimpArgs false
namespace Go.Proofs.YtipfakmbjajhlaaGreatDoor 
open Go.RowKit Go.Shelf
variable {T : Teller} {B : Nat} {src : ByteArray} {rb : Nat} {st : Pure.St} {w : World}
theorem getD_toL (s : ByteArray) (i : Nat) (h : i < s.size) : (Pure.toL s).getD i 0 = s[i] := by
  rw [List.getD_eq_getElem?_getD, List.getElem?_eq_getElem (by rw [Pure.length_toL]; exact h)]; rfl
set_option maxRecDepth 100000 in
set_option maxHeartbeats 3200000 in
theorem tag_open (h : Inv T B src rb st w) {k : Nat} (hk : k < src.size) (hrest : Hid (st.rest = (Pure.toL src).drop k)) (hT : TagTests st (src.extract k src.size) false false false false false false false false false true) (hlen : 2 ≤ st.rest.length) :
    Calls Tryz.prog 114 #[.pointer (some ⟨rb, 0, none⟩)] w (Out T B src rb w encU (Pure.tag st)) := by
  obtain ⟨k1, ov, tp, tv, S, Hm, hk1, Hr, Hl, c0, c1, c2, c3, c4, c5, c6, hf⟩ := h.parts
  obtain rfl : k1 = k := by
    have h1 := Hl.out
    have h2 := congrArg List.length hrest.out
    rw [List.length_drop, Pure.length_toL] at h2
    omega
  have hs := h.size
  obtain ⟨e1, e2, e3, p2, p3, p4, p5, p6, p7, e8, hV⟩ := hT
  have H2 := Lib.hid p2
  have H3 := Lib.hid p3
  have H4 := Lib.hid p4
  have H5 := Lib.hid p5
  have H6 := Lib.hid p6
  have H7 := Lib.hid p7
  have HV : Hid (Pure.tag st = Pure.opens st) := by rw [hV]; rfl
  have hxs : 1 < (src.extract k1 src.size).size := by have := Hl.out; simp; omega
  have hbyte : st.rest.getD 1 0 = (src.extract k1 src.size)[1] := by
    have hrs : st.rest = Pure.toL (src.extract k1 src.size) := by rw [toL_extract]; exact Hr.out
    rw [hrs]; exact getD_toL _ _ hxs
  have hL := fun W => sletter_any (src.extract k1 src.size)[1] W
  rw [← hbyte, e8] at hL
  rw [hbyte] at hL
  have HL := Lib.hid hL
  have hx1 : 1 < src.size - k1 := by have := Hl.out; omega
  have HC := Lib.hid (fun n => opens_R (h.drewN n) (by intro e; rw [e] at hlen; simp at hlen))
  clear hV h hrest p2 p3 p4 p5 p6 p7 e8 hL hbyte
  go_enter Tryz.func114, Tryz.ntmps114
  go_wp2_with fail
  go_quiet (fail)
  go_wp2_with (first | (go_at_call 126; first | ((with_reducible refine (H2.out _).mono ?_); rintro e' w' ⟨rfl, rfl⟩) | ((with_reducible refine (H3.out _).mono ?_); rintro e' w' ⟨rfl, rfl⟩) | ((with_reducible refine (H4.out _).mono ?_); rintro e' w' ⟨rfl, rfl⟩) | ((with_reducible refine (H5.out _).mono ?_); rintro e' w' ⟨rfl, rfl⟩) | ((with_reducible refine (H6.out _).mono ?_); rintro e' w' ⟨rfl, rfl⟩) | ((with_reducible refine (H7.out _).mono ?_); rintro e' w' ⟨rfl, rfl⟩)) | (go_at_call 129; refine (HL.out _).mono ?_; rintro e' w' ⟨rfl, rfl⟩) | (go_at_call 130; refine (HC.out _).mono ?_))
  rintro e9 w9 ho
  replace ho := ho.also (Below.drewN (Below.refl B w) _)
  cases hx : Pure.opens st with
  | ok a s => rw [hx] at ho; obtain ⟨rfl, ho⟩ := ho; have HX := Lib.hid (HV.out.trans hx); clear hx; unfold encU; go_wp2_with fail; go_end0; rw [HX.out]; exact ⟨rfl, ho⟩
  | fail l y ev => rw [hx] at ho; obtain ⟨rfl, ho⟩ := ho; have HX := Lib.hid (HV.out.trans hx); clear hx; go_wp2_with fail; rw [HX.out]; exact ⟨rfl, rfl, ho⟩
set_option maxRecDepth 100000 in
set_option maxHeartbeats 3200000 in
theorem tag_none (h : Inv T B src rb st w) {k : Nat} (hk : k < src.size) (hrest : Hid (st.rest = (Pure.toL src).drop k)) (hT : TagTests st (src.extract k src.size) false false false false false false false false false false) (hlen : 2 ≤ st.rest.length) :
    Calls Tryz.prog 114 #[.pointer (some ⟨rb, 0, none⟩)] w (Out T B src rb w encU (Pure.tag st)) := by
  obtain ⟨k1, ov, tp, tv, S, Hm, hk1, Hr, Hl, c0, c1, c2, c3, c4, c5, c6, hf⟩ := h.parts
  obtain rfl : k1 = k := by
    have h1 := Hl.out
    have h2 := congrArg List.length hrest.out
    rw [List.length_drop, Pure.length_toL] at h2
    omega
  have hs := h.size
  obtain ⟨e1, e2, e3, p2, p3, p4, p5, p6, p7, e8, hV⟩ := hT
  have H2 := Lib.hid p2
  have H3 := Lib.hid p3
  have H4 := Lib.hid p4
  have H5 := Lib.hid p5
  have H6 := Lib.hid p6
  have H7 := Lib.hid p7
  have HV : Hid (Pure.tag st = .fail st.rest.length 3 st.evs) := by rw [hV]; rfl
  have hxs : 1 < (src.extract k1 src.size).size := by have := Hl.out; simp; omega
  have hbyte : st.rest.getD 1 0 = (src.extract k1 src.size)[1] := by
    have hrs : st.rest = Pure.toL (src.extract k1 src.size) := by rw [toL_extract]; exact Hr.out
    rw [hrs]; exact getD_toL _ _ hxs
  have hL := fun W => sletter_any (src.extract k1 src.size)[1] W
  rw [← hbyte, e8] at hL
  rw [hbyte] at hL
  have HL := Lib.hid hL
  have hx1 : 1 < src.size - k1 := by have := Hl.out; omega
  have HI := Lib.hid h
  clear hV h hrest p2 p3 p4 p5 p6 p7 e8 hL hbyte
  go_enter Tryz.func114, Tryz.ntmps114
  go_wp2_with fail
  go_quiet (fail)
  go_wp2_with (first | (go_at_call 126; first | ((with_reducible refine (H2.out _).mono ?_); rintro e' w' ⟨rfl, rfl⟩) | ((with_reducible refine (H3.out _).mono ?_); rintro e' w' ⟨rfl, rfl⟩) | ((with_reducible refine (H4.out _).mono ?_); rintro e' w' ⟨rfl, rfl⟩) | ((with_reducible refine (H5.out _).mono ?_); rintro e' w' ⟨rfl, rfl⟩) | ((with_reducible refine (H6.out _).mono ?_); rintro e' w' ⟨rfl, rfl⟩) | ((with_reducible refine (H7.out _).mono ?_); rintro e' w' ⟨rfl, rfl⟩)) | (go_at_call 129; refine (HL.out _).mono ?_; rintro e' w' ⟨rfl, rfl⟩) | (go_at_call 96; refine (fail_any _ _ _ _).mono ?_; rintro e' w2 ⟨rfl, rfl⟩))
  rw [HV.out]
  exact ⟨rfl, out_fail (HI.out.drewN _) (Below.drewN (Below.refl B w) _) Hl.out⟩
theorem past_less {j : Nat} {mark : Pure.Bytes} {s : Pure.St} (hm : mark ≠ []) (h : Pure.past j mark st = .ok () s) : s.rest.length + j + mark.length ≤ st.rest.length ∧ ReadsOnly st s := by
  unfold Pure.past at h
  split at h
  · cases h
  · rename_i h0
    cases h
    have h1 := index_room (st.rest.drop j) mark hm (by omega)
    rw [List.length_drop] at h1
    refine ⟨?_, rfl⟩
    simp only [List.length_drop]
    have : 0 < mark.length := List.length_pos_iff.2 hm
    omega
theorem adds_rest {t : Pure.Bytes} {left : Nat} {s s2 : Pure.St} {u : Unit} (h : Pure.adds t left s = .ok u s2) : s2.rest = s.rest := by
  unfold Pure.adds at h
  obtain ⟨_, s1, h1, h2⟩ := bind_inv h
  have e1 : s1.rest = s.rest := by
    split at h1
    · unfold Pure.begins at h1
      split at h1
      · cases h1
      · cases h1; rfl
    · cases h1; rfl
  split at h2
  · cases h2
  · cases h2; exact e1
/-- Raw text's loop, at a round. -/
def RawRel (T : Teller) (B : Nat) (src : ByteArray) (rb : Nat) (w : World) (st s1 : Pure.St) (m : Nat) (wr : World) : Prop :=
  ∃ f s, m = s.rest.length ∧ s.rest.length < f ∧ Inv T B src rb s wr ∧ Below B w wr ∧ Pure.tag st = (Pure.rawLoop f (s1.rest.length + 3) s).bind fun _ s2 => .ok () { s2 with rest := s1.rest }
set_option maxRecDepth 100000 in
set_option maxHeartbeats 3200000 in
theorem tag_raw1 (h : Inv T B src rb st w) {k : Nat} (hk : k < src.size) (hrest : Hid (st.rest = (Pure.toL src).drop k)) {q3 h7 l8 : Bool} (hT : TagTests st (src.extract k src.size) false false false true q3 false false true h7 l8) (hlen : 9 ≤ st.rest.length) :
    Calls Tryz.prog 114 #[.pointer (some ⟨rb, 0, none⟩)] w (Out T B src rb w encU (Pure.tag st)) := by
  obtain ⟨k1, ov, tp, tv, S, Hm, hk1, Hr, Hl, c0, c1, c2, c3, c4, c5, c6, hf⟩ := h.parts
  obtain rfl : k1 = k := by
    have h1 := Hl.out
    have h2 := congrArg List.length hrest.out
    rw [List.length_drop, Pure.length_toL] at h2
    omega
  have hs := h.size
  obtain ⟨e1, e2, e3, p2, p3, p4, p5, p6, p7, e8, hV⟩ := hT
  have H2 := Lib.hid p2
  have H3 := Lib.hid p3
  have H4 := Lib.hid p4
  have H5 := Lib.hid p5
  have H6 := Lib.hid p6
  have H7 := Lib.hid p7
  have HV : Hid (Pure.tag st = (Pure.past 9 (Pure.toL ⟨#[93, 93, 62]⟩) st).bind fun _ s1 => (Pure.rawLoop (st.rest.length + 1) (s1.rest.length + 3) { s1 with rest := st.rest.drop 9 }).bind fun _ s2 => .ok () { s2 with rest := s1.rest }) := by rw [hV]; rfl
  have HC := Lib.hid (fun n => (past_R 9 (k1 + 9) ⟨#[93, 93, 62]⟩ (h.drewN n) (by have := Hl.out; omega) hlen (by decide) (by decide) : Calls _ _ #[_, .int .i64 ((k1 + 9 : Nat) : Int), _] _ _))
  have hbase := h.base
  clear hV h hrest p2 p3 p4 p5 p6 p7 e8
  go_enter Tryz.func114, Tryz.ntmps114
  go_wp2_with fail
  go_quiet (fail)
  go_wp2_with (first | (go_at_call 126; first | ((with_reducible refine (H2.out _).mono ?_); rintro e' w' ⟨rfl, rfl⟩) | ((with_reducible refine (H3.out _).mono ?_); rintro e' w' ⟨rfl, rfl⟩) | ((with_reducible refine (H4.out _).mono ?_); rintro e' w' ⟨rfl, rfl⟩) | ((with_reducible refine (H5.out _).mono ?_); rintro e' w' ⟨rfl, rfl⟩) | ((with_reducible refine (H6.out _).mono ?_); rintro e' w' ⟨rfl, rfl⟩) | ((with_reducible refine (H7.out _).mono ?_); rintro e' w' ⟨rfl, rfl⟩)) | (go_at_call 127; refine (HC.out _).mono ?_))
  rintro e9 w9 ho
  replace ho := ho.also (Below.drewN (Below.refl B w) _)
  cases hx : Pure.past 9 (Pure.toL ⟨#[93, 93, 62]⟩) st with
  | fail l y ev =>
    rw [hx] at ho
    obtain ⟨rfl, ho⟩ := ho
    have HX : Hid (Pure.tag st = .fail l y ev) := by rw [HV.out, hx]; exact rfl
    clear hx
    go_wp2_with fail
    rw [HX.out]
    exact ⟨rfl, rfl, ho⟩
  | ok a s1 =>
    rw [hx] at ho
    obtain ⟨rfl, h1, hb1⟩ := ho
    obtain ⟨hpl, hro⟩ := past_less (by decide) hx
    have hpl' : s1.rest.length + 12 ≤ st.rest.length := hpl
    have HV1 : Hid (Pure.tag st = (Pure.rawLoop (st.rest.length + 1) (s1.rest.length + 3) { s1 with rest := st.rest.drop 9 }).bind fun _ s2 => .ok () { s2 with rest := s1.rest }) := by rw [HV.out, hx]; exact rfl
    obtain ⟨k2, ov2, tp2, tv2, S2, Hm2, hk2, Hr2, Hl2, d0, d1, d2, d3, d4, d5, d6, df⟩ := h1.parts
    have hl2 := Hl2.out
    have hl1 := Hl.out
    have hmv := h1.move Hm2.out (k' := k1 + 9) (by omega) 0
    have e9 : ((k1 + 9 : Nat) : Int) = (k1 : Int) + 9 := by omega
    rw [e9] at hmv
    have hdr : (Pure.toL src).drop (k1 + 9) = st.rest.drop 9 := by rw [Hr.out, List.drop_drop]
    rw [hdr] at hmv
    have Hmv := Lib.hid hmv
    have Hb1 := Lib.hid hb1
    have hk12 : k1 + 12 ≤ k2 := by omega
    clear hx h1 hb1 hpl hmv hdr HV HC c0 c1 c2 c3 c4 c5 c6 hf hl2 hl1 hro
    unfold encU
    go_wp2_with fail
    go_loopg [] (st.rest.length - 9) (fun m wr => RawRel T B src rb w st s1 m wr)
    case atStart =>
      exact ⟨st.rest.length + 1, _, by simp, by simp; omega, Hmv.out, Hb1.out.setCell hbase _, HV1.out⟩
    case round =>
      obtain ⟨f, s, rfl, hf, hI, hb, hV⟩ := hrel
      obtain ⟨f, rfl⟩ : ∃ f', f = f' + 1 := ⟨f - 1, by omega⟩
      obtain ⟨k3, ov3, tp3, tv3, S3, Hm3, hk3, Hr3, Hl3, t0, t1, t2, t3, t4, t5, t6, tf⟩ := hI.parts
      have hl3 := Hl3.out
      have hl2 := Hl2.out
      have HI := Lib.hid hI
      have Hb := Lib.hid hb
      have HVr := Lib.hid hV
      clear hI hb hV d0 d1 d2 d3 d4 d5 d6 df
      by_cases hst : s.rest.length ≤ s1.rest.length + 3
      · have hge : ¬ (k3 : Int) < (k2 : Int) - 3 := by omega
        have HX : Hid (Pure.tag st = .ok () { s with rest := s1.rest }) := by
          show Pure.tag st = _
          rw [HVr.out]; unfold Pure.rawLoop; rw [if_pos hst]; exact rfl
        clear hl3 hl2 hst
        go_wp2_with fail
        go_end0
        rw [HX.out]
        have hmv := HI.out.move Hm3.out (k' := k2) hk2 0
        rw [← Hr2.out] at hmv
        exact ⟨rfl, hmv, Hb.out.setCell HI.out.base _⟩
      · have hlt : (k3 : Int) < (k2 : Int) - 3 := by omega
        have HR := Lib.hid (char_R HI.out)
        have hls := fun t s' (hx : Pure.char s = .ok t s') => char_less hx
        have HVc : Hid (Pure.tag st = ((Pure.char s).bind fun t s' => (Pure.adds t s.rest.length s').bind fun _ s' => Pure.rawLoop f (s1.rest.length + 3) s').bind fun _ s2 => .ok () { s2 with rest := s1.rest }) := by
          show Pure.tag st = _
          rw [HVr.out]; conv => lhs; unfold Pure.rawLoop
          rw [if_neg hst]
        have hs3 : s.rest.length ≤ 262144 := by omega
        clear hl3 hl2 hst HVr HV1
        go_wp2_with (go_at_call 117; refine (HR.out).mono ?_)
        rintro e1 w1 ho
        cases hch : Pure.char s with
        | fail l y ev =>
          rw [hch] at ho
          obtain ⟨rfl, ho⟩ := ho
          have HX : Hid (Pure.tag st = .fail l y ev) := by show Pure.tag st = _; rw [HVc.out, hch]; exact rfl
          clear hch
          go_wp2_with fail
          rw [HX.out]
          exact ⟨rfl, rfl, ho.1, Hb.out.trans ho.2⟩
        | ok t s4 =>
          rw [hch] at ho
          obtain ⟨rfl, h4, hb4⟩ := ho
          have hcl := hls t s4 hch
          have HVd : Hid (Pure.tag st = ((Pure.adds t s.rest.length s4).bind fun _ s' => Pure.rawLoop f (s1.rest.length + 3) s').bind fun _ s2 => .ok () { s2 with rest := s1.rest }) := by
            show Pure.tag st = _; rw [HVc.out, hch]; exact rfl
          have htl : t.length ≤ 262144 := by omega
          have HA := Lib.hid (adds_of (left := s.rest.length) (a := k3) h4 Hl3.out htl hb4)
          have Hcl := Lib.hid hcl
          clear hch h4 hb4 hcl hls HR htl HVc hs3
          go_wp2_with (go_at_call 115; refine (HA.out).mono ?_)
          rintro e2 w2 ho
          cases had : Pure.adds t s.rest.length s4 with
          | fail l y ev =>
            rw [had] at ho
            obtain ⟨rfl, ho⟩ := ho
            have HX : Hid (Pure.tag st = .fail l y ev) := by show Pure.tag st = _; rw [HVd.out, had]; exact rfl
            clear had
            go_wp2_with fail
            rw [HX.out]
            exact ⟨rfl, rfl, ho.1, Hb.out.trans ho.2⟩
          | ok u s5 =>
            rw [had] at ho
            obtain ⟨rfl, h5, hb5⟩ := ho
            have hr5 := adds_rest had
            have HX : Hid (Pure.tag st = (Pure.rawLoop f (s1.rest.length + 3) s5).bind fun _ s2 => .ok () { s2 with rest := s1.rest }) := by
              show Pure.tag st = _; rw [HVd.out, had]; exact rfl
            have H5 := Lib.hid h5
            have Hb5 := Lib.hid (Hb.out.trans hb5)
            have Hr5 := Lib.hid hr5
            clear had h5 hb5 hr5 HVd HA
            unfold encU
            go_wp2_with fail
            go_roundg s5.rest.length
            case measure => have h1 := Hr5.out; have h2 := Hcl.out; rw [h1]; exact h2.1
            case rel => exact ⟨f, s5, rfl, by have h1 := Hr5.out; have h2 := Hcl.out; rw [h1]; omega, H5.out, Hb5.out, HX.out⟩
set_option maxRecDepth 100000 in
set_option maxHeartbeats 3200000 in
theorem tag_raw2 (h : Inv T B src rb st w) {k : Nat} (hk : k < src.size) (hrest : Hid (st.rest = (Pure.toL src).drop k)) {h7 l8 : Bool} (hT : TagTests st (src.extract k src.size) false false false false false false false true h7 l8) (hlen : 9 ≤ st.rest.length) :
    Calls Tryz.prog 114 #[.pointer (some ⟨rb, 0, none⟩)] w (Out T B src rb w encU (Pure.tag st)) := by
  obtain ⟨k1, ov, tp, tv, S, Hm, hk1, Hr, Hl, c0, c1, c2, c3, c4, c5, c6, hf⟩ := h.parts
  obtain rfl : k1 = k := by
    have h1 := Hl.out
    have h2 := congrArg List.length hrest.out
    rw [List.length_drop, Pure.length_toL] at h2
    omega
  have hs := h.size
  obtain ⟨e1, e2, e3, p2, p3, p4, p5, p6, p7, e8, hV⟩ := hT
  have H2 := Lib.hid p2
  have H3 := Lib.hid p3
  have H4 := Lib.hid p4
  have H5 := Lib.hid p5
  have H6 := Lib.hid p6
  have H7 := Lib.hid p7
  have HV : Hid (Pure.tag st = (Pure.past 9 (Pure.toL ⟨#[93, 93, 62]⟩) st).bind fun _ s1 => (Pure.rawLoop (st.rest.length + 1) (s1.rest.length + 3) { s1 with rest := st.rest.drop 9 }).bind fun _ s2 => .ok () { s2 with rest := s1.rest }) := by rw [hV]; rfl
  have HC := Lib.hid (fun n => (past_R 9 (k1 + 9) ⟨#[93, 93, 62]⟩ (h.drewN n) (by have := Hl.out; omega) hlen (by decide) (by decide) : Calls _ _ #[_, .int .i64 ((k1 + 9 : Nat) : Int), _] _ _))
  have hbase := h.base
  clear hV h hrest p2 p3 p4 p5 p6 p7 e8
  go_enter Tryz.func114, Tryz.ntmps114
  go_wp2_with fail
  go_quiet (fail)
  go_wp2_with (first | (go_at_call 126; first | ((with_reducible refine (H2.out _).mono ?_); rintro e' w' ⟨rfl, rfl⟩) | ((with_reducible refine (H3.out _).mono ?_); rintro e' w' ⟨rfl, rfl⟩) | ((with_reducible refine (H4.out _).mono ?_); rintro e' w' ⟨rfl, rfl⟩) | ((with_reducible refine (H5.out _).mono ?_); rintro e' w' ⟨rfl, rfl⟩) | ((with_reducible refine (H6.out _).mono ?_); rintro e' w' ⟨rfl, rfl⟩) | ((with_reducible refine (H7.out _).mono ?_); rintro e' w' ⟨rfl, rfl⟩)) | (go_at_call 127; refine (HC.out _).mono ?_))
  rintro e9 w9 ho
  replace ho := ho.also (Below.drewN (Below.refl B w) _)
  cases hx : Pure.past 9 (Pure.toL ⟨#[93, 93, 62]⟩) st with
  | fail l y ev =>
    rw [hx] at ho
    obtain ⟨rfl, ho⟩ := ho
    have HX : Hid (Pure.tag st = .fail l y ev) := by rw [HV.out, hx]; exact rfl
    clear hx
    go_wp2_with fail
    rw [HX.out]
    exact ⟨rfl, rfl, ho⟩
  | ok a s1 =>
    rw [hx] at ho
    obtain ⟨rfl, h1, hb1⟩ := ho
    obtain ⟨hpl, hro⟩ := past_less (by decide) hx
    have hpl' : s1.rest.length + 12 ≤ st.rest.length := hpl
    have HV1 : Hid (Pure.tag st = (Pure.rawLoop (st.rest.length + 1) (s1.rest.length + 3) { s1 with rest := st.rest.drop 9 }).bind fun _ s2 => .ok () { s2 with rest := s1.rest }) := by rw [HV.out, hx]; exact rfl
    obtain ⟨k2, ov2, tp2, tv2, S2, Hm2, hk2, Hr2, Hl2, d0, d1, d2, d3, d4, d5, d6, df⟩ := h1.parts
    have hl2 := Hl2.out
    have hl1 := Hl.out
    have hmv := h1.move Hm2.out (k' := k1 + 9) (by omega) 0
    have e9 : ((k1 + 9 : Nat) : Int) = (k1 : Int) + 9 := by omega
    rw [e9] at hmv
    have hdr : (Pure.toL src).drop (k1 + 9) = st.rest.drop 9 := by rw [Hr.out, List.drop_drop]
    rw [hdr] at hmv
    have Hmv := Lib.hid hmv
    have Hb1 := Lib.hid hb1
    have hk12 : k1 + 12 ≤ k2 := by omega
    clear hx h1 hb1 hpl hmv hdr HV HC c0 c1 c2 c3 c4 c5 c6 hf hl2 hl1 hro
    unfold encU
    go_wp2_with fail
    go_loopg [] (st.rest.length - 9) (fun m wr => RawRel T B src rb w st s1 m wr)
    case atStart =>
      exact ⟨st.rest.length + 1, _, by simp, by simp; omega, Hmv.out, Hb1.out.setCell hbase _, HV1.out⟩
    case round =>
      obtain ⟨f, s, rfl, hf, hI, hb, hV⟩ := hrel
      obtain ⟨f, rfl⟩ : ∃ f', f = f' + 1 := ⟨f - 1, by omega⟩
      obtain ⟨k3, ov3, tp3, tv3, S3, Hm3, hk3, Hr3, Hl3, t0, t1, t2, t3, t4, t5, t6, tf⟩ := hI.parts
      have hl3 := Hl3.out
      have hl2 := Hl2.out
      have HI := Lib.hid hI
      have Hb := Lib.hid hb
      have HVr := Lib.hid hV
      clear hI hb hV d0 d1 d2 d3 d4 d5 d6 df
      by_cases hst : s.rest.length ≤ s1.rest.length + 3
      · have hge : ¬ (k3 : Int) < (k2 : Int) - 3 := by omega
        have HX : Hid (Pure.tag st = .ok () { s with rest := s1.rest }) := by
          show Pure.tag st = _
          rw [HVr.out]; unfold Pure.rawLoop; rw [if_pos hst]; exact rfl
        clear hl3 hl2 hst
        go_wp2_with fail
        go_end0
        rw [HX.out]
        have hmv := HI.out.move Hm3.out (k' := k2) hk2 0
        rw [← Hr2.out] at hmv
        exact ⟨rfl, hmv, Hb.out.setCell HI.out.base _⟩
      · have hlt : (k3 : Int) < (k2 : Int) - 3 := by omega
        have HR := Lib.hid (char_R HI.out)
        have hls := fun t s' (hx : Pure.char s = .ok t s') => char_less hx
        have HVc : Hid (Pure.tag st = ((Pure.char s).bind fun t s' => (Pure.adds t s.rest.length s').bind fun _ s' => Pure.rawLoop f (s1.rest.length + 3) s').bind fun _ s2 => .ok () { s2 with rest := s1.rest }) := by
          show Pure.tag st = _
          rw [HVr.out]; conv => lhs; unfold Pure.rawLoop
          rw [if_neg hst]
        have hs3 : s.rest.length ≤ 262144 := by omega
        clear hl3 hl2 hst HVr HV1
        go_wp2_with (go_at_call 117; refine (HR.out).mono ?_)
        rintro e1 w1 ho
        cases hch : Pure.char s with
        | fail l y ev =>
          rw [hch] at ho
          obtain ⟨rfl, ho⟩ := ho
          have HX : Hid (Pure.tag st = .fail l y ev) := by show Pure.tag st = _; rw [HVc.out, hch]; exact rfl
          clear hch
          go_wp2_with fail
          rw [HX.out]
          exact ⟨rfl, rfl, ho.1, Hb.out.trans ho.2⟩
        | ok t s4 =>
          rw [hch] at ho
          obtain ⟨rfl, h4, hb4⟩ := ho
          have hcl := hls t s4 hch
          have HVd : Hid (Pure.tag st = ((Pure.adds t s.rest.length s4).bind fun _ s' => Pure.rawLoop f (s1.rest.length + 3) s').bind fun _ s2 => .ok () { s2 with rest := s1.rest }) := by
            show Pure.tag st = _; rw [HVc.out, hch]; exact rfl
          have htl : t.length ≤ 262144 := by omega
          have HA := Lib.hid (adds_of (left := s.rest.length) (a := k3) h4 Hl3.out htl hb4)
          have Hcl := Lib.hid hcl
          clear hch h4 hb4 hcl hls HR htl HVc hs3
          go_wp2_with (go_at_call 115; refine (HA.out).mono ?_)
          rintro e2 w2 ho
          cases had : Pure.adds t s.rest.length s4 with
          | fail l y ev =>
            rw [had] at ho
            obtain ⟨rfl, ho⟩ := ho
            have HX : Hid (Pure.tag st = .fail l y ev) := by show Pure.tag st = _; rw [HVd.out, had]; exact rfl
            clear had
            go_wp2_with fail
            rw [HX.out]
            exact ⟨rfl, rfl, ho.1, Hb.out.trans ho.2⟩
          | ok u s5 =>
            rw [had] at ho
            obtain ⟨rfl, h5, hb5⟩ := ho
            have hr5 := adds_rest had
            have HX : Hid (Pure.tag st = (Pure.rawLoop f (s1.rest.length + 3) s5).bind fun _ s2 => .ok () { s2 with rest := s1.rest }) := by
              show Pure.tag st = _; rw [HVd.out, had]; exact rfl
            have H5 := Lib.hid h5
            have Hb5 := Lib.hid (Hb.out.trans hb5)
            have Hr5 := Lib.hid hr5
            clear had h5 hb5 hr5 HVd HA
            unfold encU
            go_wp2_with fail
            go_roundg s5.rest.length
            case measure => have h1 := Hr5.out; have h2 := Hcl.out; rw [h1]; exact h2.1
            case rel => exact ⟨f, s5, rfl, by have h1 := Hr5.out; have h2 := Hcl.out; rw [h1]; omega, H5.out, Hb5.out, HX.out⟩
end Go.Proofs.YtipfakmbjajhlaaGreatDoor 
