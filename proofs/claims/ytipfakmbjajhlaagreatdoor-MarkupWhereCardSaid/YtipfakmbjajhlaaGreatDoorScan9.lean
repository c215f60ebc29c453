/-
  The reader's method reference.
-/
import Derived.Test.YtipfakmbjajhlaaGreatDoorScan8
set_option linter.unusedVariables false
set_option linter.unusedSimpArgs false
namespace Go.Proofs.YtipfakmbjajhlaaGreatDoor 
open Go.RowKit
variable {T : Teller} {B : Nat} {src : ByteArray} {rb : Nat} {st : Pure.St} {w : World}
theorem NoHex.take {l : Pure.Bytes} (h : NoHex l) (n : Nat) : NoHex (l.take n) := by
  intro k
  have h1 := h k
  cases hp : Pure.hasPre ((l.take n).drop k) [38, 35, 120] with
  | false => rfl
  | true =>
    have h2 := List.isPrefixOf_iff_prefix.1 hp
    rw [List.drop_take] at h2
    have h3 := h2.trans (List.take_prefix _ _)
    rw [← List.isPrefixOf_iff_prefix] at h3
    have h4 : Pure.hasPre (l.drop k) [38, 35, 120] = true := h3
    rw [h4] at h1
    exact absurd h1 (by decide)
theorem NoHex.drop {l : Pure.Bytes} (h : NoHex l) (n : Nat) : NoHex (l.drop n) := fun k => by rw [List.drop_drop]; exact h _
theorem extract_pre (s : ByteArray) (n : Nat) : Pure.toL (s.extract 0 n) = (Pure.toL s).take n := by
  unfold Pure.toL
  rw [Lib.extract_data]
  simp
theorem refer_ok {k ps : Nat} {ov tp tv : Value} {S : Nat → Prop} {w0 w1 : World} {t : Pure.Bytes} (h : Inv T B src rb st w1) (hm : Mem T B src rb k st ov tp tv S w1) (hr : st.rest = (Pure.toL src).drop k) {k0 : Nat} (hk0 : k = k0) (hk : k0 + ps ≤ src.size) (hb : Below B w0 w1) {v : Value} (hv : v = .string (Pure.ofL t)) {w2 : World} {z : Int} (hw : w2 = w1.setCell ⟨rb, 1, none⟩ (.int .i64 z)) (hz : z = (k : Int) + (ps : Int)) :
    Out T B src rb w0 (fun l => .string (Pure.ofL l)) (.ok t { st with rest := st.rest.drop ps }) (.returned v) w2 := by
  subst hk0 hv hw hz
  have hmv := h.move hm hk 0
  have e1 : st.rest.drop ps = (Pure.toL src).drop (k + ps) := by rw [hr, List.drop_drop]
  rw [e1]
  refine ⟨rfl, ?_, hb.setCell h.base _⟩
  have e3 : ((k + ps : Nat) : Int) = (k : Int) + (ps : Int) := by omega
  rw [← e3]
  exact hmv
set_option maxRecDepth 100000 in
set_option maxHeartbeats 3200000 in
theorem refer_R (h : Inv T B src rb st w) : Calls Tryz.prog 116 #[.pointer (some ⟨rb, 0, none⟩)] w (Out T B src rb w (fun l => .string (Pure.ofL l)) (Pure.refer st)) := by
  obtain ⟨k, ov, tp, tv, S, Hm, hk, Hr, Hl, c0, c1, c2, c3, c4, c5, c6, hf⟩ := h.parts
  have hs := h.size
  have hl := Hl.out
  -- the bytes at hand
  obtain ⟨e10, he10, hke, hes⟩ : ∃ e10 : Nat, e10 = min (k + 10) src.size ∧ k ≤ e10 ∧ e10 ≤ src.size := ⟨_, rfl, by omega, by omega⟩
  have hP : Pure.toL (src.extract k e10) = st.rest.take 10 := by
    have := extract_from src k (e10 - k)
    rw [show k + (e10 - k) = e10 from by omega] at this
    rw [this, Hr.out]
    have hdl : ((Pure.toL src).drop k).length = src.size - k := by rw [List.length_drop, Pure.length_toL]
    by_cases h10 : k + 10 ≤ src.size
    · rw [show e10 - k = 10 from by omega]
    · rw [List.take_of_length_le (by omega), List.take_of_length_le (by omega)]
  have hI := fun W => Tryz.strings_IndexByte (src.extract k e10) 59 W
  have hI' : ∀ W, Calls Tryz.prog 132 #[.string (src.extract k e10), .int .u8 59] W fun e w' => e = .returned (.int .i64 (Lib.indexByte (st.rest.take 10) 59)) ∧ w' = W := by
    intro W; rw [← hP]; exact hI W
  have hge := Lib.indexByte_ge (st.rest.take 10) 59
  have hlt := indexByte_lt (st.rest.take 10) 59
  have htl : (st.rest.take 10).length = e10 - k := by rw [← hP, Pure.length_toL]; simp; omega
  rw [htl] at hlt
  have hpart : Pure.refPart st.rest = if Lib.indexByte (st.rest.take 10) 59 < 0 then st.rest.take 10 else (st.rest.take 10).take ((Lib.indexByte (st.rest.take 10) 59).toNat + 1) := rfl
  have hnh : NoHex st.rest := by rw [Hr.out]; exact h.nohex.drop k
  have HT := Lib.hid h.tabs
  have H := Lib.hid h
  have HI := Lib.hid hI'
  have HP := Lib.hid hP
  have HN := Lib.hid hnh
  have HPt := Lib.hid hpart
  have HMin : Hid ((min ((k : Int) + 10) (src.size : Int)).toNat = e10) := by show (min ((k : Int) + 10) (src.size : Int)).toNat = e10; omega
  have HE := Lib.hid he10
  have HL := Lib.hid hl
  have HTl := Lib.hid htl
  clear hI hI' hP hnh hpart h hl htl he10
  generalize Lib.indexByte (st.rest.take 10) 59 = x at *
  by_cases hx : x < 0
  · have hps : Pure.toL (src.extract k e10) = Pure.refPart st.rest := by rw [HPt.out, if_pos hx]; exact HP.out
    have hpsz : k + (src.extract k e10).size ≤ src.size := by simp; omega
    have hU := fun W (hT : Tabs W) => Unescape_any (src.extract k e10) W hT (by omega) (by rw [hps, HPt.out]; split; all_goals (first | exact HN.out.take _ | exact (HN.out.take _).take _))
    rw [hps] at hU
    have hV : Pure.refer st = (if (Pure.unescape (Pure.refPart st.rest)).2.2 ≠ 0 then .fail st.rest.length (Pure.unescape (Pure.refPart st.rest)).2.2 st.evs else .ok (Pure.unescape (Pure.refPart st.rest)).1 { st with rest := st.rest.drop (src.extract k e10).size }) := by
      have : (src.extract k e10).size = (Pure.refPart st.rest).length := by rw [← hps, Pure.length_toL]
      rw [this]; rfl
    rw [hV]
    generalize Pure.unescape (Pure.refPart st.rest) = Q at *
    obtain ⟨t, n, e⟩ := Q
    have HU := Lib.hid hU
    have HPs := Lib.hid hps
    clear hU hps hV hge hlt
    by_cases he : e = 0
    · subst he
      rw [if_neg (fun h => h rfl)]
      go_enter Tryz.func116, Tryz.ntmps116
      go_wp2_with fail
      go_quiet (fail)
      go_wp2_with fail
      rw [HMin.out]
      go_wp2_with (first | (go_at_call 132; refine (HI.out _).mono ?_; rintro e' w1 ⟨rfl, rfl⟩) | (go_at_call 133; refine (HU.out _ (HT.out.drewN _)).mono ?_; rintro e' w1 ⟨rfl, hb1⟩; unfold vText; have h1 := (H.out.drewN _).later hb1; have Hb1 := Lib.hid (Below.thenNew (Below.drewN (Below.refl B w) _) H.out.room hb1); obtain ⟨k1, ov1, tp1, tv1, S1, Hm1, hk1, Hr1, Hl1, d0, d1, d2, d3, d4, d5, d6, df⟩ := h1.parts; have H1 := Lib.hid h1; clear h1 hb1))
      go_ret
      exact refer_ok H1.out Hm1.out Hr1.out (by have := Hl1.out; have := HL.out; omega) hpsz Hb1.out rfl rfl (by simp; try omega)
    · rw [if_pos he]
      have hne : (e != 0) = true := by rw [bne_iff_ne]; exact he
      clear he
      go_enter Tryz.func116, Tryz.ntmps116
      go_wp2_with fail
      go_quiet (fail)
      go_wp2_with fail
      rw [HMin.out]
      go_wp2_with (first | (go_at_call 132; refine (HI.out _).mono ?_; rintro e' w1 ⟨rfl, rfl⟩) | (go_at_call 133; refine (HU.out _ (HT.out.drewN _)).mono ?_; rintro e' w1 ⟨rfl, hb1⟩; unfold vText; have h1 := (H.out.drewN _).later hb1; have Hb1 := Lib.hid (Below.thenNew (Below.drewN (Below.refl B w) _) H.out.room hb1); obtain ⟨k1, ov1, tp1, tv1, S1, Hm1, hk1, Hr1, Hl1, d0, d1, d2, d3, d4, d5, d6, df⟩ := h1.parts; have H1 := Lib.hid h1; clear h1 hb1) | (go_at_call 96; refine (fail_any _ _ _ _).mono ?_; rintro e' w2 ⟨rfl, rfl⟩))
      exact ⟨rfl, out_fail H1.out Hb1.out Hl1.out⟩
  · obtain ⟨m, rfl⟩ : ∃ m : Nat, x = m := ⟨x.toNat, by omega⟩
    have hm := hlt (by omega)
    rw [show ((m : Int)).toNat = m from rfl] at HPt
    have hps : Pure.toL ((src.extract k e10).extract 0 (m + 1)) = Pure.refPart st.rest := by rw [HPt.out, if_neg hx, ← HP.out]; exact extract_pre _ _
    have hpsz : k + ((src.extract k e10).extract 0 (m + 1)).size ≤ src.size := by simp; omega
    have hU := fun W (hT : Tabs W) => Unescape_any ((src.extract k e10).extract 0 (m + 1)) W hT (by omega) (by rw [hps, HPt.out]; split; all_goals (first | exact HN.out.take _ | exact (HN.out.take _).take _))
    rw [hps] at hU
    have hV : Pure.refer st = (if (Pure.unescape (Pure.refPart st.rest)).2.2 ≠ 0 then .fail st.rest.length (Pure.unescape (Pure.refPart st.rest)).2.2 st.evs else .ok (Pure.unescape (Pure.refPart st.rest)).1 { st with rest := st.rest.drop ((src.extract k e10).extract 0 (m + 1)).size }) := by
      have : ((src.extract k e10).extract 0 (m + 1)).size = (Pure.refPart st.rest).length := by rw [← hps, Pure.length_toL]
      rw [this]; rfl
    rw [hV]
    generalize Pure.unescape (Pure.refPart st.rest) = Q at *
    obtain ⟨t, n, e⟩ := Q
    have HU := Lib.hid hU
    have HPs := Lib.hid hps
    clear hU hps hV hge hlt
    by_cases he : e = 0
    · subst he
      rw [if_neg (fun h => h rfl)]
      go_enter Tryz.func116, Tryz.ntmps116
      go_wp2_with fail
      go_quiet (fail)
      go_wp2_with fail
      rw [HMin.out]
      go_wp2_with (first | (go_at_call 132; refine (HI.out _).mono ?_; rintro e' w1 ⟨rfl, rfl⟩) | (go_at_call 133; refine (HU.out _ (HT.out.drewN _)).mono ?_; rintro e' w1 ⟨rfl, hb1⟩; unfold vText; have h1 := (H.out.drewN _).later hb1; have Hb1 := Lib.hid (Below.thenNew (Below.drewN (Below.refl B w) _) H.out.room hb1); obtain ⟨k1, ov1, tp1, tv1, S1, Hm1, hk1, Hr1, Hl1, d0, d1, d2, d3, d4, d5, d6, df⟩ := h1.parts; have H1 := Lib.hid h1; clear h1 hb1))
      go_ret
      exact refer_ok H1.out Hm1.out Hr1.out (by have := Hl1.out; have := HL.out; omega) hpsz Hb1.out rfl rfl (by simp; try omega)
    · rw [if_pos he]
      have hne : (e != 0) = true := by rw [bne_iff_ne]; exact he
      clear he
      go_enter Tryz.func116, Tryz.ntmps116
      go_wp2_with fail
      go_quiet (fail)
      go_wp2_with fail
      rw [HMin.out]
      go_wp2_with (first | (go_at_call 132; refine (HI.out _).mono ?_; rintro e' w1 ⟨rfl, rfl⟩) | (go_at_call 133; refine (HU.out _ (HT.out.drewN _)).mono ?_; rintro e' w1 ⟨rfl, hb1⟩; unfold vText; have h1 := (H.out.drewN _).later hb1; have Hb1 := Lib.hid (Below.thenNew (Below.drewN (Below.refl B w) _) H.out.room hb1); obtain ⟨k1, ov1, tp1, tv1, S1, Hm1, hk1, Hr1, Hl1, d0, d1, d2, d3, d4, d5, d6, df⟩ := h1.parts; have H1 := Lib.hid h1; clear h1 hb1) | (go_at_call 96; refine (fail_any _ _ _ _).mono ?_; rintro e' w2 ⟨rfl, rfl⟩))
      exact ⟨rfl, out_fail H1.out Hb1.out Hl1.out⟩
end Go.Proofs.YtipfakmbjajhlaaGreatDoor 
