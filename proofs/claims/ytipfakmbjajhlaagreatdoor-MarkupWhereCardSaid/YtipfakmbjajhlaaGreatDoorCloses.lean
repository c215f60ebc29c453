/-
  The reader's method closes.
-/
import Derived.Test.YtipfakmbjajhlaaGreatDoorLess
import Derived.RegionDies
import Derived.StillTailTactics
import Derived.IntWalk
set_option linter.unusedVariables false
set_option linter.unusedSimpArgs false
namespace Go.Proofs.YtipfakmbjajhlaaGreatDoor 
open Go.RowKit Go.Shelf
variable {T : Teller} {B : Nat} {src : ByteArray} {rb : Nat} {st : Pure.St} {w : World}
theorem flush_ok' (s : Pure.St) : ∃ s', Pure.flush s = .ok () s' ∧ s'.txt = [] ∧ s'.rest = s.rest ∧ s'.opn = s.opn ∧ s'.nodes = s.nodes ∧ s'.evs.length + 0 ≤ s.evs.length + (if s.txt = [] then 0 else 1) := by
  unfold Pure.flush
  by_cases h : s.txt = []
  · rw [if_pos h]; exact ⟨s, rfl, h, rfl, rfl, rfl, by simp [h]⟩
  · rw [if_neg h]; exact ⟨_, rfl, rfl, rfl, rfl, rfl, by simp [Pure.tellE, h]⟩
/-- The last of the elements' names. -/
theorem opn_last {s : Pure.St} {k : Nat} {ov tp tv : Value} {S : Nat → Prop} (hm : Mem T B src rb k s ov tp tv S w) {o : ByteArray} {os : List ByteArray} (ho : s.opn = o :: os) :
    ∃ g cap, ov = .slice (some ⟨g, 0, none⟩) (os.length + 1) cap ∧ os.length + 1 ≤ cap ∧ w.cell? ⟨g, os.length, none⟩ = some (.string o) ∧
      w.ownsRow B 9 1 (.slice (some ⟨g, 0, none⟩) os.length cap) os.length (os.reverse.map .string) := by
  have h := hm.opn
  rw [ho] at h
  obtain ⟨h1, h2⟩ := h
  rcases h2 with ⟨_, h0⟩ | ⟨g, cap, cur, rfl, hB, hg, hn, hc, hs, ht⟩
  · simp at h0
  · have e : (o :: os).reverse.map Value.string = os.reverse.map .string ++ [.string o] := by simp
    simp only [List.length_cons, Nat.mul_one] at ht hs hn
    rw [e] at ht
    refine ⟨g, cap, rfl, hn, ?_, by simp, .inr ⟨g, cap, cur, rfl, hB, hg, by omega, hc, by simpa using hs, ?_⟩⟩
    · rw [Lib.cell_of_heap hg]
      have := congrArg (fun l => l[os.length]?) ht
      rw [List.getElem?_take_of_lt (by omega), Array.getElem?_toList] at this
      rw [this]
      simp
    · rw [Nat.mul_one]
      have := congrArg (List.take os.length) ht
      rw [List.take_take, Nat.min_eq_left (by omega)] at this
      rw [this]
      simp
/-- The last name is taken off. -/
theorem closes_pop {s : Pure.St} {k g cap : Nat} {tp tv : Value} {S : Nat → Prop} {os : List ByteArray} {o : ByteArray} (hm : Mem T B src rb k s (.slice (some ⟨g, 0, none⟩) (os.length + 1) cap) tp tv S w) (ho : s.opn = o :: os)
    (hrow : w.ownsRow B 9 1 (.slice (some ⟨g, 0, none⟩) os.length cap) os.length (os.reverse.map .string)) :
    Mem T B src rb k { s with opn := os } (.slice (some ⟨g, 0, none⟩) os.length cap) tp tv S ((w.setCell ⟨rb, 2, none⟩ (.slice (some ⟨g, 0, none⟩) os.length cap)).drew) := by
  have hc : Chg (· = rb) w ((w.setCell ⟨rb, 2, none⟩ (.slice (some ⟨g, 0, none⟩) os.length cap)).drew) := (chg_setCell w ⟨rb, 2, none⟩ _).drewN 1
  have hgr : g ≠ rb := fun e => hm.ne_ov (by rw [e]; rfl)
  refine ⟨heap_setCell_same (i := 2) hm.rd _, owns_keep hrow fun i hi => hc.block i (hrow.lt i hi).2 ?_, hm.own, ⟨owns_keep hm.buf.1 fun i hi => hc.block i (hm.buf.1.lt i hi).2 ?_, hm.buf.2⟩, T.keep hm.told hc.size (fun i hi => hc.block i (T.lt hm.told hi) ?_), hm.above, hm.apart⟩
  · rintro rfl
    exact hgr (by simpa [Value.ownBlock] using hi)
  · rintro rfl; exact hm.ne_tv hi
  · rintro rfl; exact hm.ne_rb hi
theorem closes_end {s : Pure.St} {k g cap : Nat} {tp tv : Value} {S : Nat → Prop} {os : List ByteArray} {o nm : ByteArray} {w6 w8 : World} (hI : Inv T B src rb s w6) (hk : k ≤ src.size) (hr : s.rest = (Pure.toL src).drop k) (ho : s.opn = o :: os)
    (hb6 : Below B w w6) (hb7 : Below B w6 ((w6.setCell ⟨rb, 2, none⟩ (.slice (some ⟨g, 0, none⟩) os.length cap)).drew))
    (hm7 : Mem T B src rb k { s with opn := os } (.slice (some ⟨g, 0, none⟩) os.length cap) tp tv S ((w6.setCell ⟨rb, 2, none⟩ (.slice (some ⟨g, 0, none⟩) os.length cap)).drew))
    (hpost : ∃ S', T.inv (s.evs ++ [Pure.endE nm]) S' w8 ∧ (∀ i, S' i → S i ∨ ((w6.setCell ⟨rb, 2, none⟩ (.slice (some ⟨g, 0, none⟩) os.length cap)).drew).heap.size ≤ i) ∧ Chg S ((w6.setCell ⟨rb, 2, none⟩ (.slice (some ⟨g, 0, none⟩) os.length cap)).drew) w8) :
    Out T B src rb w encU (.ok () (Pure.tellE { s with opn := os } (Pure.endE nm))) (.returned (.tuple #[])) w8 := by
  obtain ⟨S', h1, h2, h3⟩ := hpost
  have hB7 : B ≤ ((w6.setCell ⟨rb, 2, none⟩ (.slice (some ⟨g, 0, none⟩) os.length cap)).drew).heap.size := Nat.le_trans hI.room hb7.size
  have hm8 := hm7.tells (SA := fun _ => False) hB7 (h3.mono fun i _ h => .inl h) (fun i h => h.elim) h1 (fun i hi => by
    rcases h2 i hi with h | h
    · exact .inl h
    · exact .inr (.inr h))
  have hb8 := hb7.trans (h3.below hB7 fun i h => hm7.above i h)
  have h4 := hI.few
  have h5 := hI.deep
  have h6 := hI.wf
  rw [ho] at h4 h5 h6
  simp only [List.length_cons] at h4 h5 h6
  refine ⟨rfl, hI.retell hb8 (s' := Pure.tellE { s with opn := os } (Pure.endE nm)) hm8 hk hr hI.nodes (show os.length ≤ 64 by omega) hI.text (depth_end h6 nm) ?_, hb6.trans hb8⟩
  show (s.evs ++ [Pure.endE nm]).length + os.length + (if s.txt = [] then 0 else 1) ≤ 2 * s.nodes
  simp only [List.length_append, List.length_cons, List.length_nil]
  omega
set_option maxRecDepth 100000 in
set_option maxHeartbeats 3200000 in
theorem closes_R (h : Inv T B src rb st w) (h0 : 2 ≤ st.rest.length) : Calls Tryz.prog 128 #[.pointer (some ⟨rb, 0, none⟩)] w (Out T B src rb w encU (Pure.closes st)) := by
  have HF := Lib.hid (flush_R h)
  obtain ⟨s1, hf1, hx1, hr1, ho1, hn1, he1⟩ := flush_ok' st
  rw [hf1] at HF
  have HV1 : Hid (Pure.closes st = (Pure.next { s1 with rest := s1.rest.drop 2 }).bind fun c s2 =>
      if Pure.letter c = false then .fail s2.rest.length 3 s1.evs else (Pure.name s2).bind fun w s3 =>
        match s3.opn with
        | [] => .fail s1.rest.length 40 s1.evs
        | o :: os => if o ≠ w then .fail s1.rest.length 40 s1.evs else (Pure.blanks s3).bind fun _ s4 => (Pure.must 62 s4).bind fun _ s5 => .ok () (Pure.tellE { s5 with opn := os } (Pure.endE w))) := by
    show Pure.closes st = _
    unfold Pure.closes; rw [hf1]; rfl
  have hsz := h.size
  have hbase := h.base
  clear h hf1
  go_enter Tryz.func128, Tryz.ntmps128
  go_wp2_with (go_at_call 95; refine (HF.out).mono ?_)
  rintro e1 w1 ⟨rfl, h1, hb1⟩
  obtain ⟨k1, ov1, tp1, tv1, S1, Hm1, hk1, Hr1, Hl1, c0, c1, c2, c3, c4, c5, c6, cf⟩ := h1.parts
  have hlt1 : k1 + 2 ≤ src.size := by have := Hl1.out; rw [hr1] at this; omega
  have hmv := h1.move Hm1.out (k' := k1 + 2) hlt1 0
  have e2 : ((k1 + 2 : Nat) : Int) = (k1 : Int) + 2 := by omega
  rw [e2] at hmv
  have hsk : ({ s1 with rest := s1.rest.drop 2 } : Pure.St) = { s1 with rest := (Pure.toL src).drop (k1 + 2) } := by rw [Hr1.out, List.drop_drop]
  rw [hsk] at HV1
  have HNx := Lib.hid (next_R hmv)
  have Hb1 := Lib.hid hb1
  clear h1 hb1 hmv
  unfold encU
  go_wp2_with (go_at_call 143; refine (HNx.out).mono ?_)
  rintro e3 w3 ho3
  cases hn : Pure.next { s1 with rest := (Pure.toL src).drop (k1 + 2) } with
  | fail lf y ev =>
    rw [hn] at ho3 HV1
    obtain ⟨rfl, ho⟩ := ho3
    go_wp2_with fail
    rw [HV1.out]
    exact ⟨rfl, rfl, ho.1, (Hb1.out.setCell hbase _).trans ho.2⟩
  | ok ch s2 =>
    obtain ⟨rfl, r2, hr2⟩ := next_same hn
    rw [hn] at ho3 HV1
    obtain ⟨rfl, h3, hb3⟩ := ho3
    obtain ⟨k3, ov3, tp3, tv3, S3, Hm3, hk3, Hr3, Hl3, d0, d1, d2, d3, d4, d5, d6, df⟩ := h3.parts
    have HLt := Lib.hid (sletter_any ch)
    have HNm := Lib.hid (name_R h3)
    have HI3 := Lib.hid h3
    have Hb3 := Lib.hid ((Hb1.out.setCell hbase _).trans hb3)
    have HV2 : Hid (Pure.closes st = if Pure.letter ch = false then .fail ((Pure.toL src).drop (k1 + 2)).length 3 s1.evs else (Pure.name { s1 with rest := (Pure.toL src).drop (k1 + 2) }).bind fun w s3 =>
        match s3.opn with
        | [] => .fail s1.rest.length 40 s1.evs
        | o :: os => if o ≠ w then .fail s1.rest.length 40 s1.evs else (Pure.blanks s3).bind fun _ s4 => (Pure.must 62 s4).bind fun _ s5 => .ok () (Pure.tellE { s5 with opn := os } (Pure.endE w))) := HV1.out
    clear h3 hb3 HV1 hn c0 c1 c2 c3 c4 c5 c6 cf
    unfold encB
    cases hlt : Pure.letter ch with
    | false =>
      rw [hlt] at HLt HV2
      go_wp2_with (first | (go_at_call 129; refine (HLt.out _).mono ?_; rintro e' w6 ⟨rfl, rfl⟩) | (go_at_call 96; refine (fail_any _ _ _ _).mono ?_; rintro e' w6 ⟨rfl, rfl⟩))
      rw [HV2.out, if_pos trivial]
      have hof := out_fail (enc := encU) (why := 3) HI3.out Hb3.out Hl3.out
      exact ⟨rfl, hof⟩
    | true =>
      rw [hlt] at HLt HV2
      go_wp2_with (first | (go_at_call 129; refine (HLt.out _).mono ?_; rintro e' w6 ⟨rfl, rfl⟩) | (go_at_call 144; refine (HNm.out).mono ?_))
      rintro e4 w4 ho4
      have HV3 : Hid (Pure.closes st = (Pure.name { s1 with rest := (Pure.toL src).drop (k1 + 2) }).bind fun w s3 =>
        match s3.opn with
        | [] => .fail s1.rest.length 40 s1.evs
        | o :: os => if o ≠ w then .fail s1.rest.length 40 s1.evs else (Pure.blanks s3).bind fun _ s4 => (Pure.must 62 s4).bind fun _ s5 => .ok () (Pure.tellE { s5 with opn := os } (Pure.endE w))) := by rw [HV2.out, if_neg (by decide)]; exact rfl
      clear HV2
      cases hnm : Pure.name { s1 with rest := (Pure.toL src).drop (k1 + 2) } with
      | fail lf y ev =>
        rw [hnm] at ho4 HV3
        obtain ⟨rfl, ho⟩ := ho4
        go_wp2_with fail
        rw [HV3.out]
        exact ⟨rfl, rfl, ho.1, Hb3.out.trans ho.2⟩
      | ok nm s3 =>
        rw [hnm] at ho4 HV3
        obtain ⟨rfl, h4, hb4⟩ := ho4
        have hon := name_on hnm
        obtain ⟨k4, ov4, tp4, tv4, S4, Hm4, hk4, Hr4, Hl4, t0, t1, t2, t3, t4, t5, t6, tf⟩ := h4.parts
        have hs3 : s3 = { s1 with rest := (Pure.toL src).drop k4 } := by
          have := hon.1
          unfold ReadsOnly at this
          rw [this, Hr4.out]
        have HI4 := Lib.hid h4
        have Hb4 := Lib.hid (Hb3.out.trans hb4)
        have Hon := Lib.hid hon
        clear h4 hb4 hon hnm d0 d1 d2 d3 d4 d5 d6 df HNm HLt
        subst hs3
        unfold encS
        cases hop : s1.opn with
        | nil =>
          have HV4 : Hid (Pure.closes st = .fail s1.rest.length 40 s1.evs) := by show Pure.closes st = _; rw [HV3.out, bind_ok]; simp only [hop]
          have hov : ov4 = .slice none 0 0 ∨ ∃ g c, ov4 = .slice g 0 c := by
            obtain ⟨g, c, hg⟩ := owns_form Hm4.out.opn
            right; exact ⟨g, c, by rw [hg]; simp [hop]⟩
          obtain ⟨g, c, rfl⟩ : ∃ g c, ov4 = .slice g 0 c := by rcases hov with h | h; exact ⟨none, 0, h⟩; exact h
          go_wp2_with fail
          go_quiet (fail)
          go_wp2_with (go_at_call 96; refine (fail_any _ _ _ _).mono ?_; rintro e' w6 ⟨rfl, rfl⟩)
          rw [HV4.out]
          have hof := fun nq => out_fail (enc := encU) (why := 40) (left := s1.rest.length) (k := k1) (HI4.out.drewN nq) (Below.drewN Hb4.out nq) Hl1.out
          exact ⟨rfl, hof _⟩
        | cons o os =>
          obtain ⟨g, cap, rfl, hcap, hgc, hrow⟩ := opn_last (w := w4) (s := { s1 with rest := (Pure.toL src).drop k4 }) Hm4.out hop
          have hdeep : os.length < 64 := by
            have := HI4.out.deep
            simp only [hop, List.length_cons] at this
            omega
          have hne0 : (((os.length : Int) + 1) == 0) = false := by rw [beq_eq_false_iff_ne]; omega
          by_cases hsame : o = nm
          · have HV4 : Hid (Pure.closes st = (Pure.blanks { s1 with rest := (Pure.toL src).drop k4 }).bind fun _ s4 => (Pure.must 62 s4).bind fun _ s5 => .ok () (Pure.tellE { s5 with opn := os } (Pure.endE nm))) := by
              show Pure.closes st = _
              rw [HV3.out, bind_ok]
              simp only [hop]
              rw [if_neg (fun h => h hsame)]
            clear HV3
            have heq : (o.toList == nm.toList) = true := by rw [str_eq, beq_bytes, decide_eq_true hsame]
            obtain ⟨ahead, hah⟩ : ∃ ahead : Bool, Pure.blanks { s1 with rest := (Pure.toL src).drop k4 } = .ok ahead { s1 with rest := ((Pure.toL src).drop k4).dropWhile Pure.blank } := ⟨_, rfl⟩
            have HBl := Lib.hid (fun nq => blanks_R (HI4.out.drewN nq))
            rw [hah] at HBl HV4
            clear hrow hah
            go_wp2_with fail
            go_quiet (fail)
            go_wp2_with (go_at_call 145; refine (HBl.out _).mono ?_)
            rintro e5 w5 ⟨rfl, h5, hb5⟩
            have HMu := Lib.hid (must_R 62 h5)
            have Hb5 := Lib.hid ((Below.drewN Hb4.out _).trans hb5)
            have HV5 : Hid (Pure.closes st = (Pure.must 62 { s1 with rest := ((Pure.toL src).drop k4).dropWhile Pure.blank }).bind fun _ s5 => .ok () (Pure.tellE { s5 with opn := os } (Pure.endE nm))) := HV4.out
            clear h5 hb5 HV4 HBl t0 t1 t2 t3 t4 t5 t6 tf hgc Hm4
            go_wp2_with (go_at_call 146; refine (HMu.out).mono ?_)
            rintro e6 w6 ho6
            cases hmu : Pure.must 62 { s1 with rest := ((Pure.toL src).drop k4).dropWhile Pure.blank } with
            | fail lf y ev =>
              rw [hmu] at ho6 HV5
              obtain ⟨rfl, ho⟩ := ho6
              go_wp2_with fail
              rw [HV5.out]
              exact ⟨rfl, rfl, ho.1, Hb5.out.trans ho.2⟩
            | ok u s5 =>
              rw [hmu] at ho6 HV5
              obtain ⟨rfl, h6, hb6⟩ := ho6
              have hop5 : s5.opn = o :: os := by
                have := (must_on hmu).1
                unfold ReadsOnly at this
                rw [this]; exact hop
              obtain ⟨k6, ov6, tp6, tv6, S6, Hm6, hk6, Hr6, Hl6, t0, t1, t2, t3, t4, t5, t6, tf⟩ := h6.parts
              obtain ⟨g6, cap6, rfl, hcap6, hgc6, hrow6⟩ := opn_last Hm6.out hop5
              have HI6 := Lib.hid h6
              have Hb6 := Lib.hid (Hb5.out.trans hb6)
              have HRow6 := Lib.hid hrow6
              clear h6 hb6 hrow6 hmu HMu
              unfold encU
              go_wp2_with fail
              have hcl : (os.length : Int) ≤ (cap6 : Int) := by omega
              have hcl0 : 0 ≤ (os.length : Int) := by omega
              have hw64 : IntKind.i64.wrap (os.length : Int) = (os.length : Int) := IntWalk.i64_in _ (by omega)
              go_still_tail 14, (by kernel_rfl)
              change wpList _ _ _ _ _ w6.drew
              clear hw64 hcl hcl0
              have hen := T.enters
              have t6' : w6.cell? ⟨rb, 6, none⟩ = some (.func (.func T.fn) #[] T.cap) := t6
              clear t6
              have hm7 := closes_pop Hm6.out hop5 HRow6.out
              have HE := Lib.hid (tell_end (evs := s5.evs) (n := nm) hm7.told (by have := HI6.out.wf; rw [hop5] at this; exact this) (few_evs HI6.out))
              have Hm7 := Lib.hid hm7
              have Hop5 := Lib.hid hop5
              clear hm7 hop5
              go_wp2_with (refine (HE.out).mono ?_; rintro e' w8 ⟨rfl, hpost⟩)
              have hfin : Pure.closes st = .ok () (Pure.tellE { s5 with opn := os } (Pure.endE nm)) := HV5.out
              go_end0
              rw [hfin]
              exact closes_end HI6.out hk6 Hr6.out Hop5.out Hb6.out (Below.drewN ((Below.refl B w6).setCell HI6.out.base _) 1) Hm7.out hpost
          · have HV4 : Hid (Pure.closes st = .fail s1.rest.length 40 s1.evs) := by
              show Pure.closes st = _
              rw [HV3.out, bind_ok]
              simp only [hop]
              rw [if_pos hsame]
            have hneq : (o.toList == nm.toList) = false := by rw [str_eq, beq_bytes, decide_eq_false hsame]
            have HRow := Lib.hid hrow
            clear hrow
            go_wp2_with fail
            go_quiet (fail)
            go_wp2_with (go_at_call 96; refine (fail_any _ _ _ _).mono ?_; rintro e' w6 ⟨rfl, rfl⟩)
            rw [HV4.out]
            have hof := fun nq => out_fail (enc := encU) (why := 40) (left := s1.rest.length) (k := k1) (HI4.out.drewN nq) (Below.drewN Hb4.out nq) Hl1.out
            exact ⟨rfl, hof _⟩
end Go.Proofs.YtipfakmbjajhlaaGreatDoor 
