/-
  chars.reference (but for '&#x'): contract.
-/
import Derived.Test.YtipfakmbjajhlaaGreatDoorChars7
set_option linter.unusedVariables false
set_option linter.unusedSimpArgs false
namespace Go.Proofs.YtipfakmbjajhlaaGreatDoor 
open Go.RowKit
/-- The table of the references by names, as one value. -/
def vNamed : Value := .agg #[.string ⟨#[38, 97, 109, 112, 59]⟩, .int .u8 38, .string ⟨#[38, 108, 116, 59]⟩, .int .u8 60, .string ⟨#[38, 103, 116, 59]⟩, .int .u8 62, .string ⟨#[38, 113, 117, 111, 116, 59]⟩, .int .u8 34, .string ⟨#[38, 97, 112, 111, 115, 59]⟩, .int .u8 39]
theorem named_cells {w : World} (hT : Tabs w) :
    w.cell? ⟨1, 0, none⟩ = some (.string ⟨#[38, 97, 109, 112, 59]⟩) ∧ w.cell? ⟨1, 1, none⟩ = some (.int .u8 38) ∧
    w.cell? ⟨1, 2, none⟩ = some (.string ⟨#[38, 108, 116, 59]⟩) ∧ w.cell? ⟨1, 3, none⟩ = some (.int .u8 60) ∧
    w.cell? ⟨1, 4, none⟩ = some (.string ⟨#[38, 103, 116, 59]⟩) ∧ w.cell? ⟨1, 5, none⟩ = some (.int .u8 62) ∧
    w.cell? ⟨1, 6, none⟩ = some (.string ⟨#[38, 113, 117, 111, 116, 59]⟩) ∧ w.cell? ⟨1, 7, none⟩ = some (.int .u8 34) ∧
    w.cell? ⟨1, 8, none⟩ = some (.string ⟨#[38, 97, 112, 111, 115, 59]⟩) ∧ w.cell? ⟨1, 9, none⟩ = some (.int .u8 39) :=
  ⟨(hT.named 0 (by decide)).1, (hT.named 0 (by decide)).2, (hT.named 1 (by decide)).1, (hT.named 1 (by decide)).2, (hT.named 2 (by decide)).1, (hT.named 2 (by decide)).2,
   (hT.named 3 (by decide)).1, (hT.named 3 (by decide)).2, (hT.named 4 (by decide)).1, (hT.named 4 (by decide)).2⟩
theorem toList_eq (s : ByteArray) : s.toList = Pure.toL s := by
  have h : ∀ (n i : Nat) (r : List UInt8), s.size - i = n → ByteArray.toList.loop s i r = r.reverse ++ (Pure.toL s).drop i := by
    intro n
    induction n with
    | zero =>
      intro i r hi
      unfold ByteArray.toList.loop
      rw [if_neg (by omega), List.drop_eq_nil_of_le (by rw [Pure.length_toL]; omega), List.append_nil]
    | succ n ih =>
      intro i r hi
      unfold ByteArray.toList.loop
      have hlt : i < s.size := by omega
      rw [if_pos hlt, ih (i + 1) _ (by omega), List.drop_eq_getElem_cons (i := i) (by rw [Pure.length_toL]; exact hlt), toL_get s i hlt]
      have hg : s.get! i = s[i] := by
        show s.data[i]! = s.data[i]
        rw [getElem!_pos s.data i hlt]
      rw [hg]
      simp
  have := h s.size 0 [] (by omega)
  simpa [ByteArray.toList] using this
/-- What is left of the table, from row k on. -/
def RefAt (s : ByteArray) (R : Pure.Bytes × Int × Int) (k : Nat) (why : Int) : Prop := Pure.refLoop (Pure.toL s) (Pure.namedRefs.drop k) why = R
theorem RefAt.hit {s : ByteArray} {R : Pure.Bytes × Int × Int} {k : Nat} {why : Int} (h : RefAt s R k why) {t : Pure.Bytes} {c : UInt8} (hd : Pure.namedRefs.drop k = (t, c) :: Pure.namedRefs.drop (k + 1)) (hp : Pure.hasPre (Pure.toL s) t = true) : R = ([c], (t.length : Int), 0) := by
  unfold RefAt at h; rw [hd] at h; rw [← h]; simp only [Pure.refLoop]; rw [if_pos hp]
theorem RefAt.near {s : ByteArray} {R : Pure.Bytes × Int × Int} {k : Nat} {why : Int} (h : RefAt s R k why) {t : Pure.Bytes} {c : UInt8} (hd : Pure.namedRefs.drop k = (t, c) :: Pure.namedRefs.drop (k + 1)) (hp : Pure.hasPre (Pure.toL s) t = false) (hq : Pure.hasPre t (Pure.toL s) = true) : RefAt s R (k + 1) 4 := by
  unfold RefAt at h ⊢; rw [hd] at h; rw [← h]; simp only [Pure.refLoop]; rw [if_neg (by rw [hp]; decide), if_pos hq]
theorem RefAt.far {s : ByteArray} {R : Pure.Bytes × Int × Int} {k : Nat} {why : Int} (h : RefAt s R k why) {t : Pure.Bytes} {c : UInt8} (hd : Pure.namedRefs.drop k = (t, c) :: Pure.namedRefs.drop (k + 1)) (hp : Pure.hasPre (Pure.toL s) t = false) (hq : Pure.hasPre t (Pure.toL s) = false) : RefAt s R (k + 1) why := by
  unfold RefAt at h ⊢; rw [hd] at h; rw [← h]; simp only [Pure.refLoop]; rw [if_neg (by rw [hp]; decide), if_neg (by rw [hq]; decide)]
theorem RefAt.last {s : ByteArray} {R : Pure.Bytes × Int × Int} {why : Int} (h : RefAt s R 5 why) : R = ([], 0, if Pure.toL s = [38] then 4 else why) := by
  unfold RefAt at h; rw [← h]; rfl
set_option maxRecDepth 100000 in
set_option maxHeartbeats 4000000 in
theorem reference_any (s : ByteArray) (w : World) (hT : Tabs w) (hs : s.size ≤ 140737488355328) (hx : Pure.hasPre (Pure.toL s) [38, 35, 120] = false) :
    Calls Tryz.prog 149 #[.string s] w (RetT (Pure.reference (Pure.toL s)) w) := by
  have hP : ∀ (a b : ByteArray) (W : World), Calls Tryz.prog 126 #[.string a, .string b] W (RetB (Pure.hasPre (Pure.toL a) (Pure.toL b)) W) := fun a b W => (Tryz.strings_HasPrefix a b W).mono fun e w' ⟨he, hw⟩ => ⟨he, hw.symm⟩
  have HX : Hid (∀ W, Calls Tryz.prog 126 #[.string s, .string ⟨#[38, 35, 120]⟩] W (RetB false W)) := fun W => by
    have := hP s ⟨#[38, 35, 120]⟩ W
    rw [show Pure.toL ⟨#[38, 35, 120]⟩ = [38, 35, 120] from rfl, hx] at this; exact this
  have h35 := fun W => hP s ⟨#[38, 35]⟩ W
  rw [show Pure.toL ⟨#[38, 35]⟩ = [38, 35] from rfl] at h35
  have HP := Lib.hid hP
  clear hP hx
  cases hp : Pure.hasPre (Pure.toL s) [38, 35] with
  | true =>
    have hV : Pure.reference (Pure.toL s) = if (Pure.toL s).length = 2 then ([], 0, 4) else Pure.numbered10 (Pure.toL s) := by unfold Pure.reference; rw [if_pos hp]
    rw [hp] at h35
    have H35 := Lib.hid h35
    clear h35
    have h2 : 2 ≤ s.size := by
      have h := (List.isPrefixOf_iff_prefix.1 hp).length_le
      rw [Pure.length_toL] at h; exact h
    rw [hV, Pure.length_toL]
    clear hV hp
    by_cases h2e : s.size = 2
    · rw [if_pos h2e]
      have e2 : ((s.size : Int) == 2) = true := by rw [beq_iff_eq]; omega
      clear h2e
      go_enter Tryz.func149, Tryz.ntmps149
      go_wp2_with (go_at_call 126; first | (refine (HX.out _).mono ?_; rintro e w' ⟨rfl, rfl⟩) | (refine (H35.out _).mono ?_; rintro e w' ⟨rfl, rfl⟩))
      go_ret3
      exact ⟨rfl, Below.refl _ _⟩
    · rw [if_neg h2e]
      have e2 : ((s.size : Int) == 2) = false := by rw [beq_eq_false_iff_ne]; omega
      clear h2e
      have HN := Lib.hid (numbered_any s w h2 hs)
      generalize Pure.numbered10 (Pure.toL s) = R at *
      obtain ⟨t, n, e⟩ := R
      go_enter Tryz.func149, Tryz.ntmps149
      go_wp2_with (first | (go_at_call 126; first | (refine (HX.out _).mono ?_; rintro e w' ⟨rfl, rfl⟩) | (refine (H35.out _).mono ?_; rintro e w' ⟨rfl, rfl⟩)) | (go_at_call 159; refine (HN.out).mono ?_; rintro e w' ⟨rfl, hbn⟩; unfold vText))
      go_ret3
      exact ⟨rfl, by assumption⟩
  | false =>
    have hR : RefAt s (Pure.reference (Pure.toL s)) 0 20 := by unfold Pure.reference RefAt; rw [if_neg (by rw [hp]; decide)]; rfl
    rw [hp] at h35
    have H35 := Lib.hid h35
    clear h35
    generalize Pure.reference (Pure.toL s) = R at *
    have HR := Lib.hid hR
    have HT := Lib.hid hT
    clear hR hT hp
    obtain ⟨c0, c1, c2, c3, c4, c5, c6, c7, c8, c9⟩ := named_cells HT.out
    go_enter Tryz.func149, Tryz.ntmps149
    go_wp2_with (go_at_call 126; first | (refine (HX.out _).mono ?_; rintro e w' ⟨rfl, rfl⟩) | (refine (H35.out _).mono ?_; rintro e w' ⟨rfl, rfl⟩))
    go_loopw [5, 26] (fun y i wr => ∃ (k : Nat) (why : Int), k ≤ 5 ∧ i = .int .i64 k ∧ y = .int .i64 why ∧ RefAt s R k why ∧ Below w.heap.size w wr) (fun _ i _ => 5 - (intOf i).toNat)
    case atStart => exact ⟨0, 20, by decide, rfl, rfl, HR.out, Below.refl _ _⟩
    case round =>
      obtain ⟨k, why, hk, rfl, rfl, hA, hb⟩ := hrel
      have Hb := Lib.hid hb
      clear hb
      by_cases h5 : k = 5
      · subst h5
        have HV := Lib.hid hA.last
        clear hA
        go_wp2_with fail
        · go_ret3
          rename_i h38
          refine ⟨?_, Hb.out⟩
          rw [HV.out, if_pos (by rw [toList_eq] at h38; exact beq_iff_eq.1 h38)]
          rfl
        · go_ret3
          rename_i h38
          refine ⟨?_, Hb.out⟩
          rw [HV.out, if_neg (by rw [toList_eq] at h38; exact beq_eq_false_iff_ne.1 h38)]
          rfl
      have hK : k = 0 ∨ k = 1 ∨ k = 2 ∨ k = 3 ∨ k = 4 := by omega
      rcases hK with rfl | rfl | rfl | rfl | rfl
      · have i0 : ∀ W, (Instr.index 170 vNamed (.int .i64 0)).run Tryz.prog W = .ok (.agg #[.string ⟨#[38, 97, 109, 112, 59]⟩, .int .u8 38]) W := fun _ => by kernel_rfl
        unfold vNamed at i0
        have hpa := HP.out s ⟨#[38, 97, 109, 112, 59]⟩
        have hpb := HP.out ⟨#[38, 97, 109, 112, 59]⟩ s
        have HHit := Lib.hid (hA.hit (t := [38, 97, 109, 112, 59]) (c := 38) rfl)
        have HNear := Lib.hid (hA.near (t := [38, 97, 109, 112, 59]) (c := 38) rfl)
        have HFar := Lib.hid (hA.far (t := [38, 97, 109, 112, 59]) (c := 38) rfl)
        rw [show Pure.toL ⟨#[38, 97, 109, 112, 59]⟩ = [38, 97, 109, 112, 59] from rfl] at hpa hpb
        clear hA h5
        cases hp1 : Pure.hasPre (Pure.toL s) [38, 97, 109, 112, 59] with
        | true =>
          rw [hp1] at hpa
          have HA := Lib.hid hpa
          have HV := Lib.hid (HHit.out hp1)
          clear hpa hpb hp1 HHit HNear HFar
          go_wp2_with (go_at_call 126; refine (HA.out _).mono ?_; rintro e w' ⟨rfl, rfl⟩)
          go_region
          all_goals (go_wp2_with fail; go_ret3; exact ⟨by rw [HV.out]; rfl, Below.drewN (Below.alloc Hb.out Hb.out.size _) 1⟩)
        | false =>
          rw [hp1] at hpa
          have HA := Lib.hid hpa
          clear hpa
          cases hp2 : Pure.hasPre [38, 97, 109, 112, 59] (Pure.toL s) with
          | true =>
            rw [hp2] at hpb
            have HB := Lib.hid hpb
            have HV := Lib.hid (HNear.out hp1 hp2)
            clear hpb hp1 hp2 HHit HNear HFar
            go_wp2_with (go_at_call 126; first | (go_at_call_of 126 (s); refine (HA.out _).mono ?_; rintro e w' ⟨rfl, rfl⟩) | (refine (HB.out _).mono ?_; rintro e w' ⟨rfl, rfl⟩))
            go_roundw
            case rel => exact ⟨_, 4, by decide, rfl, rfl, HV.out, Below.alloc Hb.out Hb.out.size _⟩
            case measure => simp [intOf]
          | false =>
            rw [hp2] at hpb
            have HB := Lib.hid hpb
            have HV := Lib.hid (HFar.out hp1 hp2)
            clear hpb hp1 hp2 HHit HNear HFar
            go_wp2_with (go_at_call 126; first | (go_at_call_of 126 (s); refine (HA.out _).mono ?_; rintro e w' ⟨rfl, rfl⟩) | (refine (HB.out _).mono ?_; rintro e w' ⟨rfl, rfl⟩))
            go_roundw
            case rel => exact ⟨_, why, by decide, rfl, rfl, HV.out, Below.alloc Hb.out Hb.out.size _⟩
            case measure => simp [intOf]
      · have i0 : ∀ W, (Instr.index 170 vNamed (.int .i64 1)).run Tryz.prog W = .ok (.agg #[.string ⟨#[38, 108, 116, 59]⟩, .int .u8 60]) W := fun _ => by kernel_rfl
        unfold vNamed at i0
        have hpa := HP.out s ⟨#[38, 108, 116, 59]⟩
        have hpb := HP.out ⟨#[38, 108, 116, 59]⟩ s
        have HHit := Lib.hid (hA.hit (t := [38, 108, 116, 59]) (c := 60) rfl)
        have HNear := Lib.hid (hA.near (t := [38, 108, 116, 59]) (c := 60) rfl)
        have HFar := Lib.hid (hA.far (t := [38, 108, 116, 59]) (c := 60) rfl)
        rw [show Pure.toL ⟨#[38, 108, 116, 59]⟩ = [38, 108, 116, 59] from rfl] at hpa hpb
        clear hA h5
        cases hp1 : Pure.hasPre (Pure.toL s) [38, 108, 116, 59] with
        | true =>
          rw [hp1] at hpa
          have HA := Lib.hid hpa
          have HV := Lib.hid (HHit.out hp1)
          clear hpa hpb hp1 HHit HNear HFar
          go_wp2_with (go_at_call 126; refine (HA.out _).mono ?_; rintro e w' ⟨rfl, rfl⟩)
          go_region
          all_goals (go_wp2_with fail; go_ret3; exact ⟨by rw [HV.out]; rfl, Below.drewN (Below.alloc Hb.out Hb.out.size _) 1⟩)
        | false =>
          rw [hp1] at hpa
          have HA := Lib.hid hpa
          clear hpa
          cases hp2 : Pure.hasPre [38, 108, 116, 59] (Pure.toL s) with
          | true =>
            rw [hp2] at hpb
            have HB := Lib.hid hpb
            have HV := Lib.hid (HNear.out hp1 hp2)
            clear hpb hp1 hp2 HHit HNear HFar
            go_wp2_with (go_at_call 126; first | (go_at_call_of 126 (s); refine (HA.out _).mono ?_; rintro e w' ⟨rfl, rfl⟩) | (refine (HB.out _).mono ?_; rintro e w' ⟨rfl, rfl⟩))
            go_roundw
            case rel => exact ⟨_, 4, by decide, rfl, rfl, HV.out, Below.alloc Hb.out Hb.out.size _⟩
            case measure => simp [intOf]
          | false =>
            rw [hp2] at hpb
            have HB := Lib.hid hpb
            have HV := Lib.hid (HFar.out hp1 hp2)
            clear hpb hp1 hp2 HHit HNear HFar
            go_wp2_with (go_at_call 126; first | (go_at_call_of 126 (s); refine (HA.out _).mono ?_; rintro e w' ⟨rfl, rfl⟩) | (refine (HB.out _).mono ?_; rintro e w' ⟨rfl, rfl⟩))
            go_roundw
            case rel => exact ⟨_, why, by decide, rfl, rfl, HV.out, Below.alloc Hb.out Hb.out.size _⟩
            case measure => simp [intOf]
      · have i0 : ∀ W, (Instr.index 170 vNamed (.int .i64 2)).run Tryz.prog W = .ok (.agg #[.string ⟨#[38, 103, 116, 59]⟩, .int .u8 62]) W := fun _ => by kernel_rfl
        unfold vNamed at i0
        have hpa := HP.out s ⟨#[38, 103, 116, 59]⟩
        have hpb := HP.out ⟨#[38, 103, 116, 59]⟩ s
        have HHit := Lib.hid (hA.hit (t := [38, 103, 116, 59]) (c := 62) rfl)
        have HNear := Lib.hid (hA.near (t := [38, 103, 116, 59]) (c := 62) rfl)
        have HFar := Lib.hid (hA.far (t := [38, 103, 116, 59]) (c := 62) rfl)
        rw [show Pure.toL ⟨#[38, 103, 116, 59]⟩ = [38, 103, 116, 59] from rfl] at hpa hpb
        clear hA h5
        cases hp1 : Pure.hasPre (Pure.toL s) [38, 103, 116, 59] with
        | true =>
          rw [hp1] at hpa
          have HA := Lib.hid hpa
          have HV := Lib.hid (HHit.out hp1)
          clear hpa hpb hp1 HHit HNear HFar
          go_wp2_with (go_at_call 126; refine (HA.out _).mono ?_; rintro e w' ⟨rfl, rfl⟩)
          go_region
          all_goals (go_wp2_with fail; go_ret3; exact ⟨by rw [HV.out]; rfl, Below.drewN (Below.alloc Hb.out Hb.out.size _) 1⟩)
        | false =>
          rw [hp1] at hpa
          have HA := Lib.hid hpa
          clear hpa
          cases hp2 : Pure.hasPre [38, 103, 116, 59] (Pure.toL s) with
          | true =>
            rw [hp2] at hpb
            have HB := Lib.hid hpb
            have HV := Lib.hid (HNear.out hp1 hp2)
            clear hpb hp1 hp2 HHit HNear HFar
            go_wp2_with (go_at_call 126; first | (go_at_call_of 126 (s); refine (HA.out _).mono ?_; rintro e w' ⟨rfl, rfl⟩) | (refine (HB.out _).mono ?_; rintro e w' ⟨rfl, rfl⟩))
            go_roundw
            case rel => exact ⟨_, 4, by decide, rfl, rfl, HV.out, Below.alloc Hb.out Hb.out.size _⟩
            case measure => simp [intOf]
          | false =>
            rw [hp2] at hpb
            have HB := Lib.hid hpb
            have HV := Lib.hid (HFar.out hp1 hp2)
            clear hpb hp1 hp2 HHit HNear HFar
            go_wp2_with (go_at_call 126; first | (go_at_call_of 126 (s); refine (HA.out _).mono ?_; rintro e w' ⟨rfl, rfl⟩) | (refine (HB.out _).mono ?_; rintro e w' ⟨rfl, rfl⟩))
            go_roundw
            case rel => exact ⟨_, why, by decide, rfl, rfl, HV.out, Below.alloc Hb.out Hb.out.size _⟩
            case measure => simp [intOf]
      · have i0 : ∀ W, (Instr.index 170 vNamed (.int .i64 3)).run Tryz.prog W = .ok (.agg #[.string ⟨#[38, 113, 117, 111, 116, 59]⟩, .int .u8 34]) W := fun _ => by kernel_rfl
        unfold vNamed at i0
        have hpa := HP.out s ⟨#[38, 113, 117, 111, 116, 59]⟩
        have hpb := HP.out ⟨#[38, 113, 117, 111, 116, 59]⟩ s
        have HHit := Lib.hid (hA.hit (t := [38, 113, 117, 111, 116, 59]) (c := 34) rfl)
        have HNear := Lib.hid (hA.near (t := [38, 113, 117, 111, 116, 59]) (c := 34) rfl)
        have HFar := Lib.hid (hA.far (t := [38, 113, 117, 111, 116, 59]) (c := 34) rfl)
        rw [show Pure.toL ⟨#[38, 113, 117, 111, 116, 59]⟩ = [38, 113, 117, 111, 116, 59] from rfl] at hpa hpb
        clear hA h5
        cases hp1 : Pure.hasPre (Pure.toL s) [38, 113, 117, 111, 116, 59] with
        | true =>
          rw [hp1] at hpa
          have HA := Lib.hid hpa
          have HV := Lib.hid (HHit.out hp1)
          clear hpa hpb hp1 HHit HNear HFar
          go_wp2_with (go_at_call 126; refine (HA.out _).mono ?_; rintro e w' ⟨rfl, rfl⟩)
          go_region
          all_goals (go_wp2_with fail; go_ret3; exact ⟨by rw [HV.out]; rfl, Below.drewN (Below.alloc Hb.out Hb.out.size _) 1⟩)
        | false =>
          rw [hp1] at hpa
          have HA := Lib.hid hpa
          clear hpa
          cases hp2 : Pure.hasPre [38, 113, 117, 111, 116, 59] (Pure.toL s) with
          | true =>
            rw [hp2] at hpb
            have HB := Lib.hid hpb
            have HV := Lib.hid (HNear.out hp1 hp2)
            clear hpb hp1 hp2 HHit HNear HFar
            go_wp2_with (go_at_call 126; first | (go_at_call_of 126 (s); refine (HA.out _).mono ?_; rintro e w' ⟨rfl, rfl⟩) | (refine (HB.out _).mono ?_; rintro e w' ⟨rfl, rfl⟩))
            go_roundw
            case rel => exact ⟨_, 4, by decide, rfl, rfl, HV.out, Below.alloc Hb.out Hb.out.size _⟩
            case measure => simp [intOf]
          | false =>
            rw [hp2] at hpb
            have HB := Lib.hid hpb
            have HV := Lib.hid (HFar.out hp1 hp2)
            clear hpb hp1 hp2 HHit HNear HFar
            go_wp2_with (go_at_call 126; first | (go_at_call_of 126 (s); refine (HA.out _).mono ?_; rintro e w' ⟨rfl, rfl⟩) | (refine (HB.out _).mono ?_; rintro e w' ⟨rfl, rfl⟩))
            go_roundw
            case rel => exact ⟨_, why, by decide, rfl, rfl, HV.out, Below.alloc Hb.out Hb.out.size _⟩
            case measure => simp [intOf]
      · have i0 : ∀ W, (Instr.index 170 vNamed (.int .i64 4)).run Tryz.prog W = .ok (.agg #[.string ⟨#[38, 97, 112, 111, 115, 59]⟩, .int .u8 39]) W := fun _ => by kernel_rfl
        unfold vNamed at i0
        have hpa := HP.out s ⟨#[38, 97, 112, 111, 115, 59]⟩
        have hpb := HP.out ⟨#[38, 97, 112, 111, 115, 59]⟩ s
        have HHit := Lib.hid (hA.hit (t := [38, 97, 112, 111, 115, 59]) (c := 39) rfl)
        have HNear := Lib.hid (hA.near (t := [38, 97, 112, 111, 115, 59]) (c := 39) rfl)
        have HFar := Lib.hid (hA.far (t := [38, 97, 112, 111, 115, 59]) (c := 39) rfl)
        rw [show Pure.toL ⟨#[38, 97, 112, 111, 115, 59]⟩ = [38, 97, 112, 111, 115, 59] from rfl] at hpa hpb
        clear hA h5
        cases hp1 : Pure.hasPre (Pure.toL s) [38, 97, 112, 111, 115, 59] with
        | true =>
          rw [hp1] at hpa
          have HA := Lib.hid hpa
          have HV := Lib.hid (HHit.out hp1)
          clear hpa hpb hp1 HHit HNear HFar
          go_wp2_with (go_at_call 126; refine (HA.out _).mono ?_; rintro e w' ⟨rfl, rfl⟩)
          go_region
          all_goals (go_wp2_with fail; go_ret3; exact ⟨by rw [HV.out]; rfl, Below.drewN (Below.alloc Hb.out Hb.out.size _) 1⟩)
        | false =>
          rw [hp1] at hpa
          have HA := Lib.hid hpa
          clear hpa
          cases hp2 : Pure.hasPre [38, 97, 112, 111, 115, 59] (Pure.toL s) with
          | true =>
            rw [hp2] at hpb
            have HB := Lib.hid hpb
            have HV := Lib.hid (HNear.out hp1 hp2)
            clear hpb hp1 hp2 HHit HNear HFar
            go_wp2_with (go_at_call 126; first | (go_at_call_of 126 (s); refine (HA.out _).mono ?_; rintro e w' ⟨rfl, rfl⟩) | (refine (HB.out _).mono ?_; rintro e w' ⟨rfl, rfl⟩))
            go_roundw
            case rel => exact ⟨_, 4, by decide, rfl, rfl, HV.out, Below.alloc Hb.out Hb.out.size _⟩
            case measure => simp [intOf]
          | false =>
            rw [hp2] at hpb
            have HB := Lib.hid hpb
            have HV := Lib.hid (HFar.out hp1 hp2)
            clear hpb hp1 hp2 HHit HNear HFar
            go_wp2_with (go_at_call 126; first | (go_at_call_of 126 (s); refine (HA.out _).mono ?_; rintro e w' ⟨rfl, rfl⟩) | (refine (HB.out _).mono ?_; rintro e w' ⟨rfl, rfl⟩))
            go_roundw
            case rel => exact ⟨_, why, by decide, rfl, rfl, HV.out, Below.alloc Hb.out Hb.out.size _⟩
            case measure => simp [intOf]
end Go.Proofs.YtipfakmbjajhlaaGreatDoor 
