/-
  chars.Unescape (where no '&#x' stands): the walk.
-/
import Derived.Test.YtipfakmbjajhlaaGreatDoorChars9
set_option linter.unusedVariables false
set_option linter.unusedSimpArgs false
namespace Go.Proofs.YtipfakmbjajhlaaGreatDoor 
open Go.RowKit
/-- Nowhere does '&#x' stand. -/
def NoHex (l : Pure.Bytes) : Prop := ∀ k, Pure.hasPre (l.drop k) [38, 35, 120] = false
/-- What the loop of Unescape has in its builder. -/
structure UnInv (B bb : Nat) (acc : Pure.Bytes) (W w : World) : Prop where
  bld : ∃ p v, w.heap[bb]? = some (.cells #[p, v] 83 (0, 0)) ∧ (p = .pointer none ∨ p = .pointer (some ⟨bb, 0, none⟩)) ∧ BufAt w B v acc
  below : Below B W w
  size : B ≤ w.heap.size
  lt : bb < w.heap.size
theorem UnInv.later {B bb : Nat} {acc : Pure.Bytes} {W w w' : World} (h : UnInv B bb acc W w) (hb : Below w.heap.size w w') : UnInv B bb acc W w' := by
  obtain ⟨⟨p, v, h1, h2, h3⟩, h4, h5, h6⟩ := h
  have hc : Chg (fun _ => False) w w' := Chg.of_below hb
  exact ⟨⟨p, v, hc.heap h1 id, h2, h3.kept hc (fun _ _ => id)⟩, Below.thenNew h4 h5 hb, Nat.le_trans h5 hb.size, Nat.lt_of_lt_of_le h6 hb.size⟩
theorem UnInv.wrote {B bb : Nat} {acc t : Pure.Bytes} {W w w' : World} (h : UnInv B bb acc W w) (hbb : B ≤ bb) (p v : Value) (hB : BufAt w B v acc)
    (hp : ∃ v', BufAt w' B v' (acc ++ t) ∧ w'.heap[bb]? = some (.cells (((#[p, v] : Array Value).setIfInBounds 0 (.pointer (some ⟨bb, 0, none⟩))).setIfInBounds (0 + 1) v') 83 (0, 0)) ∧ Chg (fun i => i = bb ∨ v.ownBlock = some i) w w') : UnInv B bb (acc ++ t) W w' := by
  obtain ⟨v', h1, h2, h3⟩ := hp
  refine ⟨⟨.pointer (some ⟨bb, 0, none⟩), v', h2, .inr rfl, h1⟩, h.below.trans (h3.below h.size ?_), Nat.le_trans h.size h3.size, Nat.lt_of_lt_of_le h.lt h3.size⟩
  rintro i (rfl | h'); exact hbb; exact (hB.1.lt i h').1
theorem extract_from (s : ByteArray) (k n : Nat) : Pure.toL (s.extract k (k + n)) = ((Pure.toL s).drop k).take n := by
  unfold Pure.toL
  rw [Lib.extract_data, show k + n - k = n from by omega]
set_option maxRecDepth 100000 in
set_option maxHeartbeats 4000000 in
theorem Unescape_any (s : ByteArray) (w : World) (hT : Tabs w) (hs : s.size ≤ 1073741824) (hx : NoHex (Pure.toL s)) :
    Calls Tryz.prog 133 #[.string s] w (RetT (Pure.unescape (Pure.toL s)) w) := by
  have hR : UnAt s (Pure.unescape (Pure.toL s)) 0 (s.size + 1) [] := by unfold Pure.unescape UnAt; rw [Pure.length_toL]; rfl
  generalize Pure.unescape (Pure.toL s) = R at *
  have HR := Lib.hid hR
  have HX := Lib.hid hx
  have HT := Lib.hid hT
  clear hR hx hT
  have hstart : UnInv w.heap.size w.heap.size [] w (w.alloc (.cells #[.pointer none, .slice none 0 0] 83)) :=
    ⟨⟨_, _, heap_alloc_new w _, .inl rfl, BufAt.nil _ _⟩, (Below.refl _ _).alloc (Nat.le_refl _) _, by simp, by simp⟩
  have HS := Lib.hid hstart
  clear hstart
  go_enter Tryz.func133, Tryz.ntmps133
  go_wp2_with fail
  obtain ⟨BB, hBB⟩ : ∃ BB, BB = w.heap.size := ⟨_, rfl⟩
  rw [← hBB] at HS ⊢
  have HBB := Lib.hid hBB
  clear hBB
  go_loopw [6] (fun i wr => ∃ (k f : Nat) (acc : Pure.Bytes), k ≤ s.size ∧ i = .int .i64 k ∧ s.size < k + f ∧ acc.length ≤ 16384 ∧ UnAt s R k f acc ∧ UnInv BB BB acc w wr) (fun i _ => s.size - (intOf i).toNat)
  case atStart => exact ⟨0, s.size + 1, [], Nat.zero_le _, rfl, by omega, by simp, HR.out, HS.out⟩
  case round =>
    obtain ⟨k, f, acc, hk, rfl, hf, hacc, hA, hI⟩ := hrel
    obtain ⟨f, rfl⟩ : ∃ f', f = f' + 1 := ⟨f - 1, by omega⟩
    have hTr : Tabs wr := HT.out.below hI.below (by have := HT.out.size; rw [HBB.out]; exact this)
    by_cases hlt : k < s.size
    · have hdl : ((Pure.toL s).drop k).length = s.size - k := by rw [List.length_drop, Pure.length_toL]
      have HBad := Lib.hid (fun t n e => hA.bad (t := t) (n := n) (e := e) hlt)
      have HLong := Lib.hid (fun t n => hA.long (t := t) (n := n) hlt)
      have HGood := Lib.hid (fun t n => hA.good (t := t) (n := n) hlt)
      have HI := Lib.hid hI
      clear hA hI
      by_cases h38 : s[k] = 38
      · have hu : unStep ((Pure.toL s).drop k) s[k] = Pure.reference ((Pure.toL s).drop k) := by unfold unStep; rw [if_pos h38]
        have hrl := reference_len ((Pure.toL s).drop k)
        have hC := reference_any (s.extract k s.size) wr hTr (by simp; omega) (by rw [toL_extract]; exact HX.out k)
        rw [toL_extract] at hC
        rw [hdl] at hrl
        generalize Pure.reference ((Pure.toL s).drop k) = Q at *
        obtain ⟨t, n, e⟩ := Q
        simp only at hrl
        obtain ⟨hn0, hn1, ht4⟩ := hrl
        have hb38 : ((s[k].toNat : Int) == 38) = true := by rw [h38]; rfl
        have HU := Lib.hid hu
        have HC := Lib.hid hC
        clear hu hC h38 hdl hTr
        by_cases he : e = 0
        · subst he
          obtain ⟨n1, n2⟩ := hn1 rfl
          obtain ⟨m, rfl⟩ : ∃ m : Nat, n = m := ⟨n.toNat, by omega⟩
          clear hn1
          go_wp2_with (go_at_call 149; refine (HC.out).mono ?_; rintro e' w1 ⟨rfl, hb1⟩; unfold vText)
          have hI1 := HI.out.later hb1
          obtain ⟨⟨p, v, hcell, hp, hB⟩, hbel, hsz, hlt1⟩ := id hI1
          have hc1 : w1.cell? ⟨BB, 0 + 1, none⟩ = some v := by rw [Lib.cell_of_heap hcell]; rfl
          obtain ⟨q, c, hv⟩ := hB.form
          refine (bLen_any BB 0 v acc.length q c w1 hv hc1).mono ?_
          rintro e' w2 ⟨rfl, rfl⟩
          have hsz2 : (Pure.ofL t).size = t.length := by rw [← Pure.length_toL, Pure.toL_ofL]
          by_cases hl : acc.length + t.length > 16384
          · have HV := Lib.hid (HLong.out _ _ HU.out hl)
            go_wp2_with fail
            go_ret3
            exact ⟨by rw [HV.out]; rfl, HBB.out ▸ hI1.below⟩
          · have hW := bWrite_any BB 0 #[p, v] 83 BB p v acc (Pure.ofL t) w1 hcell rfl rfl placeBuilder hp (by decide) hB hsz (by rw [hsz2]; omega)
            rw [Pure.toL_ofL] at hW
            have HW := Lib.hid hW
            have HG := Lib.hid (HGood.out _ _ HU.out hl)
            have HI1 := Lib.hid hI1
            have HB := Lib.hid hB
            clear hW hcell hp hB hI1 hc1
            go_wp2_with (go_at_call 99; refine (HW.out).mono ?_; rintro e' w2 ⟨rfl, hpost⟩)
            go_roundw
            case measure => simp [intOf]; omega
            case rel => exact ⟨k + m, f, acc ++ t, by omega, by go_num, by omega, by rw [List.length_append]; omega, HG.out, HI1.out.wrote (Nat.le_refl _) p v HB.out (by assumption)⟩
        · have hne : (e != 0) = true := by rw [bne_iff_ne]; exact he
          have hee : (e == 0) = false := by rw [beq_eq_false_iff_ne]; exact he
          have HV := Lib.hid (HBad.out _ _ _ HU.out he)
          clear he hn1
          go_wp2_with (go_at_call 149; refine (HC.out).mono ?_; rintro e' w' ⟨rfl, hb1⟩; unfold vText)
          go_ret3
          exact ⟨by rw [HV.out]; rfl, HBB.out ▸ (HI.out.later (by assumption)).below⟩
      · have hfe := first_err0 ((Pure.toL s).drop k)
        have hu : unStep ((Pure.toL s).drop k) s[k] = (((Pure.toL s).drop k).take (Pure.first ((Pure.toL s).drop k)).2.1.toNat, (Pure.first ((Pure.toL s).drop k)).2.1, (Pure.first ((Pure.toL s).drop k)).2.2) := by unfold unStep; rw [if_neg h38]
        have hrl := first_len ((Pure.toL s).drop k)
        have hC := first_any (s.extract k s.size) wr hTr
        rw [toL_extract] at hC
        rw [hdl] at hrl
        unfold vFirst at hC
        generalize (Pure.first ((Pure.toL s).drop k)).1 = r at *
        generalize (Pure.first ((Pure.toL s).drop k)).2.1 = n at *
        generalize (Pure.first ((Pure.toL s).drop k)).2.2 = e at *
        have hb38 : ((s[k].toNat : Int) == 38) = false := by
          rw [beq_eq_false_iff_ne]; intro h; apply h38; have h' : s[k].toNat = 38 := by omega
          exact UInt8.toNat_inj.1 h'
        have HU := Lib.hid hu
        have HC := Lib.hid hC
        clear hu hC h38 hTr
        by_cases he : e = 0
        · subst he
          obtain ⟨n1, n2⟩ := hrl rfl
          obtain ⟨m, rfl⟩ : ∃ m : Nat, n = m := ⟨n.toNat, by omega⟩
          clear hrl hfe
          have hfit : k + m ≤ s.size := by omega
          have ht : ((Pure.toL s).drop k).take (m : Int).toNat = Pure.toL (s.extract k (k + m)) := by rw [extract_from]; simp
          rw [ht] at HU
          have hTT : (s.extract k (k + m)).size = m := by simp; omega
          have hTl : (Pure.toL (s.extract k (k + m))).length = m := by rw [Pure.length_toL]; exact hTT
          clear ht
          go_wp2_with (go_at_call 119; refine (HC.out).mono ?_; rintro e' w1 ⟨rfl, hb1⟩)
          have hI1 := HI.out.later hb1
          obtain ⟨⟨p, v, hcell, hp, hB⟩, hbel, hsz, hlt1⟩ := id hI1
          have hc1 : w1.cell? ⟨BB, 0 + 1, none⟩ = some v := by rw [Lib.cell_of_heap hcell]; rfl
          obtain ⟨q, c, hv⟩ := hB.form
          refine (bLen_any BB 0 v acc.length q c w1 hv hc1).mono ?_
          rintro e' w2 ⟨rfl, rfl⟩
          have hsz2 := hTT
          by_cases hl : acc.length + m > 16384
          · have HV := Lib.hid (HLong.out _ _ HU.out (by rw [hTl]; exact hl))
            go_wp2_with fail
            go_ret3
            exact ⟨by rw [HV.out]; rfl, HBB.out ▸ hI1.below⟩
          · have hW := bWrite_any BB 0 #[p, v] 83 BB p v acc (s.extract k (k + m)) w1 hcell rfl rfl placeBuilder hp (by decide) hB hsz (by rw [hsz2]; omega)
            have HW := Lib.hid hW
            have HG := Lib.hid (HGood.out _ _ HU.out (by rw [hTl]; exact hl))
            have HI1 := Lib.hid hI1
            have HB := Lib.hid hB
            clear hW hcell hp hB hI1 hc1
            go_wp2_with (go_at_call 99; refine (HW.out).mono ?_; rintro e' w2 ⟨rfl, hpost⟩)
            go_roundw
            case measure => simp [intOf]; omega
            case rel => exact ⟨k + m, f, acc ++ Pure.toL (s.extract k (k + m)), by omega, by go_num, by omega, by rw [List.length_append, hTl]; omega, HG.out, HI1.out.wrote (Nat.le_refl _) p v HB.out (by assumption)⟩
        · have hne : (e != 0) = true := by rw [bne_iff_ne]; exact he
          have hee : (e == 0) = false := by rw [beq_eq_false_iff_ne]; exact he
          have HV := Lib.hid (HBad.out _ _ _ HU.out he)
          obtain rfl := hfe he
          clear he hrl hfe
          go_wp2_with (go_at_call 119; refine (HC.out).mono ?_; rintro e' w' ⟨rfl, hb1⟩)
          go_ret3
          exact ⟨by rw [HV.out]; rfl, HBB.out ▸ (HI.out.later (by assumption)).below⟩
    · obtain rfl : k = s.size := by omega
      have HV := Lib.hid hA.stop
      obtain ⟨⟨p, v, hcell, hp, hB⟩, hbel, hsz, hlt1⟩ := id hI
      have hS := bString_any BB 0 BB v acc wr (by rw [Lib.cell_of_heap hcell]; rfl) hB
      have HS2 := Lib.hid hS
      have HW := Lib.hid (fun w' (h : Chg (fun i => v.ownBlock = some i) wr w') => hbel.trans (h.below hsz (fun g hg => (hB.1.lt g hg).1)))
      clear hcell hp hB hbel hsz hI hS hTr hA
      go_wp2_with (go_at_call 50; refine (HS2.out).mono ?_; rintro e w2 ⟨rfl, hpost⟩)
      go_ret3
      exact ⟨by rw [HV.out]; rfl, HBB.out ▸ HW.out _ (by assumption)⟩
end Go.Proofs.YtipfakmbjajhlaaGreatDoor 
