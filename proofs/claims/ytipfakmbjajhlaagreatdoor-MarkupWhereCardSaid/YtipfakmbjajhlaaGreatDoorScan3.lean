/-
  The reader's methods: begins, blanks, name, char.
-/
import Derived.Test.YtipfakmbjajhlaaGreatDoorScan2
set_option linter.unusedVariables false
set_option linter.unusedSimpArgs false
namespace Go.Proofs.YtipfakmbjajhlaaGreatDoor 
open Go.RowKit
variable {T : Teller} {B : Nat} {src : ByteArray} {rb : Nat} {st : Pure.St} {w : World}
theorem owns_form {w : World} {B e : Nat} {size : Nat} {v : Value} {n : Nat} {xs : List Value} (h : w.ownsRow B e size v n xs) : ∃ q c, v = .slice q n c := by
  rcases h.2 with ⟨rfl, h0⟩ | ⟨g, cap, cur, rfl, _⟩
  · exact ⟨_, _, by rw [h0]⟩
  · exact ⟨_, _, rfl⟩
theorem Inv.count {k : Nat} {ov tp tv : Value} {S : Nat → Prop} (h : Inv T B src rb st w) (hm : Mem T B src rb k st ov tp tv S w) (hk : k ≤ src.size) (hr : st.rest = (Pure.toL src).drop k) (hn : st.nodes < 4096) :
    Inv T B src rb { st with nodes := st.nodes + 1 } (w.setCell ⟨rb, 5, none⟩ (.int .i64 ((st.nodes : Int) + 1))) := by
  have hc : Chg (· = rb) w (w.setCell ⟨rb, 5, none⟩ (.int .i64 ((st.nodes : Int) + 1))) := chg_setCell w ⟨rb, 5, none⟩ _
  have hrd : RdAt (w.setCell ⟨rb, 5, none⟩ (.int .i64 ((st.nodes : Int) + 1))) rb src k ov tp tv (st.nodes + 1) T.val := heap_setCell_same (i := 5) hm.rd _
  have hfew := h.few
  exact { h with mem := ⟨k, ov, tp, tv, S, hm.rdOnly hc hrd _, hk, hr⟩, tabs := h.tabs.below (hc.below h.room (by rintro i rfl; exact h.base)) h.glob, room := Nat.le_trans h.room hc.size, nodes := hn, few := Nat.le_trans h.few (by show 2 * st.nodes ≤ 2 * (st.nodes + 1); omega) }
set_option maxRecDepth 100000 in
set_option maxHeartbeats 800000 in
theorem begins_R (left a : Nat) (h : Inv T B src rb st w) (ha : left + a = src.size) : Calls Tryz.prog 131 #[.pointer (some ⟨rb, 0, none⟩), .int .i64 (a : Int)] w (Out T B src rb w encU (Pure.begins left st)) := by
  obtain ⟨k, ov, tp, tv, S, Hm, hk, Hr, Hl, c0, c1, c2, c3, c4, c5, c6, hf⟩ := h.parts
  obtain ⟨q, c, rfl⟩ := owns_form Hm.out.opn
  have hnd := h.nodes
  have hdp := h.deep
  have H := Lib.hid h
  clear h
  by_cases hn : st.nodes ≥ 4096
  · have hV : Pure.begins left st = .fail left 2 st.evs := by unfold Pure.begins; rw [if_pos (.inl hn)]
    rw [hV]
    clear hV
    go_enter Tryz.func131, Tryz.ntmps131
    go_wp2_with (go_at_call 96; refine (fail_any _ _ _ _).mono ?_; rintro e' w2 ⟨rfl, rfl⟩)
    exact ⟨rfl, out_fail H.out (Below.refl _ _) ha⟩
  by_cases hd : st.opn.length ≥ 64
  · have hV : Pure.begins left st = .fail left 2 st.evs := by unfold Pure.begins; rw [if_pos (.inr hd)]
    rw [hV]
    clear hV
    go_enter Tryz.func131, Tryz.ntmps131
    go_wp2_with (go_at_call 96; refine (fail_any _ _ _ _).mono ?_; rintro e' w2 ⟨rfl, rfl⟩)
    exact ⟨rfl, out_fail H.out (Below.refl _ _) ha⟩
  have hV : Pure.begins left st = .ok () { st with nodes := st.nodes + 1 } := by unfold Pure.begins; rw [if_neg (by rintro (h | h); exact hn h; exact hd h)]
  rw [hV]
  clear hV
  go_enter Tryz.func131, Tryz.ntmps131
  go_wp2_with fail
  go_end0
  exact ⟨rfl, H.out.count Hm.out hk Hr.out (by omega), (Below.refl _ _).setCell H.out.base _⟩
theorem char_end {k m nq : Nat} {ov tp tv : Value} {S : Nat → Prop} {w0 w1 : World} (h : Inv T B src rb st w1) (hm : Mem T B src rb k st ov tp tv S w1) (hr : st.rest = (Pure.toL src).drop k) (hk : k + m ≤ src.size)
    {v : Value} (hv : v = .string (src.extract k (k + m))) {w2 : World} (hw : w2 = (w1.setCell ⟨rb, 1, none⟩ (.int .i64 ((k : Int) + (m : Int)))).drewN nq) (hb : Below B w0 w1) :
    Out T B src rb w0 (fun l => .string (Pure.ofL l)) (.ok (st.rest.take (m : Int).toNat) { st with rest := st.rest.drop (m : Int).toNat }) (.returned v) w2 := by
  subst hv hw
  have hmv := h.move hm hk nq
  have e1 : st.rest.drop (m : Int).toNat = (Pure.toL src).drop (k + m) := by rw [hr, List.drop_drop]; simp
  have e2 : src.extract k (k + m) = Pure.ofL (st.rest.take (m : Int).toNat) := by
    apply Pure.toL_inj
    rw [Pure.toL_ofL, extract_from, hr]; simp
  rw [e1]
  refine ⟨by rw [e2], ?_, Below.drewN (hb.setCell h.base _) _⟩
  have e3 : ((k + m : Nat) : Int) = (k : Int) + (m : Int) := by omega
  rw [← e3]
  exact hmv
set_option maxRecDepth 100000 in
set_option maxHeartbeats 800000 in
theorem char_R (h : Inv T B src rb st w) : Calls Tryz.prog 117 #[.pointer (some ⟨rb, 0, none⟩)] w (Out T B src rb w (fun l => .string (Pure.ofL l)) (Pure.char st)) := by
  obtain ⟨k, ov, tp, tv, S, Hm, hk, Hr, Hl, c0, c1, c2, c3, c4, c5, c6, hf⟩ := h.parts
  have hs := h.size
  have hC := fun n => First_any (src.extract k src.size) (w.drewN n) (h.tabs.drewN n)
  rw [toL_extract, ← Hr.out] at hC
  have hlen := first_len st.rest
  have hV : Pure.char st = if (Pure.first st.rest).2.2 ≠ 0 then .fail st.rest.length (Pure.first st.rest).2.2 st.evs else .ok (st.rest.take (Pure.first st.rest).2.1.toNat) { st with rest := st.rest.drop (Pure.first st.rest).2.1.toNat } := rfl
  rw [hV]
  clear hV
  have hll := Hl.out
  unfold vFirst at hC
  generalize (Pure.first st.rest).1 = r at *
  generalize (Pure.first st.rest).2.1 = n at *
  generalize (Pure.first st.rest).2.2 = e at *
  have HC := Lib.hid hC
  have H := Lib.hid h
  clear hC h
  by_cases he : e = 0
  · subst he
    rw [if_neg (by decide)]
    obtain ⟨n1, n2⟩ := hlen rfl
    obtain ⟨m, rfl⟩ : ∃ m : Nat, n = m := ⟨n.toNat, by omega⟩
    clear hlen
    have hkm : k + m ≤ src.size := by omega
    have HL := Lib.hid hll
    clear hll
    go_enter Tryz.func117, Tryz.ntmps117
    go_wp2_with fail
    go_region_with (go_at_call 134; refine (HC.out _).mono ?_; rintro e' w1 ⟨rfl, hb1⟩)
    all_goals
      have h1 := (H.out.drewN _).later hb1
      have Hb := Lib.hid (Below.thenNew (Below.drewN (Below.refl B w) _) H.out.room hb1)
      clear hb1
      obtain ⟨k', ov', tp', tv', S', Hm', hk', Hr', Hl', d0, d1, d2, d3, d4, d5, d6, df⟩ := h1.parts
      obtain rfl : k' = k := by have := Hl'.out; have := HL.out; omega
      have H1 := Lib.hid h1
      clear h1 hf c0 c1 c2 c3 c4 c5 c6
      go_wp2_with fail
      go_quiet (fail)
      go_wp2_with fail
      go_ret
      exact char_end H1.out Hm'.out Hr'.out hkm rfl rfl Hb.out
  · rw [if_pos he]
    have hne : (e != 0) = true := by rw [bne_iff_ne]; exact he
    have HL := Lib.hid hll
    clear hll hlen he
    go_enter Tryz.func117, Tryz.ntmps117
    go_wp2_with fail
    go_region_with (go_at_call 134; refine (HC.out _).mono ?_; rintro e' w1 ⟨rfl, hb1⟩)
    all_goals
      have h1 := (H.out.drewN _).later hb1
      have Hb := Lib.hid (Below.thenNew (Below.drewN (Below.refl B w) _) H.out.room hb1)
      clear hb1
      obtain ⟨k', ov', tp', tv', S', Hm', hk', Hr', Hl', d0, d1, d2, d3, d4, d5, d6, df⟩ := h1.parts
      have H1 := Lib.hid h1
      clear h1 hf c0 c1 c2 c3 c4 c5 c6
      go_wp2_with (go_at_call 96; refine (fail_any _ _ _ _).mono ?_; rintro e' w2 ⟨rfl, rfl⟩)
      exact ⟨rfl, out_fail H1.out Hb.out Hl'.out⟩
end Go.Proofs.YtipfakmbjajhlaaGreatDoor 
