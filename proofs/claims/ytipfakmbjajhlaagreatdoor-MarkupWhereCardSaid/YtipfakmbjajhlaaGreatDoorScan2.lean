/-
  The reader's small methods: fail, next, must, begins, blanks, name, char.
-/
import Derived.Test.YtipfakmbjajhlaaGreatDoorScan1
set_option linter.unusedVariables false
set_option linter.unusedSimpArgs false
namespace Go.Proofs.YtipfakmbjajhlaaGreatDoor 
open Go.RowKit
variable {T : Teller} {B : Nat} {src : ByteArray} {rb : Nat} {st : Pure.St} {w : World}
/-- The reader's block alone has turned. -/
theorem Mem.rdOnly {k : Nat} {ov tp tv : Value} {S : Nat → Prop} {w' : World} (h : Mem T B src rb k st ov tp tv S w) (hc : Chg (· = rb) w w') {k' nd' : Nat} (hr : RdAt w' rb src k' ov tp tv nd' T.val) (r : Pure.Bytes) :
    Mem T B src rb k' { st with rest := r, nodes := nd' } ov tp tv S w' := by
  refine ⟨hr, owns_keep h.opn fun i hi => hc.block i (h.opn.lt i hi).2 (by rintro rfl; exact h.ne_ov hi), h.own, ⟨owns_keep h.buf.1 fun i hi => hc.block i (h.buf.1.lt i hi).2 (by rintro rfl; exact h.ne_tv hi), h.buf.2⟩, T.keep h.told hc.size (fun i hi => hc.block i (T.lt h.told hi) (by rintro rfl; exact h.ne_rb hi)), h.above, h.apart⟩
theorem chg_setCell (w : World) (a : Addr) (v : Value) : Chg (· = a.block) w (w.setCell a v) := (Chg.refl _ w).setCell a v (.inl rfl)
/-- The place moves on. -/
theorem Inv.move {k k' : Nat} {ov tp tv : Value} {S : Nat → Prop} (h : Inv T B src rb st w) (hm : Mem T B src rb k st ov tp tv S w) (hk : k' ≤ src.size) (n : Nat) :
    Inv T B src rb { st with rest := (Pure.toL src).drop k' } ((w.setCell ⟨rb, 1, none⟩ (.int .i64 (k' : Int))).drewN n) := by
  have hc : Chg (· = rb) w ((w.setCell ⟨rb, 1, none⟩ (.int .i64 (k' : Int))).drewN n) := (chg_setCell w ⟨rb, 1, none⟩ _).drewN n
  have hr : RdAt ((w.setCell ⟨rb, 1, none⟩ (.int .i64 (k' : Int))).drewN n) rb src k' ov tp tv st.nodes T.val := by
    have := heap_setCell_same (i := 1) hm.rd (.int .i64 (k' : Int))
    exact this
  exact { h with mem := ⟨k', ov, tp, tv, S, hm.rdOnly hc hr _, hk, rfl⟩, tabs := h.tabs.below (hc.below h.room (by rintro i rfl; exact h.base)) h.glob, room := Nat.le_trans h.room hc.size }
theorem Inv.drewN (h : Inv T B src rb st w) (n : Nat) : Inv T B src rb st (w.drewN n) := h.later (below_drewN w n)
theorem Inv.told (h : Inv T B src rb st w) : ∃ S, T.inv st.evs S w ∧ ∀ k, S k → B ≤ k := by
  obtain ⟨k, ov, tp, tv, S, hm, _, _⟩ := h.mem
  exact ⟨S, hm.told, hm.above⟩
theorem rest_length {k : Nat} (hk : k ≤ src.size) (hr : st.rest = (Pure.toL src).drop k) : st.rest.length + k = src.size := by rw [hr, List.length_drop, Pure.length_toL]; omega
theorem fail_any (rp : Value) (a c : Int) (w : World) : Calls Tryz.prog 96 #[rp, .int .i64 a, .int .i64 c] w fun e w' => e = .panicked [{ v := .iface 128 (.agg #[.int .i64 a, .int .i64 c]), recovered := false }] ∧ w = w' := by
  go_enter Tryz.func96, Tryz.ntmps96
  go_wp2
  exact ⟨rfl, rfl, rfl⟩
/-- fail at a place: how the reader ends. -/
theorem out_fail {α : Type} {enc : α → Value} {w0 : World} {left k : Nat} {why : Int} (h : Inv T B src rb st w) (hb : Below B w0 w) (hk : left + k = src.size) :
    Out T B src rb w0 enc (.fail left why st.evs) (.panicked [{ v := .iface 128 (.agg #[.int .i64 (k : Int), .int .i64 why]), recovered := false }]) w := by
  refine ⟨?_, h.told, hb⟩
  unfold fault
  rw [show (src.size : Int) - (left : Int) = (k : Int) from by omega]
/-- All that a walk wants of the reader. -/
theorem Inv.parts (h : Inv T B src rb st w) : ∃ k ov tp tv S, Hid (Mem T B src rb k st ov tp tv S w) ∧ k ≤ src.size ∧ Hid (st.rest = (Pure.toL src).drop k) ∧ Hid (st.rest.length + k = src.size) ∧ RdCells w rb src k ov tp tv st.nodes T.val := by
  obtain ⟨k, ov, tp, tv, S, hm, hk, hr⟩ := h.mem
  exact ⟨k, ov, tp, tv, S, hm, hk, hr, rest_length hk hr, hm.rd.cells⟩
def encB (c : UInt8) : Value := .int .u8 (c.toNat : Int)
def encU (_ : Unit) : Value := .tuple #[]
set_option maxHeartbeats 400000 in
theorem next_R (h : Inv T B src rb st w) : Calls Tryz.prog 143 #[.pointer (some ⟨rb, 0, none⟩)] w (Out T B src rb w encB (Pure.next st)) := by
  obtain ⟨k, ov, tp, tv, S, hm, hk, hr⟩ := h.mem
  have hl := rest_length hk hr
  obtain ⟨c0, c1, c2, c3, c4, c5, c6, hf⟩ := hm.rd.cells
  have hs := h.size
  by_cases hlt : k < src.size
  · have hne : ((k : Int) == (src.size : Int)) = false := by rw [beq_eq_false_iff_ne]; omega
    have hV : Pure.next st = .ok src[k] st := by unfold Pure.next; rw [hr, drop_cons src k hlt]
    rw [hV]
    have H := Lib.hid h
    clear h hV hr hm
    go_enter Tryz.func143, Tryz.ntmps143
    go_wp2_with fail
    go_quiet (fail)
    go_wp2_with fail
    go_quiet (fail)
    go_wp2_with fail
    go_ret
    rw [World.drewN_drewN]
    exact ⟨rfl, H.out.drewN _, Below.drewN (Below.refl B w) _⟩
  · obtain rfl : k = src.size := by omega
    have hV : Pure.next st = .fail 0 4 st.evs := by unfold Pure.next; rw [hr, ← Pure.length_toL, List.drop_length]
    have hne : ((src.size : Int) == (src.size : Int)) = true := by rw [beq_iff_eq]
    rw [hV]
    have H := Lib.hid h
    clear h hV hr hm hl
    go_enter Tryz.func143, Tryz.ntmps143
    go_wp2_with fail
    go_quiet (fail)
    go_wp2_with (go_at_call 96; refine (fail_any _ _ _ _).mono ?_; rintro e w' ⟨rfl, rfl⟩)
    exact ⟨rfl, out_fail (H.out.drewN _) (Below.drewN (Below.refl B w) _) (by omega)⟩
theorem bind_ok {α β : Type} (a : α) (s : Pure.St) (f : α → Pure.St → Pure.R β) : Pure.R.bind (.ok a s) f = f a s := rfl
theorem bind_fail {α β : Type} (l : Nat) (y : Int) (e : List Pure.Event) (f : α → Pure.St → Pure.R β) : Pure.R.bind (.fail l y e) f = .fail l y e := rfl
/-- What fails in a part fails in the whole. -/
theorem Out.fails {α β : Type} {enc : α → Value} {enc' : β → Value} {l : Nat} {y : Int} {e : List Pure.Event} {w0 w1 w2 : World} {en : Ending} (h : Out T B src rb w1 enc (.fail l y e : Pure.R α) en w2) (hb : Below B w0 w1) : Out T B src rb w0 enc' (.fail l y e : Pure.R β) en w2 := ⟨h.1, h.2.1, hb.trans h.2.2⟩
theorem next_same {c : UInt8} {st1 : Pure.St} (h : Pure.next st = .ok c st1) : st1 = st ∧ ∃ r, st.rest = c :: r := by
  unfold Pure.next at h
  split at h
  · cases h
  · rename_i x r hr
    cases h
    exact ⟨rfl, r, hr⟩
set_option maxHeartbeats 800000 in
theorem must_R (c : UInt8) (h : Inv T B src rb st w) : Calls Tryz.prog 146 #[.pointer (some ⟨rb, 0, none⟩), .int .u8 (c.toNat : Int)] w (Out T B src rb w encU (Pure.must c st)) := by
  have hN := next_R h
  cases hn : Pure.next st with
  | fail l y e =>
    have hV : Pure.must c st = .fail l y e := by unfold Pure.must; rw [hn]; rfl
    rw [hV]
    rw [hn] at hN
    have HN := Lib.hid hN
    clear hN hn hV
    go_enter Tryz.func146, Tryz.ntmps146
    go_wp2_with (go_at_call 143; refine (HN.out).mono ?_; rintro e' w' ⟨rfl, ho⟩)
    exact ⟨rfl, rfl, by assumption⟩
  | ok d st1 =>
    obtain ⟨rfl, r, hr⟩ := next_same hn
    rw [hn] at hN
    have HN := Lib.hid hN
    have hV : Pure.must c st1 = if d ≠ c then .fail st1.rest.length 3 st1.evs else .ok () (Pure.skip st1) := by unfold Pure.must; rw [hn]; rfl
    rw [hV]
    clear hN hn hV
    go_enter Tryz.func146, Tryz.ntmps146
    have HR := Lib.hid hr
    have hs := h.size
    clear hr h
    by_cases hdc : d = c
    · subst hdc
      rw [if_neg (fun h => h rfl)]
      go_wp2_with (go_at_call 143; refine (HN.out).mono ?_; rintro e' w1 ⟨rfl, h1, hb1⟩; unfold encB; obtain ⟨k, ov, tp, tv, S, Hm, hk, Hr, Hl, c0, c1, c2, c3, c4, c5, c6, hf⟩ := h1.parts; have H1 := Lib.hid h1; have Hb := Lib.hid hb1; clear h1 hb1)
      go_end0
      have hlt : k < src.size := by
        have h1 := Hl.out
        have h2 := congrArg List.length HR.out
        simp only [List.length_cons] at h2
        omega
      have hmv := H1.out.move Hm.out (k' := k + 1) (by omega) 0
      have hs2 : Pure.skip st1 = { st1 with rest := (Pure.toL src).drop (k + 1) } := by unfold Pure.skip; rw [Hr.out, List.drop_drop]
      rw [hs2]
      exact ⟨rfl, hmv, Hb.out.setCell H1.out.base _⟩
    · rw [if_pos hdc]
      have hne : ((d.toNat : Int) != (c.toNat : Int)) = true := by
        rw [bne_iff_ne]; intro h; apply hdc; exact UInt8.toNat_inj.1 (by omega)
      go_wp2_with (first | (go_at_call 143; refine (HN.out).mono ?_; rintro e' w1 ⟨rfl, h1, hb1⟩; unfold encB; obtain ⟨k, ov, tp, tv, S, Hm, hk, Hr, Hl, c0, c1, c2, c3, c4, c5, c6, hf⟩ := h1.parts; have H1 := Lib.hid h1; have Hb := Lib.hid hb1; clear h1 hb1) | (go_at_call 96; refine (fail_any _ _ _ _).mono ?_; rintro e' w2 ⟨rfl, rfl⟩))
      exact ⟨rfl, out_fail H1.out Hb.out Hl.out⟩
end Go.Proofs.YtipfakmbjajhlaaGreatDoor 
