/-
  The reader's method flush: a text is told.
-/
import Derived.Test.YtipfakmbjajhlaaGreatDoorScan5
set_option linter.unusedVariables false
set_option linter.unusedSimpArgs false
namespace Go.Proofs.YtipfakmbjajhlaaGreatDoor 
open Go.RowKit
variable {T : Teller} {B : Nat} {src : ByteArray} {rb : Nat} {st : Pure.St} {w : World}
/-- Somebody was told: what holds of the reader behind it, its own block and rows being as they were. -/
theorem Mem.afterTell {k : Nat} {ov tp tv : Value} {S S' : Nat → Prop} {w1 w2 : World} (h : Mem T B src rb k st ov tp tv S w) {R : Nat → Prop} (h1 : Chg R w w1) (hR : ∀ i, R i → i ≠ rb ∧ ov.ownBlock ≠ some i)
    (h2 : Chg S w1 w2) {evs : List Pure.Event} (ht : T.inv evs S' w2) : w2.heap[rb]? = w.heap[rb]? ∧ w2.ownsRow B 9 1 ov st.opn.length (st.opn.reverse.map .string) := by
  have hlt := lt_of_block h.rd
  have hrb : w2.heap[rb]? = w.heap[rb]? := (h2.block rb (Nat.lt_of_lt_of_le hlt h1.size) h.ne_rb).trans (h1.block rb hlt (fun hr => (hR rb hr).1 rfl))
  refine ⟨hrb, owns_keep h.opn fun i hi => ?_⟩
  have hil := (h.opn.lt i hi).2
  exact (h2.block i (Nat.lt_of_lt_of_le hil h1.size) (h.ne_ovS i hi)).trans (h1.block i hil (fun hr => (hR i hr).2 hi))
theorem few_evs (h : Inv T B src rb st w) : st.evs.length < 9000 := by
  have h1 := h.few
  have h2 := h.nodes
  omega
theorem depth_words (h : Inv T B src rb st w) (t : Pure.Bytes) : depthOf (st.evs ++ [Pure.wordsE t]) = some st.opn.length := by
  rw [depthOf_snoc, h.wf]; rfl
theorem attrs_nil (w : World) (S : Nat → Prop) : AttrsAt w S (.slice none 0 0) [] := ⟨none, 0, rfl, Nat.le_refl _, .inl rfl⟩
theorem Mem.strCell {k : Nat} {ov tp tv : Value} {w1 : World} {S : Nat → Prop} (h : Mem T B src rb k st ov tp tv S w) (hc : Chg (fun i => tv.ownBlock = some i) w.drew w1) {j : Nat} {v : Value} (hv : w.cell? ⟨rb, j, none⟩ = some v) : w1.cell? ⟨rb, j, none⟩ = some v :=
  hc.cell (a := ⟨rb, j, none⟩) hv h.ne_tv
theorem Chg.drewBack {S : Nat → Prop} {w w1 : World} (h : Chg S w.drew w1) : Chg S w w1 := ⟨h.os, h.tape, h.output, h.size, h.block⟩
theorem tell_words {k : Nat} {ov tp tv : Value} {w1 : World} {S : Nat → Prop} (h : Inv T B src rb st w) (hm : Mem T B src rb k st ov tp tv S w) (hc : Chg (fun i => tv.ownBlock = some i) w.drew w1) :
    Calls Tryz.prog T.fn (#[.agg #[.int .i64 2, .string ⟨#[]⟩, .slice none 0 0, .string (Pure.ofL st.txt)]] ++ T.cap) w1 fun e w' => e = .returned (.tuple #[]) ∧ ∃ S', T.inv (st.evs ++ [Pure.wordsE st.txt]) S' w' ∧ (∀ k, S' k → S k ∨ w1.heap.size ≤ k) ∧ Chg S w1 w' := by
  have hti : T.inv st.evs S w1 := T.keep hm.told hc.size (fun i hi => hc.block i (show i < w.heap.size from T.lt hm.told hi) (fun hr => hm.ne_tvS i hr hi))
  refine (T.call (ev := Pure.wordsE st.txt) (av := .slice none 0 0) (SA := fun _ => False) hti (attrs_nil _ _) (fun _ h => h.elim) (Nat.zero_le _) (by rw [depth_words h]; rfl) (few_evs h) (.inr (.inl rfl)) (fun _ => rfl)).mono ?_
  rintro e w' ⟨he, S', h1, h2, h3⟩
  exact ⟨he, S', h1, fun k hk => by rcases h2 k hk with h | h | h; exact .inl h; exact h.elim; exact .inr h, h3⟩
theorem flush_end {k : Nat} {ov tp tv : Value} {w1 w2 : World} {S S' : Nat → Prop} (h : Inv T B src rb st w) (hm : Mem T B src rb k st ov tp tv S w) (hk : k ≤ src.size) (hr : st.rest = (Pure.toL src).drop k)
    (hc1 : Chg (fun i => tv.ownBlock = some i) w.drew w1) (hc2 : Chg S w1 w2) (hrd : w2.heap[rb]? = some (.cells #[.string src, .int .i64 (k : Int), ov, tp, tv, .int .i64 (st.nodes : Int), T.val] 126 (0, 0)))
    (hov : w2.ownsRow B 9 1 ov st.opn.length (st.opn.reverse.map .string)) (ht : T.inv (st.evs ++ [Pure.wordsE st.txt]) S' w2) (hS' : ∀ k, S' k → S k ∨ w1.heap.size ≤ k) (he : st.txt ≠ []) :
    Out T B src rb w encU (.ok () { Pure.tellE st (Pure.wordsE st.txt) with txt := [] }) (.returned (.tuple #[])) ((w2.setCell ⟨rb, 3, none⟩ (.pointer none)).setCell ⟨rb, 3 + 1, none⟩ (.slice none 0 0)) := by
  have hlt := lt_of_block hm.rd
  have hs1 := hc1.size
  have hs1' : w.heap.size ≤ w1.heap.size := hs1
  have hroom := h.room
  have hcS : Chg (fun i => i = rb ∨ tv.ownBlock = some i ∨ S i) w w2 :=
    ((hc1.drewBack).mono (fun i _ hi => .inr (.inl hi))).trans (hc2.mono (fun i _ hi => .inl (.inr (.inr hi))))
  have hc3 : Chg (· = rb) w2 ((w2.setCell ⟨rb, 3, none⟩ (.pointer none)).setCell ⟨rb, 3 + 1, none⟩ (.slice none 0 0)) := Chg.setCell (Chg.setCell (Chg.refl (· = rb) w2) ⟨rb, 3, none⟩ _ (.inl rfl)) ⟨rb, 3 + 1, none⟩ _ (.inl rfl)
  have hcA := hcS.trans (hc3.mono (fun i _ hi => .inl (.inl hi)))
  have hbel : Below B w ((w2.setCell ⟨rb, 3, none⟩ (.pointer none)).setCell ⟨rb, 3 + 1, none⟩ (.slice none 0 0)) := hcA.below h.room (by
    rintro i (rfl | hi | hi)
    · exact h.base
    · exact (hm.buf.1.lt i hi).1
    · exact hm.above i hi)
  have hneS : ∀ i, S' i → i ≠ rb := by
    rintro i hi rfl
    rcases hS' _ hi with h1 | h1
    · exact hm.ne_rb h1
    · omega
  have hrd3 : RdAt ((w2.setCell ⟨rb, 3, none⟩ (.pointer none)).setCell ⟨rb, 3 + 1, none⟩ (.slice none 0 0)) rb src k ov (.pointer none) (.slice none 0 0) st.nodes T.val := heap_setCell_same (i := 4) (heap_setCell_same (i := 3) hrd (.pointer none)) (.slice none 0 0)
  have hgr := hc3.size
  refine ⟨rfl, ?_, hbel⟩
  exact { h with
    mem := ⟨k, ov, .pointer none, .slice none 0 0, S', ⟨hrd3, owns_keep hov (fun i hi => hc3.block i (hov.lt i hi).2 (by rintro rfl; exact hm.ne_ov hi)), .inl rfl, BufAt.nil _ _, T.keep ht hgr (fun i hi => hc3.block i (T.lt ht hi) (hneS i hi)), fun i hi => by rcases hS' i hi with h1 | h1; exact hm.above i h1; omega, fun i hi => by simp [Value.ownBlock] at hi⟩, hk, hr⟩
    tabs := h.tabs.below hbel h.glob
    room := Nat.le_trans h.room hbel.size
    text := by simp
    wf := depth_words h st.txt
    few := by
      have h1 := h.few
      rw [if_neg he] at h1
      simp only [Pure.tellE, List.length_append, List.length_cons, List.length_nil, if_true]
      omega }
set_option maxRecDepth 100000 in
set_option maxHeartbeats 3200000 in
theorem flush_R (h : Inv T B src rb st w) : Calls Tryz.prog 95 #[.pointer (some ⟨rb, 0, none⟩)] w (Out T B src rb w encU (Pure.flush st)) := by
  obtain ⟨k, ov, tp, tv, S, Hm, hk, Hr, Hl, c0, c1, c2, c3, c4, c5, c6, hf⟩ := h.parts
  obtain ⟨q, c, htv⟩ := Hm.out.buf.form
  have HL := Lib.hid (fun W hc => bLen_any rb 3 tv st.txt.length q c W htv hc)
  by_cases he : st.txt = []
  · have hV : Pure.flush st = .ok () st := by unfold Pure.flush; rw [if_pos he]
    have h0 : st.txt.length = 0 := by rw [he]; rfl
    rw [hV]
    rw [h0] at HL
    have H := Lib.hid h
    clear h hV he h0 htv
    go_enter Tryz.func95, Tryz.ntmps95
    go_wp2_with (go_at_call 91; refine (HL.out _ c4).mono ?_; rintro e' w1 ⟨rfl, rfl⟩)
    go_end0
    exact ⟨rfl, H.out, Below.refl _ _⟩
  · have hV : Pure.flush st = .ok () { Pure.tellE st (Pure.wordsE st.txt) with txt := [] } := by unfold Pure.flush; rw [if_neg he]
    rw [hV]
    have hpos : (0 : Int) < (st.txt.length : Int) := by have := List.length_pos_iff.2 he; omega
    have HS := Lib.hid (bString_any rb 3 B tv st.txt w.drew c4 Hm.out.buf)
    have hen := T.enters
    have H := Lib.hid h
    have He := Lib.hid he
    have c6' : w.cell? ⟨rb, 6, none⟩ = some (.func (.func T.fn) #[] T.cap) := c6
    clear h hV he htv c6
    go_enter Tryz.func95, Tryz.ntmps95
    go_wp2_with (go_at_call 91; refine (HL.out _ c4).mono ?_; rintro e' w1 ⟨rfl, rfl⟩)
    go_region_with (first | (go_at_call 50; refine (HS.out).mono ?_; rintro e' w1 ⟨rfl, hc1⟩; have d6 := Hm.out.strCell hc1 c6') | (refine (tell_words H.out Hm.out hc1).mono ?_; rintro e' w2 ⟨rfl, hpost⟩))
    all_goals
      obtain ⟨S', ht, hS', hc2⟩ := id hpost
      have hrd := (Hm.out.afterTell (hc1.drewBack) (fun i hi => ⟨fun e => Hm.out.ne_tv (by rw [← e]; exact hi), Hm.out.ne_ovtv i hi⟩) hc2 ht)
      have HRd := Lib.hid (hrd.1.trans Hm.out.rd)
      have HOv := Lib.hid hrd.2
      have Hc1 := Lib.hid hc1
      have Hc2 := Lib.hid hc2
      have HS' := Lib.hid hS'
      have Ht := Lib.hid ht
      clear hrd hc1 hc2 hS' ht hpost d6 c0 c1 c2 c3 c4 c5 c6' hf hen
      go_wp2_with (go_at_call 118; refine (bReset_any rb 3 _ 126 tp tv _ HRd.out rfl rfl).mono ?_; rintro e' w3 ⟨rfl, rfl⟩)
      go_end0
      exact flush_end H.out Hm.out hk Hr.out Hc1.out Hc2.out HRd.out HOv.out Ht.out HS'.out He.out
end Go.Proofs.YtipfakmbjajhlaaGreatDoor 
