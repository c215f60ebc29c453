/-
  The document's examples, reckoned plainly. No program here.
  Plain laws of texts: a text that can be is a row of characters; what Escape writes. No program here.
  Plain laws of the reader: what it does at a character, at a reference, at a text, at an attribute's value. No program here.
  Plain laws of the reader: what it does at an element's beginning and end, at a remark. No program here.
  Plain laws of forests as they may be written: what is read of them. No program here.
  Plain laws of the printed text and of the normal form. No program here.
  Plain laws of the normal form: THERE AND BACK. No program here.
  Plain laws of a forest that is written loosely (remarks, other quotes, blanks, attributes turned about). No program here.
-/
import Derived.Test.YtipfakmbjajhlaaGreatDoorPureM
section
set_option linter.unusedVariables false
set_option linter.unusedSimpArgs false
namespace Go.Proofs.YtipfakmbjajhlaaGreatDoor 
namespace Pure
set_option maxHeartbeats 2000000 in
theorem decodeN_prefix {N b0 b1 b2 b3 r k : Nat} (N' c1 c2 c3 : Nat) (h : Lib.decodeN N b0 b1 b2 b3 = (r, k)) (hne : ¬ (r = 65533 ∧ k = 1)) (hN : k ≤ N') (e1 : 1 < k → c1 = b1) (e2 : 2 < k → c2 = b2) (e3 : 3 < k → c3 = b3) :
    Lib.decodeN N' b0 c1 c2 c3 = (r, k) := by
  unfold Lib.decodeN at h
  split at h
  · cases h; unfold Lib.decodeN; rw [if_pos ‹_›]
  split at h
  · rename_i h0 h1
    split at h
    · rename_i h2
      cases h
      have := e1 (by omega)
      subst this
      unfold Lib.decodeN
      rw [if_neg h0, if_pos ⟨h1.1, by omega, h1.2.2⟩, if_pos h2]
    · cases h; exact absurd ⟨rfl, rfl⟩ hne
  split at h
  · rename_i h0 h1 h2
    split at h
    · rename_i h3
      cases h
      have := e1 (by omega)
      subst this
      have := e2 (by omega)
      subst this
      unfold Lib.decodeN
      rw [if_neg h0, if_neg (by omega), if_pos ⟨h2.1, ⟨by omega, h2.2.1.2⟩, ⟨by omega, h2.2.2.2⟩⟩, if_pos h3]
    · cases h; exact absurd ⟨rfl, rfl⟩ hne
  split at h
  · rename_i h0 h1 h2 h3
    split at h
    · rename_i h4
      cases h
      have := e1 (by omega)
      subst this
      have := e2 (by omega)
      subst this
      have := e3 (by omega)
      subst this
      unfold Lib.decodeN
      rw [if_neg h0, if_neg (by omega), if_neg (by omega), if_pos ⟨h3.1, ⟨by omega, h3.2.1.2⟩, ⟨by omega, h3.2.2.1.2⟩, ⟨by omega, h3.2.2.2.2⟩⟩, if_pos h4]
    · cases h; exact absurd ⟨rfl, rfl⟩ hne
  · cases h; exact absurd ⟨rfl, rfl⟩ hne
theorem decodeN_facts {N b0 b1 b2 b3 r k : Nat} (h : Lib.decodeN N b0 b1 b2 b3 = (r, k)) (hne : ¬ (r = 65533 ∧ k = 1)) (hN : 1 ≤ N) :
    1 ≤ k ∧ k ≤ N ∧ k ≤ 4 ∧ (k = 1 → r = b0 ∧ b0 < 128) ∧ (1 < k → 128 ≤ b0 ∧ 128 ≤ b1) ∧ (2 < k → 128 ≤ b2) ∧ (3 < k → 128 ≤ b3) := by
  unfold Lib.decodeN at h
  split at h
  · cases h; refine ⟨by omega, by omega, by omega, fun _ => ⟨rfl, by omega⟩, fun h => by omega, fun h => by omega, fun h => by omega⟩
  split at h
  · split at h
    · cases h; refine ⟨by omega, by omega, by omega, fun h => by omega, fun _ => ⟨by omega, by omega⟩, fun h => by omega, fun h => by omega⟩
    · cases h; exact absurd ⟨rfl, rfl⟩ hne
  split at h
  · split at h
    · cases h; refine ⟨by omega, by omega, by omega, fun h => by omega, fun _ => ⟨by omega, by omega⟩, fun h => by omega, fun h => by omega⟩
    · cases h; exact absurd ⟨rfl, rfl⟩ hne
  split at h
  · split at h
    · cases h; refine ⟨by omega, by omega, by omega, fun h => by omega, fun _ => ⟨by omega, by omega⟩, fun h => by omega, fun h => by omega⟩
    · cases h; exact absurd ⟨rfl, rfl⟩ hne
  · cases h; exact absurd ⟨rfl, rfl⟩ hne
/-- One character: a byte below 128 that can be, or bytes from 128 on; whatever stands behind it, it is the first one. -/
structure GoodChar (c : Bytes) : Prop where
  one : ∃ r, ∀ x, first (c ++ x) = (r, (c.length : Int), 0)
  kind : (∃ b, c = [b] ∧ b.toNat < 128) ∨ (1 < c.length ∧ ∀ b ∈ c, 128 ≤ b.toNat)
inductive Good : Bytes → Prop
  | nil : Good []
  | cons {c t : Bytes} (h : GoodChar c) (k : Good t) : Good (c ++ t)
theorem GoodChar.pos {c : Bytes} (h : GoodChar c) : 0 < c.length := by
  rcases h.kind with ⟨b, rfl, _⟩ | ⟨h, _⟩
  · simp
  · omega
theorem Good.append {a b : Bytes} (h : Good a) (k : Good b) : Good (a ++ b) := by
  induction h with
  | nil => exact k
  | cons hc _ ih => rw [List.append_assoc]; exact .cons hc ih
theorem byteAt_append (l x : Bytes) {i : Nat} (h : i < l.length) : byteAt (l ++ x) i = byteAt l i := by
  unfold byteAt; rw [List.getD_eq_getElem?_getD, List.getD_eq_getElem?_getD, List.getElem?_append_left h]
theorem byteAt_take (l : Bytes) {i k : Nat} (h : i < k) : byteAt (l.take k) i = byteAt l i := by
  unfold byteAt; rw [List.getD_eq_getElem?_getD, List.getD_eq_getElem?_getD, List.getElem?_take_of_lt h]
theorem mem_byte {l : Bytes} {b : UInt8} (h : b ∈ l) : ∃ i, i < l.length ∧ byteAt l i = b.toNat := by
  obtain ⟨i, hi, rfl⟩ := List.getElem_of_mem h
  refine ⟨i, hi, ?_⟩
  unfold byteAt; rw [List.getD_eq_getElem?_getD, List.getElem?_eq_getElem hi]; rfl
/-- The first character of a text. -/
theorem goodChar_of_first {l : Bytes} {r n : Int} (h : first l = (r, n, 0)) : GoodChar (l.take n.toNat) ∧ n.toNat ≤ l.length ∧ 0 < n.toNat ∧ ((n.toNat : Nat) : Int) = n := by
  by_cases hl : l = []
  · subst hl; simp [first, dec] at h
  have hN : 1 ≤ l.length := by cases l with | nil => exact absurd rfl hl | cons => simp
  unfold first at h
  generalize hd : dec l = d at h
  obtain ⟨r', k⟩ := d
  split at h
  · simp at h
  split at h
  · simp at h
  rename_i h0 h1
  simp only [Prod.mk.injEq] at h
  obtain ⟨rfl, rfl, _⟩ := h
  simp only [not_or] at h1
  unfold dec at hd
  rw [if_neg hl] at hd
  obtain ⟨k1, k2, k3, k4, k5, k6, k7⟩ := decodeN_facts hd h1.1 hN
  have hlen : (l.take k).length = k := by rw [List.length_take]; omega
  simp only [Int.toNat_natCast]
  refine ⟨⟨⟨r', fun x => ?_⟩, ?_⟩, k2, k1, trivial⟩
  · have hne : l.take k ++ x ≠ [] := by
      intro e
      have := congrArg List.length e
      rw [List.length_append, hlen] at this
      simp at this; omega
    have hb : ∀ i, i < k → byteAt (l.take k ++ x) i = byteAt l i := fun i hi => by rw [byteAt_append _ _ (by omega), byteAt_take _ hi]
    have hd' : dec (l.take k ++ x) = (r', k) := by
      unfold dec
      rw [if_neg hne, hb 0 k1]
      exact decodeN_prefix _ _ _ _ hd h1.1 (by rw [List.length_append, hlen]; omega) (fun h => hb 1 h) (fun h => hb 2 h) (fun h => hb 3 h)
    unfold first
    rw [hd']
    simp only
    rw [if_neg (show ¬ k = 0 by omega), if_neg (by simp only [not_or]; exact h1), hlen]
  · rw [hlen]
    by_cases hk : k = 1
    · left
      subst hk
      obtain ⟨b, rest, rfl⟩ : ∃ b rest, l = b :: rest := by cases l with | nil => exact absurd rfl hl | cons b r => exact ⟨b, r, rfl⟩
      exact ⟨b, rfl, (k4 rfl).2⟩
    · right
      refine ⟨by omega, fun b hb => ?_⟩
      obtain ⟨i, hi, e⟩ := mem_byte hb
      rw [hlen] at hi
      rw [← e, byteAt_take _ hi]
      have : i = 0 ∨ i = 1 ∨ i = 2 ∨ i = 3 := by omega
      rcases this with rfl | rfl | rfl | rfl
      · exact (k5 (by omega)).1
      · exact (k5 (by omega)).2
      · exact k6 (by omega)
      · exact k7 (by omega)
theorem textFrom_good : ∀ (f : Nat) (l : Bytes) (a b : Int), l.length < f → textFrom f l a = (b, 0) → Good l
  | 0, l, a, b, hf, _ => absurd hf (Nat.not_lt_zero _)
  | f + 1, l, a, b, hf, h => by
    unfold textFrom at h
    split at h
    · rename_i hl; rw [hl]; exact .nil
    · split at h
      rename_i r n e hfst
      split at h
      · rename_i he
        subst he
        obtain ⟨hg, h1, h2, h3⟩ := goodChar_of_first hfst
        have := textFrom_good f _ _ _ (by rw [List.length_drop]; omega) h
        rw [← List.take_append_drop n.toNat l]
        exact .cons hg this
      · rename_i he
        simp only [Prod.mk.injEq] at h
        exact absurd h.2 he
theorem good_of_text {l : Bytes} (h : (text l).2 = 0) : Good l ∧ l.length ≤ 16384 := by
  unfold text at h
  split at h
  · simp at h
  · exact ⟨textFrom_good _ _ _ _ (Nat.lt_succ_self _) (Prod.ext rfl h), by omega⟩
theorem textFrom_of_good : ∀ (f : Nat) (l : Bytes) (a : Int), l.length < f → Good l → ∃ b, textFrom f l a = (b, 0)
  | 0, l, a, hf, _ => absurd hf (Nat.not_lt_zero _)
  | f + 1, l, a, hf, h => by
    cases h with
    | nil => exact ⟨0, by unfold textFrom; rw [if_pos rfl]⟩
    | @cons c t hc ht =>
      obtain ⟨r, hr⟩ := hc.one
      have hp := hc.pos
      have hne : c ++ t ≠ [] := by intro e; have := congrArg List.length e; simp at this; simp [this.1] at hp
      obtain ⟨b, hb⟩ := textFrom_of_good f t (a + c.length) (by rw [List.length_append] at hf; omega) ht
      refine ⟨b, ?_⟩
      unfold textFrom
      rw [if_neg hne, hr t]
      simp only [if_true, Int.toNat_natCast, List.drop_left]
      exact hb
/-- A text that was put together can be, if it is not too long. -/
theorem text_ok {l : Bytes} (h : Good l) (hl : l.length ≤ 16384) : (text l).2 = 0 := by
  unfold text
  rw [if_neg (by omega)]
  obtain ⟨b, hb⟩ := textFrom_of_good (l.length + 1) l 0 (Nat.lt_succ_self _) h
  rw [hb]
theorem escape_ok {l : Bytes} (h : (text l).2 = 0) (q : Bool) : (escape l q).1 = l.flatMap (escByte q) := by
  unfold escape
  have : text l = ((text l).1, 0) := Prod.ext rfl h
  rw [this]
  rfl
theorem escByte_big (q : Bool) {c : UInt8} (h : 128 ≤ c.toNat) : escByte q c = [c] := by
  have hn : ∀ k : UInt8, k.toNat < 128 → c ≠ k := fun k hk e => by rw [e] at h; omega
  unfold escByte
  rw [if_neg (hn 38 (by decide)), if_neg (hn 60 (by decide)), if_neg (hn 62 (by decide)), if_neg (hn 13 (by decide))]
  simp [hn 34 (by decide), hn 9 (by decide), hn 10 (by decide)]
theorem escChar_big (q : Bool) : ∀ {c : Bytes}, (∀ b ∈ c, 128 ≤ b.toNat) → c.flatMap (escByte q) = c
  | [], _ => rfl
  | b :: c, h => by rw [List.flatMap_cons, escByte_big q (h b (List.mem_cons_self ..)), escChar_big q (fun x hx => h x (List.mem_cons_of_mem _ hx))]; rfl
end Pure
end Go.Proofs.YtipfakmbjajhlaaGreatDoor 
end

section
set_option linter.unusedVariables false
set_option linter.unusedSimpArgs false
namespace Go.Proofs.YtipfakmbjajhlaaGreatDoor 
namespace Pure
/-- A reference, whatever stands behind it. -/
structure RefOf (e v : Bytes) : Prop where
  head : ∃ r, e = 38 :: r
  part : ∀ R, refPart (e ++ R) = e
  means : unescape e = (v, (unescape e).2.1, 0)
theorem take_app (e R : Bytes) (h : e.length ≤ 10) : (e ++ R).take 10 = e ++ R.take (10 - e.length) := by
  rw [List.take_append, List.take_of_length_le h]
theorem ref_amp : RefOf [38, 97, 109, 112, 59] [38] := ⟨⟨_, rfl⟩, fun R => by unfold refPart; rw [take_app _ _ (by decide)]; simp [Lib.indexByte], by decide +kernel⟩
theorem ref_lt : RefOf [38, 108, 116, 59] [60] := ⟨⟨_, rfl⟩, fun R => by unfold refPart; rw [take_app _ _ (by decide)]; simp [Lib.indexByte], by decide +kernel⟩
theorem ref_gt : RefOf [38, 103, 116, 59] [62] := ⟨⟨_, rfl⟩, fun R => by unfold refPart; rw [take_app _ _ (by decide)]; simp [Lib.indexByte], by decide +kernel⟩
theorem ref_cr : RefOf [38, 35, 49, 51, 59] [13] := ⟨⟨_, rfl⟩, fun R => by unfold refPart; rw [take_app _ _ (by decide)]; simp [Lib.indexByte], by decide +kernel⟩
theorem ref_quot : RefOf [38, 113, 117, 111, 116, 59] [34] := ⟨⟨_, rfl⟩, fun R => by unfold refPart; rw [take_app _ _ (by decide)]; simp [Lib.indexByte], by decide +kernel⟩
theorem ref_tab : RefOf [38, 35, 57, 59] [9] := ⟨⟨_, rfl⟩, fun R => by unfold refPart; rw [take_app _ _ (by decide)]; simp [Lib.indexByte], by decide +kernel⟩
theorem ref_nl : RefOf [38, 35, 49, 48, 59] [10] := ⟨⟨_, rfl⟩, fun R => by unfold refPart; rw [take_app _ _ (by decide)]; simp [Lib.indexByte], by decide +kernel⟩
/-- What Escape writes for a byte: the byte, or a reference that means it. -/
theorem esc_cases (q : Bool) (b : UInt8) : (escByte q b = [b] ∧ b ≠ 38 ∧ b ≠ 60 ∧ (q = true → b ≠ 34)) ∨ RefOf (escByte q b) [b] := by
  unfold escByte
  by_cases h1 : b = 38
  · subst h1; right; exact ref_amp
  rw [if_neg h1]
  by_cases h2 : b = 60
  · subst h2; right; exact ref_lt
  rw [if_neg h2]
  by_cases h3 : b = 62
  · subst h3; right; exact ref_gt
  rw [if_neg h3]
  by_cases h4 : b = 13
  · subst h4; right; exact ref_cr
  rw [if_neg h4]
  cases q with
  | false => left; simp; exact ⟨h1, h2⟩
  | true =>
    by_cases h5 : b = 34
    · subst h5; right; exact ref_quot
    by_cases h6 : b = 9
    · subst h6; right; exact ref_tab
    by_cases h7 : b = 10
    · subst h7; right; exact ref_nl
    left; simp [h5, h6, h7]; exact ⟨h1, h2⟩
def escB (q : Bool) (t : Bytes) : Bytes := t.flatMap (escByte q)
theorem escB_append (q : Bool) (a b : Bytes) : escB q (a ++ b) = escB q a ++ escB q b := List.flatMap_append
/-- What Escape writes for a character. -/
theorem esc_char (q : Bool) {c : Bytes} (h : GoodChar c) : (escB q c = c ∧ ∃ b r, c = b :: r ∧ b ≠ 38 ∧ b ≠ 60 ∧ (q = true → b ≠ 34)) ∨ RefOf (escB q c) c := by
  rcases h.kind with ⟨b, rfl, hb⟩ | ⟨h1, hb⟩
  · have e : escB q [b] = escByte q b := by simp [escB]
    rw [e]
    rcases esc_cases q b with ⟨h1, h2, h3, h4⟩ | h1
    · exact .inl ⟨h1, b, [], rfl, h2, h3, h4⟩
    · exact .inr h1
  · left
    refine ⟨escChar_big q hb, ?_⟩
    obtain ⟨b, r, rfl⟩ : ∃ b r, c = b :: r := by cases c with | nil => simp at h1 | cons b r => exact ⟨b, r, rfl⟩
    have hbb := hb b (List.mem_cons_self ..)
    refine ⟨b, r, rfl, ?_, ?_, fun _ => ?_⟩ <;> (intro e; rw [e] at hbb; revert hbb; decide)
theorem escB_pos (q : Bool) {c : Bytes} (h : GoodChar c) : 0 < (escB q c).length := by
  rcases esc_char q h with ⟨h1, _⟩ | h1
  · rw [h1]; exact h.pos
  · obtain ⟨r, hr⟩ := h1.head; rw [hr]; simp
theorem char_ok {s : St} {c R : Bytes} (h : GoodChar c) (hr : s.rest = c ++ R) : char s = .ok c { s with rest := R } := by
  obtain ⟨r, h1⟩ := h.one
  unfold char
  rw [hr, h1 R]
  simp
theorem refer_ok {s : St} {e v R : Bytes} (h : RefOf e v) (hr : s.rest = e ++ R) : refer s = .ok v { s with rest := R } := by
  unfold refer
  rw [hr, h.part R, h.means]
  simp
theorem begins_ok {left : Nat} {s : St} (h1 : s.nodes < 4096) (h2 : s.opn.length < 64) : begins left s = .ok () { s with nodes := s.nodes + 1 } := by
  unfold begins; rw [if_neg (by omega)]
theorem adds_ok {t : Bytes} {left : Nat} {s : St} (h : s.txt = [] → s.nodes < 4096 ∧ s.opn.length < 64) (hl : s.txt.length + t.length ≤ 16384) :
    adds t left s = .ok () { s with txt := s.txt ++ t, nodes := if s.txt = [] then s.nodes + 1 else s.nodes } := by
  unfold adds
  by_cases he : s.txt = []
  · rw [if_pos he, if_pos he, begins_ok (h he).1 (h he).2]
    show (if s.txt.length + t.length > 16384 then _ else _) = _
    rw [if_neg (by omega)]
  · rw [if_neg he, if_neg he]
    show (if s.txt.length + t.length > 16384 then _ else _) = _
    rw [if_neg (by omega)]
/-- Pieces, one behind the other. -/
inductive Run : St → St → Prop
  | refl (s : St) : Run s s
  | step {s s1 s2 : St} (h : piece s = .ok () s1) (hl : s1.rest.length < s.rest.length) (k : Run s1 s2) : Run s s2
theorem Run.trans {a b c : St} (h : Run a b) (k : Run b c) : Run a c := by
  induction h with
  | refl => exact k
  | step h hl _ ih => exact .step h hl (ih k)
theorem Run.one {s s1 : St} (h : piece s = .ok () s1) (hl : s1.rest.length < s.rest.length) : Run s s1 := .step h hl (.refl _)
theorem Run.pieces {s s2 : St} (h : Run s s2) (he : s2.rest = []) : ∀ f, s.rest.length < f → Pure.pieces f s = .ok () s2 := by
  induction h with
  | refl s =>
    intro f hf
    cases f with
    | zero => omega
    | succ f => unfold Pure.pieces; rw [if_pos he]
  | @step s s1 s2 h hl _ ih =>
    intro f hf
    cases f with
    | zero => omega
    | succ f =>
      unfold Pure.pieces
      rw [if_neg (by intro e; rw [e] at hl; simp at hl), h]
      exact ih he f (by omega)
/-- A character of a text, as Escape writes it. -/
theorem piece_char {s : St} {c R : Bytes} (h : GoodChar c) (hr : s.rest = escB false c ++ R) (h0 : s.txt = [] → s.nodes < 4096 ∧ s.opn.length < 64) (hl : s.txt.length + c.length ≤ 16384) :
    piece s = .ok () { s with rest := R, txt := s.txt ++ c, nodes := if s.txt = [] then s.nodes + 1 else s.nodes } := by
  unfold piece
  rcases esc_char false h with ⟨h1, b, r, hb, hb1, hb2, _⟩ | h1
  · rw [h1] at hr
    have hc := char_ok h hr
    have hrr : s.rest = b :: (r ++ R) := by rw [hr, hb]; rfl
    rw [hrr]
    simp only
    rw [if_neg hb2, if_neg hb1, hc]
    exact adds_ok (s := { s with rest := R }) h0 hl
  · obtain ⟨r, he⟩ := h1.head
    have hc := refer_ok h1 hr
    have hrr : s.rest = 38 :: (r ++ R) := by rw [hr, he]; rfl
    rw [hrr]
    simp only
    rw [if_neg (by decide), if_pos trivial, hc]
    exact adds_ok (s := { s with rest := R }) h0 hl
/-- A text, as Escape writes it, behind some of it. -/
theorem run_more {t : Bytes} (h : Good t) : ∀ {s : St} {R : Bytes}, s.rest = escB false t ++ R → s.txt ≠ [] → s.txt.length + t.length ≤ 16384 → Run s { s with rest := R, txt := s.txt ++ t } := by
  induction h with
  | nil =>
    intro s R hr ht hl
    have : s = { s with rest := R, txt := s.txt ++ [] } := by
      have e : s.rest = R := by rw [hr]; rfl
      cases s; simp at e ⊢; exact e
    rw [← this]; exact .refl _
  | @cons c t hc _ ih =>
    intro s R hr ht hl
    rw [escB_append, List.append_assoc] at hr
    rw [List.length_append] at hl
    have hp := piece_char hc hr (fun h => absurd h ht) (by omega)
    rw [if_neg ht] at hp
    have hpos := escB_pos false hc
    have hk := ih (s := { s with rest := escB false t ++ R, txt := s.txt ++ c, nodes := s.nodes }) (R := R) rfl (by show s.txt ++ c ≠ []; intro e; exact ht (List.append_eq_nil_iff.1 e).1) (by show (s.txt ++ c).length + t.length ≤ 16384; rw [List.length_append]; omega)
    have : ({ s with rest := R, txt := s.txt ++ (c ++ t) } : St) = { s with rest := R, txt := s.txt ++ c ++ t, nodes := s.nodes } := by rw [List.append_assoc]
    rw [this]
    exact .step hp (by rw [hr]; simp; omega) hk
/-- A text, as Escape writes it, where none is gathered yet. -/
theorem run_text {t : Bytes} (h : Good t) (hne : t ≠ []) {s : St} {R : Bytes} (hr : s.rest = escB false t ++ R) (ht : s.txt = []) (hn : s.nodes < 4096) (ho : s.opn.length < 64) (hl : t.length ≤ 16384) :
    Run s { s with rest := R, txt := t, nodes := s.nodes + 1 } := by
  cases h with
  | nil => exact absurd rfl hne
  | @cons c t hc hg =>
    rw [escB_append, List.append_assoc] at hr
    rw [List.length_append] at hl
    have hp := piece_char hc hr (fun _ => ⟨hn, ho⟩) (by rw [ht]; simp; omega)
    rw [if_pos ht, ht, List.nil_append] at hp
    have hpos := escB_pos false hc
    have hk := run_more hg (s := { s with rest := escB false t ++ R, txt := c, nodes := s.nodes + 1 }) (R := R) rfl (by show c ≠ []; intro e; have := hc.pos; rw [e] at this; simp at this) (by show c.length + t.length ≤ 16384; omega)
    exact .step hp (by rw [hr]; simp; omega) hk
/-! ### An attribute's value -/
theorem value_text {q : UInt8} : ∀ {t : Bytes}, Good t → q ∉ escB true t → ∀ {s : St} {R : Bytes} (acc : Bytes) (f : Nat), s.rest = escB true t ++ q :: R → acc.length + t.length ≤ 16384 → t.length < f →
    valueLoop f q acc s = .ok (acc ++ t) { s with rest := q :: R } := by
  intro t h
  induction h with
  | nil =>
    intro _ s R acc f hr hl hf
    have hr' : s.rest = q :: R := hr
    cases f with
    | zero => omega
    | succ f =>
      unfold valueLoop next
      rw [hr']
      simp only [Pure.R.bind]
      rw [if_pos trivial, List.append_nil]
      cases s; simp at hr' ⊢; exact hr'
  | @cons c t hc _ ih =>
    intro hq s R acc f hr hl hf
    rw [escB_append] at hq hr
    rw [List.append_assoc] at hr
    rw [List.length_append] at hl hf
    have hpos := hc.pos
    cases f with
    | zero => omega
    | succ f =>
      have hih := ih (fun hx => hq (List.mem_append.2 (.inr hx))) (s := { s with rest := escB true t ++ q :: R }) (R := R) (acc ++ c) f rfl (by rw [List.length_append]; omega) (by omega)
      unfold valueLoop next
      rcases esc_char true hc with ⟨h1, b, r, hb, hb1, hb2, _⟩ | h1
      · rw [h1] at hr hq
        have hcc := char_ok hc hr
        have hrr : s.rest = b :: (r ++ (escB true t ++ q :: R)) := by rw [hr, hb]; rfl
        have hbq : b ≠ q := fun e => hq (List.mem_append.2 (.inl (by rw [hb, e]; exact List.mem_cons_self ..)))
        rw [hrr]
        simp only [Pure.R.bind]
        rw [if_neg hbq, if_neg hb2, if_neg hb1, hcc]
        simp only
        rw [if_neg (by omega), hih, List.append_assoc]
      · obtain ⟨r, he⟩ := h1.head
        have hcc := refer_ok h1 hr
        have hrr : s.rest = 38 :: (r ++ (escB true t ++ q :: R)) := by rw [hr, he]; rfl
        have hbq : (38 : UInt8) ≠ q := fun e => hq (List.mem_append.2 (.inl (by rw [he, e]; exact List.mem_cons_self ..)))
        rw [hrr]
        simp only [Pure.R.bind]
        rw [if_neg hbq, if_neg (by decide), if_pos trivial, hcc]
        simp only
        rw [if_neg (by omega), hih, List.append_assoc]
theorem esc_no34 {t : Bytes} (h : Good t) : (34 : UInt8) ∉ escB true t := by
  unfold escB
  intro hm
  obtain ⟨b, _, hb⟩ := List.mem_flatMap.1 hm
  unfold escByte at hb
  split at hb; · revert hb; decide
  split at hb; · revert hb; decide
  split at hb; · revert hb; decide
  split at hb; · revert hb; decide
  split at hb; · revert hb; decide
  split at hb; · revert hb; decide
  split at hb; · revert hb; decide
  rename_i h5 _ _
  have : b = 34 := (List.mem_singleton.1 hb).symm
  rw [this] at h5
  exact h5 (by decide)
end Pure
end Go.Proofs.YtipfakmbjajhlaaGreatDoor 
end

section
set_option linter.unusedVariables false
set_option linter.unusedSimpArgs false
namespace Go.Proofs.YtipfakmbjajhlaaGreatDoor 
namespace Pure
/-! ### The order of names -/
theorem cmp_self : ∀ (a : Bytes), Lib.compareBytes a a = 0
  | [] => rfl
  | a :: l => by unfold Lib.compareBytes; rw [if_neg (by simp), if_neg (by simp)]; exact cmp_self l
theorem cmp_anti : ∀ (a b : Bytes), Lib.compareBytes a b = - Lib.compareBytes b a
  | [], [] => rfl
  | [], _ :: _ => rfl
  | _ :: _, [] => rfl
  | a :: as, b :: bs => by
    unfold Lib.compareBytes
    by_cases h : a < b
    · have h' : ¬ b < a := by rw [UInt8.lt_iff_toNat_lt] at *; omega
      rw [if_pos h, if_neg h', if_pos h]
    · rw [if_neg h]
      by_cases h2 : b < a
      · rw [if_pos h2, if_pos h2]; rfl
      · rw [if_neg h2, if_neg h2, if_neg h]; exact cmp_anti as bs
theorem cmp_trans : ∀ (a b c : Bytes), Lib.compareBytes a b < 0 → Lib.compareBytes b c < 0 → Lib.compareBytes a c < 0
  | [], [], c, h, _ => by simp [Lib.compareBytes] at h
  | [], b :: bs, [], _, h => by simp [Lib.compareBytes] at h
  | [], b :: bs, c :: cs, _, _ => by simp [Lib.compareBytes]
  | a :: as, [], c, h, _ => by simp [Lib.compareBytes] at h
  | a :: as, b :: bs, [], _, h => by simp [Lib.compareBytes] at h
  | a :: as, b :: bs, c :: cs, h, k => by
    unfold Lib.compareBytes at h k ⊢
    by_cases h1 : a < b
    · by_cases k1 : b < c
      · rw [if_pos (by rw [UInt8.lt_iff_toNat_lt] at *; omega)]; decide
      · rw [if_neg k1] at k
        by_cases k2 : c < b
        · rw [if_pos k2] at k; simp at k
        · have e : b = c := UInt8.toNat_inj.1 (by rw [UInt8.lt_iff_toNat_lt] at *; omega)
          subst e
          rw [if_pos h1]; decide
    · rw [if_neg h1] at h
      by_cases h2 : b < a
      · rw [if_pos h2] at h; simp at h
      · rw [if_neg h2] at h
        have e : a = b := UInt8.toNat_inj.1 (by rw [UInt8.lt_iff_toNat_lt] at *; omega)
        subst e
        by_cases k1 : a < c
        · rw [if_pos k1]; decide
        · rw [if_neg k1] at k ⊢
          by_cases k2 : c < a
          · rw [if_pos k2] at k; simp at k
          · rw [if_neg k2] at k ⊢
            exact cmp_trans as bs cs h k
theorem cmp_eq : ∀ (a b : Bytes), Lib.compareBytes a b = 0 → a = b
  | [], [], _ => rfl
  | [], _ :: _, h => by simp [Lib.compareBytes] at h
  | _ :: _, [], h => by simp [Lib.compareBytes] at h
  | a :: as, b :: bs, h => by
    unfold Lib.compareBytes at h
    by_cases h1 : a < b
    · rw [if_pos h1] at h; simp at h
    · rw [if_neg h1] at h
      by_cases h2 : b < a
      · rw [if_pos h2] at h; simp at h
      · rw [if_neg h2] at h
        have e : a = b := UInt8.toNat_inj.1 (by rw [UInt8.lt_iff_toNat_lt] at *; omega)
        rw [e, cmp_eq as bs h]
/-- Attributes rise by their names. -/
def Rises (l : List Attr) : Prop := l.Pairwise fun a b => Lib.compareBytes (toL a.name) (toL b.name) < 0
theorem Rises.ne {a b : Attr} (h : Lib.compareBytes (toL a.name) (toL b.name) < 0) : a.name ≠ b.name := by
  intro e; rw [e, cmp_self] at h; simp at h
theorem sortA_rises : ∀ {l : List Attr}, Rises l → sortA l = l
  | [], _ => rfl
  | a :: l, h => by
    obtain ⟨h1, h2⟩ := List.pairwise_cons.1 h
    unfold sortA
    rw [sortA_rises h2]
    cases l with
    | nil => rfl
    | cons b l =>
      unfold insA
      have := h1 b (List.mem_cons_self ..)
      rw [cmp_anti] at this
      rw [if_neg (by omega)]
theorem insA_last (b : Attr) : ∀ (l : List Attr), (∀ a ∈ l, Lib.compareBytes (toL a.name) (toL b.name) < 0) → insA b l = l ++ [b]
  | [], _ => rfl
  | a :: l, h => by
    unfold insA
    rw [if_pos (h a (List.mem_cons_self ..)), insA_last b l fun x hx => h x (List.mem_cons_of_mem _ hx)]; rfl
theorem sortA_foldr : ∀ (l : List Attr), sortA l = l.foldr insA []
  | [] => rfl
  | a :: l => by unfold sortA; rw [sortA_foldr l]; rfl
theorem ins_all : ∀ (r acc : List Attr), Rises (acc ++ r) → r.foldl (fun acc b => insA b acc) acc = acc ++ r
  | [], acc, _ => by simp
  | b :: r, acc, h => by
    rw [List.foldl_cons]
    have h0 := h
    unfold Rises at h
    rw [List.pairwise_append] at h
    rw [insA_last b acc fun a ha => h.2.2 a ha b (List.mem_cons_self ..), ins_all r (acc ++ [b]) (by rw [List.append_assoc]; exact h0), List.append_assoc]; rfl
theorem sortA_reverse {l : List Attr} (h : Rises l) : sortA l.reverse = l := by
  rw [sortA_foldr, List.foldr_reverse]
  exact ins_all l [] h
theorem beqB {a b : ByteArray} (h : a ≠ b) : (a == b) = false := by
  obtain ⟨a⟩ := a
  obtain ⟨b⟩ := b
  have e : ((⟨a⟩ : ByteArray) == ⟨b⟩) = (a == b) := rfl
  rw [e]
  exact beq_eq_false_iff_ne.2 fun e => h (by rw [e])
/-! ### Attributes in a beginning -/
structure AttrOk (a : Attr) : Prop where
  name : isName (toL a.name) = true
  good : Good (toL a.value)
  len : (toL a.value).length ≤ 16384
def attrW (bl : Bytes) (q : UInt8) (a : Attr) : Bytes := bl ++ (toL a.name ++ (61 :: q :: (escB true (toL a.value) ++ [q])))
inductive AttrsW : List Attr → Bytes → Prop
  | nil : AttrsW [] []
  | cons {bl : Bytes} {q : UInt8} {a : Attr} {l : List Attr} {s : Bytes} (hb : bl ≠ []) (hbl : ∀ c ∈ bl, blank c = true) (hq : q = 34 ∨ (q = 39 ∧ (39 : UInt8) ∉ escB true (toL a.value))) (ha : AttrOk a) (h : AttrsW l s) : AttrsW (a :: l) (attrW bl q a ++ s)
theorem isName_all {n : Bytes} (h : isName n = true) : ∃ c r, n = c :: r ∧ letter c = true ∧ n.all named = true ∧ n.length ≤ 32 := by
  unfold isName at h
  cases n with
  | nil => simp at h
  | cons c r =>
    simp only [Bool.and_eq_true, decide_eq_true_eq] at h
    exact ⟨c, r, rfl, h.1.2, h.2, h.1.1⟩
theorem take_name {n x : Bytes} {c : UInt8} (h : n.all named = true) (hc : named c = false) : (n ++ c :: x).takeWhile named = n ∧ (n ++ c :: x).dropWhile named = c :: x := by
  induction n with
  | nil => simp [List.takeWhile_cons, List.dropWhile_cons, hc]
  | cons a n ih =>
    simp only [List.all_cons, Bool.and_eq_true] at h
    have := ih h.2
    simp [List.takeWhile_cons, List.dropWhile_cons, h.1, this.1, this.2]
theorem name_ok {s : St} {n x : Bytes} {c : UInt8} (h : isName n = true) (hc : named c = false) (hr : s.rest = n ++ c :: x) : name s = .ok (ofL n) { s with rest := c :: x } := by
  obtain ⟨_, _, _, _, h1, _⟩ := isName_all h
  obtain ⟨h2, h3⟩ := take_name (x := x) h1 hc
  unfold name
  rw [hr, h2, h3, if_pos h]
theorem drop_blank {bl x : Bytes} {c : UInt8} (h : ∀ b ∈ bl, blank b = true) (hc : blank c = false) : (bl ++ c :: x).dropWhile blank = c :: x := by
  induction bl with
  | nil => simp [List.dropWhile_cons, hc]
  | cons b bl ih =>
    have := ih fun y hy => h y (List.mem_cons_of_mem _ hy)
    simp [List.dropWhile_cons, h b (List.mem_cons_self ..), this]
theorem blanks_ok {s : St} {bl x : Bytes} {c : UInt8} (h : ∀ b ∈ bl, blank b = true) (hc : blank c = false) (hr : s.rest = bl ++ c :: x) : blanks s = .ok (!bl.isEmpty) { s with rest := c :: x } := by
  unfold blanks
  rw [hr, drop_blank h hc]
  cases bl with
  | nil => simp [hc]
  | cons b bl => simp [h b (List.mem_cons_self ..)]
theorem letter_range {c : UInt8} (h : letter c = true) : 65 ≤ c.toNat ∧ c.toNat ≤ 122 ∧ blank c = false ∧ c ≠ 47 ∧ c ≠ 62 := by
  have h1 : 65 ≤ c.toNat ∧ c.toNat ≤ 122 := by
    unfold letter at h
    simp only [Bool.or_eq_true, Bool.and_eq_true, decide_eq_true_eq, beq_iff_eq] at h
    omega
  refine ⟨h1.1, h1.2, ?_, ?_, ?_⟩
  · unfold blank
    simp only [Bool.or_eq_false_iff, beq_eq_false_iff_ne]
    omega
  · intro e; rw [e] at h1; revert h1; decide
  · intro e; rw [e] at h1; revert h1; decide
theorem next_ok {s : St} {c : UInt8} {r : Bytes} (h : s.rest = c :: r) : next s = .ok c s := by unfold next; rw [h]
theorem must_ok {s : St} {c : UInt8} {r : Bytes} (h : s.rest = c :: r) : must c s = .ok () { s with rest := r } := by
  unfold must
  rw [next_ok h]
  simp only [Pure.R.bind]
  rw [if_neg (by simp)]
  unfold skip
  rw [h]; rfl
theorem attr_ok {l : List Attr} {s : St} {q : UInt8} {a : Attr} {R : Bytes} (ha : AttrOk a) (hq : q = 34 ∨ (q = 39 ∧ (39 : UInt8) ∉ escB true (toL a.value))) (hl : l.length < 32) (hn : ∀ b ∈ l, b.name ≠ a.name)
    (hr : s.rest = toL a.name ++ (61 :: q :: (escB true (toL a.value) ++ q :: R))) : attr l s = .ok a { s with rest := R } := by
  unfold attr
  rw [name_ok ha.name (by decide) hr]
  simp only [Pure.R.bind, ofL_toL]
  rw [if_neg (by omega), if_neg (by simp only [List.any_eq_true, not_exists, not_and]; exact fun b hb e => by rw [beqB (hn b hb)] at e; exact absurd e (by decide)), must_ok rfl]
  simp only
  rw [next_ok rfl]
  simp only
  rw [if_neg (by rcases hq with rfl | ⟨rfl, _⟩ <;> decide)]
  have hv := value_text (q := q) ha.good (by rcases hq with rfl | ⟨rfl, h⟩; exact esc_no34 ha.good; exact h) (s := { s with rest := escB true (toL a.value) ++ q :: R }) (R := R) [] ((q :: (escB true (toL a.value) ++ q :: R)).length + 1) rfl (by simpa using ha.len) (by
    have : (toL a.value).length ≤ (escB true (toL a.value)).length := by
      generalize toL a.value = t
      induction t with
      | nil => simp
      | cons b t ih =>
        have hp : 0 < (escByte true b).length := by
          rcases esc_cases true b with ⟨h, _⟩ | h
          · rw [h]; simp
          · obtain ⟨r, hr⟩ := h.head; rw [hr]; simp
        simp only [escB, List.flatMap_cons, List.length_append, List.length_cons] at ih ⊢
        omega
    simp only [List.length_cons, List.length_append]; omega)
  have hsk : skip { s with rest := q :: (escB true (toL a.value) ++ q :: R) } = { s with rest := escB true (toL a.value) ++ q :: R } := rfl
  rw [hsk, hv]
  simp only [List.nil_append, ofL_toL]
  cases a; rfl
/-- The attributes of a beginning are read. -/
theorem opens_attrs {n : ByteArray} {l : List Attr} {t : Bytes} (h : AttrsW l t) : ∀ (acc : List Attr) {s : St} {R : Bytes} (f : Nat), s.rest = t ++ R → (acc ++ l).length ≤ 32 → (acc ++ l).Pairwise (fun a b => a.name ≠ b.name) →
    opensLoop (f + l.length) n acc s = opensLoop f n (acc ++ l) { s with rest := R } := by
  induction h with
  | nil => intro acc s R f hr _ _; have e : s.rest = R := hr; rw [List.append_nil]; cases s; simp at e; subst e; rfl
  | @cons bl q a l t hb hbl hq ha _ ih =>
    intro acc s R f hr h32 hp
    obtain ⟨c, r, hc, hlt, _, _⟩ := isName_all ha.name
    obtain ⟨_, _, hnb, h47, h62⟩ := letter_range hlt
    have hr' : s.rest = bl ++ c :: (r ++ (61 :: q :: (escB true (toL a.value) ++ q :: (t ++ R)))) := by
      rw [hr]; unfold attrW; rw [hc]; simp
    have e1 : f + (a :: l).length = (f + l.length) + 1 := by simp; omega
    have hass : acc ++ a :: l = (acc ++ [a]) ++ l := by simp
    rw [hass] at hp h32
    rw [e1]
    conv => lhs; unfold opensLoop
    rw [blanks_ok hbl hnb hr']
    simp only [Pure.R.bind]
    rw [next_ok rfl]
    simp only
    have hbe : (!bl.isEmpty) = true := by cases bl with | nil => exact absurd rfl hb | cons => rfl
    rw [if_neg h47, if_neg h62, if_pos (by rw [hbe, hlt]; rfl), attr_ok (a := a) (q := q) (R := t ++ R) ha hq (by simp only [List.length_append, List.length_cons, List.length_nil] at h32; omega) (by
      rw [List.append_assoc] at hp
      exact fun b hb => (List.pairwise_append.1 hp).2.2 b hb a (by simp)) (by show _ = toL a.name ++ _; rw [hc]; rfl)]
    simp only
    rw [ih (acc ++ [a]) f rfl h32 hp, ← hass]
/-- What was told, the text that waits with it. -/
def tv (s : St) : List Event := s.evs ++ (if s.txt = [] then [] else [wordsE s.txt])
theorem flush_eq (s : St) : flush s = .ok () { s with evs := tv s, txt := [] } := by
  unfold flush tv
  by_cases h : s.txt = []
  · rw [if_pos h, if_pos h, List.append_nil]; cases s; simp at h; subst h; rfl
  · rw [if_neg h, if_neg h]; rfl
/-- An element's beginning as it may be written. -/
structure BeginW (n : ByteArray) (l : List Attr) (t : Bytes) : Prop where
  name : isName (toL n) = true
  row : ∃ as bl, AttrsW l as ∧ (∀ c ∈ bl, blank c = true) ∧ t = 60 :: (toL n ++ (as ++ bl))
  few : l.length ≤ 32
  apart : l.Pairwise fun a b => a.name ≠ b.name
theorem attrsW_head {l : List Attr} {as : Bytes} (h : AttrsW l as) (bl : Bytes) (hbl : ∀ c ∈ bl, blank c = true) {e : UInt8} (he : named e = false) (R : Bytes) : ∃ c x, as ++ (bl ++ e :: R) = c :: x ∧ named c = false := by
  have hb : ∀ c, blank c = true → named c = false := by
    intro c hc
    unfold blank at hc
    simp only [Bool.or_eq_true, beq_iff_eq] at hc
    unfold named letter
    simp only [Bool.or_eq_false_iff, Bool.and_eq_false_imp, decide_eq_true_eq, decide_eq_false_iff_not, beq_eq_false_iff_ne]
    omega
  cases h with
  | nil =>
    cases bl with
    | nil => exact ⟨e, R, rfl, he⟩
    | cons b bl => exact ⟨b, _, rfl, hb b (hbl b (List.mem_cons_self ..))⟩
  | @cons bl' q a l s h0 h1 _ _ _ =>
    cases bl' with
    | nil => exact absurd rfl h0
    | cons b bl' => exact ⟨b, _, rfl, hb b (h1 b (List.mem_cons_self ..))⟩
theorem AttrsW.count {l : List Attr} {as : Bytes} (h : AttrsW l as) : l.length ≤ as.length := by
  induction h with
  | nil => simp
  | cons _ _ _ _ _ ih => simp [attrW]; omega
theorem tag_open {s : St} {c : UInt8} {x : Bytes} (hc : letter c = true) (hr : s.rest = 60 :: c :: x) : tag s = opens s := by
  obtain ⟨h1, h2, _, h47, _⟩ := letter_range hc
  have n33 : ¬ c = 33 := by intro e; rw [e] at h1; revert h1; decide
  have n63 : ¬ c = 63 := by intro e; rw [e] at hc; revert hc; decide
  unfold tag hasPre bRemark bRaw
  rw [hr]
  have m33 : ¬ (33 : UInt8) = c := fun e => n33 e.symm
  have m63 : ¬ (63 : UInt8) = c := fun e => n63 e.symm
  have m47 : ¬ (47 : UInt8) = c := fun e => h47 e.symm
  simp [n33, n63, h47, m33, m63, m47, hc]
/-- An element begins, and stays open. -/
theorem piece_open {s : St} {n : ByteArray} {l : List Attr} {t R : Bytes} (h : BeginW n l t) (hr : s.rest = t ++ 62 :: R) (hn : s.nodes < 4096) (ho : s.opn.length < 64) :
    piece s = .ok () { rest := R, opn := n :: s.opn, txt := [], nodes := s.nodes + 1, evs := tv s ++ [startE n l] } := by
  obtain ⟨as, bl, has, hbl, rfl⟩ := h.row
  obtain ⟨c, r, hc, hlt, _, _⟩ := isName_all h.name
  have hr' : s.rest = 60 :: (toL n ++ (as ++ (bl ++ 62 :: R))) := by rw [hr]; simp
  obtain ⟨c', x, hx, hcx⟩ := attrsW_head has bl hbl (e := 62) (by decide) R
  have hr2 : s.rest = 60 :: c :: (r ++ (as ++ (bl ++ 62 :: R))) := by rw [hr', hc]; rfl
  have hp : piece s = tag s := by unfold piece; rw [hr2]; simp only; rw [if_pos trivial]
  rw [hp, tag_open hlt hr2]
  unfold opens
  rw [flush_eq]
  simp only [Pure.R.bind]
  rw [begins_ok (s := { s with evs := tv s, txt := [] }) hn ho]
  simp only
  have hsk : skip { rest := s.rest, opn := s.opn, txt := [], nodes := s.nodes + 1, evs := tv s } = { rest := toL n ++ c' :: x, opn := s.opn, txt := [], nodes := s.nodes + 1, evs := tv s } := by
    unfold skip; rw [hr', hx]; rfl
  rw [hsk, name_ok h.name hcx rfl]
  simp only [ofL_toL]
  rw [← hx]
  have hcount := has.count
  obtain ⟨g, hg⟩ : ∃ g, (as ++ (bl ++ 62 :: R)).length + 1 = (g + 1) + l.length := ⟨(as ++ (bl ++ 62 :: R)).length - l.length, by simp only [List.length_append] at *; omega⟩
  rw [hg, opens_attrs has [] (g + 1) rfl (by simpa using h.few) (by simpa using h.apart)]
  unfold opensLoop
  rw [blanks_ok (x := R) (c := 62) hbl (by decide) rfl]
  simp only [Pure.R.bind]
  rw [next_ok rfl]
  simp only
  rw [if_neg (by decide), if_pos trivial]
  rfl
/-- An element begins and ends. -/
theorem piece_empty {s : St} {n : ByteArray} {l : List Attr} {t R : Bytes} (h : BeginW n l t) (hr : s.rest = t ++ 47 :: 62 :: R) (hn : s.nodes < 4096) (ho : s.opn.length < 64) :
    piece s = .ok () { rest := R, opn := s.opn, txt := [], nodes := s.nodes + 1, evs := tv s ++ [startE n l] ++ [endE n] } := by
  obtain ⟨as, bl, has, hbl, rfl⟩ := h.row
  obtain ⟨c, r, hc, hlt, _, _⟩ := isName_all h.name
  have hr' : s.rest = 60 :: (toL n ++ (as ++ (bl ++ 47 :: 62 :: R))) := by rw [hr]; simp
  obtain ⟨c', x, hx, hcx⟩ := attrsW_head has bl hbl (e := 47) (by decide) (62 :: R)
  have hr2 : s.rest = 60 :: c :: (r ++ (as ++ (bl ++ 47 :: 62 :: R))) := by rw [hr', hc]; rfl
  have hp : piece s = tag s := by unfold piece; rw [hr2]; simp only; rw [if_pos trivial]
  rw [hp, tag_open hlt hr2]
  unfold opens
  rw [flush_eq]
  simp only [Pure.R.bind]
  rw [begins_ok (s := { s with evs := tv s, txt := [] }) hn ho]
  simp only
  have hsk : skip { rest := s.rest, opn := s.opn, txt := [], nodes := s.nodes + 1, evs := tv s } = { rest := toL n ++ c' :: x, opn := s.opn, txt := [], nodes := s.nodes + 1, evs := tv s } := by
    unfold skip; rw [hr', hx]; rfl
  rw [hsk, name_ok h.name hcx rfl]
  simp only [ofL_toL]
  rw [← hx]
  have hcount := has.count
  obtain ⟨g, hg⟩ : ∃ g, (as ++ (bl ++ 47 :: 62 :: R)).length + 1 = (g + 1) + l.length := ⟨(as ++ (bl ++ 47 :: 62 :: R)).length - l.length, by simp only [List.length_append] at *; omega⟩
  rw [hg, opens_attrs has [] (g + 1) rfl (by simpa using h.few) (by simpa using h.apart)]
  unfold opensLoop
  rw [blanks_ok (x := 62 :: R) (c := 47) hbl (by decide) rfl]
  simp only [Pure.R.bind]
  rw [next_ok rfl]
  simp only
  rw [if_pos trivial]
  unfold skip
  rw [must_ok (r := R) rfl]
  rfl
/-- An element ends. -/
theorem piece_close {s : St} {n : ByteArray} {os : List ByteArray} {bl R : Bytes} (h : isName (toL n) = true) (hbl : ∀ c ∈ bl, blank c = true) (hr : s.rest = 60 :: 47 :: (toL n ++ (bl ++ 62 :: R))) (ho : s.opn = n :: os) :
    piece s = .ok () { rest := R, opn := os, txt := [], nodes := s.nodes, evs := tv s ++ [endE n] } := by
  obtain ⟨c, r, hc, hlt, _, _⟩ := isName_all h
  obtain ⟨c', x, hx, hcx⟩ := attrsW_head AttrsW.nil bl hbl (e := 62) (by decide) R
  rw [List.nil_append] at hx
  have hp : piece s = tag s := by unfold piece; rw [hr]; simp only; rw [if_pos trivial]
  have ht : tag s = closes s := by
    unfold tag hasPre bRemark bRaw
    rw [hr]
    simp
  rw [hp, ht]
  unfold closes
  rw [flush_eq]
  simp only [Pure.R.bind]
  have hd : s.rest.drop 2 = c :: (r ++ (bl ++ 62 :: R)) := by rw [hr, hc]; rfl
  rw [next_ok (c := c) hd]
  simp only
  rw [if_neg (by rw [hlt]; decide), name_ok (n := toL n) (c := c') (x := x) h hcx (by show s.rest.drop 2 = _; rw [hr, hx]; rfl)]
  simp only [ofL_toL, ho]
  rw [if_neg (by simp), ← hx, blanks_ok (x := R) (c := 62) hbl (by decide) rfl]
  simp only
  rw [must_ok (r := R) rfl]
  rfl
/-- A remark. -/
def remarkW : Bytes := [60, 33, 45, 45, 32, 60, 32, 38, 32, 45, 45, 62]
def askW : Bytes := [60, 63, 97, 32, 62, 32, 98, 63, 62]
theorem piece_remark {s : St} {R : Bytes} (hr : s.rest = remarkW ++ R) : piece s = .ok () { s with rest := R } := by
  unfold piece
  rw [hr]
  unfold remarkW
  simp only [List.cons_append, List.nil_append]
  rw [if_pos trivial]
  unfold tag hasPre bRemark bRaw past
  rw [hr]
  unfold remarkW
  simp [Lib.index]
theorem piece_ask {s : St} {R : Bytes} (hr : s.rest = askW ++ R) : piece s = .ok () { s with rest := R } := by
  unfold piece
  rw [hr]
  unfold askW
  simp only [List.cons_append, List.nil_append]
  rw [if_pos trivial]
  unfold tag hasPre bRemark bRaw past
  rw [hr]
  unfold askW
  simp [Lib.index]
end Pure
end Go.Proofs.YtipfakmbjajhlaaGreatDoor 
end

section
set_option linter.unusedVariables false
set_option linter.unusedSimpArgs false
namespace Go.Proofs.YtipfakmbjajhlaaGreatDoor 
namespace Pure
mutual
def evT : Tree → List Event
  | .mk k nm a tx kids => if k = 1 then ⟨1, nm, a, ofL []⟩ :: (evL kids ++ [endE nm]) else [wordsE (toL tx)]
def evL : List Tree → List Event
  | [] => []
  | t :: r => evT t ++ evL r
end
mutual
def depthT : Tree → Nat
  | .mk k _ _ _ kids => if k = 1 then depthL kids + 1 else 1
def depthL : List Tree → Nat
  | [] => 0
  | t :: r => max (depthT t) (depthL r)
end
def startsText : List Tree → Bool
  | [] => false
  | t :: _ => t.kind == 2
theorem evT_elem (n : ByteArray) (a : List Attr) (ks : List Tree) : evT (elemT n a ks) = ⟨1, n, a, ofL []⟩ :: (evL ks ++ [endE n]) := by unfold elemT evT; rw [if_pos rfl]
theorem evT_text (t : ByteArray) : evT (textT t) = [wordsE (toL t)] := by unfold textT evT; rw [if_neg (by decide)]
theorem count_elem (n : ByteArray) (a : List Attr) (ks : List Tree) : count (elemT n a ks) = countL ks + 1 := by unfold elemT count; rw [if_pos rfl]
theorem count_text (t : ByteArray) : count (textT t) = 1 := by unfold textT count; rw [if_neg (by decide)]
theorem depth_elem (n : ByteArray) (a : List Attr) (ks : List Tree) : depthT (elemT n a ks) = depthL ks + 1 := by unfold elemT depthT; rw [if_pos rfl]
theorem depth_text (t : ByteArray) : depthT (textT t) = 1 := by unfold textT depthT; rw [if_neg (by decide)]
/-- The ways in which a forest may be written. -/
inductive FW : List Tree → Bytes → Prop
  | nil : FW [] []
  | remark {f : List Tree} {s : Bytes} (h : FW f s) : FW f (remarkW ++ s)
  | ask {f : List Tree} {s : Bytes} (h : FW f s) : FW f (askW ++ s)
  | text {t : ByteArray} {f : List Tree} {s : Bytes} (hg : Good (toL t)) (hne : toL t ≠ []) (hl : (toL t).length ≤ 16384) (hs : startsText f = false) (h : FW f s) : FW (textT t :: f) (escB false (toL t) ++ s)
  | empty {n : ByteArray} {l : List Attr} {b : Bytes} {f : List Tree} {s : Bytes} (hb : BeginW n l b) (h : FW f s) : FW (elemT n (sortA l) [] :: f) (b ++ 47 :: 62 :: s)
  | elem {n : ByteArray} {l : List Attr} {b kb bl : Bytes} {ks f : List Tree} {s : Bytes} (hb : BeginW n l b) (hk : FW ks kb) (hbl : ∀ c ∈ bl, blank c = true) (h : FW f s) :
      FW (elemT n (sortA l) ks :: f) (b ++ 62 :: (kb ++ (60 :: 47 :: (toL n ++ (bl ++ 62 :: s)))))
theorem BeginW.pos {n : ByteArray} {l : List Attr} {b : Bytes} (h : BeginW n l b) : 0 < b.length := by
  obtain ⟨as, bl, _, _, rfl⟩ := h.row; simp
/-- What is read of it. -/
theorem run_forest {f : List Tree} {t : Bytes} (h : FW f t) : ∀ {s : St} {R : Bytes}, s.rest = t ++ R → (startsText f = true → s.txt = []) → s.nodes + countL f ≤ 4096 → s.opn.length + depthL f ≤ 64 →
    ∃ s', Run s s' ∧ s'.rest = R ∧ s'.opn = s.opn ∧ s'.nodes = s.nodes + countL f ∧ tv s' = tv s ++ evL f := by
  induction h with
  | nil =>
    intro s R hr _ _ _
    exact ⟨s, .refl _, hr, rfl, by simp [countL], by simp [evL]⟩
  | @remark f t _ ih =>
    intro s R hr ht hn hd
    rw [List.append_assoc] at hr
    have hp := piece_remark hr
    obtain ⟨s', h1, h2, h3, h4, h5⟩ := ih (s := { s with rest := t ++ R }) rfl ht hn hd
    exact ⟨s', .step hp (by rw [hr]; simp [remarkW]; omega) h1, h2, h3, h4, h5⟩
  | @ask f t _ ih =>
    intro s R hr ht hn hd
    rw [List.append_assoc] at hr
    have hp := piece_ask hr
    obtain ⟨s', h1, h2, h3, h4, h5⟩ := ih (s := { s with rest := t ++ R }) rfl ht hn hd
    exact ⟨s', .step hp (by rw [hr]; simp [askW]; omega) h1, h2, h3, h4, h5⟩
  | @text x f t hg hne hl hs _ ih =>
    intro s R hr ht hn hd
    have ht0 : s.txt = [] := ht rfl
    simp only [countL, count_text] at hn ⊢
    simp only [depthL, depth_text] at hd
    rw [List.append_assoc] at hr
    have hp := run_text hg hne hr ht0 (by omega) (by omega) hl
    obtain ⟨s', h1, h2, h3, h4, h5⟩ := ih (s := { s with rest := t ++ R, txt := toL x, nodes := s.nodes + 1 }) rfl (by rw [hs]; intro h; exact absurd h (by decide)) (by show s.nodes + 1 + _ ≤ _; omega) (by show s.opn.length + _ ≤ _; omega)
    refine ⟨s', hp.trans h1, h2, h3, by rw [h4]; show s.nodes + 1 + _ = _; omega, ?_⟩
    rw [h5]
    unfold tv
    simp only [evL, evT_text]
    rw [if_neg hne, if_pos ht0]
    simp
  | @empty n l b f t hb _ ih =>
    intro s R hr ht hn hd
    simp only [countL, count_elem] at hn ⊢
    simp only [depthL, depth_elem] at hd
    rw [List.append_assoc] at hr
    have hp := piece_empty (R := t ++ R) hb hr (by omega) (by omega)
    obtain ⟨s', h1, h2, h3, h4, h5⟩ := ih (s := { rest := t ++ R, opn := s.opn, txt := [], nodes := s.nodes + 1, evs := tv s ++ [startE n l] ++ [endE n] }) rfl (fun _ => rfl) (by show s.nodes + 1 + _ ≤ _; omega) (by show s.opn.length + _ ≤ _; omega)
    refine ⟨s', .step hp (by rw [hr]; simp; omega) h1, h2, h3, by rw [h4]; show s.nodes + 1 + _ = _; omega, ?_⟩
    rw [h5]
    simp only [evL, evT_elem]
    show (tv s ++ [startE n l] ++ [endE n] ++ (if (([] : Bytes) = []) then [] else _)) ++ _ = _
    rw [if_pos rfl]
    simp [startE]
  | @elem n l b kb bl ks f t hb hk hbl _ ihk ih =>
    intro s R hr ht hn hd
    simp only [countL, count_elem] at hn ⊢
    simp only [depthL, depth_elem] at hd
    have hr' : s.rest = b ++ 62 :: (kb ++ (60 :: 47 :: (toL n ++ (bl ++ 62 :: (t ++ R))))) := by rw [hr]; simp
    have hp := piece_open hb hr' (by omega) (by omega)
    obtain ⟨s1, h1, h2, h3, h4, h5⟩ := ihk (s := { rest := kb ++ (60 :: 47 :: (toL n ++ (bl ++ 62 :: (t ++ R)))), opn := n :: s.opn, txt := [], nodes := s.nodes + 1, evs := tv s ++ [startE n l] }) rfl (fun _ => rfl) (by show s.nodes + 1 + _ ≤ _; omega) (by show (n :: s.opn).length + _ ≤ _; simp only [List.length_cons]; omega)
    have hc := piece_close (s := s1) hb.name hbl h2 h3
    have h4' : s1.nodes = s.nodes + 1 + countL ks := h4
    obtain ⟨s2, k1, k2, k3, k4, k5⟩ := ih (s := { rest := t ++ R, opn := s.opn, txt := [], nodes := s1.nodes, evs := tv s1 ++ [endE n] }) rfl (fun _ => rfl) (by show s1.nodes + _ ≤ _; omega) (by show s.opn.length + _ ≤ _; omega)
    have hpos := hb.pos
    refine ⟨s2, .step hp (by rw [hr']; simp; omega) (h1.trans (.step hc (by rw [h2]; simp; omega) k1)), k2, k3, by rw [k4]; show s1.nodes + _ = _; omega, ?_⟩
    rw [k5]
    simp only [evL, evT_elem]
    show (tv s1 ++ [endE n] ++ (if (([] : Bytes) = []) then [] else _)) ++ _ = _
    rw [if_pos rfl, h5]
    show ((tv s ++ [startE n l] ++ (if (([] : Bytes) = []) then [] else _)) ++ evL ks ++ [endE n] ++ []) ++ _ = _
    rw [if_pos rfl]
    simp [startE]
/-- A forest that is read stands so. -/
inductive Shaped : List Tree → Prop
  | nil : Shaped []
  | text {t : ByteArray} {f : List Tree} (h : Shaped f) : Shaped (textT t :: f)
  | elem {n : ByteArray} {a : List Attr} {ks f : List Tree} (hk : Shaped ks) (h : Shaped f) : Shaped (elemT n a ks :: f)
theorem FW.shaped {f : List Tree} {t : Bytes} (h : FW f t) : Shaped f := by
  induction h with
  | nil => exact .nil
  | remark _ ih => exact ih
  | ask _ ih => exact ih
  | text _ _ _ _ _ ih => exact .text ih
  | empty _ _ ih => exact .elem .nil ih
  | elem _ _ _ _ ih1 ih2 => exact .elem ih1 ih2
/-- Its events build it. -/
theorem build_forest {f : List Tree} (h : Shaped f) : ∀ (top : Fr) (r : List Fr), (evL f).foldl stepE (top :: r) = { top with kids := top.kids ++ f } :: r := by
  induction h with
  | nil => intro top r; simp [evL]
  | @text t f _ ih =>
    intro top r
    simp only [evL, evT_text, List.foldl_append, List.foldl_cons, List.foldl_nil]
    have : stepE (top :: r) (wordsE (toL t)) = { top with kids := top.kids ++ [textT t] } :: r := by
      unfold stepE wordsE
      simp
    rw [this, ih]
    simp
  | @elem n a ks f _ _ ihk ih =>
    intro top r
    simp only [evL, evT_elem, List.foldl_append, List.foldl_cons, List.foldl_nil]
    have h1 : stepE (top :: r) ⟨1, n, a, ofL []⟩ = ⟨n, a, []⟩ :: top :: r := by unfold stepE; rw [if_pos rfl]
    rw [h1, ihk]
    show List.foldl stepE (stepE ((⟨n, a, [] ++ ks⟩ : Fr) :: top :: r) (endE n)) (evL f) = _
    have h2 : stepE ((⟨n, a, [] ++ ks⟩ : Fr) :: top :: r) (endE n) = { top with kids := top.kids ++ [elemT n a ks] } :: r := by
      unfold stepE endE
      simp
    rw [h2, ih]
    simp
/-- What was written so is read so. -/
theorem parse_forest {f : List Tree} {t : Bytes} (h : FW f t) (hl : t.length ≤ 262144) (hn : countL f ≤ 4096) (hd : depthL f ≤ 64) : parse t = (f, 0, 0) ∧ scan t = (evL f, 0, 0) := by
  obtain ⟨s', h1, h2, h3, h4, h5⟩ := run_forest h (s := ⟨t, [], [], 0, []⟩) (R := []) (by simp) (fun _ => rfl) (by show 0 + _ ≤ _; omega) (by show 0 + _ ≤ _; omega)
  have h3' : s'.opn = [] := h3
  have hs : scan t = (evL f, 0, 0) := by
    unfold scan
    rw [if_neg (by omega), h1.pieces h2 _ (Nat.lt_succ_self _)]
    simp only [Pure.R.bind]
    rw [flush_eq]
    simp only
    rw [if_pos h3']
    simp only
    rw [h5]
    simp [tv]
  refine ⟨?_, hs⟩
  unfold parse
  rw [hs]
  simp only
  rw [if_neg (by decide)]
  unfold builds
  rw [build_forest h.shaped]
  simp [rootKids]
end Pure
end Go.Proofs.YtipfakmbjajhlaaGreatDoor 
end

section
set_option linter.unusedVariables false
set_option linter.unusedSimpArgs false
namespace Go.Proofs.YtipfakmbjajhlaaGreatDoor 
namespace Pure
/-! ### The printed text, however long -/
def attrStr (a : Attr) : Bytes := [32] ++ toL a.name ++ [61, 34] ++ escOf a.value true ++ [34]
mutual
def str : Tree → Bytes
  | .mk k nm a tx kids =>
    if k = 2 then escOf tx false
    else if kids.any shows = false then [60] ++ toL nm ++ a.flatMap attrStr ++ [47, 62]
    else [60] ++ toL nm ++ a.flatMap attrStr ++ [62] ++ strL kids ++ ([60, 47] ++ toL nm ++ [62])
def strL : List Tree → Bytes
  | [] => []
  | t :: r => str t ++ strL r
end
/-- A writer writes so much, if it fits. -/
structure Wr (g : Bytes → Bytes) (s : Bytes) : Prop where
  fits : ∀ b, full (b ++ s) = false → g b = b ++ s
  fit : ∀ b, full (g b) = false → full (b ++ s) = false
theorem full_prefix {a b : Bytes} (h : full (a ++ b) = false) : full a = false := by
  unfold full at *
  rw [decide_eq_false_iff_not] at *
  rw [List.length_append] at h
  omega
theorem Wr.id : Wr (fun b => b) [] := ⟨fun b _ => (List.append_nil b).symm, fun b h => by rw [List.append_nil]; exact h⟩
theorem Wr.comp {g h : Bytes → Bytes} {s t : Bytes} (hg : Wr g s) (hh : Wr h t) : Wr (fun b => h (g b)) (s ++ t) := by
  constructor
  · intro b hb
    rw [← List.append_assoc] at hb ⊢
    have := hg.fits b (full_prefix hb)
    show h (g b) = _
    rw [this]
    exact hh.fits _ hb
  · intro b hb
    have h1 := hh.fit _ hb
    have h2 := hg.fit _ (full_prefix h1)
    rw [hg.fits _ h2] at h1
    rw [← List.append_assoc]; exact h1
theorem Wr.put (s : Bytes) : Wr (fun b => put b s) s := by
  constructor
  · intro b hb
    show Pure.put b s = _
    unfold Pure.put; rw [full_prefix hb]; rfl
  · intro b hb
    have hb' : full (Pure.put b s) = false := hb
    unfold Pure.put at hb'
    split at hb'
    · rename_i h; rw [h] at hb'; exact absurd hb' (by decide)
    · exact hb'
theorem Wr.guard {g : Bytes → Bytes} {s : Bytes} (h : Wr g s) : Wr (fun b => if full b then b else g b) s := by
  constructor
  · intro b hb
    show (if full b then b else g b) = _
    rw [full_prefix hb]; exact h.fits b hb
  · intro b hb
    have hb' : full (if full b then b else g b) = false := hb
    split at hb'
    · rename_i h; rw [h] at hb'; exact absurd hb' (by decide)
    · exact h.fit b hb'
theorem Wr.congr {g : Bytes → Bytes} {s t : Bytes} (h : Wr g s) (e : s = t) : Wr g t := e ▸ h
theorem Wr.attr (a : Attr) : Wr (fun b => writeAttr b a) (attrStr a) := by
  have h := (((((Wr.put [32]).comp (Wr.put (toL a.name))).comp (Wr.put [61, 34])).comp (Wr.put (escOf a.value true))).comp (Wr.put [34]))
  exact h
theorem Wr.attrs : ∀ (l : List Attr), Wr (fun b => l.foldl writeAttr b) (l.flatMap attrStr)
  | [] => Wr.id
  | a :: l => by rw [List.flatMap_cons]; exact (Wr.attr a).comp (Wr.attrs l)
mutual
theorem wr_write : ∀ t, Wr (fun b => write b t) (str t)
  | .mk k nm a tx kids => by
    have hO : Wr (fun b => a.foldl writeAttr (puts b [[60], toL nm])) ([60] ++ toL nm ++ a.flatMap attrStr) :=
      ((Wr.put [60]).comp (Wr.put (toL nm))).comp (Wr.attrs a)
    have hT : Wr (fun b => put b (escOf tx false)) (escOf tx false) := Wr.put _
    have hK : Wr (fun b => writeL b kids) (strL kids) := wr_writeL kids
    by_cases h2 : k = 2
    · have := hT.guard
      unfold str
      rw [if_pos h2]
      have e : (fun b => write b (.mk k nm a tx kids)) = fun b => if full b then b else put b (escOf tx false) := by
        funext b; unfold write; rw [if_pos h2]
      rw [e]; exact this
    by_cases h3 : kids.any shows = false
    · have := (hO.comp (Wr.put [47, 62])).guard
      unfold str
      rw [if_neg h2, if_pos h3]
      have e : (fun b => write b (.mk k nm a tx kids)) = fun b => if full b then b else put (a.foldl writeAttr (puts b [[60], toL nm])) [47, 62] := by
        funext b; unfold write; rw [if_neg h2, if_pos h3]
      rw [e]; exact this
    · have := (((hO.comp (Wr.put [62])).comp hK).comp (((Wr.put [60, 47]).comp (Wr.put (toL nm))).comp (Wr.put [62]))).guard
      unfold str
      rw [if_neg h2, if_neg h3]
      have e : (fun b => write b (.mk k nm a tx kids)) = fun b => if full b then b else puts (writeL (put (a.foldl writeAttr (puts b [[60], toL nm])) [62]) kids) [[60, 47], toL nm, [62]] := by
        funext b; unfold write; rw [if_neg h2, if_neg h3]
      rw [e]; exact this
theorem wr_writeL : ∀ l, Wr (fun b => writeL b l) (strL l)
  | [] => by
    have e : (fun b => writeL b []) = fun b => b := by funext b; unfold writeL; rfl
    rw [e]; unfold strL; exact Wr.id
  | t :: r => by
    have e : (fun b => writeL b (t :: r)) = fun b => writeL (write b t) r := by funext b; conv => lhs; unfold writeL
    rw [e]; unfold strL
    exact (wr_write t).comp (wr_writeL r)
end
theorem print_ok {f : List Tree} (h : (print f).2 = 0) : (print f).1 = strL f ∧ canF f = 0 ∧ full (strL f) = false := by
  unfold print at h ⊢
  by_cases h1 : canF f = 0
  · rw [if_neg (by simpa using h1)] at h ⊢
    by_cases h2 : full (writeL [] f) = true
    · rw [if_pos h2] at h; simp at h
    · rw [if_neg h2]
      have hw := wr_writeL f
      have h3 := hw.fit [] (by simpa using h2)
      exact ⟨hw.fits [] h3, h1, h3⟩
  · rw [if_pos h1] at h; exact absurd h h1
theorem print_of {f : List Tree} (h : canF f = 0) (hf : full (strL f) = false) : print f = (strL f, 0) := by
  unfold print
  have hw := wr_writeL f
  have h1 := hw.fits [] hf
  simp only [List.nil_append] at h1
  rw [if_neg (by simpa using h), h1, hf]
  rfl
/-! ### Forests that can be -/
theorem attrsLoop_ok : ∀ (l : List Attr) (p : Option ByteArray), attrsLoop p l = 0 → (∀ a ∈ l, AttrOk a) ∧ Rises l ∧ (∀ n, p = some n → ∀ a ∈ l, Lib.compareBytes (toL n) (toL a.name) < 0)
  | [], p, _ => ⟨by simp, List.Pairwise.nil, by simp⟩
  | a :: l, p, h => by
    unfold attrsLoop at h
    split at h
    · simp at h
    rename_i h1
    split at h
    · rename_i h2; exact absurd h h2
    rename_i h2
    simp only [not_or] at h1
    obtain ⟨k1, k2, k3⟩ := attrsLoop_ok l (some a.name) h
    have hg := good_of_text (l := toL a.value) (by simpa using h2)
    refine ⟨?_, ?_, ?_⟩
    · intro x hx
      rcases List.mem_cons.1 hx with rfl | hx
      · exact ⟨by simpa using h1.1, hg.1, hg.2⟩
      · exact k1 x hx
    · exact List.pairwise_cons.2 ⟨fun x hx => k3 _ rfl x hx, k2⟩
    · rintro n rfl x hx
      have hna : Lib.compareBytes (toL n) (toL a.name) < 0 := by
        have := h1.2
        simp only [notAbove, bytesLe, decide_eq_true_eq] at this
        rw [cmp_anti]
        omega
      rcases List.mem_cons.1 hx with rfl | hx
      · exact hna
      · exact cmp_trans _ _ _ hna (k3 _ rfl x hx)
def AttrsOk (l : List Attr) : Prop := (∀ a ∈ l, AttrOk a) ∧ Rises l ∧ l.length ≤ 32
theorem attrsLoop_of : ∀ (l : List Attr) (p : Option ByteArray), (∀ a ∈ l, AttrOk a) → Rises l → (∀ n, p = some n → ∀ a ∈ l, Lib.compareBytes (toL n) (toL a.name) < 0) → attrsLoop p l = 0
  | [], p, _, _, _ => by cases p <;> rfl
  | a :: l, p, h1, h2, h3 => by
    obtain ⟨r1, r2⟩ := List.pairwise_cons.1 h2
    have ha := h1 a (List.mem_cons_self ..)
    unfold attrsLoop
    rw [if_neg, if_neg (by rw [text_ok ha.good ha.len]; simp)]
    · exact attrsLoop_of l (some a.name) (fun x hx => h1 x (List.mem_cons_of_mem _ hx)) r2 (fun n hn x hx => by cases hn; exact r1 x hx)
    · simp only [not_or]
      refine ⟨by rw [ha.name]; decide, ?_⟩
      cases p with
      | none => simp [notAbove]
      | some n =>
        have := h3 n rfl a (List.mem_cons_self ..)
        rw [cmp_anti] at this
        simp only [notAbove, bytesLe, decide_eq_true_eq]
        omega
theorem attrsBad_iff {l : List Attr} : attrsBad l = 0 ↔ AttrsOk l := by
  unfold attrsBad
  constructor
  · intro h
    split at h
    · simp at h
    · obtain ⟨h1, h2, _⟩ := attrsLoop_ok l none h
      exact ⟨h1, h2, by omega⟩
  · rintro ⟨h1, h2, h3⟩
    rw [if_neg (by omega)]
    exact attrsLoop_of l none h1 h2 (by simp)
mutual
def okT : Tree → Prop
  | .mk k nm a tx kids => (k = 1 ∧ isName (toL nm) = true ∧ AttrsOk a ∧ okL kids) ∨ (k = 2 ∧ Good (toL tx) ∧ (toL tx).length ≤ 16384)
def okL : List Tree → Prop
  | [] => True
  | t :: r => okT t ∧ okL r
end
theorem own_zero {k : Int} {nm : ByteArray} {a : List Attr} {tx : ByteArray} : own k nm a tx = 0 ↔ ((k = 1 ∧ isName (toL nm) = true ∧ AttrsOk a) ∨ (k = 2 ∧ Good (toL tx) ∧ (toL tx).length ≤ 16384)) := by
  unfold own
  by_cases h1 : k = 1
  · rw [if_pos h1]
    subst h1
    by_cases h2 : isName (toL nm) = false
    · rw [if_pos h2]; simp [h2]
    · rw [if_neg h2, attrsBad_iff]; simp at h2; simp [h2]
  · rw [if_neg h1]
    by_cases h2 : k = 2
    · rw [if_pos h2]
      constructor
      · intro h; right; exact ⟨h2, good_of_text h⟩
      · rintro (⟨h, _⟩ | ⟨_, h3, h4⟩)
        · exact absurd h h1
        · exact text_ok h3 h4
    · rw [if_neg h2]; simp [h1, h2]
mutual
theorem look_ok : ∀ (t : Tree) (deep n n' : Nat), look t deep n = (0, n') → okT t ∧ n' = n + count t ∧ deep + depthT t ≤ 65
  | .mk k nm a tx kids, deep, n, n', h => by
    unfold look at h
    split at h
    · simp at h
    rename_i h1
    split at h
    · rename_i h2; simp only [Prod.mk.injEq] at h; exact absurd h.1 h2
    rename_i h2
    simp only [ne_eq, Decidable.not_not] at h2
    have h3 := own_zero.1 h2
    split at h
    · rename_i hk
      simp only [Prod.mk.injEq] at h
      rcases h3 with ⟨h4, _⟩ | h4
      · omega
      · refine ⟨by unfold okT; exact .inr h4, ?_, ?_⟩
        · unfold count; rw [if_neg (by omega)]; omega
        · unfold depthT; rw [if_neg (by omega)]; omega
    · rename_i hk
      obtain ⟨k1, k2, k3⟩ := lookL_ok kids (deep + 1) (n + 1) n' h
      rcases h3 with ⟨h4, h5, h6⟩ | ⟨h4, _⟩
      · refine ⟨by unfold okT; exact .inl ⟨h4, h5, h6, k1⟩, ?_, ?_⟩
        · unfold count; rw [if_pos h4]; omega
        · unfold depthT; rw [if_pos h4]
          rcases Nat.eq_zero_or_pos (depthL kids) with h0 | h0
          · omega
          · have := k3 h0; omega
      · exact absurd h4 hk
theorem lookL_ok : ∀ (l : List Tree) (deep n n' : Nat), lookL l deep n = (0, n') → okL l ∧ n' = n + countL l ∧ (0 < depthL l → deep + depthL l ≤ 65)
  | [], deep, n, n', h => by
    unfold lookL at h
    simp only [Prod.mk.injEq] at h
    exact ⟨trivial, by simp [countL, h.2], by simp [depthL]⟩
  | t :: r, deep, n, n', h => by
    unfold lookL at h
    cases hl : look t deep n with
    | mk e m =>
      rw [hl] at h
      simp only at h
      split at h
      · rename_i he; simp only [Prod.mk.injEq] at h; exact absurd h.1 he
      · rename_i he
        simp only [ne_eq, Decidable.not_not] at he
        subst he
        obtain ⟨a1, a2, a3⟩ := look_ok t deep n m hl
        obtain ⟨b1, b2, b3⟩ := lookL_ok r deep m n' h
        refine ⟨⟨a1, b1⟩, by simp only [countL]; omega, fun _ => ?_⟩
        simp only [depthL]
        rcases Nat.eq_zero_or_pos (depthL r) with h0 | h0
        · rw [h0]; omega
        · have := b3 h0; omega
end
mutual
theorem look_of : ∀ (t : Tree) (deep n : Nat), okT t → n + count t ≤ 4096 → deep + depthT t ≤ 65 → look t deep n = (0, n + count t)
  | .mk k nm a tx kids, deep, n, h, hn, hd => by
    have hc : 1 ≤ count (.mk k nm a tx kids) := by unfold count; split <;> omega
    have hd1 : 1 ≤ depthT (.mk k nm a tx kids) := by unfold depthT; split <;> omega
    unfold okT at h
    unfold look
    rw [if_neg (by omega)]
    rcases h with ⟨h1, h2, h3, h4⟩ | h1
    · rw [if_neg (by rw [own_zero.2 (.inl ⟨h1, h2, h3⟩)]; simp), if_neg (by omega)]
      unfold count at hn ⊢
      unfold depthT at hd
      rw [if_pos h1] at hn hd ⊢
      rw [lookL_of kids (deep + 1) (n + 1) h4 (by omega) (by omega)]
      congr 1; omega
    · rw [if_neg (by rw [own_zero.2 (.inr h1)]; simp), if_pos h1.1]
      unfold count
      rw [if_neg (by omega)]
theorem lookL_of : ∀ (l : List Tree) (deep n : Nat), okL l → n + countL l ≤ 4096 → deep + depthL l ≤ 65 → lookL l deep n = (0, n + countL l)
  | [], deep, n, _, _, _ => by unfold lookL; simp [countL]
  | t :: r, deep, n, h, hn, hd => by
    obtain ⟨h1, h2⟩ := h
    simp only [countL] at hn ⊢
    simp only [depthL] at hd
    unfold lookL
    rw [look_of t deep n h1 (by omega) (by omega)]
    simp only
    rw [if_neg (by simp), lookL_of r deep (n + count t) h2 (by omega) (by omega)]
    congr 1; omega
end
theorem canF_ok {f : List Tree} (h : canF f = 0) : okL f ∧ countL f ≤ 4096 ∧ depthL f ≤ 64 := by
  have aux : ∀ (f : List Tree), firstBad f = 0 → okL f ∧ depthL f ≤ 64 := by
    intro f
    induction f with
    | nil => intro _; exact ⟨trivial, by simp [depthL]⟩
    | cons t r ih =>
      intro h
      unfold firstBad at h
      split at h
      · rename_i h1; exact absurd h h1
      · rename_i h1
        simp only [ne_eq, Decidable.not_not] at h1
        obtain ⟨a1, a2⟩ := ih h
        obtain ⟨b1, _, b3⟩ := look_ok t 1 0 (look t 1 0).2 (Prod.ext h1 rfl)
        exact ⟨⟨b1, a1⟩, by simp only [depthL]; omega⟩
  unfold canF at h
  split at h
  · rename_i h1; exact absurd h h1
  · rename_i h1
    split at h
    · simp at h
    · rename_i h2
      obtain ⟨a, b⟩ := aux f (by simpa using h1)
      exact ⟨a, by omega, b⟩
theorem canF_of {f : List Tree} (h1 : okL f) (h2 : countL f ≤ 4096) (h3 : depthL f ≤ 64) : canF f = 0 := by
  have aux : ∀ (f : List Tree), okL f → countL f ≤ 4096 → depthL f ≤ 64 → firstBad f = 0 := by
    intro f
    induction f with
    | nil => intro _ _ _; rfl
    | cons t r ih =>
      intro h1 h2 h3
      simp only [countL] at h2
      simp only [depthL] at h3
      have hc : check t = 0 := by unfold check; rw [look_of t 1 0 h1.1 (by omega) (by omega)]
      unfold firstBad
      rw [if_neg (by simpa using hc)]
      exact ih h1.2 (by omega) (by omega)
  unfold canF
  rw [if_neg (by rw [aux f h1 h2 h3]; simp), if_neg (by omega)]
end Pure
end Go.Proofs.YtipfakmbjajhlaaGreatDoor 
end

section
set_option linter.unusedVariables false
set_option linter.unusedSimpArgs false
namespace Go.Proofs.YtipfakmbjajhlaaGreatDoor 
namespace Pure
mutual
def nrmT : Tree → Prop
  | .mk k nm a tx kids => (k = 1 ∧ tx = noB ∧ nrmL kids) ∨ (k = 2 ∧ toL tx ≠ [] ∧ nm = noB ∧ a = [] ∧ kids = [])
def nrmL : List Tree → Prop
  | [] => True
  | t :: r => nrmT t ∧ (t.kind = 2 → startsText r = false) ∧ nrmL r
end
def endsText : List Tree → Bool
  | [] => false
  | t :: r => match r with
    | [] => t.kind == 2
    | _ :: _ => endsText r
theorem endsText_last : ∀ (l : List Tree), endsText l = (match l.getLast? with | none => false | some u => u.kind == 2)
  | [] => rfl
  | [t] => rfl
  | t :: u :: r => by
    have := endsText_last (u :: r)
    unfold endsText
    rw [this]
    simp only [List.getLast?_cons_cons]
theorem startsText_append {a b : List Tree} (h : a ≠ []) : startsText (a ++ b) = startsText a := by
  cases a with
  | nil => exact absurd rfl h
  | cons t r => rfl
theorem nrmL_append : ∀ {a b : List Tree}, nrmL (a ++ b) ↔ nrmL a ∧ nrmL b ∧ (endsText a = true → startsText b = false)
  | [], b => by simp [nrmL, endsText]
  | [t], b => by
    simp only [List.cons_append, List.nil_append, nrmL, startsText, endsText, beq_iff_eq]
    constructor
    · rintro ⟨h1, h2, h3⟩; exact ⟨⟨h1, by simp, trivial⟩, h3, h2⟩
    · rintro ⟨⟨h1, _, _⟩, h3, h2⟩; exact ⟨h1, h2, h3⟩
  | t :: u :: r, b => by
    have ih := nrmL_append (a := u :: r) (b := b)
    have e1 : endsText (t :: u :: r) = endsText (u :: r) := rfl
    rw [e1]
    have e2 : t :: u :: r ++ b = t :: (u :: r ++ b) := rfl
    rw [e2]
    constructor
    · rintro ⟨h1, h2, h3⟩
      obtain ⟨k1, k2, k3⟩ := ih.1 h3
      exact ⟨⟨h1, h2, k1⟩, k2, k3⟩
    · rintro ⟨⟨h1, h2, h3⟩, k2, k3⟩
      exact ⟨h1, h2, ih.2 ⟨h3, k2, k3⟩⟩
theorem okL_append : ∀ {a b : List Tree}, okL (a ++ b) ↔ okL a ∧ okL b
  | [], b => by simp [okL]
  | t :: r, b => by
    have := okL_append (a := r) (b := b)
    show (okT t ∧ okL (r ++ b)) ↔ (okT t ∧ okL r) ∧ okL b
    rw [this, and_assoc]
theorem countL_append : ∀ (a b : List Tree), countL (a ++ b) = countL a + countL b
  | [], b => by simp [countL]
  | t :: r, b => by
    have := countL_append r b
    show count t + countL (r ++ b) = count t + countL r + countL b
    omega
theorem depthL_append : ∀ (a b : List Tree), depthL (a ++ b) = max (depthL a) (depthL b)
  | [], b => by simp [depthL]
  | t :: r, b => by
    have := depthL_append r b
    show max (depthT t) (depthL (r ++ b)) = max (max (depthT t) (depthL r)) (depthL b)
    omega
theorem strL_append : ∀ (a b : List Tree), strL (a ++ b) = strL a ++ strL b
  | [], b => rfl
  | t :: r, b => by
    have := strL_append r b
    show str t ++ strL (r ++ b) = (str t ++ strL r) ++ strL b
    rw [this, List.append_assoc]
theorem toList_eq_nil {t : ByteArray} : (t.toList == []) = decide (toL t = []) := by
  have : t.toList = toL t := ByteArray.toList_eq _
  rw [this]
  cases toL t <;> simp
theorem shows_elem (n : ByteArray) (a : List Attr) (ks : List Tree) : shows (elemT n a ks) = true := rfl
theorem shows_text (t : ByteArray) : shows (textT t) = !decide (toL t = []) := by
  rfl
theorem toL_append (a b : ByteArray) : toL (a ++ b) = toL a ++ toL b := by
  unfold toL
  rw [ByteArray.data_append, Array.toList_append]
theorem escOf_eq {t : ByteArray} (h : Good (toL t)) (hl : (toL t).length ≤ 16384) (q : Bool) : escOf t q = escB q (toL t) := escape_ok (text_ok h hl) q
theorem str_text (t : ByteArray) : str (textT t) = escOf t false := by unfold textT str; rw [if_pos rfl]
theorem nrm_text {u : Tree} (h : nrmT u) (hk : u.kind = 2) : u = textT u.text ∧ toL u.text ≠ [] := by
  cases u with
  | mk k nm a tx kids =>
    unfold nrmT at h
    simp only [Tree.kind] at hk
    rcases h with ⟨h1, _⟩ | ⟨h1, h2, rfl, rfl, rfl⟩
    · omega
    · subst hk; exact ⟨rfl, h2⟩
theorem ok_text {u : Tree} (h : okT u) (hk : u.kind = 2) : Good (toL u.text) ∧ (toL u.text).length ≤ 16384 := by
  cases u with
  | mk k nm a tx kids =>
    unfold okT at h
    simp only [Tree.kind] at hk
    rcases h with ⟨h1, _⟩ | ⟨_, h2⟩
    · omega
    · exact h2
/-- What the normal form keeps. -/
structure Keeps (l l' : List Tree) (cnt dep : Nat) (s : Bytes) (sh : Bool) : Prop where
  nrm : nrmL l'
  ok : okL l'
  count : countL l' ≤ countL l + cnt
  depth : depthL l' ≤ max (depthL l) dep
  str : strL l' = strL l ++ s
  shows : l'.any shows = (l.any shows || sh)
theorem joinText_ok {l l' : List Tree} {t : ByteArray} (hn : nrmL l) (ho : okL l) (hg : Good (toL t)) (hl : (toL t).length ≤ 16384) (h : joinText l t = some l') : Keeps l l' 1 1 (escOf t false) (!decide (toL t = [])) := by
  have hT : okT (textT t) := by unfold textT okT; exact .inr ⟨rfl, hg, hl⟩
  unfold joinText at h
  split at h
  · rename_i he
    cases h
    refine ⟨hn, ho, by omega, by omega, ?_, by simp [he]⟩
    rw [escOf_eq hg hl, he]; simp [escB]
  rename_i hne
  have hN : nrmT (textT t) := by unfold textT nrmT; exact .inr ⟨rfl, hne, rfl, rfl, rfl⟩
  have hnew : endsText l = false → l' = l ++ [textT t] → Keeps l l' 1 1 (escOf t false) (!decide (toL t = [])) := by
    rintro hl rfl
    refine ⟨nrmL_append.2 ⟨hn, ⟨hN, fun _ => rfl, trivial⟩, fun h => by rw [hl] at h; exact absurd h (by decide)⟩, okL_append.2 ⟨ho, hT, trivial⟩, ?_, ?_, ?_, ?_⟩
    · rw [countL_append]; simp [countL, count_text]
    · rw [depthL_append]; simp only [depthL, depth_text]; omega
    · rw [strL_append]; simp [strL, str_text]
    · simp [shows_text]
  have hle := endsText_last l
  split at h
  · rename_i hl
    rw [hl] at hle
    cases h
    exact hnew hle rfl
  rename_i u hlast
  rw [hlast] at hle
  simp only at hle
  split at h
  · rename_i hk
    cases h
    exact hnew (by rw [hle]; simpa using hk) rfl
  rename_i hk
  simp only [ne_eq, Decidable.not_not] at hk
  split at h
  · cases h
  rename_i hsz
  cases h
  have hd : l = l.dropLast ++ [u] := by
    have hne' : l ≠ [] := by intro e; rw [e] at hlast; simp at hlast
    have h1 := List.dropLast_concat_getLast hne'
    have h2 := List.getLast?_eq_some_getLast hne'
    rw [hlast] at h2
    cases h2
    exact h1.symm
  generalize l.dropLast = d at hd ⊢
  subst hd
  obtain ⟨n1, n2, n3⟩ := nrmL_append.1 hn
  obtain ⟨o1, o2⟩ := okL_append.1 ho
  obtain ⟨e1, e2⟩ := nrm_text n2.1 hk
  obtain ⟨g1, g2⟩ := ok_text o2.1 hk
  generalize u.text = x at e1 e2 g1 g2 hsz
  subst e1
  have hx : (Tree.mk (textT x).kind (textT x).name (textT x).attrs (x ++ t) (textT x).kids : Tree) = textT (x ++ t) := rfl
  rw [hx]
  have hlen : (toL (x ++ t)).length ≤ 16384 := by
    rw [toL_append, List.length_append, length_toL, length_toL]; omega
  have hgood : Good (toL (x ++ t)) := by rw [toL_append]; exact g1.append hg
  have hne2 : toL (x ++ t) ≠ [] := by rw [toL_append]; intro e; exact e2 (List.append_eq_nil_iff.1 e).1
  refine ⟨nrmL_append.2 ⟨n1, ⟨?_, fun _ => rfl, trivial⟩, fun h => n3 h⟩, okL_append.2 ⟨o1, ?_, trivial⟩, ?_, ?_, ?_, ?_⟩
  · unfold textT nrmT; exact .inr ⟨rfl, hne2, rfl, rfl, rfl⟩
  · unfold textT okT; exact .inr ⟨rfl, hgood, hlen⟩
  · rw [countL_append, countL_append]; simp [countL, count_text]
  · rw [depthL_append, depthL_append]; simp only [depthL, depth_text]; omega
  · rw [strL_append, strL_append]
    simp only [strL, str_text, List.append_nil]
    rw [escOf_eq hgood hlen, escOf_eq g1 g2, escOf_eq hg hl, toL_append, escB_append, List.append_assoc]
  · simp [shows_text, hne2, e2]
mutual
theorem normT_ok : ∀ (t : Tree) (l l' : List Tree), nrmL l → okL l → okT t → normT l t = some l' → Keeps l l' (count t) (depthT t) (str t) (shows t)
  | .mk k nm a tx kids, l, l', hn, ho, ht, h => by
    unfold okT at ht
    unfold normT at h
    rcases ht with ⟨h1, h2, h3, h4⟩ | ⟨h1, h2, h3⟩
    · rw [if_pos h1] at h
      cases hk : normL [] kids with
      | none => rw [hk] at h; simp at h
      | some ks =>
        rw [hk] at h
        simp only [Option.some.injEq] at h
        have hK := normL_ok kids [] ks trivial trivial h4 hk
        subst h
        have hN : nrmT (elemT nm a ks) := by unfold elemT nrmT; exact .inl ⟨rfl, rfl, hK.nrm⟩
        have hO : okT (elemT nm a ks) := by unfold elemT okT; exact .inl ⟨rfl, h2, h3, hK.ok⟩
        have c1 := hK.count
        have c2 := hK.depth
        have c3 := hK.str
        have c4 := hK.shows
        simp only [countL, depthL, strL, List.nil_append, List.any_nil, Bool.false_or, Nat.zero_add] at c1 c2 c3 c4
        refine ⟨nrmL_append.2 ⟨hn, ⟨hN, fun h => by simp [elemT, Tree.kind] at h, trivial⟩, fun _ => rfl⟩, okL_append.2 ⟨ho, hO, trivial⟩, ?_, ?_, ?_, ?_⟩
        · rw [countL_append]
          simp only [countL, count_elem]
          unfold Pure.count
          rw [if_pos h1]
          omega
        · rw [depthL_append]
          simp only [depthL, depth_elem]
          unfold Pure.depthT
          rw [if_pos h1]
          omega
        · rw [strL_append]
          simp only [strL, List.append_nil]
          congr 1
          unfold elemT
          unfold Pure.str
          rw [if_neg (by decide), if_neg (show ¬ k = 2 by omega), c4, c3]
        · unfold shows
          simp [elemT, Tree.kind, h1]
    · rw [if_neg (by omega)] at h
      have := joinText_ok hn ho h2 h3 h
      refine ⟨this.nrm, this.ok, ?_, ?_, ?_, ?_⟩
      · unfold Pure.count; rw [if_neg (by omega)]; exact this.count
      · unfold Pure.depthT; rw [if_neg (by omega)]; exact this.depth
      · unfold Pure.str; rw [if_pos h1]; exact this.str
      · rw [this.shows]
        unfold Pure.shows Tree.kind Tree.text
        rw [h1]; rfl
theorem normL_ok : ∀ (f l l' : List Tree), nrmL l → okL l → okL f → normL l f = some l' → Keeps l l' (countL f) (depthL f) (strL f) (f.any shows)
  | [], l, l', hn, ho, _, h => by
    unfold normL at h
    cases h
    exact ⟨hn, ho, by simp [countL], by simp [depthL], by simp [strL], by simp⟩
  | t :: r, l, l', hn, ho, hf, h => by
    unfold normL at h
    cases ht : normT l t with
    | none => rw [ht] at h; simp at h
    | some l1 =>
      rw [ht] at h
      simp only at h
      have h1 := normT_ok t l l1 hn ho hf.1 ht
      have h2 := normL_ok r l1 l' h1.nrm h1.ok hf.2 h
      have c1 := h1.count
      have c2 := h2.count
      have d1 := h1.depth
      have d2 := h2.depth
      refine ⟨h2.nrm, h2.ok, ?_, ?_, ?_, ?_⟩
      · simp only [countL]; omega
      · simp only [depthL]; omega
      · rw [h2.str, h1.str]; simp [strL]
      · rw [h2.shows, h1.shows, List.any_cons, Bool.or_assoc]
end
/-! ### What is printed of a normal forest is a way to write it -/
theorem attrsW_print : ∀ {l : List Attr}, (∀ a ∈ l, AttrOk a) → AttrsW l (l.flatMap attrStr)
  | [], _ => .nil
  | a :: l, h => by
    have ha := h a (List.mem_cons_self ..)
    rw [List.flatMap_cons]
    have e : attrStr a = attrW [32] 34 a := by
      unfold attrStr attrW
      rw [escOf_eq ha.good ha.len]
      simp
    rw [e]
    exact .cons (by simp) (by decide) (.inl rfl) ha (attrsW_print fun x hx => h x (List.mem_cons_of_mem _ hx))
theorem rises_apart {l : List Attr} (h : Rises l) : l.Pairwise fun a b => a.name ≠ b.name := h.imp fun h => Rises.ne h
theorem beginW_print {n : ByteArray} {l : List Attr} (hn : isName (toL n) = true) (h : AttrsOk l) : BeginW n l ([60] ++ toL n ++ l.flatMap attrStr) :=
  ⟨hn, ⟨_, [], attrsW_print h.1, by simp, by simp⟩, h.2.2, rises_apart h.2.1⟩
mutual
theorem fw_cons : ∀ (t : Tree) (f : List Tree) (s : Bytes), nrmT t → okT t → (t.kind = 2 → startsText f = false) → FW f s → FW (t :: f) (str t ++ s)
  | .mk k nm a tx kids, f, s, hn, ho, hs, h => by
    unfold nrmT at hn
    unfold okT at ho
    rcases ho with ⟨h1, h2, h3, h4⟩ | ⟨h1, h2, h3⟩
    · subst h1
      rcases hn with ⟨_, rfl, n3⟩ | ⟨h, _⟩
      · have hb := beginW_print h2 h3
        have hsort := sortA_rises h3.2.1
        have hk := fw_list kids n3 h4
        unfold str
        rw [if_neg (by decide)]
        cases kids with
        | nil =>
          rw [if_pos (by rfl)]
          have := FW.empty hb h
          rw [hsort] at this
          have e : ([60] ++ toL nm ++ a.flatMap attrStr ++ [47, 62] : Bytes) ++ s = ([60] ++ toL nm ++ a.flatMap attrStr) ++ 47 :: 62 :: s := by simp
          rw [e]
          exact this
        | cons u ks =>
          have hsh : (u :: ks).any shows = true := by
            obtain ⟨m1, _, _⟩ := n3
            rw [List.any_cons]
            have : shows u = true := by
              cases u with
              | mk k' nm' a' tx' kids' =>
                unfold nrmT at m1
                unfold shows Tree.kind Tree.text
                rcases m1 with ⟨rfl, _⟩ | ⟨rfl, m2, _⟩
                · rfl
                · simp [m2]
            rw [this]; rfl
          rw [if_neg (by rw [hsh]; decide)]
          have := FW.elem (bl := []) hb hk (by simp) h
          rw [hsort] at this
          have e : ([60] ++ toL nm ++ a.flatMap attrStr ++ [62] ++ strL (u :: ks) ++ ([60, 47] ++ toL nm ++ [62]) : Bytes) ++ s = ([60] ++ toL nm ++ a.flatMap attrStr) ++ 62 :: (strL (u :: ks) ++ (60 :: 47 :: (toL nm ++ ([] ++ 62 :: s)))) := by simp
          rw [e]
          exact this
      · omega
    · subst h1
      rcases hn with ⟨h, _⟩ | ⟨_, n2, rfl, rfl, rfl⟩
      · omega
      · unfold str
        rw [if_pos rfl, escOf_eq h2 h3]
        exact FW.text h2 n2 h3 (hs rfl) h
theorem fw_list : ∀ (l : List Tree), nrmL l → okL l → FW l (strL l)
  | [], _, _ => .nil
  | t :: r, hn, ho => fw_cons t r (strL r) hn.1 ho.1 hn.2.1 (fw_list r hn.2.2 ho.2)
end
/-- The normal form of a forest that can be. -/
structure NormalForm (f n : List Tree) : Prop where
  nrm : nrmL n
  ok : okL n
  count : countL n ≤ 4096
  depth : depthL n ≤ 64
  str : strL n = strL f
theorem normal_ok {f n : List Tree} (h : normalF f = (n, 0)) : NormalForm f n := by
  unfold normalF at h
  split at h
  · rename_i h1; simp only [Prod.mk.injEq] at h; exact absurd h.2 h1
  rename_i h1
  obtain ⟨h2, h3, h4⟩ := canF_ok (by simpa using h1)
  cases hn : normL [] f with
  | none => rw [hn] at h; simp at h
  | some l =>
    rw [hn] at h
    simp only [Prod.mk.injEq, and_true] at h
    subst h
    have hK := normL_ok f [] l trivial trivial h2 hn
    have c1 := hK.count
    have c2 := hK.depth
    have c3 := hK.str
    simp only [countL, depthL, strL, List.nil_append] at c1 c2 c3
    exact ⟨hK.nrm, hK.ok, by omega, by omega, c3⟩
/-- THERE AND BACK. -/
theorem there_and_back {f n : List Tree} (h1 : (print f).2 = 0) (h2 : normalF f = (n, 0)) : parse (print f).1 = (n, 0, 0) ∧ print n = ((print f).1, 0) ∧ scan (print f).1 = (evL n, 0, 0) := by
  obtain ⟨p1, p2, p3⟩ := print_ok h1
  have hn := normal_ok h2
  have hw := fw_list n hn.nrm hn.ok
  have hl : (strL n).length ≤ 262144 := by
    rw [hn.str]
    unfold full at p3
    simpa using p3
  rw [p1]
  have hp := parse_forest hw hl hn.count hn.depth
  rw [hn.str] at hp
  refine ⟨hp.1, ?_, hp.2⟩
  rw [print_of (canF_of hn.ok hn.count hn.depth) (by rw [hn.str]; exact p3), hn.str]
mutual
theorem same_refl : ∀ (t : Tree), same t t = true
  | .mk k nm a tx kids => by
    unfold same
    rw [if_neg (by simp)]
    split
    · simp [sameL_refl kids]
    · split <;> simp
theorem sameL_refl : ∀ (l : List Tree), sameL l l = true
  | [] => by unfold sameL; rfl
  | t :: r => by unfold sameL; rw [same_refl t, sameL_refl r]; rfl
end
end Pure
end Go.Proofs.YtipfakmbjajhlaaGreatDoor 
end

section
set_option linter.unusedVariables false
set_option linter.unusedSimpArgs false
namespace Go.Proofs.YtipfakmbjajhlaaGreatDoor 
namespace Pure
def choice (how : Bytes) (k : Nat) : UInt8 := if how = [] then 0 else how.getD (k % how.length) 0
def bitOn (c m : UInt8) : Bool := (c &&& m) == m
def hasB (s : Bytes) (c : UInt8) : Bool := decide (c ∈ s)
def looseHead (c : UInt8) : Bytes := (if bitOn c 1 then remarkW else []) ++ (if bitOn c 2 then askW else [])
def looseQ (c : UInt8) (s : Bytes) : UInt8 := if bitOn c 8 && !hasB s 39 then 39 else 34
def looseAttr (c : UInt8) (a : Attr) : Bytes := [10, 32] ++ toL a.name ++ [61] ++ [looseQ c (escOf a.value true)] ++ escOf a.value true ++ [looseQ c (escOf a.value true)]
def looseTurn (c : UInt8) (l : List Attr) : List Attr := if bitOn c 4 then l.reverse else l
def looseAttrs (c : UInt8) (l : List Attr) : Bytes := (looseTurn c l).flatMap (looseAttr c)
def looseBl (c : UInt8) : Bytes := if bitOn c 16 then [32, 9] else []
mutual
/-- A tree, written loosely behind what there is; how many choices were made. -/
def loT (how : Bytes) : Tree → Bytes × Nat → Bytes × Nat
  | .mk kk nm a tx kids, (b, k) =>
    if kk = 2 then (b ++ looseHead (choice how k) ++ escOf tx false, k + 1)
    else if kids = [] ∧ (choice how k &&& 32) = 0 then (b ++ looseHead (choice how k) ++ ([60] ++ toL nm) ++ looseAttrs (choice how k) a ++ looseBl (choice how k) ++ [47, 62], k + 1)
    else match loL how kids (b ++ looseHead (choice how k) ++ ([60] ++ toL nm) ++ looseAttrs (choice how k) a ++ looseBl (choice how k) ++ [62], k + 1) with
      | (b', k') => (b' ++ ([60, 47] ++ toL nm ++ [32, 62]), k')
def loL (how : Bytes) : List Tree → Bytes × Nat → Bytes × Nat
  | [], p => p
  | t :: r, (b, k) => if b.length > 262144 then (b, k) else loL how r (loT how t (b, k))
end
theorem attrsW_loose (c : UInt8) : ∀ {l : List Attr}, (∀ a ∈ l, AttrOk a) → AttrsW l (l.flatMap (looseAttr c))
  | [], _ => .nil
  | a :: l, h => by
    have ha := h a (List.mem_cons_self ..)
    rw [List.flatMap_cons]
    have e : looseAttr c a = attrW [10, 32] (looseQ c (escOf a.value true)) a := by
      unfold looseAttr attrW
      rw [escOf_eq ha.good ha.len]
      simp
    rw [e]
    refine .cons (by simp) (by decide) ?_ ha (attrsW_loose c fun x hx => h x (List.mem_cons_of_mem _ hx))
    rw [escOf_eq ha.good ha.len]
    unfold looseQ
    split
    · rename_i h1
      right
      simp only [Bool.and_eq_true, Bool.not_eq_true', hasB, decide_eq_false_iff_not] at h1
      exact ⟨rfl, h1.2⟩
    · left; rfl
theorem beginW_loose (c : UInt8) {n : ByteArray} {l : List Attr} (hn : isName (toL n) = true) (h : AttrsOk l) : BeginW n (looseTurn c l) ([60] ++ toL n ++ looseAttrs c l ++ looseBl c) ∧ sortA (looseTurn c l) = l := by
  have hbl : ∀ x ∈ looseBl c, blank x = true := by
    unfold looseBl
    split
    · decide
    · simp
  unfold looseAttrs
  have hlt : (∀ a ∈ looseTurn c l, AttrOk a) ∧ (looseTurn c l).length ≤ 32 ∧ (looseTurn c l).Pairwise (fun a b => a.name ≠ b.name) ∧ sortA (looseTurn c l) = l := by
    have hp := rises_apart h.2.1
    unfold looseTurn
    split
    · refine ⟨fun a ha => h.1 a (List.mem_reverse.1 ha), by rw [List.length_reverse]; exact h.2.2, ?_, sortA_reverse h.2.1⟩
      rw [List.pairwise_reverse]
      exact hp.imp fun h e => h e.symm
    · exact ⟨h.1, h.2.2, hp, sortA_rises h.2.1⟩
  exact ⟨⟨hn, ⟨_, looseBl c, attrsW_loose c hlt.1, hbl, by simp⟩, hlt.2.1, hlt.2.2.1⟩, hlt.2.2.2⟩
theorem fw_head (c : UInt8) {f : List Tree} {s : Bytes} (h : FW f s) : FW f (looseHead c ++ s) := by
  unfold looseHead
  split
  · split
    · rw [List.append_assoc]; exact .remark (.ask h)
    · rw [List.append_nil]; exact .remark h
  · split
    · rw [List.nil_append]; exact .ask h
    · exact h
mutual
theorem lo_tree (how : Bytes) : ∀ (t : Tree) (b : Bytes) (k : Nat), ∃ s, (loT how t (b, k)).1 = b ++ s ∧ ((b ++ s).length ≤ 262144 → nrmT t → okT t → ∀ f s', FW f s' → (t.kind = 2 → startsText f = false) → FW (t :: f) (s ++ s'))
  | .mk kk nm a tx kids, b, k => by
    unfold loT
    by_cases h2 : kk = 2
    · rw [if_pos h2]
      refine ⟨looseHead (choice how k) ++ escOf tx false, by simp, ?_⟩
      intro _ hn ho f s' hf hs
      unfold nrmT at hn
      unfold okT at ho
      subst h2
      rcases ho with ⟨h, _⟩ | ⟨_, g1, g2⟩
      · omega
      rcases hn with ⟨h, _⟩ | ⟨_, n2, rfl, rfl, rfl⟩
      · omega
      rw [List.append_assoc, escOf_eq g1 g2]
      exact fw_head _ (FW.text g1 n2 g2 (hs rfl) hf)
    rw [if_neg h2]
    by_cases h3 : kids = [] ∧ (choice how k &&& 32) = 0
    · rw [if_pos h3]
      refine ⟨looseHead (choice how k) ++ ([60] ++ toL nm ++ looseAttrs (choice how k) a ++ looseBl (choice how k) ++ [47, 62]), by simp, ?_⟩
      intro _ hn ho f s' hf hs
      unfold nrmT at hn
      unfold okT at ho
      rcases ho with ⟨rfl, g1, g2, g3⟩ | ⟨h, _⟩
      · rcases hn with ⟨_, rfl, n3⟩ | ⟨h, _⟩
        · obtain ⟨hb, hsort⟩ := beginW_loose (choice how k) g1 g2
          rw [List.append_assoc]
          have := FW.empty hb hf
          rw [hsort] at this
          obtain ⟨rfl, _⟩ := h3
          have e : ([60] ++ toL nm ++ looseAttrs (choice how k) a ++ looseBl (choice how k) ++ [47, 62] : Bytes) ++ s' = ([60] ++ toL nm ++ looseAttrs (choice how k) a ++ looseBl (choice how k)) ++ 47 :: 62 :: s' := by simp
          rw [e]
          exact fw_head _ this
        · omega
      · exact absurd h h2
    · rw [if_neg h3]
      obtain ⟨s, h4, h5⟩ := lo_list how kids (b ++ looseHead (choice how k) ++ ([60] ++ toL nm) ++ looseAttrs (choice how k) a ++ looseBl (choice how k) ++ [62]) (k + 1)
      refine ⟨looseHead (choice how k) ++ (([60] ++ toL nm ++ looseAttrs (choice how k) a ++ looseBl (choice how k)) ++ 62 :: (s ++ (60 :: 47 :: (toL nm ++ ([32] ++ 62 :: []))))), ?_, ?_⟩
      · show (loL how kids _).1 ++ _ = _
        rw [h4]; simp
      intro hl hn ho f s' hf hs
      unfold nrmT at hn
      unfold okT at ho
      rcases ho with ⟨rfl, g1, g2, g3⟩ | ⟨h, _⟩
      · rcases hn with ⟨_, rfl, n3⟩ | ⟨h, _⟩
        · obtain ⟨hb, hsort⟩ := beginW_loose (choice how k) g1 g2
          have hk := h5 (by
            simp only [List.length_append, List.length_cons, List.length_nil] at hl ⊢
            omega) n3 g3
          have := FW.elem (bl := [32]) hb hk (by decide) hf
          rw [hsort] at this
          rw [List.append_assoc]
          have e : ([60] ++ toL nm ++ looseAttrs (choice how k) a ++ looseBl (choice how k) ++ 62 :: (s ++ (60 :: 47 :: (toL nm ++ ([32] ++ 62 :: [])))) : Bytes) ++ s' = ([60] ++ toL nm ++ looseAttrs (choice how k) a ++ looseBl (choice how k)) ++ 62 :: (s ++ (60 :: 47 :: (toL nm ++ ([32] ++ 62 :: s')))) := by simp
          rw [e]
          exact fw_head _ this
        · omega
      · exact absurd h h2
theorem lo_list (how : Bytes) : ∀ (l : List Tree) (b : Bytes) (k : Nat), ∃ s, (loL how l (b, k)).1 = b ++ s ∧ ((b ++ s).length ≤ 262144 → nrmL l → okL l → FW l s)
  | [], b, k => ⟨[], by unfold loL; simp, fun _ _ _ => .nil⟩
  | t :: r, b, k => by
    unfold loL
    by_cases hb : b.length > 262144
    · rw [if_pos hb]
      exact ⟨[], by simp, fun h => by rw [List.append_nil] at h; omega⟩
    · rw [if_neg hb]
      obtain ⟨s1, h1, h2⟩ := lo_tree how t b k
      obtain ⟨s2, h3, h4⟩ := lo_list how r (b ++ s1) (loT how t (b, k)).2
      have e : loT how t (b, k) = (b ++ s1, (loT how t (b, k)).2) := Prod.ext h1 rfl
      refine ⟨s1 ++ s2, by rw [e, h3, List.append_assoc], ?_⟩
      intro hl hn ho
      have h5 := h4 (by simpa using hl) hn.2.2 ho.2
      exact h2 (by simp only [List.length_append] at hl ⊢; omega) hn.1 ho.1 r s2 h5 hn.2.1
end
/-- WHAT IT IS NOT. -/
theorem loosely {f n : List Tree} (h : normalF f = (n, 0)) (how : Bytes) (hl : (loL how n ([], 0)).1.length ≤ 262144) : parse (loL how n ([], 0)).1 = (n, 0, 0) := by
  have hn := normal_ok h
  obtain ⟨s, h1, h2⟩ := lo_list how n [] 0
  rw [List.nil_append] at h1 h2
  rw [h1] at hl ⊢
  exact (parse_forest (h2 hl hn.nrm hn.ok) hl hn.count hn.depth).1
end Pure
end Go.Proofs.YtipfakmbjajhlaaGreatDoor 
end

section
set_option linter.unusedVariables false
set_option linter.unusedSimpArgs false
namespace Go.Proofs.YtipfakmbjajhlaaGreatDoor 
namespace Pure
def exText : Bytes := [60, 97, 32, 98, 61, 39, 49, 39, 62, 120, 60, 33, 45, 45, 32, 121, 32, 45, 45, 62, 122, 60, 99, 47, 62, 60, 47, 97, 62]
def exForest : List Tree := [elemT ⟨#[97]⟩ [⟨⟨#[98]⟩, ⟨#[49]⟩⟩] [textT ⟨#[120, 122]⟩, elemT ⟨#[99]⟩ [] []]]
def exPrint : Bytes := [60, 97, 32, 98, 61, 34, 49, 34, 62, 120, 122, 60, 99, 47, 62, 60, 47, 97, 62]
def exBad : Bytes := [60, 97, 62, 60, 47, 98, 62]
theorem ex_scan : (scan exText).2 = (0, 0) := by decide +kernel
theorem ex_parse : parse exText = (exForest, 0, 0) := by rfl
theorem ex_print : print exForest = (exPrint, 0) := by rfl
theorem ex_bad : (parse exBad).2 = (3, 40) := by decide +kernel
end Pure
end Go.Proofs.YtipfakmbjajhlaaGreatDoor 
end
