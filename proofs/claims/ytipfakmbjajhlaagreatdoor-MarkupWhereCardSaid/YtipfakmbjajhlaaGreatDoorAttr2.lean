/-
  The reader's method attr.
-/
import Derived.Test.YtipfakmbjajhlaaGreatDoorAttr1
set_option linter.unusedVariables false
set_option linter.unusedSimpArgs false
namespace Go.Proofs.YtipfakmbjajhlaaGreatDoor 
open Go.RowKit Go.Shelf
variable {T : Teller} {B : Nat} {src : ByteArray} {rb : Nat} {st : Pure.St} {w : World}
def encAt (a : Pure.Attr) : Value := .agg #[.string a.name, .string a.value]
/-- Whoever is told knows of a row of attributes. -/
def Knows (T : Teller) (B' : Nat) (av : Value) (l : List Pure.Attr) : Prop := ∀ {evs S w}, T.inv evs S w → w.ownsRow B' 98 2 av l.length (l.flatMap encA)
theorem Knows.with {B' : Nat} {av : Value} {l : List Pure.Attr} (h : Knows T B' av l) (K : Nat → Prop) (Φ : World → Prop) (H : Held K Φ) : Knows (T.with K Φ H) B' av l := by
  rintro evs S w ⟨S1, h1, _⟩
  exact h h1
theorem Knows.row {B' : Nat} {av : Value} {l : List Pure.Attr} (h : Knows T B' av l) (hI : Inv T B src rb st w) : w.ownsRow B' 98 2 av l.length (l.flatMap encA) := by
  obtain ⟨k, ov, tp, tv, S, hm, _, _⟩ := hI.mem
  exact h hm.told
/-- A part of the reader that reads alone: nothing but the rest turns. -/
def ReadsOnly (st s : Pure.St) : Prop := s = { st with rest := s.rest }
theorem name_reads {n : ByteArray} {s : Pure.St} (h : Pure.name st = .ok n s) : ReadsOnly st s := by
  unfold Pure.name at h; split at h
  · cases h; rfl
  · cases h
theorem must_reads {c : UInt8} {u : Unit} {s : Pure.St} (h : Pure.must c st = .ok u s) : ReadsOnly st s := by
  unfold Pure.must at h
  cases hn : Pure.next st with
  | fail l y e => rw [hn] at h; cases h
  | ok d s1 =>
    obtain ⟨rfl, _⟩ := next_same hn
    rw [hn] at h
    change (if _ then _ else _) = _ at h
    split at h
    · cases h
    · cases h; rfl
theorem char_reads {t : Pure.Bytes} {s : Pure.St} (h : Pure.char st = .ok t s) : ReadsOnly st s := by
  unfold Pure.char at h
  split at h
  split at h
  · cases h
  · cases h; rfl
theorem refer_reads {t : Pure.Bytes} {s : Pure.St} (h : Pure.refer st = .ok t s) : ReadsOnly st s := by
  unfold Pure.refer at h
  split at h
  split at h
  · cases h
  · cases h; rfl
theorem first_pos {l : Pure.Bytes} {r n e : Int} (h : Pure.first l = (r, n, e)) (he : e = 0) : 1 ≤ n.toNat ∧ 1 ≤ l.length := by
  unfold Pure.first at h
  split at h
  · simp only [Prod.mk.injEq] at h; omega
  · rename_i h0
    split at h
    · simp only [Prod.mk.injEq] at h; omega
    · simp only [Prod.mk.injEq] at h
      obtain ⟨_, rfl, _⟩ := h
      refine ⟨by omega, ?_⟩
      cases l with
      | nil => exact absurd (by rfl) h0
      | cons => simp
theorem char_less {t : Pure.Bytes} {s : Pure.St} (h : Pure.char st = .ok t s) : s.rest.length < st.rest.length ∧ t.length ≤ st.rest.length := by
  unfold Pure.char at h
  split at h
  rename_i x n e hf
  split at h
  · cases h
  · rename_i he
    have hp := first_pos hf (by simpa using he)
    cases h
    simp only [List.length_drop, List.length_take]
    omega
theorem refPart_pos {l : Pure.Bytes} (h : l ≠ []) : 1 ≤ (Pure.refPart l).length := by
  have hl := List.length_pos_iff.2 h
  unfold Pure.refPart
  dsimp only
  split
  · rw [List.length_take]; omega
  · simp only [List.length_take]; omega
theorem unesc_len : ∀ (f : Nat) (l : Pure.Bytes) (at_ : Int) (acc : Pure.Bytes), acc.length ≤ 16384 → (Pure.unescFrom f l at_ acc).1.length ≤ 16384
  | 0, _, _, _, h => h
  | f + 1, [], _, _, h => by unfold Pure.unescFrom; exact h
  | f + 1, c :: r, at_, acc, h => by
    have key : ∀ Q : Pure.Bytes × Int × Int, (match Q with | (t, n, e) => if (if e = 0 ∧ acc.length + t.length > 16384 then 2 else e) ≠ 0 then ([], at_, if e = 0 ∧ acc.length + t.length > 16384 then 2 else e) else Pure.unescFrom f ((c :: r).drop n.toNat) (at_ + n) (acc ++ t) : Pure.Bytes × Int × Int).1.length ≤ 16384 := by
      rintro ⟨t, n, e⟩
      dsimp only
      by_cases hn' : e = 0 ∧ acc.length + t.length > 16384
      · rw [if_pos hn', if_pos (by decide)]; simp
      · rw [if_neg hn']
        by_cases he : e = 0
        · rw [if_neg (by simpa using he)]
          refine unesc_len f _ _ _ ?_
          rw [List.length_append]; omega
        · rw [if_pos he]; simp
    exact key _
theorem refer_less {t : Pure.Bytes} {s : Pure.St} (h : Pure.refer st = .ok t s) (h0 : st.rest ≠ []) : s.rest.length < st.rest.length ∧ t.length ≤ 16384 := by
  unfold Pure.refer at h
  split at h
  rename_i x n e hf
  split at h
  · cases h
  · cases h
    refine ⟨?_, ?_⟩
    · have := refPart_pos h0
      have := List.length_pos_iff.2 h0
      simp only [List.length_drop]; omega
    · have := unesc_len ((Pure.refPart st.rest).length + 1) (Pure.refPart st.rest) 0 [] (by simp)
      unfold Pure.unescape at hf
      rw [hf] at this
      exact this
theorem ReadsOnly.evs {s : Pure.St} (h : ReadsOnly st s) : s.evs = st.evs := by rw [h]
/-- The attribute's own variable. -/
def VarA (A : Nat) (n v : ByteArray) (w : World) : Prop := w.heap[A]? = some (.cells #[.string n, .string v] 98 (0, 0))
theorem heldA (A : Nat) (n v : ByteArray) : Held (· = A) (VarA A n v) := by
  constructor
  · intro w w' h _ hk
    unfold VarA; rw [hk A rfl]; exact h
  · rintro w k h rfl
    exact ⟨_, _, _, h, by decide, by decide⟩
theorem heldR (A : Nat) : Held (· = A) (fun w => ∃ n v, VarA A n v w) := by
  constructor
  · rintro w w' ⟨n, v, h⟩ hs hk
    exact ⟨n, v, (heldA A n v).keep h hs hk⟩
  · rintro w k ⟨n, v, h⟩ hk
    exact (heldA A n v).kind h hk
theorem Inv.free {K : Nat → Prop} {Φ : World → Prop} {H : Held K Φ} {w' : World} (h : Inv (T.with K Φ H) B src rb st w) (hc : Chg K w w') : Inv T B src rb st w' :=
  (h.turn (H' := heldNone) hc (fun _ h => h.elim) trivial).drop
/-- The attribute's variable and the builder. -/
structure VarB (A C : Nat) (n : ByteArray) (p v : Value) (acc : Pure.Bytes) (w : World) : Prop where
  var : VarA A n ⟨#[]⟩ w
  cell : w.heap[C]? = some (.cells #[p, v] 83 (0, 0))
  own : p = .pointer none ∨ p = .pointer (some ⟨C, 0, none⟩)
  buf : BufAt w 0 v acc
theorem heldB (A C : Nat) (n : ByteArray) (p v : Value) (acc : Pure.Bytes) : Held (fun i => i = A ∨ i = C ∨ v.ownBlock = some i) (VarB A C n p v acc) := by
  constructor
  · intro w w' h _ hk
    refine ⟨?_, by rw [hk C (.inr (.inl rfl))]; exact h.cell, h.own, owns_keep h.buf.1 (fun i hi => hk i (.inr (.inr hi))), h.buf.2⟩
    unfold VarA; rw [hk A (.inl rfl)]; exact h.var
  · intro w k h hk
    rcases hk with rfl | rfl | hk
    · exact ⟨_, _, _, h.var, by decide, by decide⟩
    · exact ⟨_, _, _, h.cell, by decide, by decide⟩
    · rcases h.buf.1.2 with ⟨rfl, _⟩ | ⟨g, cap, cur, rfl, _, hg, _⟩
      · simp [Value.ownBlock] at hk
      · have e : g = k := by simpa [Value.ownBlock] using hk
        subst e
        exact ⟨_, _, _, hg, by decide, by decide⟩
/-- What a round's walk wants. -/
structure AttrCells (T0 : Teller) (w5 : World) (rb k A C R0 : Nat) (src n : ByteArray) (p v : Value) (acc : Pure.Bytes) : Prop where
  r0 : w5.cell? ⟨rb, 0, none⟩ = some (.string src)
  r1 : w5.cell? ⟨rb, 1, none⟩ = some (.int .i64 (k : Int))
  rf : ∀ i, w5.frozen? ⟨rb, i, none⟩ = false
  a0 : w5.cell? ⟨A, 0, none⟩ = some (.string n)
  a1 : w5.cell? ⟨A, 1, none⟩ = some (.string ⟨#[]⟩)
  af : ∀ i, w5.frozen? ⟨A, i, none⟩ = false
  b1 : w5.cell? ⟨C, 1, none⟩ = some v
  g0 : ∃ u, w5.cell? ⟨R0, 0, none⟩ = some u
  g1 : ∃ u, w5.cell? ⟨R0, 1, none⟩ = some u
  gf : ∀ i, w5.frozen? ⟨R0, i, none⟩ = false
  rA : rb ≠ A
  rR : rb ≠ R0
  rC : rb ≠ C
  AR : A ≠ R0
theorem attr_cells {R0 A C k : Nat} {n : ByteArray} {p v : Value} {acc : Pure.Bytes} {T0 : Teller} {w5 : World} (hI : Inv (T0.with _ _ (heldB A C n p v acc)) B src rb { st with rest := (Pure.toL src).drop k } w5) (hk : k ≤ src.size)
    (hR : ∃ n v, VarA R0 n v w5) (hr : rb ≠ R0) (hA : A ≠ R0) : Hid (∃ ov tp tv S, Mem (T0.with _ _ (heldB A C n p v acc)) B src rb k { st with rest := (Pure.toL src).drop k } ov tp tv S w5) ∧ AttrCells T0 w5 rb k A C R0 src n p v acc := by
  obtain ⟨k5, ov5, tp5, tv5, S5, Hm5, hk5, Hr5, Hl5, d0, d1, d2, d3, d4, d5, d6, df⟩ := hI.parts
  obtain rfl : k5 = k := by
    have h1 := Hl5.out
    simp only [List.length_drop, Pure.length_toL] at h1
    omega
  obtain ⟨_, _, _, _, _, _, _, hx, _⟩ := hI.heldApart
  have hv := hI.held
  obtain ⟨na, va, hg⟩ := hR
  refine ⟨⟨ov5, tp5, tv5, S5, Hm5.out⟩, ⟨d0, d1, df, ?_, ?_, fun i => Lib.frozen_of_heap hv.var i, ?_, ⟨.string na, ?_⟩, ⟨.string va, ?_⟩, fun i => Lib.frozen_of_heap hg i, fun h => hx (.inl h), hr, fun h => hx (.inr (.inl h)), hA⟩⟩
  · rw [Lib.cell_of_heap hv.var]; rfl
  · rw [Lib.cell_of_heap hv.var]; rfl
  · rw [Lib.cell_of_heap hv.cell]; rfl
  · rw [Lib.cell_of_heap hg]; rfl
  · rw [Lib.cell_of_heap hg]; rfl
/-- What is kept while the builder's string is made. -/
theorem attr_kept {R0 A C : Nat} {n n0 v0 : ByteArray} {p v z : Value} {acc : Pure.Bytes} {w5 w6 : World} (hV : VarB A C n p v acc w5) (hR : VarA R0 n0 v0 w5) (rA : rb ≠ A) (rR : rb ≠ R0)
    (hc : Chg (fun i => v.ownBlock = some i) (w5.setCell ⟨rb, 1, none⟩ z) w6) :
    VarA A n ⟨#[]⟩ w6 ∧ VarA R0 n0 v0 w6 ∧ (w6.cell? ⟨A, 0, none⟩ = some (.string n) ∧ w6.cell? ⟨A, 1, none⟩ = some (.string ⟨#[]⟩) ∧ (∀ i, w6.frozen? ⟨A, i, none⟩ = false)) ∧
      (w6.cell? ⟨R0, 0, none⟩ = some (.string n0) ∧ w6.cell? ⟨R0, 1, none⟩ = some (.string v0) ∧ (∀ i, w6.frozen? ⟨R0, i, none⟩ = false)) := by
  have h1 : VarA A n ⟨#[]⟩ w6 := by
    refine hc.heap ?_ (hV.buf.ne hV.var (by decide))
    rw [Below.heap_setCell _ _ _ _ (by simpa using rA.symm)]; exact hV.var
  have h2 : VarA R0 n0 v0 w6 := by
    refine hc.heap ?_ (hV.buf.ne hR (by decide))
    rw [Below.heap_setCell _ _ _ _ (by simpa using rR.symm)]; exact hR
  refine ⟨h1, h2, ⟨?_, ?_, fun i => Lib.frozen_of_heap h1 i⟩, ⟨?_, ?_, fun i => Lib.frozen_of_heap h2 i⟩⟩
  · rw [Lib.cell_of_heap h1]; rfl
  · rw [Lib.cell_of_heap h1]; rfl
  · rw [Lib.cell_of_heap h2]; rfl
  · rw [Lib.cell_of_heap h2]; rfl
/-- The attribute is there. -/
theorem attr_end {T0 : Teller} {R0 A C k : Nat} {n n0 v0 : ByteArray} {p v : Value} {acc : Pure.Bytes} {w w5 w6 : World}
    (hI : Inv (T0.with _ _ (heldB A C n p v acc)) B src rb { st with rest := (Pure.toL src).drop k } w5) (hm : ∃ ov tp tv S, Mem (T0.with _ _ (heldB A C n p v acc)) B src rb k { st with rest := (Pure.toL src).drop k } ov tp tv S w5) (hk : k < src.size)
    (hb : Below B w w5) (hB : B ≤ R0) (hc : Chg (fun i => v.ownBlock = some i) (w5.setCell ⟨rb, 1, none⟩ (.int .i64 ((k : Int) + 1))) w6) (hA : VarA A n ⟨#[]⟩ w6) (hR : VarA R0 n0 v0 w6) (AR : A ≠ R0)
    (hback : ∀ {st' w' w'' n v}, Inv T0 B src rb st' w' → Chg (· = R0) w' w'' → VarA R0 n v w'' → Inv T0 B src rb st' w'') :
    VarA R0 n (Pure.ofL acc) (((w6.setCell ⟨A, 1, none⟩ (.string (Pure.ofL acc))).setCell ⟨R0, 0, none⟩ (.string n)).setCell ⟨R0, 1, none⟩ (.string (Pure.ofL acc))) ∧
    Out T0 B src rb w encAt (.ok ⟨n, Pure.ofL acc⟩ { st with rest := (Pure.toL src).drop (k + 1) }) (.returned (.agg #[.string n, .string (Pure.ofL acc)])) (((w6.setCell ⟨A, 1, none⟩ (.string (Pure.ofL acc))).setCell ⟨R0, 0, none⟩ (.string n)).setCell ⟨R0, 1, none⟩ (.string (Pure.ofL acc))) := by
  obtain ⟨ov, tp, tv, S, hm⟩ := hm
  have e1 : ((k + 1 : Nat) : Int) = (k : Int) + 1 := by omega
  have hmv := hI.move hm (k' := k + 1) hk 0
  rw [e1] at hmv
  have hKB : ∀ i, (i = A ∨ i = C ∨ v.ownBlock = some i) → B ≤ i := by
    obtain ⟨_, _, _, _, _, _, _, _, _, _, h, _⟩ := hI.heldApart
    exact h
  have hf := Inv.free (w' := w6.setCell ⟨A, 1, none⟩ (.string (Pure.ofL acc))) hmv ((hc.mono fun i _ hi => .inr (.inr hi)).setCell _ _ (.inl (.inl rfl)))
  have hRA : VarA R0 n0 v0 (w6.setCell ⟨A, 1, none⟩ (.string (Pure.ofL acc))) := by
    unfold VarA; rw [Below.heap_setCell _ _ _ _ (by simpa using AR.symm)]; exact hR
  have hR2 : VarA R0 n (Pure.ofL acc) (((w6.setCell ⟨A, 1, none⟩ (.string (Pure.ofL acc))).setCell ⟨R0, 0, none⟩ (.string n)).setCell ⟨R0, 1, none⟩ (.string (Pure.ofL acc))) :=
    heap_setCell_same (i := 1) (heap_setCell_same (i := 0) hRA (.string n)) (.string (Pure.ofL acc))
  refine ⟨hR2, rfl, hback hf (((chg_setCell _ ⟨R0, 0, none⟩ _)).setCell _ _ (.inl rfl)) hR2, ?_⟩
  have h1 : Below B w6 (((w6.setCell ⟨A, 1, none⟩ (.string (Pure.ofL acc))).setCell ⟨R0, 0, none⟩ (.string n)).setCell ⟨R0, 1, none⟩ (.string (Pure.ofL acc))) :=
    (((Below.refl B w6).setCell (hKB A (.inl rfl)) _).setCell hB _).setCell hB _
  have h2 := hc.below (B := B) (by have := hI.room; simpa using this) (fun i hi => hKB i (.inr (.inr hi)))
  exact ((hb.setCell hI.base _).trans h2).trans h1
/-- A value's loop, at a round. -/
def AttrRel (T : Teller) (B : Nat) (src : ByteArray) (rb : Nat) (w : World) (l : List Pure.Attr) (st s3 : Pure.St) (n : ByteArray) (x : UInt8) (A C : Nat) (m : Nat) (wr : World) : Prop :=
  ∃ k acc p v f, m = src.size - k ∧ k ≤ src.size ∧ src.size - k < f ∧ acc.length ≤ 16384 ∧ Inv (T.with _ _ (heldB A C n p v acc)) B src rb { s3 with rest := (Pure.toL src).drop k } wr ∧ Below B w wr ∧
    Pure.attr l st = (Pure.valueLoop f x acc { s3 with rest := (Pure.toL src).drop k }).bind fun v s => .ok ⟨n, Pure.ofL v⟩ (Pure.skip s)
set_option maxRecDepth 100000 in
set_option maxHeartbeats 3200000 in
theorem attr_R {B' : Nat} {av : Value} {l : List Pure.Attr} (hK : Knows T B' av l) (h : Inv T B src rb st w) (hl : l.length ≤ 32) :
    Calls Tryz.prog 148 #[.pointer (some ⟨rb, 0, none⟩), av] w (Out T B src rb w encAt (Pure.attr l st)) := by
  refine Calls.mono ?_ (fun _ _ h => Out.drop (H := heldR w.heap.size) h)
  obtain ⟨T0, hT0⟩ : ∃ T0, T0 = T.with _ _ (heldR w.heap.size) := ⟨_, rfl⟩
  have h0 : Inv T0 B src rb st (w.alloc (.cells #[.string ⟨#[]⟩, .string ⟨#[]⟩] 98)) := by rw [hT0]; exact h.hold ((Below.refl _ w).alloc (Nat.le_refl _) _) (fun k hk => by subst hk; exact Nat.le_refl _) ⟨_, _, heap_alloc_new _ _⟩
  have hR0 : Hid (∀ {st' w'}, Inv T0 B src rb st' w' → (∃ n v, VarA w.heap.size n v w') ∧ rb ≠ w.heap.size) := by
    intro st' w' h'; rw [hT0] at h'
    obtain ⟨_, _, _, _, _, _, _, hx, _⟩ := h'.heldApart
    exact ⟨h'.held, hx⟩
  have hK0 : Knows T0 B' av l := by rw [hT0]; exact hK.with _ _ _
  have hback : Hid (∀ {st' w' w'' n v}, Inv T0 B src rb st' w' → Chg (· = w.heap.size) w' w'' → VarA w.heap.size n v w'' → Inv T0 B src rb st' w'') := by
    intro st' w' w'' n v h' hc hv; rw [hT0] at h' ⊢
    exact h'.turn hc (fun k hk => .inl hk) ⟨n, v, hv⟩
  rw [← hT0]
  clear hT0
  obtain ⟨k, ov, tp, tv, S, Hm, hk, Hr, Hl, c0, c1, c2, c3, c4, c5, c6, hf⟩ := h0.parts
  obtain ⟨q, c, hav⟩ := owns_form (hK.row h)
  subst hav
  clear hK
  have HN := Lib.hid (name_R h0)
  have Hb0 := Lib.hid (show Below B w (w.alloc (.cells #[.string ⟨#[]⟩, .string ⟨#[]⟩] 98)) from (Below.refl _ w).alloc h.room _)
  have hroom := h.room
  have hlw : w.heap.size < w.heap.size + 1 := by omega
  clear h h0 c0 c2 c3 c4 c5 c6 hf
  go_enter Tryz.func148, Tryz.ntmps148
  go_wp2_with (go_at_call 144; refine (HN.out).mono ?_)
  rintro e1 w1 ho1
  cases hn : Pure.name st with
  | fail lf y ev =>
    have hV : Pure.attr l st = .fail lf y ev := by unfold Pure.attr; rw [hn]; rfl
    rw [hV]
    rw [hn] at ho1
    obtain ⟨rfl, ho⟩ := ho1
    go_wp2_with fail
    exact ⟨rfl, rfl, ho.1, Hb0.out.trans ho.2⟩
  | ok n s1 =>
    rw [hn] at ho1
    obtain ⟨rfl, h1, hb1⟩ := ho1
    have hro := name_reads hn
    have H1 := Lib.hid h1
    have Hb1 := Lib.hid (Hb0.out.trans hb1)
    have hb1' := hb1
    have He1 := Lib.hid hro
    clear h1 hb1
    unfold encS
    by_cases h32 : l.length ≥ 32
    · have hV : Pure.attr l st = .fail st.rest.length 2 st.evs := by unfold Pure.attr; rw [hn]; show (if _ then _ else _) = _; rw [if_pos h32, ]
      have HV := Lib.hid hV
      clear hV hn hro hb1'
      go_wp2_with (go_at_call 96; refine (fail_any _ _ _ _).mono ?_; rintro e' w2 ⟨rfl, rfl⟩)
      have h2 := out_fail (enc := encAt) (why := 2) (left := st.rest.length) (k := k) (H1.out.later ((Below.refl _ w1).alloc (Nat.le_refl _) (.cells #[.string n, .string ⟨#[]⟩] 98))) (Hb1.out.alloc H1.out.room _) Hl.out
      rw [He1.out.evs] at h2
      rw [HV.out]
      exact ⟨rfl, h2⟩
    have hV : Pure.attr l st = if l.any (fun b => b.name == n) then .fail st.rest.length 41 st.evs
      else (Pure.must 61 s1).bind fun _ s => (Pure.next s).bind fun q s => if q ≠ 34 ∧ q ≠ 39 then .fail s.rest.length 3 s.evs else
      (Pure.valueLoop (s.rest.length + 1) q [] (Pure.skip s)).bind fun v s => .ok ⟨n, Pure.ofL v⟩ (Pure.skip s) := by
      unfold Pure.attr; rw [hn]; show (if _ then _ else _) = _; rw [if_neg h32]
    have HV := Lib.hid hV
    clear hV hn
    have hA1 : w.heap.size < w1.heap.size := by have := hb1'.size; simp at this; omega
    clear hb1' hro
    -- the attribute's variable
    have h2 : Inv (T0.with _ _ (heldA w1.heap.size n ⟨#[]⟩)) B src rb s1 (w1.alloc (.cells #[.string n, .string ⟨#[]⟩] 98)) :=
      H1.out.hold ((Below.refl _ w1).alloc (Nat.le_refl _) _) (fun k hk => by subst hk; exact Nat.le_refl _) (heap_alloc_new _ _)
    have HCn := Lib.hid (containsA_any B' n l (.slice q l.length c) w1.heap.size (w1.alloc (.cells #[.string n, .string ⟨#[]⟩] 98)) (Knows.row (T := T0.with _ _ (heldA w1.heap.size n ⟨#[]⟩)) (hK0.with _ _ _) h2) hl (by rw [Lib.cell_of_heap (heap_alloc_new _ _)]; rfl))
    have H2 := Lib.hid h2
    clear h2
    cases hany : l.any (fun b => b.name == n) with
    | true =>
      rw [hany] at HCn HV
      go_wp2_with (first | (go_at_call 157; refine (HCn.out).mono ?_; rintro e' w2 ⟨rfl, hb2⟩; have H3 := Lib.hid (H2.out.later hb2); have Hb2 := Lib.hid (Below.thenNew (Hb1.out.alloc H1.out.room _) H2.out.room hb2); clear hb2) | (go_at_call 96; refine (fail_any _ _ _ _).mono ?_; rintro e' w3 ⟨rfl, rfl⟩))
      have h2 := out_fail (enc := encAt) (why := 41) (left := st.rest.length) (k := k) H3.out.drop Hb2.out Hl.out
      rw [He1.out.evs] at h2
      rw [HV.out, if_pos trivial]
      exact ⟨rfl, h2⟩
    | false =>
      rw [hany] at HCn HV
      go_wp2_with (go_at_call 157; refine (HCn.out).mono ?_; rintro e' w2 ⟨rfl, hb2⟩; have H3 := Lib.hid (H2.out.later hb2); have Hb2 := Lib.hid (Below.thenNew (Hb1.out.alloc H1.out.room _) H2.out.room hb2); clear hb2)
      go_wp2_with (go_at_call 146; refine (must_R 61 H3.out).mono ?_)
      rintro e3 w3 ho3
      cases hm : Pure.must 61 s1 with
      | fail lf y ev =>
        rw [hm] at ho3
        obtain ⟨rfl, ho⟩ := Out.drop ho3
        go_wp2_with fail
        rw [HV.out, if_neg (by decide), hm]
        exact ⟨rfl, rfl, ho.1, Hb2.out.trans ho.2⟩
      | ok u s2 =>
        rw [hm] at ho3 HV
        obtain ⟨rfl, h3, hb3⟩ := ho3
        have H4 := Lib.hid h3
        have Hb4 := Lib.hid (Hb2.out.trans hb3)
        have He2 := Lib.hid (must_reads hm)
        unfold encU
        clear h3 hb3 hm
        go_wp2_with (go_at_call 143; refine (next_R H4.out).mono ?_)
        rintro e4 w4 ho4
        have HV2 : Hid (Pure.attr l st = (Pure.next s2).bind fun q s => if q ≠ 34 ∧ q ≠ 39 then .fail s.rest.length 3 s.evs else
          (Pure.valueLoop (s.rest.length + 1) q [] (Pure.skip s)).bind fun v s => .ok ⟨n, Pure.ofL v⟩ (Pure.skip s)) := HV.out
        clear HV
        cases hx : Pure.next s2 with
        | fail lf y ev =>
          rw [hx] at ho4 HV2
          obtain ⟨rfl, ho⟩ := Out.drop ho4
          go_wp2_with fail
          rw [HV2.out]
          exact ⟨rfl, rfl, ho.1, Hb4.out.trans ho.2⟩
        | ok x s3 =>
          obtain ⟨rfl, r3, hr3⟩ := next_same hx
          rw [hx] at ho4 HV2
          obtain ⟨rfl, h5, hb5⟩ := ho4
          have HV3 : Hid (Pure.attr l st = if x ≠ 34 ∧ x ≠ 39 then .fail s3.rest.length 3 s3.evs else
            (Pure.valueLoop (s3.rest.length + 1) x [] (Pure.skip s3)).bind fun v s => .ok ⟨n, Pure.ofL v⟩ (Pure.skip s)) := HV2.out
          clear HV2
          unfold encB
          obtain ⟨k4, ov4, tp4, tv4, S4, Hm4, hk4, Hr4, Hl4, d0, d1, d2, d3, d4, d5, d6, df⟩ := h5.parts
          have H5 := Lib.hid h5
          have Hb5 := Lib.hid (Hb4.out.trans hb5)
          have Hr3 := Lib.hid hr3
          clear h5 hb5 hx hr3
          by_cases hq : x ≠ 34 ∧ x ≠ 39
          · rw [if_pos hq] at HV3
            have hq1 : ((x.toNat : Int) != 34) = true := by rw [bne_iff_ne]; intro h; exact hq.1 (UInt8.toNat_inj.1 (by show x.toNat = 34; omega))
            have hq2 : ((x.toNat : Int) != 39) = true := by rw [bne_iff_ne]; intro h; exact hq.2 (UInt8.toNat_inj.1 (by show x.toNat = 39; omega))
            clear hq
            go_wp2_with (go_at_call 96; refine (fail_any _ _ _ _).mono ?_; rintro e' w5 ⟨rfl, rfl⟩)
            rw [HV3.out]
            exact ⟨rfl, out_fail H5.out.drop Hb5.out Hl4.out⟩
          · rw [if_neg hq] at HV3
            have hqq : ((x.toNat : Int) != 34) = false ∨ (((x.toNat : Int) != 34) = true ∧ ((x.toNat : Int) != 39) = false) := by
              by_cases h34 : x = 34
              · subst h34; exact .inl rfl
              · by_cases h39 : x = 39
                · subst h39; exact .inr ⟨rfl, rfl⟩
                · exact absurd ⟨h34, h39⟩ hq
            clear hq
            have hlt4 : k4 < src.size := by
              have h1 := Hl4.out
              have h2 := congrArg List.length Hr3.out
              simp only [List.length_cons] at h2
              omega
            have hsz := H5.out.size
            rcases hqq with hq1 | ⟨hq1, hq2⟩
            all_goals go_wp2_with fail
            all_goals
              clear d0 d1 d2 d3 d4 d5 d6 df c1
              go_loopg [] (src.size - (k4 + 1)) (fun m wr => AttrRel T0 B src rb w l st s3 n x w1.heap.size w4.heap.size m wr)
              case atStart =>
                have e1 : ((k4 + 1 : Nat) : Int) = (k4 : Int) + 1 := by omega
                have h6 := H5.out.move Hm4.out (k' := k4 + 1) hlt4 0
                rw [e1] at h6
                have hch : Chg (fun _ => False) (w4.setCell ⟨rb, 1, none⟩ (.int .i64 ((k4 : Int) + 1))) ((w4.setCell ⟨rb, 1, none⟩ (.int .i64 ((k4 : Int) + 1))).alloc (.cells #[.pointer none, .slice none 0 0] 83)) := (Chg.refl _ _).alloc _
                have hnew := heap_alloc_new (w4.setCell ⟨rb, 1, none⟩ (.int .i64 ((k4 : Int) + 1))) (.cells #[.pointer none, .slice none 0 0] 83)
                have hvar : VarA w1.heap.size n ⟨#[]⟩ ((w4.setCell ⟨rb, 1, none⟩ (.int .i64 ((k4 : Int) + 1))).alloc (.cells #[.pointer none, .slice none 0 0] 83)) := (heldA w1.heap.size n ⟨#[]⟩).keep h6.held (by simp) (fun k hk => by subst hk; exact hch.block _ ((heldA _ n ⟨#[]⟩).lt h6.held rfl) (fun h => h))
                have h7 := Inv.turn (H' := heldB w1.heap.size w4.heap.size n (.pointer none) (.slice none 0 0) []) h6 (hch.mono fun _ _ h => h.elim) (fun k hk => by
                  rcases hk with rfl | rfl | hk
                  · exact .inl rfl
                  · exact .inr (by simp)
                  · simp [Value.ownBlock] at hk) ⟨hvar, by simpa using hnew, .inl rfl, BufAt.nil _ _⟩
                refine ⟨k4 + 1, [], .pointer none, .slice none 0 0, s3.rest.length + 1, rfl, hlt4, by have := Hl4.out; omega, by simp, ?_, ?_, ?_⟩
                · exact h7
                · exact (Hb5.out.setCell H5.out.base _).alloc (by have := H5.out.room; simpa using this) _
                · rw [HV3.out]
                  have : Pure.skip s3 = { s3 with rest := (Pure.toL src).drop (k4 + 1) } := by unfold Pure.skip; rw [Hr4.out, List.drop_drop]
                  rw [this]
              case round =>
                obtain ⟨k, acc, p, v, f, rfl, hk, hf, hac, hI, hb, hV⟩ := hrel
                obtain ⟨k5, ov5, tp5, tv5, S5, Hm5, hk5, Hr5, Hl5, d0, d1, d2, d3, d4, d5, d6, df⟩ := hI.parts
                obtain rfl : k5 = k := by
                  have h1 := Hl5.out
                  simp only [List.length_drop, Pure.length_toL] at h1
                  omega
                have HNx := Lib.hid (next_R hI)
                have HI := Lib.hid hI
                have Hb := Lib.hid hb
                obtain ⟨f, rfl⟩ : ∃ f', f = f' + 1 := ⟨f - 1, by omega⟩
                unfold Pure.valueLoop at hV
                have HVL := Lib.hid hV
                clear hI hb hV
                by_cases hend : k5 = src.size
                · have hnx : Pure.next { s3 with rest := (Pure.toL src).drop k5 } = .fail 0 4 s3.evs := by unfold Pure.next; rw [hend, ← Pure.length_toL, List.drop_length]
                  rw [hnx] at HNx HVL
                  go_wp2_with (go_at_call 143; refine (HNx.out).mono ?_; rintro e' w5 ho; replace ho := Out.drop ho; obtain ⟨rfl, ho⟩ := ho)
                  rw [HVL.out]
                  exact ⟨rfl, rfl, ho.1, Hb.out.trans ho.2⟩
                have hlt : k5 < src.size := by omega
                have hnx : Pure.next { s3 with rest := (Pure.toL src).drop k5 } = .ok src[k5] { s3 with rest := (Pure.toL src).drop k5 } := by unfold Pure.next; simp only [drop_cons src k5 hlt]
                rw [hnx] at HNx HVL
                have HVM : Hid (Pure.attr l st = (if src[k5] = x then .ok acc { s3 with rest := (Pure.toL src).drop k5 } else if src[k5] = 60 then .fail (src.size - k5) 3 s3.evs
                  else ((if src[k5] = 38 then Pure.refer { s3 with rest := (Pure.toL src).drop k5 } else Pure.char { s3 with rest := (Pure.toL src).drop k5 }).bind fun t s' => if acc.length + t.length > 16384 then .fail (src.size - k5) 2 s3.evs else Pure.valueLoop f x (acc ++ t) s') : Pure.R Pure.Bytes).bind fun v s => .ok ⟨n, Pure.ofL v⟩ (Pure.skip s)) := by
                  have := HVL.out
                  rw [bind_ok] at this
                  simp only [List.length_drop, Pure.length_toL] at this
                  exact this
                clear HVL hnx
                have hAR : w1.heap.size ≠ w.heap.size := by omega
                clear d0 d1 d2 d3 d4 d5 d6 df Hm5
                by_cases hx : src[k5] = x
                · rw [if_pos hx] at HVM
                  have hxn : ((src[k5].toNat : Int) != (x.toNat : Int)) = false := by rw [hx]; exact bne_self_eq_false _
                  go_wp2_with (go_at_call 143; refine (HNx.out).mono ?_)
                  rintro e5 w5 ⟨rfl, h5, hb5⟩
                  obtain ⟨hm5, hC5⟩ := attr_cells h5 hk5 (hR0.out h5.drop).1 (hR0.out h5.drop).2 hAR
                  obtain ⟨r0, r1, rf, a0, a1, af, b1, ⟨u0, g0⟩, ⟨u1, g1⟩, gf, rA, rR, rC, AR⟩ := hC5
                  have HS5 : Hid (∀ z, Calls Tryz.prog 50 #[.pointer (some ⟨w4.heap.size, 0, none⟩)] (w5.setCell ⟨rb, 1, none⟩ z) (StrPost v acc (w5.setCell ⟨rb, 1, none⟩ z))) := by
                    intro z
                    refine bString_any w4.heap.size 0 0 v acc _ ?_ ?_
                    · exact (chg_setCell w5 ⟨rb, 1, none⟩ z).cell b1 (fun h => rC h.symm)
                    · refine h5.held.buf.kept (chg_setCell w5 ⟨rb, 1, none⟩ z) fun i hi => ?_
                      obtain ⟨_, _, _, _, _, _, _, hx', _⟩ := h5.heldApart
                      rintro rfl
                      exact hx' (.inr (.inr hi))
                  have HI5 := Lib.hid h5
                  have Hb5' := Lib.hid (Hb.out.trans hb5)
                  clear h5 hb5
                  unfold encB
                  go_wp2_with (go_at_call 50; refine (HS5.out _).mono ?_)
                  rintro e6 w6 ⟨rfl, hc6⟩
                  obtain ⟨⟨n0, v0, hg0⟩, _⟩ := hR0.out HI5.out.drop
                  obtain ⟨hA6, hR6, ⟨p0, p1, pf⟩, ⟨q0, q1, qf⟩⟩ := attr_kept HI5.out.held hg0 rA rR hc6
                  have HA6 := Lib.hid hA6
                  have HR6 := Lib.hid hR6
                  have HC6 := Lib.hid hc6
                  clear hA6 hR6 hc6 hg0 r0 r1 rf a0 a1 af b1 g0 g1 gf
                  go_wp2_with fail
                  obtain ⟨hv, hend'⟩ := attr_end HI5.out hm5.out hlt Hb5'.out hroom HC6.out HA6.out HR6.out AR hback.out
                  refine bodyPost_ret (results_cell_row rfl _ _ w.heap.size 98 #[.string n, .string (Pure.ofL acc)] (0, 0) _ rfl hv Tryz.underlying98 rfl (by kernel_rfl)) rfl ?_
                  have hfin : Pure.attr l st = .ok ⟨n, Pure.ofL acc⟩ { s3 with rest := (Pure.toL src).drop (k5 + 1) } := by
                    rw [HVM.out, bind_ok]; unfold Pure.skip; simp only [List.drop_drop]
                  rw [hfin]
                  exact hend'
                · rw [if_neg hx] at HVM
                  have hxn : ((src[k5].toNat : Int) != (x.toNat : Int)) = true := by rw [bne_iff_ne]; intro h; apply hx; exact UInt8.toNat_inj.1 (by omega)
                  by_cases h60 : src[k5] = 60
                  · rw [if_pos h60] at HVM
                    have h60' : ((src[k5].toNat : Int) == 60) = true := by rw [h60]; rfl
                    clear hx h60
                    go_wp2_with (go_at_call 143; refine (HNx.out).mono ?_)
                    rintro e5 w5 ⟨rfl, h5, hb5⟩
                    obtain ⟨hm5, hC5⟩ := attr_cells h5 hk5 (hR0.out h5.drop).1 (hR0.out h5.drop).2 hAR
                    obtain ⟨r0, r1, rf, a0, a1, af, b1, ⟨u0, g0⟩, ⟨u1, g1⟩, gf, rA, rR, rC, AR⟩ := hC5
                    have HI5 := Lib.hid h5
                    have Hb5' := Lib.hid (Hb.out.trans hb5)
                    clear h5 hb5
                    unfold encB
                    go_wp2_with (go_at_call 96; refine (fail_any _ _ _ _).mono ?_; rintro e' w6 ⟨rfl, rfl⟩)
                    rw [HVM.out]
                    have hof := out_fail (enc := encAt) (why := 3) HI5.out.drop Hb5'.out (show (src.size - k5) + k5 = src.size by omega)
                    exact ⟨rfl, hof⟩
                  · rw [if_neg h60] at HVM
                    have h60' : ((src[k5].toNat : Int) == 60) = false := by rw [beq_eq_false_iff_ne]; intro h; apply h60; exact UInt8.toNat_inj.1 (by show src[k5].toNat = 60; omega)
                    by_cases h38 : src[k5] = 38
                    · rw [if_pos h38] at HVM
                      have h38' : ((src[k5].toNat : Int) == 38) = true := by rw [h38]; rfl
                      clear hx h60 h38
                      go_wp2_with (go_at_call 143; refine (HNx.out).mono ?_)
                      rintro e5 w5 ⟨rfl, h5, hb5⟩
                      obtain ⟨hm5, hC5⟩ := attr_cells h5 hk5 (hR0.out h5.drop).1 (hR0.out h5.drop).2 hAR
                      obtain ⟨r0, r1, rf, a0, a1, af, b1, ⟨u0, g0⟩, ⟨u1, g1⟩, gf, rA, rR, rC, AR⟩ := hC5
                      have HI5 := Lib.hid h5
                      have Hb5' := Lib.hid (Hb.out.trans hb5)
                      clear h5 hb5
                      unfold encB
                      have HRd := Lib.hid (refer_R HI5.out)
                      cases hrd : Pure.refer { s3 with rest := (Pure.toL src).drop k5 } with
                      | fail lf y ev =>
                        rw [hrd] at HVM HRd
                        go_wp2_with (go_at_call 116; refine (HRd.out).mono ?_; rintro e' w6 ho; replace ho := Out.drop ho; obtain ⟨rfl, ho⟩ := ho)
                        rw [HVM.out]
                        exact ⟨rfl, rfl, ho.1, Hb5'.out.trans ho.2⟩
                      | ok t s6 =>
                        have hro := refer_reads hrd
                        have hls := refer_less hrd (by rw [drop_cons src k5 hlt]; simp)
                        rw [hrd] at HVM HRd
                        go_wp2_with (go_at_call 116; refine (HRd.out).mono ?_)
                        rintro e6 w6 ⟨rfl, h6, hb6⟩
                        obtain ⟨k6, hk6, hr6, hk56⟩ : ∃ k6, k6 ≤ src.size ∧ s6.rest = (Pure.toL src).drop k6 ∧ k5 < k6 := by
                          obtain ⟨k6, _, _, _, _, _, h1, h2⟩ := h6.mem
                          have h3 := hls.1
                          rw [h2] at h3
                          simp only [List.length_drop, Pure.length_toL] at h3
                          exact ⟨k6, h1, h2, by omega⟩
                        have hs6 : s6 = { s3 with rest := (Pure.toL src).drop k6 } := by rw [hro, hr6]
                        clear hro hr6
                        subst hs6
                        obtain ⟨hm6, hC6⟩ := attr_cells h6 hk6 (hR0.out h6.drop).1 (hR0.out h6.drop).2 hAR
                        clear r0 r1 rf a0 a1 af b1 g0 g1 gf rA rR rC AR hm5
                        obtain ⟨r0, r1, rf, a0, a1, af, b1, _, _, gf, rA, rR, rC, AR⟩ := hC6
                        obtain ⟨q6, c6, hv6⟩ := h6.held.buf.form
                        have HL6 := Lib.hid (fun W hc => bLen_any w4.heap.size 0 v acc.length q6 c6 W hv6 hc)
                        have htl : t.length ≤ 262144 := by
                          have h3 := hls.2
                          try simp only [List.length_drop, Pure.length_toL] at h3
                          omega
                        have hts : (Pure.ofL t).size = t.length := by rw [← Pure.length_toL, Pure.toL_ofL]
                        have hW6 := bWriteAt_any w4.heap.size 0 #[p, v] 83 0 p v acc (Pure.ofL t) w6 h6.held.cell rfl rfl placeBuilder h6.held.own (by decide) h6.held.buf (Nat.zero_le _) (by rw [hts]; omega)
                        rw [Pure.toL_ofL] at hW6
                        have HW6 := Lib.hid hW6
                        have HI6 := Lib.hid h6
                        have Hb6 := Lib.hid (Hb5'.out.trans hb6)
                        have HTL := Lib.hid htl
                        clear h6 hb6 hW6 hls hrd hv6
                        by_cases hbig : acc.length + t.length > 16384
                        · have HVF : Hid (Pure.attr l st = .fail (src.size - k5) 2 s3.evs) := by
                            have := HVM.out
                            rw [bind_ok, if_pos hbig] at this
                            exact this
                          clear HVM
                          have hbg : decide ((16384 : Int) < (acc.length : Int) + ((Pure.ofL t).size : Int)) = true := by rw [hts]; exact decide_eq_true (by omega)
                          go_wp2_with (first | (go_at_call 91; refine (HL6.out _ b1).mono ?_; rintro e7 w7 ⟨rfl, rfl⟩) | (go_at_call 96; refine (fail_any _ _ _ _).mono ?_; rintro e7 w7 ⟨rfl, rfl⟩))
                          rw [HVF.out]
                          have hof := out_fail (enc := encAt) (why := 2) (k := k5) HI6.out.drop Hb6.out (show (src.size - k5) + k5 = src.size by omega)
                          exact ⟨rfl, hof⟩
                        · have HVF : Hid (Pure.attr l st = (Pure.valueLoop f x (acc ++ t) { s3 with rest := (Pure.toL src).drop k6 }).bind fun v s => .ok ⟨n, Pure.ofL v⟩ (Pure.skip s)) := by
                            have := HVM.out
                            rw [bind_ok, if_neg hbig] at this
                            exact this
                          clear HVM
                          have hbg : decide ((16384 : Int) < (acc.length : Int) + ((Pure.ofL t).size : Int)) = false := by rw [hts]; exact decide_eq_false (by omega)
                          go_wp2_with (first | (go_at_call 91; refine (HL6.out _ b1).mono ?_; rintro e7 w7 ⟨rfl, rfl⟩) | (go_at_call 99; refine (HW6.out).mono ?_; rintro e7 w7 ⟨rfl, hpost⟩))
                          go_roundg (src.size - k6)
                          case measure => omega
                          case rel =>
                            obtain ⟨v', g1, g2, g3, g4⟩ := hpost
                            have hC : Chg (fun i => i = w1.heap.size ∨ i = w4.heap.size ∨ v.ownBlock = some i) w6 w7 := g3.mono fun i _ hi => .inr hi
                            have hvar : VarA w1.heap.size n ⟨#[]⟩ w7 := by
                              refine g3.heap HI6.out.held.var ?_
                              rintro (h | h)
                              · have := HI6.out.held.var.symm.trans (h ▸ HI6.out.held.cell)
                                simp at this
                              · exact HI6.out.held.buf.ne HI6.out.held.var (by decide) h
                            refine ⟨k6, acc ++ t, .pointer (some ⟨w4.heap.size, 0, none⟩), v', f, rfl, hk6, by omega, by rw [List.length_append]; omega, ?_, Hb6.out.trans (hC.below HI6.out.room ?_), HVF.out⟩
                            · refine HI6.out.turn hC (fun i hi => ?_) ⟨hvar, g2, .inr rfl, g1⟩
                              rcases hi with hi | hi | hi
                              · exact .inl (.inl hi)
                              · exact .inl (.inr (.inl hi))
                              · rcases g4 i hi with h | h
                                · exact .inl (.inr (.inr h))
                                · exact .inr h
                            · obtain ⟨_, _, _, _, _, _, _, _, _, _, h, _⟩ := HI6.out.heldApart
                              exact h
                    · rw [if_neg h38] at HVM
                      have h38' : ((src[k5].toNat : Int) == 38) = false := by rw [beq_eq_false_iff_ne]; intro h; apply h38; exact UInt8.toNat_inj.1 (by show src[k5].toNat = 38; omega)
                      clear hx h60 h38
                      go_wp2_with (go_at_call 143; refine (HNx.out).mono ?_)
                      rintro e5 w5 ⟨rfl, h5, hb5⟩
                      obtain ⟨hm5, hC5⟩ := attr_cells h5 hk5 (hR0.out h5.drop).1 (hR0.out h5.drop).2 hAR
                      obtain ⟨r0, r1, rf, a0, a1, af, b1, ⟨u0, g0⟩, ⟨u1, g1⟩, gf, rA, rR, rC, AR⟩ := hC5
                      have HI5 := Lib.hid h5
                      have Hb5' := Lib.hid (Hb.out.trans hb5)
                      clear h5 hb5
                      unfold encB
                      have HRd := Lib.hid (char_R HI5.out)
                      cases hrd : Pure.char { s3 with rest := (Pure.toL src).drop k5 } with
                      | fail lf y ev =>
                        rw [hrd] at HVM HRd
                        go_wp2_with (go_at_call 117; refine (HRd.out).mono ?_; rintro e' w6 ho; replace ho := Out.drop ho; obtain ⟨rfl, ho⟩ := ho)
                        rw [HVM.out]
                        exact ⟨rfl, rfl, ho.1, Hb5'.out.trans ho.2⟩
                      | ok t s6 =>
                        have hro := char_reads hrd
                        have hls := char_less hrd
                        rw [hrd] at HVM HRd
                        go_wp2_with (go_at_call 117; refine (HRd.out).mono ?_)
                        rintro e6 w6 ⟨rfl, h6, hb6⟩
                        obtain ⟨k6, hk6, hr6, hk56⟩ : ∃ k6, k6 ≤ src.size ∧ s6.rest = (Pure.toL src).drop k6 ∧ k5 < k6 := by
                          obtain ⟨k6, _, _, _, _, _, h1, h2⟩ := h6.mem
                          have h3 := hls.1
                          rw [h2] at h3
                          simp only [List.length_drop, Pure.length_toL] at h3
                          exact ⟨k6, h1, h2, by omega⟩
                        have hs6 : s6 = { s3 with rest := (Pure.toL src).drop k6 } := by rw [hro, hr6]
                        clear hro hr6
                        subst hs6
                        obtain ⟨hm6, hC6⟩ := attr_cells h6 hk6 (hR0.out h6.drop).1 (hR0.out h6.drop).2 hAR
                        clear r0 r1 rf a0 a1 af b1 g0 g1 gf rA rR rC AR hm5
                        obtain ⟨r0, r1, rf, a0, a1, af, b1, _, _, gf, rA, rR, rC, AR⟩ := hC6
                        obtain ⟨q6, c6, hv6⟩ := h6.held.buf.form
                        have HL6 := Lib.hid (fun W hc => bLen_any w4.heap.size 0 v acc.length q6 c6 W hv6 hc)
                        have htl : t.length ≤ 262144 := by
                          have h3 := hls.2
                          try simp only [List.length_drop, Pure.length_toL] at h3
                          omega
                        have hts : (Pure.ofL t).size = t.length := by rw [← Pure.length_toL, Pure.toL_ofL]
                        have hW6 := bWriteAt_any w4.heap.size 0 #[p, v] 83 0 p v acc (Pure.ofL t) w6 h6.held.cell rfl rfl placeBuilder h6.held.own (by decide) h6.held.buf (Nat.zero_le _) (by rw [hts]; omega)
                        rw [Pure.toL_ofL] at hW6
                        have HW6 := Lib.hid hW6
                        have HI6 := Lib.hid h6
                        have Hb6 := Lib.hid (Hb5'.out.trans hb6)
                        have HTL := Lib.hid htl
                        clear h6 hb6 hW6 hls hrd hv6
                        by_cases hbig : acc.length + t.length > 16384
                        · have HVF : Hid (Pure.attr l st = .fail (src.size - k5) 2 s3.evs) := by
                            have := HVM.out
                            rw [bind_ok, if_pos hbig] at this
                            exact this
                          clear HVM
                          have hbg : decide ((16384 : Int) < (acc.length : Int) + ((Pure.ofL t).size : Int)) = true := by rw [hts]; exact decide_eq_true (by omega)
                          go_wp2_with (first | (go_at_call 91; refine (HL6.out _ b1).mono ?_; rintro e7 w7 ⟨rfl, rfl⟩) | (go_at_call 96; refine (fail_any _ _ _ _).mono ?_; rintro e7 w7 ⟨rfl, rfl⟩))
                          rw [HVF.out]
                          have hof := out_fail (enc := encAt) (why := 2) (k := k5) HI6.out.drop Hb6.out (show (src.size - k5) + k5 = src.size by omega)
                          exact ⟨rfl, hof⟩
                        · have HVF : Hid (Pure.attr l st = (Pure.valueLoop f x (acc ++ t) { s3 with rest := (Pure.toL src).drop k6 }).bind fun v s => .ok ⟨n, Pure.ofL v⟩ (Pure.skip s)) := by
                            have := HVM.out
                            rw [bind_ok, if_neg hbig] at this
                            exact this
                          clear HVM
                          have hbg : decide ((16384 : Int) < (acc.length : Int) + ((Pure.ofL t).size : Int)) = false := by rw [hts]; exact decide_eq_false (by omega)
                          go_wp2_with (first | (go_at_call 91; refine (HL6.out _ b1).mono ?_; rintro e7 w7 ⟨rfl, rfl⟩) | (go_at_call 99; refine (HW6.out).mono ?_; rintro e7 w7 ⟨rfl, hpost⟩))
                          go_roundg (src.size - k6)
                          case measure => omega
                          case rel =>
                            obtain ⟨v', g1, g2, g3, g4⟩ := hpost
                            have hC : Chg (fun i => i = w1.heap.size ∨ i = w4.heap.size ∨ v.ownBlock = some i) w6 w7 := g3.mono fun i _ hi => .inr hi
                            have hvar : VarA w1.heap.size n ⟨#[]⟩ w7 := by
                              refine g3.heap HI6.out.held.var ?_
                              rintro (h | h)
                              · have := HI6.out.held.var.symm.trans (h ▸ HI6.out.held.cell)
                                simp at this
                              · exact HI6.out.held.buf.ne HI6.out.held.var (by decide) h
                            refine ⟨k6, acc ++ t, .pointer (some ⟨w4.heap.size, 0, none⟩), v', f, rfl, hk6, by omega, by rw [List.length_append]; omega, ?_, Hb6.out.trans (hC.below HI6.out.room ?_), HVF.out⟩
                            · refine HI6.out.turn hC (fun i hi => ?_) ⟨hvar, g2, .inr rfl, g1⟩
                              rcases hi with hi | hi | hi
                              · exact .inl (.inl hi)
                              · exact .inl (.inr (.inl hi))
                              · rcases g4 i hi with h | h
                                · exact .inl (.inr (.inr h))
                                · exact .inr h
                            · obtain ⟨_, _, _, _, _, _, _, _, _, _, h, _⟩ := HI6.out.heldApart
                              exact h
end Go.Proofs.YtipfakmbjajhlaaGreatDoor 
