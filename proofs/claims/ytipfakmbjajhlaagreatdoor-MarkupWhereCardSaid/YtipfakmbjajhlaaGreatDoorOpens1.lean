/-
  The reader's methods opens and closes: what holds behind the telling.
-/
import Derived.Test.YtipfakmbjajhlaaGreatDoorAttr2
set_option linter.unusedVariables false
set_option linter.unusedSimpArgs false
namespace Go.Proofs.YtipfakmbjajhlaaGreatDoor 
open Go.RowKit Go.Shelf
variable {T : Teller} {B : Nat} {src : ByteArray} {rb : Nat} {st : Pure.St} {w : World}
/-- Whatever was told: what holds of the reader behind it. -/
theorem Mem.tells {k : Nat} {ov tp tv : Value} {S S' SA : Nat → Prop} {w2 : World} {evs : List Pure.Event} (h : Mem T B src rb k st ov tp tv S w) (hB : B ≤ w.heap.size) (hc : Chg (fun i => S i ∨ SA i) w w2)
    (hSA : ∀ i, SA i → i ≠ rb ∧ ov.ownBlock ≠ some i ∧ tv.ownBlock ≠ some i ∧ B ≤ i) (ht : T.inv evs S' w2) (hS' : ∀ i, S' i → S i ∨ SA i ∨ w.heap.size ≤ i) : Mem T B src rb k { st with evs := evs } ov tp tv S' w2 := by
  have hlt := lt_of_block h.rd
  refine ⟨?_, owns_keep h.opn fun i hi => hc.block i (h.opn.lt i hi).2 ?_, h.own, ⟨owns_keep h.buf.1 fun i hi => hc.block i (h.buf.1.lt i hi).2 ?_, h.buf.2⟩, ht, fun i hi => ?_, fun i hi hS => ?_⟩
  · unfold RdAt; rw [hc.block rb hlt (by rintro (h1 | h1); exact h.ne_rb h1; exact (hSA _ h1).1 rfl)]; exact h.rd
  · rintro (h1 | h1)
    · exact h.ne_ovS i hi h1
    · exact (hSA _ h1).2.1 hi
  · rintro (h1 | h1)
    · exact h.apart i hi h1
    · exact (hSA _ h1).2.2.1 hi
  · rcases hS' i hi with h1 | h1 | h1
    · exact h.above i h1
    · exact (hSA _ h1).2.2.2
    · omega
  · rcases hS' i hS with h1 | h1 | h1
    · exact h.apart i hi h1
    · exact (hSA _ h1).2.2.1 hi
    · have := (h.buf.1.lt i hi).2; omega
/-- An event's variable, and its row of attributes. -/
structure VarX (X : Nat) (n : ByteArray) (av : Value) (l : List Pure.Attr) (w : World) : Prop where
  var : w.heap[X]? = some (.cells #[.int .i64 1, .string n, av, .string ⟨#[]⟩] 49 (0, 0))
  row : w.ownsRow 0 98 2 av l.length (l.flatMap encA)
theorem heldRow (X : Nat) (n : ByteArray) (av : Value) (l : List Pure.Attr) : Held (fun i => i = X ∨ av.ownBlock = some i) (VarX X n av l) := by
  constructor
  · intro w w' h _ hk
    exact ⟨by rw [hk X (.inl rfl)]; exact h.var, owns_keep h.row fun i hi => hk i (.inr hi)⟩
  · intro w k h hk
    rcases hk with rfl | hk
    · exact ⟨_, _, _, h.var, by decide, by decide⟩
    rcases h.row.2 with ⟨rfl, _⟩ | ⟨g, cap, cur, rfl, _, hg, _⟩
    · simp [Value.ownBlock] at hk
    · have e : g = k := by simpa [Value.ownBlock] using hk
      subst e
      exact ⟨_, _, _, hg, by decide, by decide⟩
theorem rowKnows (X : Nat) (n : ByteArray) (av : Value) (l : List Pure.Attr) : Knows (T.with _ _ (heldRow X n av l)) 0 av l := by
  rintro evs S w ⟨_, _, _, _, h⟩
  exact h.row
/-- A row of attributes reads so. -/
theorem attrs_of_row {av : Value} {l : List Pure.Attr} {n B' : Nat} (h : w.ownsRow B' 98 2 av n (l.flatMap encA)) (hn : n = l.length) : AttrsAt w (fun i => av.ownBlock = some i) av l := by
  subst hn
  rcases h.2 with ⟨rfl, h0⟩ | ⟨g, cap, cur, rfl, _, hg, hc, _, hs, ht⟩
  · exact ⟨none, 0, by rw [h0], by omega, .inl (List.length_eq_zero_iff.1 h0)⟩
  · refine ⟨_, cap, rfl, hc, .inr ⟨g, 0, rfl, rfl, fun i hi => ?_⟩⟩
    have h1 := flatMap_get l i hi
    have e : ∀ j, w.cell? ⟨g, j, none⟩ = cur[j]? := fun j => Lib.cell_of_heap hg _
    refine ⟨?_, ?_⟩
    · rw [e, ← h1.1, ← ht, List.getElem?_take_of_lt (by omega), Array.getElem?_toList]; congr 1; omega
    · rw [e, ← h1.2, ← ht, List.getElem?_take_of_lt (by omega), Array.getElem?_toList]; congr 1; omega
theorem row_kind {av : Value} {n B' : Nat} {xs : List Value} (h : w.ownsRow B' 98 2 av n xs) : ∀ i, av.ownBlock = some i → ∃ c f, w.heap[i]? = some (.cells c 98 f) := by
  intro i hi
  rcases h.2 with ⟨rfl, _⟩ | ⟨g, cap, cur, rfl, _, hg, _⟩
  · simp [Value.ownBlock] at hi
  · have e : g = i := by simpa [Value.ownBlock] using hi
    subst e
    exact ⟨_, _, hg⟩
/-- What the reader has when an element begins: it may tell two events more, and open one. -/
structure Begun (st : Pure.St) : Prop where
  wf : depthOf st.evs = some st.opn.length
  txt : st.txt = []
  few : st.evs.length + st.opn.length + 2 ≤ 2 * st.nodes
  nodes : st.nodes ≤ 4096
  deep : st.opn.length < 64
theorem depth_start {s : Pure.St} (h : Begun s) (n : ByteArray) (l : List Pure.Attr) : depthOf (s.evs ++ [Pure.startE n l]) = some (s.opn.length + 1) := by
  rw [depthOf_snoc, h.wf]; rfl
theorem depth_end {evs : List Pure.Event} {d : Nat} (h : depthOf evs = some (d + 1)) (n : ByteArray) : depthOf (evs ++ [Pure.endE n]) = some d := by
  rw [depthOf_snoc, h]; rfl
/-- An element's beginning is told, its attributes sorted. -/
theorem tell_start {s : Pure.St} (hs : Begun s) {k : Nat} {ov tp tv av : Value} {S : Nat → Prop} {w0 w1 : World} {n : ByteArray} {l : List Pure.Attr} (hm : Mem T B src rb k s ov tp tv S w) (hSA : ∀ i, av.ownBlock = some i → ¬ S i)
    (hw0 : w0.heap = w.heap) (hrow : w1.ownsRow 0 98 2 av l.length ((Pure.sortA l).flatMap encA)) (hc : Chg (fun i => av.ownBlock = some i) w0 w1) (hl : l.length ≤ 32) :
    Calls Tryz.prog T.fn (#[vEvent (Pure.startE n l) av] ++ T.cap) w1 fun e w2 => e = .returned (.tuple #[]) ∧ ∃ S', T.inv (s.evs ++ [Pure.startE n l]) S' w2 ∧ (∀ i, S' i → S i ∨ av.ownBlock = some i ∨ w1.heap.size ≤ i) ∧ Chg S w1 w2 := by
  have hsz := hc.size
  have ht : T.inv s.evs S w1 := T.keep hm.told (by rw [← hw0]; exact hsz) (fun i hi => by rw [hc.block i (by rw [hw0]; exact T.lt hm.told hi) (fun h => hSA i h hi), hw0])
  have hk := row_kind hrow
  exact T.call (ev := Pure.startE n l) (SA := fun i => av.ownBlock = some i) ht (attrs_of_row hrow (sortA_length l).symm) (fun i hi => ⟨hSA i hi, hk i hi⟩) (by show (Pure.sortA l).length ≤ 32; rw [sortA_length]; exact hl)
    (by rw [depth_start hs]; rfl) (by have := hs.few; have := hs.nodes; omega) (.inl rfl) (fun h => absurd rfl h)
/-- An element's end is told. -/
theorem tell_end {evs : List Pure.Event} {S : Nat → Prop} {w1 : World} {n : ByteArray} {d : Nat} (ht : T.inv evs S w1) (hd : depthOf evs = some (d + 1)) (hf : evs.length < 9000) :
    Calls Tryz.prog T.fn (#[.agg #[.int .i64 3, .string n, .slice none 0 0, .string ⟨#[]⟩]] ++ T.cap) w1 fun e w2 => e = .returned (.tuple #[]) ∧ ∃ S', T.inv (evs ++ [Pure.endE n]) S' w2 ∧ (∀ i, S' i → S i ∨ w1.heap.size ≤ i) ∧ Chg S w1 w2 := by
  refine (T.call (ev := Pure.endE n) (av := .slice none 0 0) (SA := fun _ => False) ht (attrs_nil _ _) (fun _ h => h.elim) (Nat.zero_le _) (by rw [depth_end hd]; rfl) hf (.inr (.inr rfl)) (fun _ => rfl)).mono ?_
  rintro e w' ⟨he, S', h1, h2, h3⟩
  exact ⟨he, S', h1, fun k hk => by rcases h2 k hk with h | h | h; exact .inl h; exact h.elim; exact .inr h, h3⟩
/-- An Inv whose events and elements have turned. -/
theorem Inv.retell {s s' : Pure.St} {k : Nat} {ov tp tv : Value} {S : Nat → Prop} {w' : World} (h : Inv T B src rb s w) (hb : Below B w w') (hm : Mem T B src rb k s' ov tp tv S w') (hk : k ≤ src.size) (hr : s'.rest = (Pure.toL src).drop k)
    (hn : s'.nodes ≤ 4096) (hd : s'.opn.length ≤ 64) (ht : s'.txt.length ≤ 16384) (hw : depthOf s'.evs = some s'.opn.length) (hf : s'.evs.length + s'.opn.length + (if s'.txt = [] then 0 else 1) ≤ 2 * s'.nodes) : Inv T B src rb s' w' :=
  { mem := ⟨k, ov, tp, tv, S, hm, hk, hr⟩, base := h.base, tabs := h.tabs.below hb h.glob, glob := h.glob, room := Nat.le_trans h.room hb.size, size := h.size, nohex := h.nohex, nodes := hn, deep := hd, text := ht, wf := hw, few := hf }
/-- The row's blocks are nobody else's. -/
def RowApart (B rb : Nat) (S : Nat → Prop) (ov tv av : Value) : Prop := ∀ i, av.ownBlock = some i → ¬ S i ∧ i ≠ rb ∧ ov.ownBlock ≠ some i ∧ tv.ownBlock ≠ some i ∧ B ≤ i
/-- Behind the telling of a beginning. -/
theorem after_start {s : Pure.St} {k X : Nat} {ov tp tv av : Value} {S : Nat → Prop} {w6 w7 w8 : World} {n : ByteArray} {evs : List Pure.Event} (hm : Mem T B src rb k s ov tp tv S w6) (hav : RowApart B rb S ov tv av) (hX : ¬ S X) (haX : av.ownBlock ≠ some X)
    (hvar : w6.heap[X]? = some (.cells #[.int .i64 1, .string n, av, .string ⟨#[]⟩] 49 (0, 0))) (hB : B ≤ w6.heap.size) (hc7 : Chg (fun i => av.ownBlock = some i) w6.drew w7)
    (hpost : ∃ S', T.inv evs S' w8 ∧ (∀ i, S' i → S i ∨ av.ownBlock = some i ∨ w7.heap.size ≤ i) ∧ Chg S w7 w8) :
    ∃ S', Hid (Mem T B src rb k { s with evs := evs } ov tp tv S' w8) ∧ Hid (Below B w6 w8) ∧ RdCells w8 rb src k ov tp tv s.nodes T.val ∧
      (w8.cell? ⟨X, 0, none⟩ = some (.int .i64 1) ∧ w8.cell? ⟨X, 1, none⟩ = some (.string n) ∧ w8.cell? ⟨X, 2, none⟩ = some av ∧ w8.cell? ⟨X, 3, none⟩ = some (.string ⟨#[]⟩)) := by
  obtain ⟨S', h1, h2, h3⟩ := hpost
  have hsz : w6.heap.size ≤ w7.heap.size := hc7.size
  have hc : Chg (fun i => S i ∨ av.ownBlock = some i) w6 w8 := by
    have ha : Chg (fun i => av.ownBlock = some i) w6 w7 := hc7.drewBack
    exact (ha.mono fun i _ h => .inr h).trans (h3.mono fun i _ h => .inl (.inl h))
  have hM := hm.tells hB hc (fun i hi => (hav i hi).2) h1 (fun i hi => by
    rcases h2 i hi with h | h | h
    · exact .inl h
    · exact .inr (.inl h)
    · exact .inr (.inr (by omega)))
  have hx : w8.heap[X]? = some (.cells #[.int .i64 1, .string n, av, .string ⟨#[]⟩] 49 (0, 0)) := hc.heap hvar (by rintro (h | h); exact hX h; exact haX h)
  refine ⟨S', hM, hc.below hB (by rintro i (h | h); exact hm.above i h; exact (hav i h).2.2.2.2), hM.rd.cells, ?_, ?_, ?_, ?_⟩ <;> (rw [Lib.cell_of_heap hx]; rfl)
/-- Behind the telling of an end. -/
theorem after_end {s : Pure.St} {k : Nat} {ov tp tv : Value} {S : Nat → Prop} {w8 w9 : World} {evs : List Pure.Event} (hm : Mem T B src rb k s ov tp tv S w8) (hB : B ≤ w8.heap.size)
    (hpost : ∃ S', T.inv evs S' w9 ∧ (∀ i, S' i → S i ∨ w8.drew.heap.size ≤ i) ∧ Chg S w8.drew w9) : ∃ S', Mem T B src rb k { s with evs := evs } ov tp tv S' w9 ∧ Below B w8 w9 := by
  obtain ⟨S', h1, h2, h3⟩ := hpost
  replace h3 := h3.drewBack
  refine ⟨S', hm.tells (SA := fun _ => False) hB (h3.mono fun i _ h => .inl h) (fun i h => h.elim) h1 (fun i hi => ?_), h3.below hB fun i h => hm.above i h⟩
  rcases h2 i hi with h | h
  · exact .inl h
  · exact .inr (.inr h)
/-- An element that ends where it begins. -/
theorem opens_end2 {s6 : Pure.St} {k : Nat} {ov tp tv : Value} {S8 : Nat → Prop} {w6 w8 w9 : World} {n : ByteArray} {l : List Pure.Attr} (hI : Inv T B src rb s6 w6) (hbg : Begun s6)
    (hm8 : Mem T B src rb k { s6 with evs := s6.evs ++ [Pure.startE n l] } ov tp tv S8 w8) (hb8 : Below B w6 w8) (hk : k ≤ src.size) (hr : s6.rest = (Pure.toL src).drop k) (hb6 : Below B w w6)
    (hpost : ∃ S', T.inv (s6.evs ++ [Pure.startE n l] ++ [Pure.endE n]) S' w9 ∧ (∀ i, S' i → S8 i ∨ w8.drew.heap.size ≤ i) ∧ Chg S8 w8.drew w9) :
    Out T B src rb w encU (.ok () (Pure.tellE (Pure.tellE s6 (Pure.startE n l)) (Pure.endE n))) (.returned (.tuple #[])) w9 := by
  obtain ⟨S9, hm9, hb9⟩ := after_end hm8 (Nat.le_trans hI.room hb8.size) hpost
  have hbb := hb8.trans hb9
  have h1 := hbg.few
  have h2 := hbg.deep
  have h3 := hbg.txt
  refine ⟨rfl, hI.retell hbb (s' := Pure.tellE (Pure.tellE s6 (Pure.startE n l)) (Pure.endE n)) hm9 hk hr hbg.nodes (Nat.le_of_lt h2) ?_ ?_ ?_, hb6.trans hbb⟩
  · show s6.txt.length ≤ 16384
    rw [h3]; simp
  · exact depth_end (depth_start hbg n l) n
  · show (s6.evs ++ [Pure.startE n l] ++ [Pure.endE n]).length + s6.opn.length + (if s6.txt = [] then 0 else 1) ≤ 2 * s6.nodes
    simp only [List.length_append, List.length_cons, List.length_nil]
    split
    · omega
    · rename_i h; exact absurd h3 h
/-- The elements' row has grown: the reader's block is as it was. -/
theorem opn_kept {s : Pure.St} {k : Nat} {ov tp tv : Value} {S : Nat → Prop} {w8 w9 : World} {o : Obj} (hm : Mem T B src rb k s ov tp tv S w8) (hg : (w8.drew.alloc o).grownBy w9 ov.ownBlock) :
    w9.heap[rb]? = some (.cells #[.string src, .int .i64 (k : Int), ov, tp, tv, .int .i64 (s.nodes : Int), T.val] 126 (0, 0)) ∧ w9.cell? ⟨rb, 2, none⟩ = some ov ∧ w9.frozen? ⟨rb, 2, none⟩ = false := by
  have hlt := lt_of_block hm.rd
  have h1 : w9.heap[rb]? = some (.cells #[.string src, .int .i64 (k : Int), ov, tp, tv, .int .i64 (s.nodes : Int), T.val] 126 (0, 0)) := by
    rw [hg.block rb (by have : w8.drew.heap.size = w8.heap.size := rfl; simp; omega) (fun e => hm.ne_ov e.symm), Below.heap_alloc _ _ _ (show rb < w8.drew.heap.size from hlt)]
    exact hm.rd
  exact ⟨h1, by rw [Lib.cell_of_heap h1]; rfl, Lib.frozen_of_heap h1 _⟩
/-- An element that stays open. -/
theorem opens_end1 {s6 : Pure.St} {k : Nat} {ov tp tv : Value} {S8 : Nat → Prop} {w6 w8 w9 : World} {n : ByteArray} {l : List Pure.Attr} {o : Obj} {g cap : Nat} (hI : Inv T B src rb s6 w6) (hbg : Begun s6)
    (hm : Mem T B src rb k { s6 with evs := s6.evs ++ [Pure.startE n l] } ov tp tv S8 w8) (hb8 : Below B w6 w8) (hk : k ≤ src.size) (hr : s6.rest = (Pure.toL src).drop k) (hb6 : Below B w w6)
    (hown : w9.ownsRow B 9 1 (.slice (some ⟨g, 0, none⟩) (s6.opn.length + 1) cap) (s6.opn.length + 1) (s6.opn.reverse.map .string ++ [.string n])) (hg : (w8.drew.alloc o).grownBy w9 ov.ownBlock) :
    Out T B src rb w encU (.ok () { Pure.tellE s6 (Pure.startE n l) with opn := n :: s6.opn }) (.returned (.tuple #[])) (w9.setCell ⟨rb, 2, none⟩ (.slice (some ⟨g, 0, none⟩) (s6.opn.length + 1) cap)) := by
  have hB8 : B ≤ w8.heap.size := Nat.le_trans hI.room hb8.size
  obtain ⟨hh9, _, _⟩ := opn_kept hm hg
  have hc9 : Chg (fun i => ov.ownBlock = some i) w8 w9 := Chg.grown (((Chg.refl _ w8).drewN 1).alloc o) hg (fun k hk => .inl hk)
  have hcA : Chg (fun i => ov.ownBlock = some i ∨ i = rb) w8 (w9.setCell ⟨rb, 2, none⟩ (.slice (some ⟨g, 0, none⟩) (s6.opn.length + 1) cap)) := (hc9.mono fun i _ h => .inl h).setCell _ _ (.inl (.inr rfl))
  have hbA := hb8.trans (hcA.below hB8 (by
    rintro i (hi | hi)
    · exact (hm.opn.lt i hi).1
    · rw [hi]; exact hI.base))
  have h1 := hbg.few
  have h2 := hbg.deep
  have h3 := hbg.txt
  have hgr : g ≠ rb := fun e => Lib.ownBlock_ne hown hh9 (by decide) (by rw [e]; rfl)
  have hM : Mem T B src rb k { Pure.tellE s6 (Pure.startE n l) with opn := n :: s6.opn } (.slice (some ⟨g, 0, none⟩) (s6.opn.length + 1) cap) tp tv S8 (w9.setCell ⟨rb, 2, none⟩ (.slice (some ⟨g, 0, none⟩) (s6.opn.length + 1) cap)) := by
    refine ⟨heap_setCell_same (i := 2) hh9 _, ?_, hm.own, ⟨owns_keep hm.buf.1 fun i hi => hcA.block i (hm.buf.1.lt i hi).2 ?_, hm.buf.2⟩, T.keep hm.told hcA.size (fun i hi => hcA.block i (T.lt hm.told hi) ?_), hm.above, hm.apart⟩
    · have e : (n :: s6.opn).reverse.map Value.string = s6.opn.reverse.map .string ++ [.string n] := by simp
      show World.ownsRow _ B 9 1 _ (s6.opn.length + 1) ((n :: s6.opn).reverse.map Value.string)
      rw [e]
      refine owns_keep hown fun i hi => ?_
      rw [Below.heap_setCell _ _ _ _ ?_]
      intro e
      have : g = i := by simpa [Value.ownBlock] using hi
      exact hgr (this.trans e)
    · rintro (h | h)
      · exact hm.ne_ovtv i hi h
      · exact hm.ne_tv (h ▸ hi)
    · rintro (h | h)
      · exact hm.ne_ovS i h hi
      · exact hm.ne_rb (h ▸ hi)
  refine ⟨rfl, hI.retell hbA hM hk hr hbg.nodes (show s6.opn.length + 1 ≤ 64 by omega) ?_ ?_ ?_, hb6.trans hbA⟩
  · show s6.txt.length ≤ 16384
    rw [h3]; simp
  · exact depth_start hbg n l
  · show (s6.evs ++ [Pure.startE n l]).length + (s6.opn.length + 1) + (if s6.txt = [] then 0 else 1) ≤ 2 * s6.nodes
    simp only [List.length_append, List.length_cons, List.length_nil]
    split
    · omega
    · rename_i h; exact absurd h3 h
end Go.Proofs.YtipfakmbjajhlaaGreatDoor 
