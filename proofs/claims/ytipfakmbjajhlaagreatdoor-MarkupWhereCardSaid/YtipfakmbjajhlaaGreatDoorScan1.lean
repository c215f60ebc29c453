/-
  The scanner's reader in memory: what holds of it between its methods' calls; whoever is told the events is held to a contract.
-/
import Derived.Test.YtipfakmbjajhlaaGreatDoorCharsA
set_option linter.unusedVariables false
set_option linter.unusedSimpArgs false
namespace Go.Proofs.YtipfakmbjajhlaaGreatDoor 
open Go.RowKit
/-- A slice of attributes reads so; its cells lie in blocks of S. -/
def AttrsAt (w : World) (S : Nat → Prop) (v : Value) (l : List Pure.Attr) : Prop :=
  ∃ q c, v = .slice q l.length c ∧ l.length ≤ c ∧ (l = [] ∨ ∃ g o, q = some ⟨g, o, none⟩ ∧ S g ∧ ∀ i (h : i < l.length), w.cell? ⟨g, o + 2 * i, none⟩ = some (.string l[i].name) ∧ w.cell? ⟨g, o + 2 * i + 1, none⟩ = some (.string l[i].value))
theorem AttrsAt.keep {w w' : World} {S : Nat → Prop} {v : Value} {l : List Pure.Attr} (h : AttrsAt w S v l) (hk : ∀ k, S k → w'.heap[k]? = w.heap[k]?) : AttrsAt w' S v l := by
  obtain ⟨q, c, rfl, hc, h⟩ := h
  refine ⟨q, c, rfl, hc, ?_⟩
  rcases h with h | ⟨g, o, hq, hS, h⟩
  · exact .inl h
  · exact .inr ⟨g, o, hq, hS, fun i hi => ⟨by rw [World.cell?_of_block (w := w) (hk g hS)]; exact (h i hi).1, by rw [World.cell?_of_block (w := w) (hk g hS)]; exact (h i hi).2⟩⟩
theorem AttrsAt.mono {w : World} {S S' : Nat → Prop} {v : Value} {l : List Pure.Attr} (h : AttrsAt w S v l) (hS : ∀ k, S k → S' k) : AttrsAt w S' v l := by
  obtain ⟨q, c, rfl, hc, h⟩ := h
  refine ⟨q, c, rfl, hc, ?_⟩
  rcases h with h | ⟨g, o, hq, hS', h⟩
  · exact .inl h
  · exact .inr ⟨g, o, hq, hS _ hS', h⟩
/-- How many elements are open behind events; none: an end that ends nothing. -/
def depthOf (evs : List Pure.Event) : Option Nat := evs.foldl (fun d e => d.bind fun n => if e.kind = 1 then some (n + 1) else if e.kind = 3 then (if n = 0 then none else some (n - 1)) else some n) (some 0)
theorem depthOf_snoc (evs : List Pure.Event) (e : Pure.Event) : depthOf (evs ++ [e]) = (depthOf evs).bind fun n => if e.kind = 1 then some (n + 1) else if e.kind = 3 then (if n = 0 then none else some (n - 1)) else some n := by
  unfold depthOf; rw [List.foldl_append]; rfl
/-- An event as a value: its attributes' slice stands beside it. -/
def vEvent (e : Pure.Event) (av : Value) : Value := .agg #[.int .i64 e.kind, .string e.name, av, .string e.text]
/-- Whoever is told events. -/
structure Teller where
  fn : Nat
  cap : Array Value
  enters : ∀ args w, (callFunc fn args).run Tryz.prog w = .ok (.enter fn args) w
  inv : List Pure.Event → (Nat → Prop) → World → Prop
  keep : ∀ {evs S w w'}, inv evs S w → w.heap.size ≤ w'.heap.size → (∀ k, S k → w'.heap[k]? = w.heap[k]?) → inv evs S w'
  kind : ∀ {evs S w k}, inv evs S w → S k → ∃ c e f, w.heap[k]? = some (.cells c e f) ∧ e ≠ 9 ∧ e ≠ 126
  call : ∀ {evs S w ev av SA}, inv evs S w → AttrsAt w SA av ev.attrs → (∀ k, SA k → ¬ S k ∧ ∃ c f, w.heap[k]? = some (.cells c 98 f)) → ev.attrs.length ≤ 32 →
    (depthOf (evs ++ [ev])).isSome = true → evs.length < 9000 → (ev.kind = 1 ∨ ev.kind = 2 ∨ ev.kind = 3) → (ev.kind ≠ 1 → ev.attrs = []) →
    Calls Tryz.prog fn (#[vEvent ev av] ++ cap) w fun e w' => e = .returned (.tuple #[]) ∧ ∃ S', inv (evs ++ [ev]) S' w' ∧ (∀ k, S' k → S k ∨ SA k ∨ w.heap.size ≤ k) ∧ Chg S w w'
def Teller.val (T : Teller) : Value := .func (.func T.fn) #[] T.cap
theorem Teller.lt (T : Teller) {evs : List Pure.Event} {S : Nat → Prop} {w : World} {k : Nat} (h : T.inv evs S w) (hk : S k) : k < w.heap.size := by
  obtain ⟨c, e, f, h, _⟩ := T.kind h hk
  exact lt_of_block h
/-- The reader's struct. -/
def RdAt (w : World) (rb : Nat) (src : ByteArray) (k : Nat) (ov tp tv : Value) (nd : Nat) (fv : Value) : Prop :=
  w.heap[rb]? = some (.cells #[.string src, .int .i64 (k : Int), ov, tp, tv, .int .i64 (nd : Int), fv] 126 (0, 0))
structure RdCells (w : World) (rb : Nat) (src : ByteArray) (k : Nat) (ov tp tv : Value) (nd : Nat) (fv : Value) : Prop where
  c0 : w.cell? ⟨rb, 0, none⟩ = some (.string src)
  c1 : w.cell? ⟨rb, 1, none⟩ = some (.int .i64 (k : Int))
  c2 : w.cell? ⟨rb, 2, none⟩ = some ov
  c3 : w.cell? ⟨rb, 3, none⟩ = some tp
  c4 : w.cell? ⟨rb, 4, none⟩ = some tv
  c5 : w.cell? ⟨rb, 5, none⟩ = some (.int .i64 (nd : Int))
  c6 : w.cell? ⟨rb, 6, none⟩ = some fv
  fz : ∀ i, w.frozen? ⟨rb, i, none⟩ = false
theorem RdAt.cells {w : World} {rb : Nat} {src : ByteArray} {k : Nat} {ov tp tv : Value} {nd : Nat} {fv : Value} (h : RdAt w rb src k ov tp tv nd fv) : RdCells w rb src k ov tp tv nd fv := by
  unfold RdAt at h
  constructor
  case fz => exact fun i => Lib.frozen_of_heap h i
  all_goals (rw [Lib.cell_of_heap h]; rfl)
theorem placeReader : Place 126 7 3 := ⟨by kernel_rfl, by decide⟩
/-- What holds of the reader, of its elements' names, of its text, and of whoever is told, between the methods' calls. -/
structure Mem (T : Teller) (B : Nat) (src : ByteArray) (rb k : Nat) (st : Pure.St) (ov tp tv : Value) (S : Nat → Prop) (w : World) : Prop where
  rd : RdAt w rb src k ov tp tv st.nodes T.val
  opn : w.ownsRow B 9 1 ov st.opn.length (st.opn.reverse.map .string)
  own : tp = .pointer none ∨ tp = .pointer (some ⟨rb, 3, none⟩)
  buf : BufAt w B tv st.txt
  told : T.inv st.evs S w
  above : ∀ i, S i → B ≤ i
  apart : ∀ i, tv.ownBlock = some i → ¬ S i
structure Inv (T : Teller) (B : Nat) (src : ByteArray) (rb : Nat) (st : Pure.St) (w : World) : Prop where
  mem : ∃ k ov tp tv S, Mem T B src rb k st ov tp tv S w ∧ k ≤ src.size ∧ st.rest = (Pure.toL src).drop k
  base : B ≤ rb
  tabs : Tabs w
  glob : 9 ≤ B
  room : B ≤ w.heap.size
  size : src.size ≤ 262144
  nohex : NoHex (Pure.toL src)
  nodes : st.nodes ≤ 4096
  deep : st.opn.length ≤ 64
  text : st.txt.length ≤ 16384
  wf : depthOf st.evs = some st.opn.length
  few : st.evs.length + st.opn.length + (if st.txt = [] then 0 else 1) ≤ 2 * st.nodes
theorem Mem.ne_ov {T : Teller} {B : Nat} {src : ByteArray} {rb k : Nat} {st : Pure.St} {ov tp tv : Value} {S : Nat → Prop} {w : World} (h : Mem T B src rb k st ov tp tv S w) : ov.ownBlock ≠ some rb := Lib.ownBlock_ne h.opn h.rd (by decide)
theorem Mem.ne_tv {T : Teller} {B : Nat} {src : ByteArray} {rb k : Nat} {st : Pure.St} {ov tp tv : Value} {S : Nat → Prop} {w : World} (h : Mem T B src rb k st ov tp tv S w) : tv.ownBlock ≠ some rb := h.buf.ne h.rd (by decide)
theorem Mem.ne_rb {T : Teller} {B : Nat} {src : ByteArray} {rb k : Nat} {st : Pure.St} {ov tp tv : Value} {S : Nat → Prop} {w : World} (h : Mem T B src rb k st ov tp tv S w) : ¬ S rb := by
  intro hs
  obtain ⟨c, e, f, h1, _, h2⟩ := T.kind h.told hs
  have := h.rd.symm.trans h1
  simp only [Option.some.injEq, Obj.cells.injEq] at this
  exact h2 this.2.1.symm
theorem Mem.ne_ovS {T : Teller} {B : Nat} {src : ByteArray} {rb k : Nat} {st : Pure.St} {ov tp tv : Value} {S : Nat → Prop} {w : World} (h : Mem T B src rb k st ov tp tv S w) : ∀ i, ov.ownBlock = some i → ¬ S i := by
  intro i hi hs
  obtain ⟨c, e, f, h1, h2, _⟩ := T.kind h.told hs
  exact Lib.ownBlock_ne h.opn h1 h2 hi
theorem Mem.ne_tvS {T : Teller} {B : Nat} {src : ByteArray} {rb k : Nat} {st : Pure.St} {ov tp tv : Value} {S : Nat → Prop} {w : World} (h : Mem T B src rb k st ov tp tv S w) : ∀ i, tv.ownBlock = some i → ¬ S i := h.apart
theorem Mem.ne_ovtv {T : Teller} {B : Nat} {src : ByteArray} {rb k : Nat} {st : Pure.St} {ov tp tv : Value} {S : Nat → Prop} {w : World} (h : Mem T B src rb k st ov tp tv S w) : ∀ i, tv.ownBlock = some i → ov.ownBlock ≠ some i := by
  intro i hi ho
  rcases h.buf.1.2 with ⟨rfl, _⟩ | ⟨g, cap, cur, rfl, _, hg, _⟩
  · exact absurd hi (by simp [Value.ownBlock])
  · have e : g = i := by simpa [Value.ownBlock] using hi
    subst e
    exact Lib.ownBlock_ne h.opn hg (by decide) ho
theorem owns_keep {w w' : World} {B e : Nat} {size : Nat} {v : Value} {n : Nat} {xs : List Value} (h : w.ownsRow B e size v n xs) (hk : ∀ i, v.ownBlock = some i → w'.heap[i]? = w.heap[i]?) : w'.ownsRow B e size v n xs := by
  obtain ⟨h1, h2⟩ := h
  refine ⟨h1, ?_⟩
  rcases h2 with h2 | ⟨g, cap, cur, hv, hg, hh, r⟩
  · exact .inl h2
  · exact .inr ⟨g, cap, cur, hv, hg, by rw [hk g (by rw [hv]; rfl)]; exact hh, r⟩
/-- New blocks alone have come. -/
theorem Mem.later {T : Teller} {B : Nat} {src : ByteArray} {rb k : Nat} {st : Pure.St} {ov tp tv : Value} {S : Nat → Prop} {w w' : World} (h : Mem T B src rb k st ov tp tv S w) (hb : Below w.heap.size w w') : Mem T B src rb k st ov tp tv S w' := by
  have hk : ∀ i, i < w.heap.size → w'.heap[i]? = w.heap[i]? := fun i hi => hb.block i hi
  refine ⟨?_, owns_keep h.opn fun i hi => hk i (h.opn.lt i hi).2, h.own, ⟨owns_keep h.buf.1 fun i hi => hk i (h.buf.1.lt i hi).2, h.buf.2⟩, T.keep h.told hb.size (fun i hi => hk i (T.lt h.told hi)), h.above, h.apart⟩
  unfold RdAt; rw [hk rb (lt_of_block h.rd)]; exact h.rd
theorem Inv.later {T : Teller} {B : Nat} {src : ByteArray} {rb : Nat} {st : Pure.St} {w w' : World} (h : Inv T B src rb st w) (hb : Below w.heap.size w w') : Inv T B src rb st w' := by
  obtain ⟨k, ov, tp, tv, S, hm, hk, hr⟩ := h.mem
  exact { h with mem := ⟨k, ov, tp, tv, S, hm.later hb, hk, hr⟩, tabs := h.tabs.new hb, room := Nat.le_trans h.room hb.size }
/-- How a part of the reader ends. -/
def fault (n left : Nat) (why : Int) : List PanicEntry := [{ v := .iface 128 (.agg #[.int .i64 ((n : Int) - left), .int .i64 why]), recovered := false }]
def Out {α : Type} (T : Teller) (B : Nat) (src : ByteArray) (rb : Nat) (w0 : World) (enc : α → Value) (r : Pure.R α) (e : Ending) (w' : World) : Prop := match r with
  | .ok a st => e = .returned (enc a) ∧ Inv T B src rb st w' ∧ Below B w0 w'
  | .fail left why evs => e = .panicked (fault src.size left why) ∧ (∃ S, T.inv evs S w' ∧ ∀ k, S k → B ≤ k) ∧ Below B w0 w'
end Go.Proofs.YtipfakmbjajhlaaGreatDoor 
