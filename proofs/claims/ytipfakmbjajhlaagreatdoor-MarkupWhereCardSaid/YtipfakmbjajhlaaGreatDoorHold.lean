/-
  What stands beside the reader (an event's attributes, a builder) is kept while its methods run: it is put into the contract of whoever is told.
-/
import Derived.Test.YtipfakmbjajhlaaGreatDoorSort2
set_option linter.unusedVariables false
set_option linter.unusedSimpArgs false
namespace Go.Proofs.YtipfakmbjajhlaaGreatDoor 
open Go.RowKit
/-- Blocks K stand by, of which Φ holds. -/
structure Held (K : Nat → Prop) (Φ : World → Prop) : Prop where
  keep : ∀ {w w' : World}, Φ w → w.heap.size ≤ w'.heap.size → (∀ k, K k → w'.heap[k]? = w.heap[k]?) → Φ w'
  kind : ∀ {w : World} {k : Nat}, Φ w → K k → ∃ c e f, w.heap[k]? = some (.cells c e f) ∧ e ≠ 9 ∧ e ≠ 126
theorem Held.lt {K : Nat → Prop} {Φ : World → Prop} (H : Held K Φ) {w : World} {k : Nat} (h : Φ w) (hk : K k) : k < w.heap.size := by
  obtain ⟨c, e, f, h1, _⟩ := H.kind h hk
  exact lt_of_block h1
def Teller.with (T : Teller) (K : Nat → Prop) (Φ : World → Prop) (H : Held K Φ) : Teller where
  fn := T.fn
  cap := T.cap
  enters := T.enters
  inv evs S w := ∃ S1, T.inv evs S1 w ∧ (∀ k, S k ↔ S1 k ∨ K k) ∧ (∀ k, K k → ¬ S1 k) ∧ Φ w
  keep := by
    rintro evs S w w' ⟨S1, h1, h2, h3, h4⟩ hs hk
    exact ⟨S1, T.keep h1 hs (fun k h => hk k ((h2 k).2 (.inl h))), h2, h3, H.keep h4 hs (fun k h => hk k ((h2 k).2 (.inr h)))⟩
  kind := by
    rintro evs S w k ⟨S1, h1, h2, h3, h4⟩ hk
    rcases (h2 k).1 hk with h | h
    · exact T.kind h1 h
    · exact H.kind h4 h
  call := by
    rintro evs S w ev av SA ⟨S1, h1, h2, h3, h4⟩ ha hS hl hd hf hk hn
    refine (T.call h1 ha (fun k hk => ⟨fun h => (hS k hk).1 ((h2 k).2 (.inl h)), (hS k hk).2⟩) hl hd hf hk hn).mono ?_
    rintro e w' ⟨he, S', k1, k2, k3⟩
    have hkept : ∀ k, K k → w'.heap[k]? = w.heap[k]? := fun k hK => k3.block k (H.lt h4 hK) (h3 k hK)
    refine ⟨he, fun k => S' k ∨ K k, ⟨S', k1, fun _ => Iff.rfl, fun k hK hS' => ?_, H.keep h4 k3.size hkept⟩, fun k hk => ?_, k3.mono fun k _ hk => (h2 k).2 (.inl hk)⟩
    · rcases k2 k hS' with h | h | h
      · exact h3 k hK h
      · exact (hS k h).1 ((h2 k).2 (.inr hK))
      · have := H.lt h4 hK; omega
    · rcases hk with hk | hk
      · rcases k2 k hk with h | h | h
        · exact .inl ((h2 k).2 (.inl h))
        · exact .inr (.inl h)
        · exact .inr (.inr h)
      · exact .inl ((h2 k).2 (.inr hk))
variable {T : Teller} {B : Nat} {src : ByteArray} {rb : Nat} {st : Pure.St} {w : World}
theorem with_val (K : Nat → Prop) (Φ : World → Prop) (H : Held K Φ) : (T.with K Φ H).val = T.val := rfl
/-- What is held holds. -/
theorem Inv.held {K : Nat → Prop} {Φ : World → Prop} {H : Held K Φ} (h : Inv (T.with K Φ H) B src rb st w) : Φ w := by
  obtain ⟨k, ov, tp, tv, S, hm, _, _⟩ := h.mem
  obtain ⟨_, _, _, _, h4⟩ := hm.told
  exact h4
/-- Nothing is held any more. -/
theorem Inv.drop {K : Nat → Prop} {Φ : World → Prop} {H : Held K Φ} (h : Inv (T.with K Φ H) B src rb st w) : Inv T B src rb st w := by
  obtain ⟨k, ov, tp, tv, S, hm, hk, hr⟩ := h.mem
  obtain ⟨S1, h1, h2, h3, h4⟩ := hm.told
  exact { h with mem := ⟨k, ov, tp, tv, S1, ⟨hm.rd, hm.opn, hm.own, hm.buf, h1, fun i hi => hm.above i ((h2 i).2 (.inl hi)), fun i hi hS => hm.apart i hi ((h2 i).2 (.inl hS))⟩, hk, hr⟩ }
theorem Out.drop {α : Type} {K : Nat → Prop} {Φ : World → Prop} {H : Held K Φ} {enc : α → Value} {r : Pure.R α} {w0 w' : World} {e : Ending} (h : Out (T.with K Φ H) B src rb w0 enc r e w') : Out T B src rb w0 enc r e w' := by
  cases r with
  | ok a s => exact ⟨h.1, h.2.1.drop, h.2.2⟩
  | fail l y ev =>
    obtain ⟨S, ⟨S1, h1, h2, h3, h4⟩, hB⟩ := h.2.1
    exact ⟨h.1, ⟨S1, h1, fun k hk => hB k ((h2 k).2 (.inl hk))⟩, h.2.2⟩
/-- From what is held to another thing held: its blocks are the same ones, or new. -/
theorem Inv.turn {K K' : Nat → Prop} {Φ Φ' : World → Prop} {H : Held K Φ} {H' : Held K' Φ'} {w' : World} (h : Inv (T.with K Φ H) B src rb st w) (hc : Chg K w w') (hK : ∀ k, K' k → K k ∨ w.heap.size ≤ k) (hΦ : Φ' w') :
    Inv (T.with K' Φ' H') B src rb st w' := by
  obtain ⟨k, ov, tp, tv, S, hm, hk, hr⟩ := h.mem
  obtain ⟨S1, h1, h2, h3, h4⟩ := hm.told
  have hKS : ∀ i, K i → S i := fun i hi => (h2 i).2 (.inr hi)
  have hKB : ∀ i, K i → B ≤ i := fun i hi => hm.above i (hKS i hi)
  have hrbK : ¬ K rb := fun hi => hm.ne_rb (hKS _ hi)
  have hovK : ∀ i, ov.ownBlock = some i → ¬ K i := fun i hi hK => hm.ne_ovS i hi (hKS _ hK)
  have htvK : ∀ i, tv.ownBlock = some i → ¬ K i := fun i hi hK => hm.apart i hi (hKS _ hK)
  have hbel : Below B w w' := hc.below h.room hKB
  have hlt := h.room
  exact { h with
    mem := ⟨k, ov, tp, tv, fun i => S1 i ∨ K' i, ⟨by unfold RdAt; rw [hc.block rb (lt_of_block hm.rd) hrbK]; exact hm.rd,
      owns_keep hm.opn (fun i hi => hc.block i (hm.opn.lt i hi).2 (hovK i hi)), hm.own, ⟨owns_keep hm.buf.1 fun i hi => hc.block i (hm.buf.1.lt i hi).2 (htvK i hi), hm.buf.2⟩,
      ⟨S1, T.keep h1 hc.size (fun i hi => hc.block i (T.lt h1 hi) (fun hK => h3 i hK hi)), fun _ => Iff.rfl, fun i hK' hS => by rcases hK i hK' with h5 | h5; exact h3 i h5 hS; exact absurd (T.lt h1 hS) (by omega), hΦ⟩,
      fun i hi => by
        rcases hi with hi | hi
        · exact hm.above i ((h2 i).2 (.inl hi))
        · rcases hK i hi with h5 | h5
          · exact hKB i h5
          · omega,
      fun i hi hS => by
        rcases hS with hS | hS
        · exact hm.apart i hi ((h2 i).2 (.inl hS))
        · rcases hK i hS with h5 | h5
          · exact htvK i hi h5
          · have := (hm.buf.1.lt i hi).2; omega⟩, hk, hr⟩
    tabs := h.tabs.below hbel h.glob
    room := Nat.le_trans h.room hc.size }
theorem heldNone : Held (fun _ => False) (fun _ => True) := ⟨fun _ _ _ => trivial, fun _ h => h.elim⟩
theorem Inv.none (h : Inv T B src rb st w) : Inv (T.with (fun _ => False) (fun _ => True) heldNone) B src rb st w := by
  obtain ⟨k, ov, tp, tv, S, hm, hk, hr⟩ := h.mem
  exact { h with mem := ⟨k, ov, tp, tv, S, ⟨hm.rd, hm.opn, hm.own, hm.buf, ⟨S, hm.told, fun k => by simp, fun _ h => h.elim, trivial⟩, hm.above, hm.apart⟩, hk, hr⟩ }
/-- New blocks are held. -/
theorem Inv.hold {K' : Nat → Prop} {Φ' : World → Prop} {H' : Held K' Φ'} {w' : World} (h : Inv T B src rb st w) (hb : Below w.heap.size w w') (hK : ∀ k, K' k → w.heap.size ≤ k) (hΦ : Φ' w') :
    Inv (T.with K' Φ' H') B src rb st w' := h.none.turn (Chg.of_below hb) (fun k hk => .inr (hK k hk)) hΦ
/-- What is held is none of what whoever is told has. -/
theorem Inv.heldApart {K : Nat → Prop} {Φ : World → Prop} {H : Held K Φ} (h : Inv (T.with K Φ H) B src rb st w) : ∃ k ov tp tv S, Mem T B src rb k st ov tp tv S w ∧ (∀ i, K i → ¬ S i) ∧ ¬ K rb ∧ (∀ i, ov.ownBlock = some i → ¬ K i) ∧ (∀ i, tv.ownBlock = some i → ¬ K i) ∧ (∀ i, K i → B ≤ i) ∧ k ≤ src.size ∧ st.rest = (Pure.toL src).drop k := by
  obtain ⟨k, ov, tp, tv, S, hm, hk, hr⟩ := h.mem
  obtain ⟨S1, h1, h2, h3, h4⟩ := id hm.told
  have hKS : ∀ i, K i → S i := fun i hi => (h2 i).2 (.inr hi)
  exact ⟨k, ov, tp, tv, S1, ⟨hm.rd, hm.opn, hm.own, hm.buf, h1, fun i hi => hm.above i ((h2 i).2 (.inl hi)), fun i hi hS => hm.apart i hi ((h2 i).2 (.inl hS))⟩, h3, fun hi => hm.ne_rb (hKS _ hi), fun i hi hK => hm.ne_ovS i hi (hKS _ hK), fun i hi hK => hm.apart i hi (hKS _ hK), fun i hi => hm.above i (hKS i hi), hk, hr⟩
end Go.Proofs.YtipfakmbjajhlaaGreatDoor 
