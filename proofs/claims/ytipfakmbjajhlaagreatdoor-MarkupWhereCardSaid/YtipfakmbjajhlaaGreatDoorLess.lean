/-
  What the reader's parts do to its state, plainly: they read on.
-/
import Derived.Test.YtipfakmbjajhlaaGreatDoorOpens1
set_option linter.unusedVariables false
set_option linter.unusedSimpArgs false
namespace Go.Proofs.YtipfakmbjajhlaaGreatDoor 
open Go.RowKit Go.Shelf
theorem bind_inv {α β : Type} {r : Pure.R α} {f : α → Pure.St → Pure.R β} {b : β} {s' : Pure.St} (h : r.bind f = .ok b s') : ∃ a s, r = .ok a s ∧ f a s = .ok b s' := by
  cases r with
  | ok a s => exact ⟨a, s, rfl, h⟩
  | fail l y e => cases h
/-- It reads on, at least so many bytes. -/
def On (d : Nat) (st s : Pure.St) : Prop := ReadsOnly st s ∧ s.rest.length + d ≤ st.rest.length
theorem On.trans {d d' : Nat} {a b c : Pure.St} (h : On d a b) (k : On d' b c) : On (d + d') a c := by
  refine ⟨?_, by have := h.2; have := k.2; omega⟩
  have h1 := h.1
  have k1 := k.1
  unfold ReadsOnly at *
  rw [k1, h1]
theorem On.refl (a : Pure.St) : On 0 a a := ⟨rfl, Nat.le_refl _⟩
theorem On.weak {d d' : Nat} {a b : Pure.St} (h : On d a b) (hd : d' ≤ d) : On d' a b := ⟨h.1, by have := h.2; omega⟩
theorem skip_on (s : Pure.St) : On 0 s (Pure.skip s) := ⟨rfl, by unfold Pure.skip; simp⟩
theorem next_on {c : UInt8} {st s : Pure.St} (h : Pure.next st = .ok c s) : On 0 st s := by
  obtain ⟨rfl, _⟩ := next_same h
  exact On.refl _
theorem skip_on1 {c : UInt8} {st s : Pure.St} (h : Pure.next st = .ok c s) : On 1 s (Pure.skip s) := by
  obtain ⟨rfl, r, hr⟩ := next_same h
  exact ⟨rfl, by unfold Pure.skip; rw [hr]; simp⟩
theorem must_on {c : UInt8} {u : Unit} {st s : Pure.St} (h : Pure.must c st = .ok u s) : On 1 st s := by
  unfold Pure.must at h
  obtain ⟨d, s1, h1, h2⟩ := bind_inv h
  split at h2
  · cases h2
  · cases h2
    exact (next_on h1).trans (skip_on1 h1) |>.weak (by omega)
theorem name_on {n : ByteArray} {st s : Pure.St} (h : Pure.name st = .ok n s) : On 1 st s := by
  refine ⟨name_reads h, ?_⟩
  unfold Pure.name at h
  split at h
  · rename_i hn
    cases h
    have e : st.rest.takeWhile Pure.named ++ st.rest.dropWhile Pure.named = st.rest := List.takeWhile_append_dropWhile
    have h1 : 1 ≤ (st.rest.takeWhile Pure.named).length := by
      cases ht : st.rest.takeWhile Pure.named with
      | nil => rw [ht] at hn; simp [Pure.isName] at hn
      | cons c r => simp
    have h2 := congrArg List.length e
    rw [List.length_append] at h2
    show (st.rest.dropWhile Pure.named).length + 1 ≤ st.rest.length
    omega
  · cases h
theorem char_on {t : Pure.Bytes} {st s : Pure.St} (h : Pure.char st = .ok t s) : On 1 st s := ⟨char_reads h, by have := (char_less h).1; omega⟩
theorem refer_on {t : Pure.Bytes} {st s : Pure.St} (h : Pure.refer st = .ok t s) : On 0 st s := by
  refine ⟨refer_reads h, ?_⟩
  unfold Pure.refer at h
  split at h
  split at h
  · cases h
  · cases h; simp
theorem value_on : ∀ (f : Nat) {q : UInt8} {acc v : Pure.Bytes} {st s : Pure.St}, Pure.valueLoop f q acc st = .ok v s → On 0 st s
  | 0, _, _, _, _, _, h => by cases h
  | f + 1, q, acc, v, st, s, h => by
    unfold Pure.valueLoop at h
    obtain ⟨c, s1, h1, h2⟩ := bind_inv h
    have o1 := next_on h1
    split at h2
    · cases h2; exact o1
    · split at h2
      · cases h2
      · obtain ⟨t, s2, h3, h4⟩ := bind_inv h2
        have o2 : On 0 s1 s2 := by
          split at h3
          · exact refer_on h3
          · exact (char_on h3).weak (by omega)
        split at h4
        · cases h4
        · exact (o1.trans o2).trans (value_on f h4)
/-- An attribute that was read. -/
theorem attr_on {l : List Pure.Attr} {a : Pure.Attr} {st s : Pure.St} (h : Pure.attr l st = .ok a s) : On 1 st s ∧ l.length < 32 ∧ (l.any fun b => b.name == a.name) = false := by
  unfold Pure.attr at h
  obtain ⟨n, s1, h1, h2⟩ := bind_inv h
  have o1 := name_on h1
  split at h2
  · cases h2
  rename_i h32
  split at h2
  · cases h2
  rename_i hany
  obtain ⟨u, s2, h3, h4⟩ := bind_inv h2
  obtain ⟨q, s3, h5, h6⟩ := bind_inv h4
  have o2 := must_on h3
  have o3 := next_on h5
  split at h6
  · cases h6
  obtain ⟨v, s4, h7, h8⟩ := bind_inv h6
  cases h8
  refine ⟨(o1.trans (o2.trans (o3.trans ((skip_on s3).trans ((value_on _ h7).trans (skip_on s4)))))).weak (by omega), by omega, by simpa using hany⟩
theorem apart_snoc {l : List Pure.Attr} {a : Pure.Attr} (h : Apart l) (ha : (l.any fun b => b.name == a.name) = false) : Apart (l ++ [a]) := by
  unfold Apart
  rw [List.pairwise_append]
  refine ⟨h, by simp, fun x hx y hy => ?_⟩
  obtain rfl : y = a := by simpa using hy
  intro e
  rw [List.any_eq_false] at ha
  have := ha x hx
  rw [beq_bytes] at this
  exact this (decide_eq_true e)
variable {T : Teller} {B : Nat} {src : ByteArray} {rb : Nat} {st : Pure.St} {w : World}
/-- The attributes' row has grown: the event's variable is as it was. -/
theorem x_kept {X : Nat} {n : ByteArray} {av : Value} {l : List Pure.Attr} {w6 w9 : World} {o : Obj} (hv : VarX X n av l w6) (hg : (w6.alloc o).grownBy w9 av.ownBlock) :
    w9.heap[X]? = some (.cells #[.int .i64 1, .string n, av, .string ⟨#[]⟩] 49 (0, 0)) ∧ w9.cell? ⟨X, 2, none⟩ = some av ∧ w9.frozen? ⟨X, 2, none⟩ = false := by
  have hlt := lt_of_block hv.var
  have h1 : w9.heap[X]? = some (.cells #[.int .i64 1, .string n, av, .string ⟨#[]⟩] 49 (0, 0)) := by
    rw [hg.block X (by simp; omega) (fun e => ?_), Below.heap_alloc _ _ _ hlt]
    · exact hv.var
    · obtain ⟨c, f, hg'⟩ := row_kind hv.row X e.symm
      have := hg'.symm.trans hv.var
      simp at this
  exact ⟨h1, by rw [Lib.cell_of_heap h1]; rfl, Lib.frozen_of_heap h1 _⟩
/-- An attribute more. -/
theorem attr_more {X : Nat} {n : ByteArray} {av : Value} {l : List Pure.Attr} {a : Pure.Attr} {s7 : Pure.St} {w6 w9 : World} {o : Obj} {g cap : Nat} (hI : Inv (T.with _ _ (heldRow X n av l)) B src rb s7 w6)
    (hown : w9.ownsRow 0 98 2 (.slice (some ⟨g, 0, none⟩) (l.length + 1) cap) (l.length + 1) (l.flatMap encA ++ encA a)) (hg : (w6.alloc o).grownBy w9 av.ownBlock) (hat : av.ownBlock = some g ∨ g = (w6.alloc o).heap.size) :
    Inv (T.with _ _ (heldRow X n (.slice (some ⟨g, 0, none⟩) (l.length + 1) cap) (l ++ [a]))) B src rb s7 (w9.setCell ⟨X, 2, none⟩ (.slice (some ⟨g, 0, none⟩) (l.length + 1) cap)) ∧
      Below B w6 (w9.setCell ⟨X, 2, none⟩ (.slice (some ⟨g, 0, none⟩) (l.length + 1) cap)) := by
  obtain ⟨hx, _, _⟩ := x_kept hI.held hg
  have hC : Chg (fun i => i = X ∨ av.ownBlock = some i) w6 (w9.setCell ⟨X, 2, none⟩ (.slice (some ⟨g, 0, none⟩) (l.length + 1) cap)) :=
    (Chg.grown ((Chg.refl _ w6).alloc o) hg (fun k hk => .inl (.inr hk))).setCell _ _ (.inl (.inl rfl))
  have hgX : g ≠ X := fun e => by
    obtain ⟨c, f, hg'⟩ := row_kind hown g rfl
    have := hg'.symm.trans (e ▸ hx)
    simp at this
  refine ⟨hI.turn hC (fun i hi => ?_) ⟨heap_setCell_same (i := 2) hx _, ?_⟩, hC.below hI.room ?_⟩
  · rcases hi with hi | hi
    · exact .inl (.inl hi)
    · have e : g = i := by simpa [Value.ownBlock] using hi
      subst e
      rcases hat with h | h
      · exact .inl (.inr h)
      · right; rw [h]; simp
  · have e1 : (l ++ [a]).length = l.length + 1 := by simp
    have e2 : (l ++ [a]).flatMap encA = l.flatMap encA ++ encA a := by simp
    rw [e1, e2]
    refine owns_keep hown fun i hi => ?_
    rw [Below.heap_setCell _ _ _ _ ?_]
    intro e
    have : g = i := by simpa [Value.ownBlock] using hi
    exact hgX (this.trans e)
  · obtain ⟨_, _, _, _, _, _, _, _, _, _, h, _⟩ := hI.heldApart
    exact h
end Go.Proofs.YtipfakmbjajhlaaGreatDoor 
