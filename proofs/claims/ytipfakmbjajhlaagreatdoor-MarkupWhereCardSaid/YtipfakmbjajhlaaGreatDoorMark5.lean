/-
  The trees that are open while markup is read: what the closure keeps.
-/
import Derived.Test.YtipfakmbjajhlaaGreatDoorMark4
set_option linter.unusedVariables false
set_option linter.unusedSimpArgs false
namespace Go.Proofs.YtipfakmbjajhlaaGreatDoor 
open Go.RowKit Go.Shelf
/-- A tree that is open: its variable, the row of its children. -/
def FrameAt (w : World) (C : Nat → Prop) (tb : Nat) (k : Int) (fr : Pure.Fr) (kv : Value) : Prop :=
  ∃ av xs, w.heap[tb]? = some (.cells #[.int .i64 k, .string fr.name, av, .string ⟨#[]⟩, kv] 76 (0, 0)) ∧ AttrsAt w C av fr.attrs ∧ w.ownsRow 0 76 5 kv fr.kids.length xs ∧ EncL w C fr.kids xs
/-- The open trees, the innermost one first, and the blocks that they use. -/
def Stack (w : World) (C : Nat → Prop) : List Nat → List Nat → List Pure.Fr → Prop
  | [], u, [] => u = []
  | tb :: tbs, u, fr :: frs => ∃ kv u', u = tb :: (kv.ownBlock.toList ++ u') ∧ FrameAt w C tb (if frs.isEmpty then 0 else 1) fr kv ∧ Stack w C tbs u' frs
  | _ :: _, _, [] => False
  | [], _, _ :: _ => False
theorem FrameAt.mono {w w' : World} {C C' : Nat → Prop} {tb : Nat} {k : Int} {fr : Pure.Fr} {kv : Value} (h : FrameAt w C tb k fr kv) (hC : ∀ i, C i → C' i) (hk : ∀ i, C i → w'.heap[i]? = w.heap[i]?) (ht : w'.heap[tb]? = w.heap[tb]?) (hr : ∀ i, kv.ownBlock = some i → w'.heap[i]? = w.heap[i]?) : FrameAt w' C' tb k fr kv := by
  obtain ⟨av, xs, h1, h2, h3, h4⟩ := h
  exact ⟨av, xs, by rw [ht]; exact h1, (h2.keep hk).mono hC, owns_keep h3 hr, h4.mono hC hk⟩
theorem Stack.mono {w w' : World} {C C' : Nat → Prop} (hC : ∀ i, C i → C' i) (hk : ∀ i, C i → w'.heap[i]? = w.heap[i]?) : ∀ {tbs u : List Nat} {frs : List Pure.Fr}, Stack w C tbs u frs → (∀ i ∈ u, w'.heap[i]? = w.heap[i]?) → Stack w' C' tbs u frs
  | [], u, [], h, _ => h
  | tb :: tbs, u, fr :: frs, ⟨kv, u', h1, h2, h3⟩, hu => by
    subst h1
    refine ⟨kv, u', rfl, h2.mono hC hk (hu tb (by simp)) (fun i hi => hu i (by simp [hi])), Stack.mono hC hk h3 fun i hi => hu i (by simp [hi])⟩
  | _ :: _, _, [], h, _ => h.elim
  | [], _, _ :: _, h, _ => h.elim
theorem tree_row_kind {w : World} {kv : Value} {n B' : Nat} {xs : List Value} (h : w.ownsRow B' 76 5 kv n xs) : ∀ i, kv.ownBlock = some i → ∃ c f, w.heap[i]? = some (.cells c 76 f) := by
  intro i hi
  rcases h.2 with ⟨rfl, _⟩ | ⟨g, cap, cur, rfl, _, hg, _⟩
  · simp [Value.ownBlock] at hi
  · have e : g = i := by simpa [Value.ownBlock] using hi
    subst e
    exact ⟨_, _, hg⟩
theorem Stack.kind {w : World} {C : Nat → Prop} : ∀ {tbs u : List Nat} {frs : List Pure.Fr}, Stack w C tbs u frs → ∀ i ∈ u, ∃ c f, w.heap[i]? = some (.cells c 76 f)
  | [], u, [], h, i, hi => by rw [h] at hi; simp at hi
  | tb :: tbs, u, fr :: frs, ⟨kv, u', h1, h2, h3⟩, i, hi => by
    subst h1
    obtain ⟨av, xs, k1, _, k3, _⟩ := h2
    rcases List.mem_cons.1 hi with rfl | hi
    · exact ⟨_, _, k1⟩
    · rcases List.mem_append.1 hi with hi | hi
      · exact tree_row_kind k3 i (by simpa using hi)
      · exact h3.kind i hi
  | _ :: _, _, [], h, _, _ => h.elim
  | [], _, _ :: _, h, _, _ => h.elim
theorem Stack.length {w : World} {C : Nat → Prop} : ∀ {tbs u : List Nat} {frs : List Pure.Fr}, Stack w C tbs u frs → tbs.length = frs.length
  | [], u, [], _ => rfl
  | tb :: tbs, u, fr :: frs, ⟨kv, u', _, _, h3⟩ => by simp [h3.length]
  | _ :: _, _, [], h => h.elim
  | [], _, _ :: _, h => h.elim
/-! ### The events' depth -/
theorem foldl_none (evs : List Pure.Event) : evs.foldl (fun d e => d.bind fun n => if e.kind = 1 then some (n + 1) else if e.kind = 3 then (if n = 0 then none else some (n - 1)) else some n) (none : Option Nat) = none := by
  induction evs with
  | nil => rfl
  | cons e evs ih => exact ih
theorem builds_depth : ∀ (evs : List Pure.Event) (o : List Pure.Fr) (n d : Nat), o.length = n + 1 → (∀ e ∈ evs, e.kind = 1 ∨ e.kind = 2 ∨ e.kind = 3) → evs.foldl (fun d e => d.bind fun n => if e.kind = 1 then some (n + 1) else if e.kind = 3 then (if n = 0 then none else some (n - 1)) else some n) (some n) = some d →
    (evs.foldl Pure.stepE o).length = d + 1
  | [], o, n, d, ho, _, h => by
    simp only [List.foldl_nil, Option.some.injEq] at h ⊢
    omega
  | e :: evs, o, n, d, ho, hk, h => by
    rw [List.foldl_cons] at h ⊢
    have hk' := fun x hx => hk x (List.mem_cons_of_mem _ hx)
    simp only [Option.bind_some] at h
    rcases hk e (List.mem_cons_self ..) with h1 | h1 | h1
    · rw [if_pos h1] at h
      refine builds_depth evs _ (n + 1) d ?_ hk' h
      unfold Pure.stepE; rw [if_pos h1]; simp [ho]
    · rw [if_neg (by omega), if_neg (by omega)] at h
      refine builds_depth evs _ n d ?_ hk' h
      unfold Pure.stepE
      rw [if_neg (by omega)]
      cases o with
      | nil => simp at ho
      | cons t r => simp only; rw [if_pos h1]; simpa using ho
    · rw [if_neg (by omega), if_pos h1] at h
      by_cases hn : n = 0
      · rw [if_pos hn, foldl_none] at h; cases h
      rw [if_neg hn] at h
      refine builds_depth evs _ (n - 1) d ?_ hk' h
      unfold Pure.stepE
      rw [if_neg (by omega)]
      match o, ho with
      | [], ho => simp at ho
      | [t], ho => simp at ho; omega
      | t :: u :: r, ho =>
        simp only
        rw [if_neg (by omega)]
        simp at ho ⊢
        omega
/-- No tree has more children than there were events. -/
theorem builds_few : ∀ (evs : List Pure.Event) (o : List Pure.Fr) (n : Nat), (∀ fr ∈ o, fr.kids.length ≤ n) → ∀ fr ∈ evs.foldl Pure.stepE o, fr.kids.length ≤ n + evs.length
  | [], o, n, h, fr, hf => by have := h fr hf; simp; omega
  | e :: evs, o, n, h, fr, hf => by
    rw [List.foldl_cons] at hf
    have := builds_few evs (Pure.stepE o e) (n + 1) ?_ fr hf
    · simp only [List.length_cons]; omega
    intro x hx
    unfold Pure.stepE at hx
    split at hx
    · rcases List.mem_cons.1 hx with rfl | hx
      · simp
      · have := h x hx; omega
    · split at hx
      · simp at hx
      · rename_i top r
        split at hx
        · rcases List.mem_cons.1 hx with rfl | hx
          · have := h top (by simp); simp; omega
          · have := h x (by simp [hx]); omega
        · split at hx
          · simp at hx
          · rename_i up r'
            rcases List.mem_cons.1 hx with rfl | hx
            · have := h up (by simp); simp; omega
            · have := h x (by simp [hx]); omega
theorem builds_few' (evs : List Pure.Event) : ∀ fr ∈ Pure.builds evs, fr.kids.length ≤ evs.length := by
  intro fr hf
  have := builds_few evs [⟨Pure.noB, [], []⟩] 0 (by intro fr hf; simp at hf; subst hf; simp) fr hf
  omega
theorem builds_snoc (evs : List Pure.Event) (e : Pure.Event) : Pure.builds (evs ++ [e]) = Pure.stepE (Pure.builds evs) e := by unfold Pure.builds; rw [List.foldl_append]; rfl
/-! ### What the closure keeps -/
structure ParseMem (ob : Nat) (evs : List Pure.Event) (C : Nat → Prop) (ov : Value) (tbs u : List Nat) (w : World) : Prop where
  opn : w.heap[ob]? = some (.cells #[ov] 89 (0, 0))
  row : w.ownsRow 0 88 1 ov tbs.length (tbs.reverse.map fun b => .pointer (some ⟨b, 0, none⟩))
  stack : Stack w C tbs u (Pure.builds evs)
  nodup : (ob :: (ov.ownBlock.toList ++ u)).Nodup
  apart : ∀ k ∈ ob :: (ov.ownBlock.toList ++ u), ¬ C k
  kindC : ∀ k, C k → ∃ c e f, w.heap[k]? = some (.cells c e f) ∧ (e = 76 ∨ e = 98)
  kinds : ∀ e ∈ evs, e.kind = 1 ∨ e.kind = 2 ∨ e.kind = 3
  depth : (depthOf evs).isSome = true
def ParseInv (ob : Nat) (evs : List Pure.Event) (S : Nat → Prop) (w : World) : Prop :=
  ∃ C ov tbs u, ParseMem ob evs C ov tbs u w ∧ ∀ k, S k ↔ C k ∨ k ∈ ob :: (ov.ownBlock.toList ++ u)
theorem ptr_row_kind {w : World} {ov : Value} {n B' : Nat} {xs : List Value} (h : w.ownsRow B' 88 1 ov n xs) : ∀ i, ov.ownBlock = some i → ∃ c f, w.heap[i]? = some (.cells c 88 f) := by
  intro i hi
  rcases h.2 with ⟨rfl, _⟩ | ⟨g, cap, cur, rfl, _, hg, _⟩
  · simp [Value.ownBlock] at hi
  · have e : g = i := by simpa [Value.ownBlock] using hi
    subst e
    exact ⟨_, _, hg⟩
theorem ParseInv.keep {ob : Nat} {evs : List Pure.Event} {S : Nat → Prop} {w w' : World} (h : ParseInv ob evs S w) (hk : ∀ k, S k → w'.heap[k]? = w.heap[k]?) : ParseInv ob evs S w' := by
  obtain ⟨C, ov, tbs, u, hm, hS⟩ := h
  have hC : ∀ k, C k → w'.heap[k]? = w.heap[k]? := fun k h => hk k ((hS k).2 (.inl h))
  have hU : ∀ k, k ∈ ob :: (ov.ownBlock.toList ++ u) → w'.heap[k]? = w.heap[k]? := fun k h => hk k ((hS k).2 (.inr h))
  refine ⟨C, ov, tbs, u, ⟨by rw [hU ob (by simp)]; exact hm.opn, owns_keep hm.row fun i hi => hU i (by simp [hi]), hm.stack.mono (fun _ h => h) hC fun i hi => hU i (by simp [hi]), hm.nodup, hm.apart, fun k hk' => ?_, hm.kinds, hm.depth⟩, hS⟩
  obtain ⟨c, e, f, h1, h2⟩ := hm.kindC k hk'
  exact ⟨c, e, f, by rw [hC k hk']; exact h1, h2⟩
theorem ParseInv.kind {ob : Nat} {evs : List Pure.Event} {S : Nat → Prop} {w : World} {k : Nat} (h : ParseInv ob evs S w) (hk : S k) : ∃ c e f, w.heap[k]? = some (.cells c e f) ∧ e ≠ 9 ∧ e ≠ 126 := by
  obtain ⟨C, ov, tbs, u, hm, hS⟩ := h
  rcases (hS k).1 hk with h | h
  · obtain ⟨c, e, f, h1, h2⟩ := hm.kindC k h
    refine ⟨c, e, f, h1, ?_⟩
    rcases h2 with rfl | rfl <;> decide
  · rcases List.mem_cons.1 h with rfl | h
    · exact ⟨_, _, _, hm.opn, by decide, by decide⟩
    · rcases List.mem_append.1 h with h | h
      · obtain ⟨c, f, h1⟩ := ptr_row_kind hm.row k (by simpa using h)
        exact ⟨_, _, _, h1, by decide, by decide⟩
      · obtain ⟨c, f, h1⟩ := hm.stack.kind k h
        exact ⟨_, _, _, h1, by decide, by decide⟩
end Go.Proofs.YtipfakmbjajhlaaGreatDoor 
