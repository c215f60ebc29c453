/-
  A forest in memory: how its trees lie. No walk here.
-/
import Derived.Test.YtipfakmbjajhlaaGreatDoorLess
import Derived.Test.YtipfakmbjajhlaaGreatDoorPureM
set_option linter.unusedVariables false
set_option linter.unusedSimpArgs false
namespace Go.Proofs.YtipfakmbjajhlaaGreatDoor 
open Go.RowKit
mutual
/-- A tree's five cells lie at a place; what it refers to, in blocks of C. -/
def TreeAt (w : World) (C : Nat → Prop) : Nat → Nat → Pure.Tree → Prop
  | g, o, .mk k n a t kids => ∃ av q c, w.cell? ⟨g, o, none⟩ = some (.int .i64 k) ∧ w.cell? ⟨g, o + 1, none⟩ = some (.string n) ∧ w.cell? ⟨g, o + 2, none⟩ = some av ∧ w.cell? ⟨g, o + 3, none⟩ = some (.string t) ∧
      w.cell? ⟨g, o + 4, none⟩ = some (.slice q kids.length c) ∧ AttrsAt w C av a ∧ kids.length ≤ c ∧ (kids = [] ∨ ∃ g' o', q = some ⟨g', o', none⟩ ∧ C g' ∧ TreeRow w C g' o' kids)
def TreeRow (w : World) (C : Nat → Prop) : Nat → Nat → List Pure.Tree → Prop
  | _, _, [] => True
  | g, o, t :: r => TreeAt w C g o t ∧ TreeRow w C g (o + 5) r
end
/-- A slice of trees. -/
def TreesAt (w : World) (C : Nat → Prop) (v : Value) (l : List Pure.Tree) : Prop :=
  ∃ q c, v = .slice q l.length c ∧ l.length ≤ c ∧ (l = [] ∨ ∃ g o, q = some ⟨g, o, none⟩ ∧ C g ∧ TreeRow w C g o l)
theorem treeAt_iff {w : World} {C : Nat → Prop} {g o : Nat} {t : Pure.Tree} : TreeAt w C g o t ↔ ∃ av kv, w.cell? ⟨g, o, none⟩ = some (.int .i64 t.kind) ∧ w.cell? ⟨g, o + 1, none⟩ = some (.string t.name) ∧ w.cell? ⟨g, o + 2, none⟩ = some av ∧
    w.cell? ⟨g, o + 3, none⟩ = some (.string t.text) ∧ w.cell? ⟨g, o + 4, none⟩ = some kv ∧ AttrsAt w C av t.attrs ∧ TreesAt w C kv t.kids := by
  cases t with
  | mk k n a t kids =>
    unfold TreeAt TreesAt
    simp only [Pure.Tree.kind, Pure.Tree.name, Pure.Tree.text, Pure.Tree.attrs, Pure.Tree.kids]
    constructor
    · rintro ⟨av, q, c, h1, h2, h3, h4, h5, h6, h7, h8⟩
      exact ⟨av, _, h1, h2, h3, h4, h5, h6, q, c, rfl, h7, h8⟩
    · rintro ⟨av, kv, h1, h2, h3, h4, h5, h6, q, c, rfl, h7, h8⟩
      exact ⟨av, q, c, h1, h2, h3, h4, h5, h6, h7, h8⟩
mutual
theorem TreeAt.mono {w w' : World} {C C' : Nat → Prop} : ∀ {g o : Nat} {t : Pure.Tree}, TreeAt w C g o t → (∀ k, C k → C' k) → (∀ k, C k → w'.heap[k]? = w.heap[k]?) → w'.heap[g]? = w.heap[g]? → TreeAt w' C' g o t
  | g, o, .mk k n a t kids, h, hC, hk, hg => by
    unfold TreeAt at h ⊢
    obtain ⟨av, q, c, h1, h2, h3, h4, h5, h6, h7, h8⟩ := h
    have e : ∀ j, w'.cell? ⟨g, j, none⟩ = w.cell? ⟨g, j, none⟩ := fun j => World.cell?_of_block (w := w) hg
    refine ⟨av, q, c, by rw [e]; exact h1, by rw [e]; exact h2, by rw [e]; exact h3, by rw [e]; exact h4, by rw [e]; exact h5, (h6.keep hk).mono hC, h7, ?_⟩
    rcases h8 with h8 | ⟨g', o', h9, h10, h11⟩
    · exact .inl h8
    · exact .inr ⟨g', o', h9, hC _ h10, TreeRow.mono h11 hC hk (hk _ h10)⟩
theorem TreeRow.mono {w w' : World} {C C' : Nat → Prop} : ∀ {g o : Nat} {l : List Pure.Tree}, TreeRow w C g o l → (∀ k, C k → C' k) → (∀ k, C k → w'.heap[k]? = w.heap[k]?) → w'.heap[g]? = w.heap[g]? → TreeRow w' C' g o l
  | g, o, [], _, _, _, _ => trivial
  | g, o, t :: r, h, hC, hk, hg => ⟨TreeAt.mono h.1 hC hk hg, TreeRow.mono h.2 hC hk hg⟩
end
theorem TreesAt.mono {w w' : World} {C C' : Nat → Prop} {v : Value} {l : List Pure.Tree} (h : TreesAt w C v l) (hC : ∀ k, C k → C' k) (hk : ∀ k, C k → w'.heap[k]? = w.heap[k]?) : TreesAt w' C' v l := by
  obtain ⟨q, c, rfl, h1, h2⟩ := h
  refine ⟨q, c, rfl, h1, ?_⟩
  rcases h2 with h2 | ⟨g, o, h3, h4, h5⟩
  · exact .inl h2
  · exact .inr ⟨g, o, h3, hC _ h4, h5.mono hC hk (hk _ h4)⟩
theorem TreesAt.keep {w w' : World} {C : Nat → Prop} {v : Value} {l : List Pure.Tree} (h : TreesAt w C v l) (hk : ∀ k, C k → w'.heap[k]? = w.heap[k]?) : TreesAt w' C v l := h.mono (fun _ h => h) hk
theorem treesAt_nil (w : World) (C : Nat → Prop) : TreesAt w C (.slice none 0 0) [] := ⟨none, 0, rfl, Nat.le_refl _, .inl rfl⟩
/-- The tree at an index. -/
theorem TreeRow.get {w : World} {C : Nat → Prop} : ∀ {g o : Nat} {l : List Pure.Tree}, TreeRow w C g o l → ∀ i (h : i < l.length), TreeAt w C g (o + 5 * i) l[i]
  | g, o, [], _, i, hi => absurd hi (Nat.not_lt_zero _)
  | g, o, t :: r, h, 0, _ => h.1
  | g, o, t :: r, h, i + 1, hi => by
    have := TreeRow.get h.2 i (Nat.lt_of_succ_lt_succ hi)
    have e : o + 5 * (i + 1) = o + 5 + 5 * i := by omega
    rw [e]; exact this
/-- The cells of trees that lie in a row. -/
def EncL (w : World) (C : Nat → Prop) : List Pure.Tree → List Value → Prop
  | [], xs => xs = []
  | t :: r, xs => ∃ av kv ys, xs = .int .i64 t.kind :: .string t.name :: av :: .string t.text :: kv :: ys ∧ AttrsAt w C av t.attrs ∧ TreesAt w C kv t.kids ∧ EncL w C r ys
theorem EncL.mono {w w' : World} {C C' : Nat → Prop} : ∀ {l : List Pure.Tree} {xs : List Value}, EncL w C l xs → (∀ k, C k → C' k) → (∀ k, C k → w'.heap[k]? = w.heap[k]?) → EncL w' C' l xs
  | [], xs, h, _, _ => h
  | t :: r, xs, ⟨av, kv, ys, h1, h2, h3, h4⟩, hC, hk => ⟨av, kv, ys, h1, (h2.keep hk).mono hC, h3.mono hC hk, h4.mono hC hk⟩
theorem EncL.length {w : World} {C : Nat → Prop} : ∀ {l : List Pure.Tree} {xs : List Value}, EncL w C l xs → xs.length = l.length * 5
  | [], xs, h => by unfold EncL at h; rw [h]; rfl
  | t :: r, xs, ⟨av, kv, ys, h1, h2, h3, h4⟩ => by
    have := EncL.length h4
    rw [h1]; simp only [List.length_cons]; omega
theorem EncL.snoc {w : World} {C : Nat → Prop} {t : Pure.Tree} {av kv : Value} (ha : AttrsAt w C av t.attrs) (hk : TreesAt w C kv t.kids) : ∀ {l : List Pure.Tree} {xs : List Value}, EncL w C l xs → EncL w C (l ++ [t]) (xs ++ [.int .i64 t.kind, .string t.name, av, .string t.text, kv])
  | [], xs, h => by unfold EncL at h; subst h; exact ⟨av, kv, [], rfl, ha, hk, rfl⟩
  | u :: r, xs, ⟨av', kv', ys, h1, h2, h3, h4⟩ => by
    subst h1
    exact ⟨av', kv', _, rfl, h2, h3, EncL.snoc ha hk h4⟩
theorem EncL.row {w : World} {C C' : Nat → Prop} (hC : ∀ k, C k → C' k) {g : Nat} : ∀ {l : List Pure.Tree} {xs : List Value} (o : Nat), EncL w C l xs → (∀ j u, xs[j]? = some u → w.cell? ⟨g, o + j, none⟩ = some u) → TreeRow w C' g o l
  | [], xs, o, _, _ => trivial
  | t :: r, xs, o, ⟨av, kv, ys, h1, h2, h3, h4⟩, hc => by
    subst h1
    refine ⟨treeAt_iff.2 ⟨av, kv, hc 0 _ rfl, hc 1 _ rfl, hc 2 _ rfl, hc 3 _ rfl, hc 4 _ rfl, h2.mono hC, h3.mono hC fun _ _ => rfl⟩, ?_⟩
    refine EncL.row hC (o + 5) h4 fun j u hj => ?_
    have := hc (j + 5) u (by simpa using hj)
    have e : o + (j + 5) = o + 5 + j := by omega
    rw [← e]; exact this
/-- A row of trees that is owned reads as a slice of trees. -/
theorem trees_of_row {w : World} {C C' : Nat → Prop} {B' : Nat} {kv : Value} {l : List Pure.Tree} {xs : List Value} (h : w.ownsRow B' 76 5 kv l.length xs) (he : EncL w C l xs) (hC : ∀ k, C k → C' k) (hg : ∀ g, kv.ownBlock = some g → C' g) : TreesAt w C' kv l := by
  rcases h.2 with ⟨rfl, h0⟩ | ⟨g, cap, cur, rfl, _, hh, hc, _, hs, ht⟩
  · exact ⟨none, 0, by rw [h0], by omega, .inl (List.length_eq_zero_iff.1 h0)⟩
  · refine ⟨_, cap, rfl, hc, ?_⟩
    by_cases hl : l = []
    · exact .inl hl
    right
    refine ⟨g, 0, rfl, hg g rfl, he.row hC 0 fun j u hj => ?_⟩
    rw [Nat.zero_add, Lib.cell_of_heap hh]
    have hjl : j < xs.length := by
      rcases Nat.lt_or_ge j xs.length with h1 | h1
      · exact h1
      · rw [List.getElem?_eq_none h1] at hj; cases hj
    rw [← ht] at hj hjl
    rw [List.length_take] at hjl
    rw [List.getElem?_take_of_lt (by omega), Array.getElem?_toList] at hj
    exact hj
end Go.Proofs.YtipfakmbjajhlaaGreatDoor 
