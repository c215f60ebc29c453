/-
  scan.sorted: slices.SortFunc at attributes, by their names' bytes.
-/
import Derived.Test.YtipfakmbjajhlaaGreatDoorScan9
import Derived.Test.YtipfakmbjajhlaaGreatDoorShelfG
set_option linter.unusedVariables false
set_option linter.unusedSimpArgs false
namespace Go.Proofs.YtipfakmbjajhlaaGreatDoor 
open Go.RowKit Go.Sort
theorem cmp_self : ∀ a : List UInt8, Lib.compareBytes a a = 0
  | [] => rfl
  | a :: r => by simp only [Lib.compareBytes, UInt8.lt_irrefl, if_false]; exact cmp_self r
theorem cmp_swap : ∀ a b : List UInt8, Lib.compareBytes b a = - Lib.compareBytes a b
  | [], [] => rfl
  | [], _ :: _ => rfl
  | _ :: _, [] => rfl
  | a :: r, b :: s => by
    simp only [Lib.compareBytes]
    by_cases h1 : a < b
    · have h2 : ¬ b < a := by intro h; exact absurd (UInt8.lt_trans h1 h) (UInt8.lt_irrefl a)
      simp [h1, h2]
    · by_cases h2 : b < a
      · simp [h1, h2]
      · simp only [h1, h2, if_false]; exact cmp_swap r s
theorem cmp_zero : ∀ a b : List UInt8, Lib.compareBytes a b = 0 → a = b
  | [], [], _ => rfl
  | [], _ :: _, h => by simp [Lib.compareBytes] at h
  | _ :: _, [], h => by simp [Lib.compareBytes] at h
  | a :: r, b :: s, h => by
    simp only [Lib.compareBytes] at h
    split at h
    · simp at h
    · split at h
      · simp at h
      · rename_i h1 h2
        have : a = b := by
          apply UInt8.toNat_inj.1
          rw [UInt8.lt_iff_toNat_lt] at h1 h2
          omega
        rw [this, cmp_zero r s h]
theorem cmp_trans : ∀ a b c : List UInt8, Lib.compareBytes a b < 0 → Lib.compareBytes b c < 0 → Lib.compareBytes a c < 0
  | [], [], c, h, _ => by simp [Lib.compareBytes] at h
  | [], _ :: _, [], _, h => by simp [Lib.compareBytes] at h
  | [], _ :: _, _ :: _, _, _ => by simp [Lib.compareBytes]
  | _ :: _, [], _, h, _ => by simp [Lib.compareBytes] at h
  | _ :: _, _ :: _, [], _, h => by simp [Lib.compareBytes] at h
  | a :: r, b :: s, c :: t, h, k => by
    simp only [Lib.compareBytes, UInt8.lt_iff_toNat_lt] at h k ⊢
    by_cases h1 : a.toNat < b.toNat
    · by_cases k1 : b.toNat < c.toNat
      · rw [if_pos (by omega)]; decide
      · rw [if_neg k1] at k
        by_cases k2 : c.toNat < b.toNat
        · rw [if_pos k2] at k; simp at k
        · rw [if_pos (by omega)]; decide
    · rw [if_neg h1] at h
      by_cases h2 : b.toNat < a.toNat
      · rw [if_pos h2] at h; simp at h
      · rw [if_neg h2] at h
        by_cases k1 : b.toNat < c.toNat
        · rw [if_pos (by omega)]; decide
        · rw [if_neg k1] at k
          by_cases k2 : c.toNat < b.toNat
          · rw [if_pos k2] at k; simp at k
          · rw [if_neg k2] at k
            rw [if_neg (by omega), if_neg (by omega)]
            exact cmp_trans r s t h k
def cmpA (a b : Pure.Attr) : Int := Lib.compareBytes (Pure.toL a.name) (Pure.toL b.name)
theorem swoA : SWO (ltOf cmpA) where
  irrefl x := by simp [ltOf, cmpA, cmp_self]
  trans x y z h1 h2 := by simp only [ltOf, decide_eq_true_eq] at *; exact cmp_trans _ _ _ h1 h2
  ntrans x y z h1 h2 := by
    simp only [ltOf, decide_eq_false_iff_not, Int.not_lt] at *
    unfold cmpA at *
    rcases Int.lt_or_eq_of_le h1 with h | h
    · rcases Int.lt_or_eq_of_le h2 with k | k
      · have a1 : Lib.compareBytes (Pure.toL y.name) (Pure.toL x.name) < 0 := by rw [cmp_swap]; omega
        have a2 : Lib.compareBytes (Pure.toL z.name) (Pure.toL y.name) < 0 := by rw [cmp_swap]; omega
        have := cmp_trans _ _ _ a2 a1
        rw [cmp_swap] at this
        omega
      · rw [← cmp_zero _ _ k.symm]; omega
    · rw [cmp_zero _ _ h.symm]; omega
theorem insA_perm (a : Pure.Attr) : ∀ l, (Pure.insA a l).Perm (a :: l)
  | [] => .refl _
  | b :: l => by
    unfold Pure.insA
    split
    · exact ((insA_perm a l).cons b).trans (.swap a b l)
    · exact .refl _
theorem sortA_perm : ∀ l, (Pure.sortA l).Perm l
  | [] => .refl _
  | a :: l => (insA_perm a _).trans ((sortA_perm l).cons a)
def LeA (a b : Pure.Attr) : Prop := ltOf cmpA b a = false
theorem LeA.trans {a b c : Pure.Attr} (h : LeA a b) (k : LeA b c) : LeA a c := swoA.ntrans _ _ _ k h
theorem insA_sorted (a : Pure.Attr) : ∀ l, l.Pairwise LeA → (Pure.insA a l).Pairwise LeA
  | [], _ => by simp [Pure.insA]
  | b :: l, h => by
    unfold Pure.insA
    rw [List.pairwise_cons] at h
    split
    · rename_i hlt
      rw [List.pairwise_cons]
      refine ⟨fun c hc => ?_, insA_sorted a l h.2⟩
      rcases List.mem_cons.1 ((insA_perm a l).mem_iff.1 hc) with rfl | hc
      · unfold LeA ltOf
        rw [decide_eq_false_iff_not]
        unfold cmpA
        rw [cmp_swap]
        omega
      · exact h.1 c hc
    · rename_i hlt
      have hab : LeA a b := by unfold LeA ltOf cmpA; rw [decide_eq_false_iff_not]; exact hlt
      rw [List.pairwise_cons]
      refine ⟨fun c hc => ?_, List.pairwise_cons.2 h⟩
      rcases List.mem_cons.1 hc with rfl | hc
      · exact hab
      · exact hab.trans (h.1 c hc)
theorem sortA_sorted : ∀ l, (Pure.sortA l).Pairwise LeA
  | [] => .nil
  | a :: l => insA_sorted a _ (sortA_sorted l)
theorem perm_eq_of_sorted : ∀ {l m : List Pure.Attr}, l.Perm m → l.Pairwise LeA → m.Pairwise LeA → (∀ a b, a ∈ l → b ∈ l → LeA a b → LeA b a → a = b) → l = m
  | [], m, hp, _, _, _ => hp.nil_eq
  | a :: l, [], hp, _, _, _ => hp.symm.nil_eq.symm
  | a :: l, b :: m, hp, h1, h2, hu => by
    rw [List.pairwise_cons] at h1 h2
    have e : a = b := by
      have hb : b ∈ a :: l := hp.mem_iff.2 (List.mem_cons_self ..)
      have ha : a ∈ b :: m := hp.mem_iff.1 (List.mem_cons_self ..)
      rcases List.mem_cons.1 hb with h | h
      · exact h.symm
      · rcases List.mem_cons.1 ha with k | k
        · exact k
        · exact hu a b (List.mem_cons_self ..) (List.mem_cons_of_mem _ h) (h1.1 b h) (h2.1 a k)
    subst e
    rw [perm_eq_of_sorted (List.Perm.cons_inv hp) h1.2 h2.2 fun x y hx hy => hu x y (List.mem_cons_of_mem _ hx) (List.mem_cons_of_mem _ hy)]
/-- No two attributes have one name. -/
def Apart (l : List Pure.Attr) : Prop := l.Pairwise fun a b => a.name ≠ b.name
theorem Apart.uniq : ∀ {l : List Pure.Attr}, Apart l → ∀ a b, a ∈ l → b ∈ l → a.name = b.name → a = b
  | [], _, _, _, h, _, _ => absurd h List.not_mem_nil
  | c :: l, h, a, b, ha0, hb0, e => by
    have h' := List.pairwise_cons.1 h
    rcases List.mem_cons.1 ha0 with rfl | ha <;> rcases List.mem_cons.1 hb0 with rfl | hb
    · rfl
    · exact absurd e (h'.1 _ hb)
    · exact absurd e.symm (h'.1 _ ha)
    · exact Apart.uniq h'.2 a b ha hb e
theorem sortA_unique {l m : List Pure.Attr} (ha : Apart l) (hp : m.Perm l) (hs : m.Pairwise LeA) : m = Pure.sortA l := by
  refine perm_eq_of_sorted (hp.trans (sortA_perm l).symm) hs (sortA_sorted l) fun a b h1 h2 k1 k2 => ?_
  refine ha.uniq a b (hp.mem_iff.1 h1) (hp.mem_iff.1 h2) ?_
  unfold LeA ltOf at k1 k2
  rw [decide_eq_false_iff_not] at k1 k2
  unfold cmpA at k1 k2
  have k3 := cmp_swap (Pure.toL a.name) (Pure.toL b.name)
  exact Pure.toL_inj (cmp_zero _ _ (by omega))
/-- The attributes' cells. -/
def encA (a : Pure.Attr) : List Value := [.string a.name, .string a.value]
set_option maxHeartbeats 1000000 in
theorem sortedCmp_any (x y : Pure.Attr) (W : World) : Calls Tryz.prog 155 #[.agg #[.string x.name, .string x.value], .agg #[.string y.name, .string y.value]] W fun e w' => e = .returned (.int .i64 (cmpA x y)) ∧ ∃ q os', w' = grow (W.drewN q) os' := by
  have hcon := fun W' => Tryz.strings_Compare x.name y.name W'
  have hc : Lib.compareBytes x.name.data.toList y.name.data.toList = cmpA x y := rfl
  rw [hc] at hcon
  generalize cmpA x y = r at hcon ⊢
  have HC := Lib.hid hcon
  clear hcon hc
  go_enter Tryz.func155, Tryz.ntmps155
  go_wp2_with (go_at_call 156; refine (HC.out _).mono ?_; rintro e w' ⟨rfl, rfl⟩)
  go_ret
  exact ⟨rfl, 0, _, by rw [alloc_eq_grow, alloc_eq_grow, grow_grow]; rfl⟩
end Go.Proofs.YtipfakmbjajhlaaGreatDoor 
