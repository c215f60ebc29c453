/-
  scan.Scan's deferred closure; a piece reads on.
-/
import Derived.Test.YtipfakmbjajhlaaGreatDoorTag4
import Derived.Defers
import Derived.Recover
set_option linter.unusedVariables false
set_option linter.unusedSimpArgs false
namespace Go.Proofs.YtipfakmbjajhlaaGreatDoor 
open Go.RowKit Go.Shelf
theorem catch_idle (p q : Addr) (w : World) :
    CallsD Tryz.prog 93 #[.pointer (some p), .pointer (some q)] .returning w fun e u' w' => e = .returned (.tuple #[]) ∧ u' = .returning ∧ w' = w := by
  refine callsD_of_wpS Tryz.func93 rfl fun c₀ cs hu => ?_
  apply wpS_seq
  apply wpS_region
  simp [wpOpsS, go_sem, recoverD, hu, Tryz.ntmps93, Exit.thenS]
  apply wpS_seq
  apply wpS_region
  simp [wpOpsS, go_sem, Exit.thenS]
  refine wpS_cond (t := false) (by simp [Act.eval, Array.replicate]) ?_
  simp only [Bool.false_eq_true, if_false]
  refine wpS_of_wp (wp_skip ?_)
  cases c₀
  simp_all [bodyPostS, results, Tryz.results93]
theorem catch_fault (p q : Nat) (x y a c : Int) (hpq : p ≠ q) (w : World) (hp : w.cell? ⟨p, 0, none⟩ = some (.int .i64 x)) (hq : w.cell? ⟨q, 0, none⟩ = some (.int .i64 y)) (fp : w.frozen? ⟨p, 0, none⟩ = false) (fq : w.frozen? ⟨q, 0, none⟩ = false) :
    CallsD Tryz.prog 93 #[.pointer (some ⟨p, 0, none⟩), .pointer (some ⟨q, 0, none⟩)] (.panicking [{ v := .iface 128 (.agg #[.int .i64 a, .int .i64 c]), recovered := false }]) w fun e u' w' =>
      e = .returned (.tuple #[]) ∧ u' = .panicking [{ v := .iface 128 (.agg #[.int .i64 a, .int .i64 c]), recovered := true }] ∧
        w' = ((w.setCell ⟨p, 0, none⟩ (.int .i64 a)).setCell ⟨q, 0, none⟩ (.int .i64 c)).drew := by
  have hta : ∀ (u v : Value) (W : World), (Instr.typeAssert (.iface 128 (.agg #[u, v])) 20 128 false).run Tryz.prog W = .ok (.agg #[u, v]) W := fun _ _ _ => by kernel_rfl
  have hf0 : ∀ (u v : Value) (W : World), (Instr.field 128 (.agg #[u, v]) 0).run Tryz.prog W = .ok u W := fun _ _ _ => by kernel_rfl
  have hf1 : ∀ (u v : Value) (W : World), (Instr.field 128 (.agg #[u, v]) 1).run Tryz.prog W = .ok v W := fun _ _ _ => by kernel_rfl
  refine callsD_of_wpS Tryz.func93 rfl fun c₀ cs hu => ?_
  apply wpS_seq
  apply wpS_region
  simp [wpOpsS, go_sem, recoverD, hu, Tryz.ntmps93, Exit.thenS]
  apply wpS_seq
  apply wpS_region
  simp [wpOpsS, go_sem, Exit.thenS]
  refine wpS_cond (t := true) (by simp [Act.eval, Array.replicate]) ?_
  simp only [if_true]
  refine wpS_of_wp ?_
  go_region
  all_goals simp [bodyPostS, results, Tryz.results93]
/-! ### A piece reads on -/
theorem blanks_le {b : Bool} {st s : Pure.St} (h : Pure.blanks st = .ok b s) : s.rest.length ≤ st.rest.length := by
  unfold Pure.blanks at h
  cases h
  exact (List.dropWhile_sublist _).length_le
theorem flush_rest {u : Unit} {st s : Pure.St} (h : Pure.flush st = .ok u s) : s.rest = st.rest := by
  unfold Pure.flush at h
  split at h
  · cases h; rfl
  · cases h; rfl
theorem begins_rest {u : Unit} {left : Nat} {st s : Pure.St} (h : Pure.begins left st = .ok u s) : s.rest = st.rest := by
  unfold Pure.begins at h
  split at h
  · cases h
  · cases h; rfl
theorem opensLoop_le : ∀ (f : Nat) (n : ByteArray) (l : List Pure.Attr) {u : Unit} {st s : Pure.St}, Pure.opensLoop f n l st = .ok u s → s.rest.length ≤ st.rest.length
  | 0, n, l, u, st, s, h => by unfold Pure.opensLoop at h; cases h
  | f + 1, n, l, u, st, s, h => by
    unfold Pure.opensLoop at h
    obtain ⟨ahead, s1, h1, h2⟩ := bind_inv h
    obtain ⟨c, s2, h3, h4⟩ := bind_inv h2
    have l1 := blanks_le h1
    have l2 := (next_on h3).2
    split at h4
    · obtain ⟨_, s3, h5, h6⟩ := bind_inv h4
      cases h6
      have l3 := (must_on h5).2
      have l4 := (skip_on s2).2
      show s3.rest.length ≤ _
      omega
    · split at h4
      · cases h4
        have l4 := (skip_on s2).2
        show (Pure.skip s2).rest.length ≤ _
        omega
      · split at h4
        · obtain ⟨a, s3, h5, h6⟩ := bind_inv h4
          have l3 := (attr_on h5).1.2
          have l4 := opensLoop_le f n _ h6
          omega
        · cases h4
theorem opens_less {u : Unit} {st s : Pure.St} (h : Pure.opens st = .ok u s) : s.rest.length < st.rest.length := by
  unfold Pure.opens at h
  obtain ⟨_, s1, h1, h2⟩ := bind_inv h
  obtain ⟨_, s2, h3, h4⟩ := bind_inv h2
  obtain ⟨n, s3, h5, h6⟩ := bind_inv h4
  have l1 := congrArg List.length (flush_rest h1)
  have l2 := congrArg List.length (begins_rest h3)
  have l3 := (name_on h5).2
  have l4 := (skip_on s2).2
  have l5 := opensLoop_le _ _ _ h6
  omega
theorem closes_less {u : Unit} {st s : Pure.St} (h : Pure.closes st = .ok u s) : s.rest.length < st.rest.length := by
  unfold Pure.closes at h
  obtain ⟨_, s1, h1, h2⟩ := bind_inv h
  obtain ⟨c, s2, h3, h4⟩ := bind_inv h2
  have l1 := congrArg List.length (flush_rest h1)
  have l2 := (next_on h3).2
  have l2' : s2.rest.length + 0 ≤ (s1.rest.drop 2).length := l2
  rw [List.length_drop] at l2'
  split at h4
  · cases h4
  obtain ⟨w, s3, h5, h6⟩ := bind_inv h4
  have l3 := (name_on h5).2
  split at h6
  · cases h6
  split at h6
  · cases h6
  obtain ⟨_, s4, h7, h8⟩ := bind_inv h6
  obtain ⟨_, s5, h9, h10⟩ := bind_inv h8
  cases h10
  have l4 := blanks_le h7
  have l5 := (must_on h9).2
  show s5.rest.length < _
  omega
theorem tag_less {u : Unit} {st s : Pure.St} (h : Pure.tag st = .ok u s) : s.rest.length < st.rest.length := by
  unfold Pure.tag at h
  split at h
  · cases h
  split at h
  · have := (past_less (by decide) h).1
    simp only [List.length_cons, List.length_nil] at this
    omega
  split at h
  · have := (past_less (by decide) h).1
    simp only [List.length_cons, List.length_nil] at this
    omega
  split at h
  · obtain ⟨_, s1, h1, h2⟩ := bind_inv h
    obtain ⟨_, s2, h3, h4⟩ := bind_inv h2
    cases h4
    have := (past_less (by decide) h1).1
    simp only [List.length_cons, List.length_nil] at this
    show s1.rest.length < _
    omega
  split at h
  · exact closes_less h
  split at h
  · exact opens_less h
  · cases h
theorem piece_less {u : Unit} {st s : Pure.St} (h : Pure.piece st = .ok u s) (hne : st.rest ≠ []) : s.rest.length < st.rest.length := by
  unfold Pure.piece at h
  split at h
  · rename_i h0; exact absurd h0 hne
  split at h
  · exact tag_less h
  split at h
  · obtain ⟨t, s1, h1, h2⟩ := bind_inv h
    have l1 := congrArg List.length (adds_rest h2)
    have l2 := (refer_less h1 hne).1
    omega
  · obtain ⟨t, s1, h1, h2⟩ := bind_inv h
    have l1 := congrArg List.length (adds_rest h2)
    have l2 := (char_less h1).1
    omega
end Go.Proofs.YtipfakmbjajhlaaGreatDoor 
