/-
  strings.Builder: String: contract.
-/
import Derived.Test.YtipfakmbjajhlaaGreatDoorBld2
import Derived.RegionTactic
set_option linter.unusedVariables false
set_option linter.unusedSimpArgs false
namespace Go.Proofs.YtipfakmbjajhlaaGreatDoor 
open Go.RowKit
theorem cellsByte : Tryz.prog.cellsOf 5 = 1 := by kernel_rfl
def StrPost (v : Value) (l : Pure.Bytes) (w : World) (e : Ending) (w' : World) : Prop :=
  e = .returned (.string (Pure.ofL l)) ∧ Chg (fun k => v.ownBlock = some k) w w'
theorem Chg.freeze {S : Nat → Prop} {w w' : World} (h : Chg S w w') (a : Addr) (n : Nat) (ha : S a.block) : Chg S w (w'.freeze a n) := by
  by_cases h0 : n = 0
  · subst h0; exact h
  · refine ⟨?_, ?_, ?_, ?_, fun k hk hn => ?_⟩
    · unfold World.freeze; rw [if_neg h0]; exact h.os
    · unfold World.freeze; rw [if_neg h0]; exact h.tape
    · unfold World.freeze; rw [if_neg h0]; exact h.output
    · unfold World.freeze; rw [if_neg h0]; simpa using h.size
    · unfold World.freeze; rw [if_neg h0]
      simp only [Array.getElem?_modify]
      rw [if_neg (by rintro rfl; exact hn ha)]
      exact h.block k hk hn
set_option maxRecDepth 100000 in
set_option maxHeartbeats 1000000 in
theorem bString_some (b o base : Nat) (v : Value) (l : Pure.Bytes) (w : World) (hc : w.cell? ⟨b, o + 1, none⟩ = some v) (hB : BufAt w base v l) (h0 : l ≠ []) :
    Calls Tryz.prog 50 #[.pointer (some ⟨b, o, none⟩)] w (StrPost v l w) := by
  have hl0 : l.length ≠ 0 := by simpa using h0
  obtain ⟨g, cap, cur, rfl, hbg, hg, hnc, hcm, hcs, htake⟩ : ∃ g cap cur, v = .slice (some ⟨g, 0, none⟩) l.length cap ∧ base ≤ g ∧ w.heap[g]? = some (.cells cur 5 (0, 0)) ∧ l.length ≤ cap ∧ cap ≤ maxLen ∧ cur.size = cap * 1 ∧ cur.toList.take (l.length * 1) = Lib.byteCells l := by
    rcases hB.1.2 with ⟨_, hz⟩ | ⟨g, cap, cur, hv, r⟩
    · exact absurd hz hl0
    · exact ⟨g, cap, cur, hv, r⟩
  have c1 : w.drew.cell? ⟨b, o + 1, none⟩ = some (.slice (some ⟨g, 0, none⟩) l.length cap) := hc
  have hSD : (Builtin.unsafeSliceData_ #[37] 122 #[.slice (some ⟨g, 0, none⟩) l.length cap]).run Tryz.prog w.drew = .ok (.pointer (some ⟨g, 0, none⟩)) w.drew :=
    Lib.run_unsafeSliceData_row _ _ _ _ _ _ (by omega)
  have hUS : (Builtin.unsafeString_ #[122, 3] 9 #[.pointer (some ⟨g, 0, none⟩), .int .i64 l.length]).run Tryz.prog w.drew = .ok (.string ⟨l.toArray⟩) (w.drew.freeze ⟨g, 0, none⟩ l.length) := by
    refine Lib.run_unsafeString_row w.drew 122 3 9 5 Tryz.underlying122 cellsByte g cur.size (by have hg' : w.drew.heap[g]? = some (.cells cur 5 (0, 0)) := hg; simp [World.shape?, hg']) l h0 (by omega) (by unfold maxLen at hcm; omega) ?_
    intro j x hx
    have := hB.1.cells (g := g) rfl j (.int .u8 x.toNat) (by simp [Lib.byteCells, hx])
    exact this
  have HB := Lib.hid hB
  clear hB hg hnc hcm hcs htake hc
  go_enter Tryz.func50, Tryz.ntmps50
  go_wp2
  go_region
  all_goals (go_wp2; go_ret; exact ⟨rfl, ((Chg.refl _ w).drewN 1).freeze ⟨g, 0, none⟩ _ rfl⟩)
set_option maxRecDepth 100000 in
set_option maxHeartbeats 1000000 in
theorem bString_none (b o : Nat) (w : World) (hc : w.cell? ⟨b, o + 1, none⟩ = some (.slice none 0 0)) :
    Calls Tryz.prog 50 #[.pointer (some ⟨b, o, none⟩)] w (StrPost (.slice none 0 0) [] w) := by
  have c1 : w.drew.cell? ⟨b, o + 1, none⟩ = some (.slice none 0 0) := hc
  have hSD : (Builtin.unsafeSliceData_ #[37] 122 #[.slice none 0 0]).run Tryz.prog w.drew = .ok (.pointer none) w.drew := rfl
  have hUS : (Builtin.unsafeString_ #[122, 3] 9 #[.pointer none, .int .i64 0]).run Tryz.prog w.drew = .ok (.string .empty) w.drew := Lib.run_unsafeString_none w.drew _ _ _ none
  clear hc
  go_enter Tryz.func50, Tryz.ntmps50
  go_wp2
  go_region
  all_goals (go_wp2; go_ret; exact ⟨rfl, (Chg.refl _ w).drewN 1⟩)
theorem bString_any (b o base : Nat) (v : Value) (l : Pure.Bytes) (w : World) (hc : w.cell? ⟨b, o + 1, none⟩ = some v) (hB : BufAt w base v l) :
    Calls Tryz.prog 50 #[.pointer (some ⟨b, o, none⟩)] w (StrPost v l w) := by
  by_cases h0 : l = []
  · subst h0
    obtain rfl := hB.2 rfl
    exact bString_none b o w hc
  · exact bString_some b o base v l w hc hB h0
end Go.Proofs.YtipfakmbjajhlaaGreatDoor 
