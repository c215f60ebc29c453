/-
  slices.ContainsFunc at attributes: is there one of this name?
-/
import Derived.Test.YtipfakmbjajhlaaGreatDoorHold
set_option linter.unusedVariables false
set_option linter.unusedSimpArgs false
namespace Go.Proofs.YtipfakmbjajhlaaGreatDoor 
open Go.RowKit Go.Shelf
theorem beq_bytes (a b : ByteArray) : (a == b) = decide (a = b) := by
  obtain ⟨a⟩ := a
  obtain ⟨b⟩ := b
  have h : ((⟨a⟩ : ByteArray) == ⟨b⟩) = (a == b) := rfl
  rw [h]
  by_cases e : a = b
  · subst e; simp
  · rw [decide_eq_false (by intro h; exact e (ByteArray.mk.inj h)), beq_eq_false_iff_ne]; exact e
theorem str_eq (a b : ByteArray) : (a.toList == b.toList) = (a == b) := by
  have h : (a.toList == b.toList) = decide (a = b) := by
    rw [ByteArray.toList_eq, ByteArray.toList_eq]
    by_cases h : a = b
    · subst h; simp
    · rw [decide_eq_false h, beq_eq_false_iff_ne]
      intro e
      exact h (Pure.toL_inj e)
  rw [h, beq_bytes]
theorem sameName_any (n : ByteArray) (A : Nat) (w : World) (hA : A < w.heap.size) (hc : w.cell? ⟨A, 0, none⟩ = some (.string n)) :
    PredBelow Tryz.prog 158 #[.pointer (some ⟨A, 0, none⟩)] (fun x => .agg (encA x).toArray) (fun x => x.name == n) w := fun W x hb => by
  have hc' : W.cell? ⟨A, 0, none⟩ = some (.string n) := (hb.cell (p := ⟨A, 0, none⟩) hA).trans hc
  have hAW : A < W.heap.size := Nat.lt_of_lt_of_le hA hb.size
  have hne : A ≠ W.heap.size := by omega
  show Calls Tryz.prog 158 #[.agg #[.string x.name, .string x.value], .pointer (some ⟨A, 0, none⟩)] W _
  go_enter Tryz.func158, Tryz.ntmps158
  go_wp2
  go_ret
  exact ⟨by rw [str_eq]; rfl, hb.alloc hb.size _⟩
theorem indexNil_any (c : Value) (w : World) : Calls Tryz.prog 163 #[.slice none 0 0, c] w fun e w' => e = .returned (.int .i64 (-1)) ∧ w = w' := by
  go_enter Tryz.func163, Tryz.ntmps163
  go_wp2_with fail
  refine wp_loop_rounds 1 ?_
  rw [rounds_succ]
  go_wp2_with fail
  go_ret
  exact ⟨rfl, rfl⟩
/-- Is there an attribute of this name? -/
theorem containsA_any (B : Nat) (n : ByteArray) (l : List Pure.Attr) (av : Value) (A : Nat) (w : World) (hO : w.ownsRow B 98 2 av l.length (l.flatMap encA)) (hl : l.length ≤ 32) (hA : w.cell? ⟨A, 0, none⟩ = some (.string n)) :
    Calls Tryz.prog 157 #[av, .func (.func 158) #[] #[.pointer (some ⟨A, 0, none⟩)]] w (RetN (.bool (l.any fun b => b.name == n)) w) := by
  have hlt := World.block_lt_of_cell? w _ hA
  obtain ⟨hlen, hO⟩ := hO
  rcases hO with ⟨rfl, h0⟩ | ⟨g, cap, cur, rfl, hB, hg, hn, hcap, hsz, ht⟩
  · have h0' : l = [] := List.length_eq_zero_iff.1 h0
    subst h0'
    have HS := Lib.hid indexNil_any
    go_enter Tryz.func157, Tryz.ntmps157
    go_wp2_with (go_at_call 163; refine (HS.out _ _).mono ?_; rintro e w' ⟨rfl, rfl⟩)
    go_ret
    exact ⟨rfl, Below.refl _ _⟩
  · have eg : ∀ args w, (callFunc 158 args).run Tryz.prog w = .ok (.enter 158 args) w := enters_of Tryz.func158 (by kernel_rfl) rfl
    have hglt := lt_of_block hg
    have hcon := AnyQ.slices_ContainsFunc Tryz.containsAttr 2 Tryz.isAgg98 Tryz.sizeOf98 encA (fun _ => rfl) (fun b => b.name == n) 158 #[.pointer (some ⟨A, 0, none⟩)] eg g 0 l.length cap l w
      (sameName_any n A w hlt hA) (Nat.le_refl _) (by omega) hglt (fun j hj i v hi => by
        have hh : w.cell? ⟨g, 0 + j * 2 + i, none⟩ = cur[0 + j * 2 + i]? := Lib.cell_of_heap hg _
        have e1 : l[j]! = l[j] := by simp [hj]
        rw [e1] at hi
        have h1 := flatMap_get l j hj
        rw [hh, Nat.zero_add]
        match i, hi with
        | 0, hi =>
          simp [encA] at hi
          rw [← hi, Nat.add_zero, ← h1.1, ← ht, List.getElem?_take_of_lt (by omega), Array.getElem?_toList]
        | 1, hi =>
          simp [encA] at hi
          rw [← hi, ← h1.2, ← ht, List.getElem?_take_of_lt (by omega), Array.getElem?_toList]
        | i + 2, hi => simp [encA] at hi)
    rw [List.take_length] at hcon
    exact hcon.mono fun e w' h => ⟨h.1, h.2⟩
end Go.Proofs.YtipfakmbjajhlaaGreatDoor 
