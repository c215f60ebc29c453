/-
  markup.Parse reads what the plain parse reads.
-/
import Derived.Test.YtipfakmbjajhlaaGreatDoorMark7
set_option linter.unusedVariables false
set_option linter.unusedSimpArgs false
namespace Go.Proofs.YtipfakmbjajhlaaGreatDoor 
open Go.RowKit Go.Shelf
def ParsePost (src : ByteArray) (w : World) (e : Ending) (w' : World) : Prop :=
  ∃ v C, e = .returned (.tuple #[v, .int .i64 (Pure.parse (Pure.toL src)).2.1, .int .i64 (Pure.parse (Pure.toL src)).2.2]) ∧ TreesAt w' C v (Pure.parse (Pure.toL src)).1 ∧ (∀ k, C k → w.heap.size ≤ k) ∧ Below w.heap.size w w'
/-- The lowest tree's children. -/
theorem Stack.bottom {w : World} {C : Nat → Prop} : ∀ {tbs u : List Nat} {frs : List Pure.Fr}, Stack w C tbs u frs → tbs ≠ [] → ∃ tb kv, tbs.getLast? = some tb ∧ w.cell? ⟨tb, 4, none⟩ = some kv ∧ tb ∈ u ∧ (∀ i, kv.ownBlock = some i → i ∈ u) ∧ TreesAt w (fun k => C k ∨ kv.ownBlock = some k) kv (Pure.rootKids frs)
  | [], u, [], h, h0 => absurd rfl h0
  | [tb], u, [fr], ⟨kv, u', h1, h2, h3⟩, _ => by
    obtain ⟨av, xs, k1, k2, k3, k4⟩ := h2
    subst h1
    refine ⟨tb, kv, rfl, by rw [Lib.cell_of_heap k1]; rfl, by simp, fun i hi => by simp [hi], ?_⟩
    exact trees_of_row k3 k4 (fun _ h => .inl h) (fun g h => .inr h)
  | tb :: tb2 :: tbs, u, fr :: fr2 :: frs, ⟨kv, u', h1, h2, h3⟩, _ => by
    obtain ⟨t, k, a, b, c, d, e⟩ := Stack.bottom h3 (by simp)
    subst h1
    refine ⟨t, k, by rw [List.getLast?_cons_cons]; exact a, b, by simp [c], fun i hi => by simp [d i hi], e⟩
  | [tb], u, _ :: _ :: _, ⟨kv, u', h1, h2, h3⟩, _ => h3.elim
  | tb :: tb2 :: tbs, u, [fr], ⟨kv, u', h1, h2, h3⟩, _ => h3.elim
  | _ :: _, _, [], h, _ => h.elim
  | [], _, _ :: _, h, _ => h.elim
theorem ptr_first {w : World} {ov : Value} {tbs : List Nat} {tb : Nat} (h : w.ownsRow 0 88 1 ov tbs.length (ptrs tbs)) (hl : tbs.getLast? = some tb) :
    ∃ g cap n, ov = .slice (some ⟨g, 0, none⟩) (n + 1) cap ∧ n + 1 = tbs.length ∧ w.cell? ⟨g, 0, none⟩ = some (.pointer (some ⟨tb, 0, none⟩)) := by
  obtain ⟨h1, h2⟩ := h
  have hne : tbs ≠ [] := by intro e; rw [e] at hl; simp at hl
  have hp := List.length_pos_iff.2 hne
  rcases h2 with ⟨_, h0⟩ | ⟨g, cap, cur, rfl, hB, hg, hn, hc, hs, ht⟩
  · omega
  · refine ⟨g, cap, tbs.length - 1, by rw [show tbs.length - 1 + 1 = tbs.length by omega], by omega, ?_⟩
    rw [Lib.cell_of_heap hg]
    have := congrArg (fun l => l[0]?) ht
    rw [List.getElem?_take_of_lt (by omega), Array.getElem?_toList] at this
    rw [this]
    unfold ptrs
    rw [List.getElem?_map, ← List.head?_eq_getElem?, List.head?_reverse, hl]
    rfl
/-- The world in which the scan begins. -/
def parseW (w : World) : World :=
  ((w.alloc (.cells #[.int .i64 0, .string ⟨#[]⟩, .slice none 0 0, .string ⟨#[]⟩, .slice none 0 0] 76)).alloc (.cells #[.pointer (some ⟨w.heap.size, 0, none⟩)] 88)).alloc (.cells #[.slice (some ⟨w.heap.size + 1, 0, none⟩) 1 1] 89)
theorem parseW_below (w : World) : Below w.heap.size w (parseW w) := by
  unfold parseW
  exact (((Below.refl _ w).alloc (Nat.le_refl _) _).alloc (by simp) _).alloc (by simp; omega) _
theorem parse_start (w : World) : ParseInv (w.heap.size + 1 + 1) [] (fun k => k = w.heap.size ∨ k = w.heap.size + 1 ∨ k = w.heap.size + 1 + 1) (parseW w) := by
  have h0 : (parseW w).heap[w.heap.size]? = some (.cells #[.int .i64 0, .string ⟨#[]⟩, .slice none 0 0, .string ⟨#[]⟩, .slice none 0 0] 76 (0, 0)) := by
    unfold parseW
    rw [Below.heap_alloc _ _ _ (by simp; omega), Below.heap_alloc _ _ _ (by simp), heap_alloc_new]
  have h1 : (parseW w).heap[w.heap.size + 1]? = some (.cells #[.pointer (some ⟨w.heap.size, 0, none⟩)] 88 (0, 0)) := by
    unfold parseW
    rw [Below.heap_alloc _ _ _ (by simp)]
    have := heap_alloc_new (w.alloc (.cells #[.int .i64 0, .string ⟨#[]⟩, .slice none 0 0, .string ⟨#[]⟩, .slice none 0 0] 76)) (.cells #[.pointer (some ⟨w.heap.size, 0, none⟩)] 88)
    simpa using this
  have h2 : (parseW w).heap[w.heap.size + 1 + 1]? = some (.cells #[.slice (some ⟨w.heap.size + 1, 0, none⟩) 1 1] 89 (0, 0)) := by
    unfold parseW
    have := heap_alloc_new ((w.alloc (.cells #[.int .i64 0, .string ⟨#[]⟩, .slice none 0 0, .string ⟨#[]⟩, .slice none 0 0] 76)).alloc (.cells #[.pointer (some ⟨w.heap.size, 0, none⟩)] 88)) (.cells #[.slice (some ⟨w.heap.size + 1, 0, none⟩) 1 1] 89)
    simpa using this
  refine ⟨fun _ => False, .slice (some ⟨w.heap.size + 1, 0, none⟩) 1 1, [w.heap.size], [w.heap.size], ⟨h2, ⟨rfl, .inr ⟨w.heap.size + 1, 1, _, rfl, Nat.zero_le _, h1, Nat.le_refl _, by unfold maxLen; omega, rfl, rfl⟩⟩, ?_, ?_, fun _ _ h => h, fun _ h => h.elim, by simp, rfl⟩, ?_⟩
  · exact ⟨.slice none 0 0, [], rfl, ⟨.slice none 0 0, [], h0, attrs_nil _ _, World.ownsRow_nil _ _ _ _, rfl⟩, rfl⟩
  · simp only [Value.ownBlock, Option.toList, List.cons_append, List.nil_append, List.nodup_cons, List.mem_cons, List.not_mem_nil, or_false, not_or, List.nodup_nil, not_false_eq_true, and_true]
    omega
  · intro k
    simp only [Value.ownBlock, Option.toList, List.cons_append, List.nil_append, List.mem_cons, List.not_mem_nil, or_false, false_or]
    omega
/-- What the scan has told. -/
theorem parse_told {ob : Nat} {evs : List Pure.Event} {S : Nat → Prop} {w1 : World} {B : Nat} (h : ParseInv ob evs S w1) (hS : ∀ k, S k → B ≤ k) :
    ∃ g cap n tb kv C, w1.cell? ⟨ob, 0, none⟩ = some (.slice (some ⟨g, 0, none⟩) (n + 1) cap) ∧ w1.cell? ⟨g, 0, none⟩ = some (.pointer (some ⟨tb, 0, none⟩)) ∧ w1.cell? ⟨tb, 4, none⟩ = some kv ∧ TreesAt w1 C kv (Pure.rootKids (Pure.builds evs)) ∧ ∀ k, C k → B ≤ k := by
  obtain ⟨C, ov, tbs, u, hm, hSS⟩ := h
  obtain ⟨d, tb, tbs', fr, frs, _, ht, _, _, _⟩ := hm.top
  obtain ⟨tb, kv, h1, h2, h3, h4, h5⟩ := hm.stack.bottom (by rw [ht]; simp)
  obtain ⟨g, cap, n, rfl, hn, h6⟩ := ptr_first hm.row h1
  refine ⟨g, cap, n, tb, kv, _, by rw [Lib.cell_of_heap hm.opn]; rfl, h6, h2, h5, fun k hk => hS k ((hSS k).2 ?_)⟩
  rcases hk with hk | hk
  · exact .inl hk
  · exact .inr (by simp [h4 k hk])
set_option maxRecDepth 100000 in
set_option maxHeartbeats 3200000 in
theorem parse_any (src : ByteArray) (w : World) (hT : Tabs w) (h9 : 9 ≤ w.heap.size) (hx : NoHex (Pure.toL src)) : Calls Tryz.prog 16 #[.string src] w (ParsePost src w) := by
  have hmf : ∀ (fn : Fn) (first cap : Array Value) (w : World), (Instr.makeFunc fn first cap).run Tryz.prog w = .ok (.func fn first cap) w := fun _ _ _ _ => rfl
  have hb := parseW_below w
  have HC := Lib.hid (scan_any (T := parseTeller (w.heap.size + 1 + 1)) (B := w.heap.size) (src := src) (hT.below hb h9) h9 hb.size (parse_start w) (fun k hk => by omega) hx)
  have Hb := Lib.hid hb
  clear hT hx hb
  go_enter Tryz.func16, Tryz.ntmps16
  go_wp2_with (go_at_call 52; refine (HC.out).mono ?_)
  rintro e1 w1 ⟨rfl, ⟨S, hi, hS⟩, hb1⟩
  have Hb1 := Lib.hid (Hb.out.trans hb1)
  have hP : Pure.parse (Pure.toL src) = if (Pure.scan (Pure.toL src)).2.2 ≠ 0 then ([], (Pure.scan (Pure.toL src)).2.1, (Pure.scan (Pure.toL src)).2.2) else (Pure.rootKids (Pure.builds (Pure.scan (Pure.toL src)).1), 0, 0) := rfl
  have HP := Lib.hid hP
  clear hP hb1 hmf HC
  obtain ⟨g, cap, n, tb, kv, C, k1, k2, k3, k4, k5⟩ := parse_told hi hS
  have HK := Lib.hid k4
  have HK5 := Lib.hid k5
  clear hi hS k4 k5
  generalize Pure.scan (Pure.toL src) = R at *
  obtain ⟨evs, at_, er⟩ := R
  by_cases he : er = 0
  · subst he
    have hV : Pure.parse (Pure.toL src) = (Pure.rootKids (Pure.builds evs), 0, 0) := HP.out
    have HV := Lib.hid hV
    have hn0 : (0 : Int) < (n : Int) + 1 := by omega
    clear HP hV
    go_wp2_with fail
    go_ret3
    refine ⟨kv, C, ?_, ?_, HK5.out, Hb1.out⟩
    · rw [HV.out]; rfl
    · rw [HV.out]; exact HK.out
  · have hV : Pure.parse (Pure.toL src) = ([], at_, er) := by rw [HP.out]; exact if_pos he
    have HV := Lib.hid hV
    have hne : (er != 0) = true := by rw [bne_iff_ne]; exact he
    clear HP hV he
    go_wp2_with fail
    go_ret3
    refine ⟨.slice none 0 0, fun _ => False, ?_, ?_, fun _ h => h.elim, Hb1.out⟩
    · rw [HV.out]; rfl
    · rw [HV.out]; exact treesAt_nil _ _
end Go.Proofs.YtipfakmbjajhlaaGreatDoor 
