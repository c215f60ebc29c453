/-
  markup.Parse's closure keeps the open trees as the events build them: it is a Teller.
-/
import Derived.Test.YtipfakmbjajhlaaGreatDoorMark5
set_option linter.unusedVariables false
set_option linter.unusedSimpArgs false
namespace Go.Proofs.YtipfakmbjajhlaaGreatDoor 
open Go.RowKit Go.Shelf
def ptrs (tbs : List Nat) : List Value := tbs.reverse.map fun b => .pointer (some ⟨b, 0, none⟩)
theorem ptr_last {w : World} {ov : Value} {tb : Nat} {tbs : List Nat} (h : w.ownsRow 0 88 1 ov (tb :: tbs).length (ptrs (tb :: tbs))) :
    ∃ g cap, ov = .slice (some ⟨g, 0, none⟩) (tbs.length + 1) cap ∧ tbs.length + 1 ≤ cap ∧ cap ≤ 9223372036854775807 ∧ w.cell? ⟨g, tbs.length, none⟩ = some (.pointer (some ⟨tb, 0, none⟩)) ∧
      w.ownsRow 0 88 1 (.slice (some ⟨g, 0, none⟩) tbs.length cap) tbs.length (ptrs tbs) ∧ g < w.heap.size := by
  obtain ⟨h1, h2⟩ := h
  rcases h2 with ⟨_, h0⟩ | ⟨g, cap, cur, rfl, hB, hg, hn, hc, hs, ht⟩
  · simp at h0
  · have e : ptrs (tb :: tbs) = ptrs tbs ++ [.pointer (some ⟨tb, 0, none⟩)] := by simp [ptrs]
    simp only [List.length_cons, Nat.mul_one] at ht hs hn
    rw [e] at ht
    have hl : (ptrs tbs).length = tbs.length := by simp [ptrs]
    refine ⟨g, cap, rfl, hn, by unfold maxLen at hc; omega, ?_, ⟨by simp [ptrs], .inr ⟨g, cap, cur, rfl, hB, hg, by omega, hc, by simpa using hs, ?_⟩⟩, lt_of_block hg⟩
    · rw [Lib.cell_of_heap hg]
      have := congrArg (fun l => l[tbs.length]?) ht
      rw [List.getElem?_take_of_lt (by omega), Array.getElem?_toList] at this
      rw [this, List.getElem?_append_right (by omega), hl]
      simp
    · rw [Nat.mul_one]
      have := congrArg (List.take tbs.length) ht
      rw [List.take_take, Nat.min_eq_left (by omega)] at this
      rw [this, ← hl, List.take_left]
theorem attrs_form {w : World} {C : Nat → Prop} {av : Value} {l : List Pure.Attr} (h : AttrsAt w C av l) : ∃ q c, av = .slice q l.length c := by
  obtain ⟨q, c, h, _⟩ := h; exact ⟨q, c, h⟩
/-- What came of telling. -/
def ToldPost (ob : Nat) (evs : List Pure.Event) (S SA : Nat → Prop) (w : World) (e : Ending) (w' : World) : Prop :=
  e = .returned (.tuple #[]) ∧ ∃ S', ParseInv ob evs S' w' ∧ (∀ k, S' k → S k ∨ SA k ∨ w.heap.size ≤ k) ∧ Chg S w w'
variable {ob : Nat} {evs : List Pure.Event} {S SA C : Nat → Prop} {w : World} {ov : Value} {tbs u : List Nat}
theorem ParseMem.lt (hm : ParseMem ob evs C ov tbs u w) : (∀ k, C k → k < w.heap.size) ∧ ∀ k ∈ ob :: (ov.ownBlock.toList ++ u), k < w.heap.size := by
  refine ⟨fun k hk => ?_, fun k hk => ?_⟩
  · obtain ⟨c, e, f, h, _⟩ := hm.kindC k hk; exact lt_of_block h
  · rcases List.mem_cons.1 hk with rfl | h
    · exact lt_of_block hm.opn
    · rcases List.mem_append.1 h with h | h
      · obtain ⟨c, f, h1⟩ := ptr_row_kind hm.row k (by simpa using h); exact lt_of_block h1
      · obtain ⟨c, f, h1⟩ := hm.stack.kind k h; exact lt_of_block h1
/-- The open trees, the first one shown. -/
theorem ParseMem.top (hm : ParseMem ob evs C ov tbs u w) : ∃ d tb tbs' fr frs, depthOf evs = some d ∧ tbs = tb :: tbs' ∧ Pure.builds evs = fr :: frs ∧ tbs'.length = d ∧ frs.length = d := by
  obtain ⟨d, hd⟩ := Option.isSome_iff_exists.1 hm.depth
  have hb : (Pure.builds evs).length = d + 1 := builds_depth evs [⟨Pure.noB, [], []⟩] 0 d rfl hm.kinds hd
  have hl := hm.stack.length
  match hbl : Pure.builds evs, tbs, hl, hb with
  | [], _, _, hb => simp at hb
  | fr :: frs, [], hl, _ => simp at hl
  | fr :: frs, tb :: tbs', hl, hb =>
    simp at hl hb
    exact ⟨d, tb, tbs', fr, frs, hd, rfl, rfl, by omega, hb⟩
theorem depth_le : ∀ (evs : List Pure.Event) (n d : Nat), evs.foldl (fun d e => d.bind fun n => if e.kind = 1 then some (n + 1) else if e.kind = 3 then (if n = 0 then none else some (n - 1)) else some n) (some n) = some d → d ≤ n + evs.length
  | [], n, d, h => by simp at h; simp [h]
  | e :: evs, n, d, h => by
    rw [List.foldl_cons] at h
    simp only [Option.bind_some] at h
    simp only [List.length_cons]
    split at h
    · have := depth_le evs _ _ h; omega
    · split at h
      · split at h
        · rw [foldl_none] at h; cases h
        · have := depth_le evs _ _ h; omega
      · have := depth_le evs _ _ h; omega
theorem tell_open (hm : ParseMem ob evs C ov tbs u w) (hS : ∀ k, S k ↔ C k ∨ k ∈ ob :: (ov.ownBlock.toList ++ u)) {n : ByteArray} {l : List Pure.Attr} {x : ByteArray} {av : Value} (ha : AttrsAt w SA av l) (hSA : ∀ k, SA k → ¬ S k ∧ ∃ c f, w.heap[k]? = some (.cells c 98 f))
    (hd : (depthOf (evs ++ [⟨1, n, l, x⟩])).isSome = true) (hf : evs.length < 9000) :
    Calls Tryz.prog 53 #[.agg #[.int .i64 1, .string n, av, .string x], .pointer (some ⟨ob, 0, none⟩)] w (ToldPost ob (evs ++ [⟨1, n, l, x⟩]) S SA w) := by
  obtain ⟨d, tb, tbs', fr, frs, hdep, rfl, hbl, hl1, hl2⟩ := hm.top
  have hdl := depth_le evs 0 d hdep
  obtain ⟨aq, ac, rfl⟩ := attrs_form ha
  obtain ⟨g0, cap0, hov, hc1, hc2, hlast, _, hg0⟩ := ptr_last hm.row
  subst hov
  have hnd := hm.nodup
  obtain ⟨hltC, hltU⟩ := hm.lt
  have hobg : ob ≠ g0 := fun e => by rw [e] at hnd; simp [Value.ownBlock] at hnd
  have hrow : w.ownsRow 0 88 1 (.slice (some ⟨g0, 0, none⟩) (tbs'.length + 1) cap0) (tbs'.length + 1) (ptrs (tb :: tbs')) := hm.row
  refine (parse1_start w ob g0 tbs'.length cap0 tb n aq l.length ac x _ hm.opn hrow hlast (by omega) hobg).mono ?_
  rintro e w' ⟨rfl, g, cap, w9, hown, hgrow, hat, rfl⟩
  obtain ⟨h9, _, _⟩ := start_kept (nm := n) (av := .slice aq l.length ac) (tx := x) hm.opn rfl hobg hgrow
  have hltob := lt_of_block hm.opn
  have hgob : g ≠ ob := fun e => by
    obtain ⟨c, f, h1⟩ := ptr_row_kind hown g rfl
    have := h1.symm.trans (e ▸ h9)
    simp at this
  have hsz : (startW w n (.slice aq l.length ac) x).heap.size = w.heap.size + 3 := startW_size ..
  -- the blocks that are as they were
  have hsame : ∀ k, k < w.heap.size → k ≠ ob → k ≠ g0 → (w9.setCell ⟨ob, 0, none⟩ (.slice (some ⟨g, 0, none⟩) (tbs'.length + 1 + 1) cap)).heap[k]? = w.heap[k]? := by
    intro k hk h1 h2
    rw [Below.heap_setCell _ _ _ _ (by exact h1), hgrow.block k (by omega) (fun e => h2 (Option.some.inj e)), startW_heap _ _ _ _ hk]
  have hU : ∀ k ∈ u, k < w.heap.size ∧ k ≠ ob ∧ k ≠ g0 := by
    intro k hk
    refine ⟨hltU k (by simp [hk]), fun e => ?_, fun e => ?_⟩
    · subst e; simp [hk] at hnd
    · subst e; simp [hk, Value.ownBlock] at hnd
  have hCne : ∀ k, C k → k ≠ ob ∧ k ≠ g0 := fun k hk => ⟨fun e => hm.apart k (by simp [e]) hk, fun e => hm.apart k (by simp [e, Value.ownBlock]) hk⟩
  have hSAne : ∀ k, SA k → k < w.heap.size ∧ k ≠ ob ∧ k ≠ g0 ∧ k ∉ u := by
    intro k hk
    obtain ⟨h1, c, f, h2⟩ := hSA k hk
    refine ⟨lt_of_block h2, fun e => h1 ((hS k).2 (.inr (by simp [e]))), fun e => h1 ((hS k).2 (.inr (by simp [e, Value.ownBlock]))), fun e => h1 ((hS k).2 (.inr (by simp [e])))⟩
  have hchg : Chg S w (w9.setCell ⟨ob, 0, none⟩ (.slice (some ⟨g, 0, none⟩) (tbs'.length + 1 + 1) cap)) := by
    have h1 : Chg S w (startW w n (.slice aq l.length ac) x) := by unfold startW; exact (((Chg.refl _ w).alloc _).alloc _).alloc _
    exact (h1.grown hgrow (fun k hk => .inl ((hS k).2 (.inr (by simp [Value.ownBlock] at hk ⊢; simp [hk]))))).setCell _ _ (.inl ((hS ob).2 (.inr (by simp))))
  have hgb : g = g0 ∨ w.heap.size + 3 ≤ g := by
    rcases hat with h | h
    · exact .inl h.symm
    · right; omega
  have hnb : (w9.setCell ⟨ob, 0, none⟩ (.slice (some ⟨g, 0, none⟩) (tbs'.length + 1 + 1) cap)).heap[w.heap.size + 1]? = some (.cells #[.int .i64 1, .string n, .slice aq l.length ac, .string ⟨#[]⟩, .slice none 0 0] 76 (0, 0)) := by
    rw [Below.heap_setCell _ _ _ _ (by show w.heap.size + 1 ≠ ob; omega), hgrow.block _ (by omega) (fun e => by have := Option.some.inj e; omega)]
    unfold startW
    rw [Below.heap_alloc _ _ _ (by simp)]
    have := heap_alloc_new (w.alloc (.cells #[.int .i64 1, .string n, .slice aq l.length ac, .string x] 49)) (.cells #[.int .i64 1, .string n, .slice aq l.length ac, .string ⟨#[]⟩, .slice none 0 0] 76)
    simpa using this
  refine ⟨rfl, fun k => (C k ∨ SA k) ∨ k ∈ ob :: ((Value.slice (some ⟨g, 0, none⟩) (tbs'.length + 1 + 1) cap).ownBlock.toList ++ ((w.heap.size + 1) :: u)), ⟨fun k => C k ∨ SA k, _, (w.heap.size + 1) :: tb :: tbs', (w.heap.size + 1) :: u, ⟨?_, ?_, ?_, ?_, ?_, ?_, ?_, hd⟩, fun k => Iff.rfl⟩, ?_, hchg⟩
  · exact heap_setCell_same (i := 0) h9 _
  · have e1 : ptrs ((w.heap.size + 1) :: tb :: tbs') = ptrs (tb :: tbs') ++ [.pointer (some ⟨w.heap.size + 1, 0, none⟩)] := by simp [ptrs]
    show World.ownsRow _ 0 88 1 _ (tbs'.length + 1 + 1) (ptrs ((w.heap.size + 1) :: tb :: tbs'))
    rw [e1]
    refine owns_keep hown fun i hi => ?_
    have : g = i := by simpa [Value.ownBlock] using hi
    rw [Below.heap_setCell _ _ _ _ (by show i ≠ ob; rw [← this]; exact hgob)]
  · rw [builds_snoc]
    have e1 : Pure.stepE (Pure.builds evs) ⟨1, n, l, x⟩ = ⟨n, l, []⟩ :: Pure.builds evs := by unfold Pure.stepE; rw [if_pos rfl]
    rw [e1]
    refine ⟨.slice none 0 0, u, rfl, ?_, hm.stack.mono (fun _ h => .inl h) (fun k hk => hsame k (hltC k hk) (hCne k hk).1 (hCne k hk).2) fun k hk => hsame k (hU k hk).1 (hU k hk).2.1 (hU k hk).2.2⟩
    rw [hbl]
    refine ⟨.slice aq l.length ac, [], hnb, (ha.keep fun k hk => hsame k (hSAne k hk).1 (hSAne k hk).2.1 (hSAne k hk).2.2.1).mono fun _ h => .inr h, World.ownsRow_nil _ _ _ _, rfl⟩
  · simp only [Value.ownBlock, Option.toList, List.cons_append, List.nil_append, List.nodup_cons, List.mem_cons, not_or] at hnd ⊢
    obtain ⟨⟨n1, n2⟩, n3, n4⟩ := hnd
    refine ⟨⟨fun e => hgob e.symm, by omega, n2⟩, ⟨by rcases hgb with h | h <;> omega, fun hu => ?_⟩, fun hu => by have := (hU _ hu).1; omega, n4⟩
    have := hU g hu
    rcases hgb with h | h
    · exact this.2.2 h
    · omega
  · intro k hk hC
    simp only [Value.ownBlock, Option.toList, List.cons_append, List.nil_append, List.mem_cons] at hk
    have hkl : k < w.heap.size := by rcases hC with h | h; exact hltC k h; exact (hSAne k h).1
    rcases hk with rfl | rfl | rfl | hk
    · rcases hC with h | h
      · exact (hCne _ h).1 rfl
      · exact (hSAne _ h).2.1 rfl
    · rcases hgb with hgg | hgg
      · rcases hC with h | h
        · exact (hCne _ h).2 hgg
        · exact (hSAne _ h).2.2.1 hgg
      · omega
    · omega
    · rcases hC with h | h
      · exact hm.apart k (by simp [hk]) h
      · exact (hSAne k h).2.2.2 hk
  · intro k hk
    rcases hk with hk | hk
    · obtain ⟨c, e, f, h1, h2⟩ := hm.kindC k hk
      exact ⟨c, e, f, by rw [hsame k (hltC k hk) (hCne k hk).1 (hCne k hk).2]; exact h1, h2⟩
    · obtain ⟨_, c, f, h1⟩ := hSA k hk
      exact ⟨c, _, f, by rw [hsame k (hSAne k hk).1 (hSAne k hk).2.1 (hSAne k hk).2.2.1]; exact h1, .inr rfl⟩
  · intro e he
    rcases List.mem_append.1 he with h | h
    · exact hm.kinds e h
    · simp at h; subst h; exact .inl rfl
  · intro k hk
    rcases hk with (hk | hk) | hk
    · exact .inl ((hS k).2 (.inl hk))
    · exact .inr (.inl hk)
    · simp only [Value.ownBlock, Option.toList, List.cons_append, List.nil_append, List.mem_cons] at hk
      rcases hk with rfl | rfl | rfl | hk
      · exact .inl ((hS _).2 (.inr (by simp)))
      · rcases hgb with h | h
        · exact .inl ((hS _).2 (.inr (by simp [h, Value.ownBlock])))
        · exact .inr (.inr (by omega))
      · exact .inr (.inr (by omega))
      · exact .inl ((hS _).2 (.inr (by simp [hk])))
end Go.Proofs.YtipfakmbjajhlaaGreatDoor 
