/-
  markup.Parse's closure: the walks of its three ways.
-/
import Derived.Test.YtipfakmbjajhlaaGreatDoorMark1
import Derived.Test.YtipfakmbjajhlaaGreatDoorScanB
import Derived.Deep.AppendLies
import Derived.Deep.RegionLaw
set_option linter.unusedVariables false
set_option linter.unusedSimpArgs false
namespace Go.Proofs.YtipfakmbjajhlaaGreatDoor 
open Go.RowKit Go.Shelf
theorem infoTreeP : (Tryz.prog.info? 88).map (fun i => (i.zero, i.size, i.bytes)) = some (some (.pointer none), 1, 8) := by kernel_rfl
theorem infoTree : (Tryz.prog.info? 76).map (fun i => (i.zero, i.size, i.bytes)) = some (some (.agg #[.int .i64 0, .string ⟨#[]⟩, .slice none 0 0, .string ⟨#[]⟩, .slice none 0 0]), 5, 88) := by kernel_rfl
theorem cell_new1 (W : World) (h : Nat) (hh : W.heap.size = h) (v : Value) (E : TypeId) : (W.alloc (.cells #[v] E)).cell? ⟨h, 0, none⟩ = some v := by
  subst hh
  rw [Lib.cell_of_heap (heap_alloc_new W _)]; rfl
/-- The world in which the new tree's pointer is appended. -/
def startW (w : World) (nm : ByteArray) (av : Value) (tx : ByteArray) : World :=
  ((w.alloc (.cells #[.int .i64 1, .string nm, av, .string tx] 49)).alloc (.cells #[.int .i64 1, .string nm, av, .string ⟨#[]⟩, .slice none 0 0] 76)).alloc (.cells #[.pointer (some ⟨w.heap.size + 1, 0, none⟩)] 88)
def StartPost (w : World) (ob g0 m : Nat) (nm : ByteArray) (av : Value) (tx : ByteArray) (xs : List Value) (e : Ending) (w' : World) : Prop :=
  e = .returned (.tuple #[]) ∧ ∃ g cap w9, w9.ownsRow 0 88 1 (.slice (some ⟨g, 0, none⟩) (m + 1 + 1) cap) (m + 1 + 1) (xs ++ [.pointer (some ⟨w.heap.size + 1, 0, none⟩)]) ∧
    (startW w nm av tx).grownBy w9 (some g0) ∧ (g0 = g ∨ g = (startW w nm av tx).heap.size) ∧ w' = w9.setCell ⟨ob, 0, none⟩ (.slice (some ⟨g, 0, none⟩) (m + 1 + 1) cap)
theorem startW_size (w : World) (nm : ByteArray) (av : Value) (tx : ByteArray) : (startW w nm av tx).heap.size = w.heap.size + 3 := by unfold startW; simp
theorem startW_heap (w : World) (nm : ByteArray) (av : Value) (tx : ByteArray) {k : Nat} (hk : k < w.heap.size) : (startW w nm av tx).heap[k]? = w.heap[k]? := by
  unfold startW
  rw [Below.heap_alloc _ _ _ (by simp; omega), Below.heap_alloc _ _ _ (by simp; omega), Below.heap_alloc _ _ _ hk]
theorem start_kept {w w9 : World} {ob g0 : Nat} {v : Value} {nm : ByteArray} {av : Value} {tx : ByteArray} {cs : Array Value} {E : TypeId} (hob : w.heap[ob]? = some (.cells cs E (0, 0))) (hc : cs[0]? = some v) (hne : ob ≠ g0) (hg : (startW w nm av tx).grownBy w9 (some g0)) :
    w9.heap[ob]? = some (.cells cs E (0, 0)) ∧ w9.cell? ⟨ob, 0, none⟩ = some v ∧ w9.frozen? ⟨ob, 0, none⟩ = false := by
  have hlt := lt_of_block hob
  have h1 : w9.heap[ob]? = some (.cells cs E (0, 0)) := by
    rw [hg.block ob (by rw [startW_size]; omega) (fun e => hne (Option.some.inj e.symm).symm), startW_heap _ _ _ _ hlt]; exact hob
  exact ⟨h1, by rw [Lib.cell_of_heap h1]; exact hc, Lib.frozen_of_heap h1 _⟩
set_option maxRecDepth 100000 in
set_option maxHeartbeats 3200000 in
theorem parse1_start (w : World) (ob g0 m cap0 tb : Nat) (nm : ByteArray) (aq : Option Addr) (an ac : Nat) (tx : ByteArray) (xs : List Value) (hob : w.heap[ob]? = some (.cells #[.slice (some ⟨g0, 0, none⟩) (m + 1) cap0] 89 (0, 0)))
    (hov : w.ownsRow 0 88 1 (.slice (some ⟨g0, 0, none⟩) (m + 1) cap0) (m + 1) xs) (hlast : w.cell? ⟨g0, m, none⟩ = some (.pointer (some ⟨tb, 0, none⟩))) (hm : m < 20000) (hne : ob ≠ g0) :
    Calls Tryz.prog 53 #[.agg #[.int .i64 1, .string nm, .slice aq an ac, .string tx], .pointer (some ⟨ob, 0, none⟩)] w (StartPost w ob g0 m nm (.slice aq an ac) tx xs) := by
  have c0 : w.cell? ⟨ob, 0, none⟩ = some (.slice (some ⟨g0, 0, none⟩) (m + 1) cap0) := by rw [Lib.cell_of_heap hob]; rfl
  have cf := Lib.frozen_of_heap hob 0
  have hlt := lt_of_block hob
  have hlt0 : g0 < w.heap.size := (hov.lt g0 rfl).2
  obtain ⟨is, his, hi0, hi1, hi2⟩ := info_parts infoTreeP
  have HOb := Lib.hid hob
  have HOv := Lib.hid (((hov.alloc (.cells #[.int .i64 1, .string nm, .slice aq an ac, .string tx] 49)).alloc (.cells #[.int .i64 1, .string nm, .slice aq an ac, .string ⟨#[]⟩, .slice none 0 0] 76)).alloc (.cells #[.pointer (some ⟨w.heap.size + 1, 0, none⟩)] 88))
  clear hob hov
  go_enter Tryz.func53, Tryz.ntmps53
  go_wp2_with (at_builtin; (refine wpList_append_lies _ rfl _ _ 89 rfl 0 88 is (.pointer none) 1 8 Tryz.underlying89 his hi0 hi1 hi2 rfl (by decide) _ _ _ rfl HOv.out _ 1 1 [.pointer (some ⟨w.heap.size + 1, 0, none⟩)] rfl rfl ?c1 ?c2 (by decide) ?c4 ?c5 ?c6 _ rfl ?_))
  case c1 =>
    intro j u hj
    match j, hj with
    | 0, hj => simp at hj; subst hj; exact cell_new1 _ _ (by simp) _ _
  case c2 => intro u hu; simp at hu; subst hu; rfl
  case c4 => unfold maxLen; omega
  case c5 => omega
  case c6 => simp
  intro g cap w9 hown9 hgrow9 hat9 hlt9
  obtain ⟨hh9, hz2, hzf⟩ := start_kept (nm := nm) (av := .slice aq an ac) (tx := tx) HOb.out rfl hne hgrow9
  have HO9 := Lib.hid hown9
  have HG9 := Lib.hid hgrow9
  have HA9 := Lib.hid hat9
  clear hown9 hgrow9 hat9
  go_wp2_with fail
  go_end0
  refine ⟨rfl, g, cap, w9, HO9.out, HG9.out, ?_, rfl⟩
  rcases HA9.out with h | h
  · exact .inl (by simpa [Value.ownBlock] using h)
  · exact .inr (by rw [startW_size]; omega)
/-- The tree that is appended: zero at first, then its cells. -/
def zeroTree : List Value := [.int .i64 0, .string ⟨#[]⟩, .slice none 0 0, .string ⟨#[]⟩, .slice none 0 0]
theorem news_new (W : World) (h : Nat) (hh : W.heap.size = h) (cs : Array Value) (E : TypeId) : ∀ (j : Nat) u, cs.toList[j]? = some u → (W.alloc (.cells cs E)).drew.cell? (Addr.add ⟨h, 0, none⟩ j) = some u := by
  subst hh
  exact World.news_of_block (heap_alloc_new _ _)
/-- The last tree's cells of a row that has grown. -/
structure TailCells (w : World) (g o : Nat) : Prop where
  a0 : w.cell? ⟨g, o, none⟩ = some (.int .i64 0)
  a1 : w.cell? ⟨g, o + 1, none⟩ = some (.string ⟨#[]⟩)
  a2 : w.cell? ⟨g, o + 2, none⟩ = some (.slice none 0 0)
  a3 : w.cell? ⟨g, o + 3, none⟩ = some (.string ⟨#[]⟩)
  a4 : w.cell? ⟨g, o + 4, none⟩ = some (.slice none 0 0)
  fz : ∀ i, w.frozen? ⟨g, i, none⟩ = false
theorem row_tail {w : World} {g n cap : Nat} {xs : List Value} (hx : xs.length = n * 5) (h : w.ownsRow 0 76 5 (.slice (some ⟨g, 0, none⟩) (n + 1) cap) (n + 1) (xs ++ zeroTree)) : TailCells w g (n * 5) := by
  rcases h.2 with ⟨h1, _⟩ | ⟨g', cap', cur, h1, _, hg, hc, _, hs, ht⟩
  · cases h1
  · simp only [Value.slice.injEq, Option.some.injEq, Addr.mk.injEq] at h1
    obtain ⟨⟨rfl, _, _⟩, _, rfl⟩ := h1
    have hcell : ∀ j, j < 5 → w.cell? ⟨g, n * 5 + j, none⟩ = zeroTree[j]? := by
      intro j hj
      rw [Lib.cell_of_heap hg]
      have h2 := congrArg (fun l => l[n * 5 + j]?) ht
      rw [List.getElem?_take_of_lt (by omega), Array.getElem?_toList, List.getElem?_append_right (by omega)] at h2
      rw [h2]; congr 1; omega
    exact ⟨hcell 0 (by decide), hcell 1 (by decide), hcell 2 (by decide), hcell 3 (by decide), hcell 4 (by decide), fun i => Lib.frozen_of_heap hg i⟩
/-- A row whose last five cells were written, and its variable's field: whichever was written first. -/
def set5 (w : World) (g o : Nat) (a b c d e : Value) : World := ((((w.setCell ⟨g, o, none⟩ a).setCell ⟨g, o + 1, none⟩ b).setCell ⟨g, o + 2, none⟩ c).setCell ⟨g, o + 3, none⟩ d).setCell ⟨g, o + 4, none⟩ e
/-- What has come of an open tree to which another is added. -/
def Added (w : World) (tb : Nat) (hd : List Value) (kv : Value) (kn : Nat) (xs news : List Value) (w' : World) : Prop :=
  ∃ g cap, w'.ownsRow 0 76 5 (.slice (some ⟨g, 0, none⟩) (kn + 1) cap) (kn + 1) (xs ++ news) ∧ w'.heap[tb]? = some (.cells (hd ++ [Value.slice (some ⟨g, 0, none⟩) (kn + 1) cap]).toArray 76 (0, 0)) ∧
    Chg (fun i => i = tb ∨ kv.ownBlock = some i) w w' ∧ (kv.ownBlock = some g ∨ w.heap.size ≤ g) ∧ tb ≠ g
theorem set5_heap {w : World} {g o : Nat} {cs : Array Value} {E : TypeId} (a b c d e : Value) (h : w.heap[g]? = some (.cells cs E (0, 0))) :
    (set5 w g o a b c d e).heap[g]? = some (.cells (((((cs.setIfInBounds o a).setIfInBounds (o + 1) b).setIfInBounds (o + 2) c).setIfInBounds (o + 3) d).setIfInBounds (o + 4) e) E (0, 0)) := by
  unfold set5
  exact heap_setCell_same (heap_setCell_same (heap_setCell_same (heap_setCell_same (heap_setCell_same h _) _) _) _) _
theorem set5_other {w : World} {g o k : Nat} (a b c d e : Value) (h : k ≠ g) : (set5 w g o a b c d e).heap[k]? = w.heap[k]? := by
  unfold set5
  rw [Below.heap_setCell _ _ _ _ (by exact h), Below.heap_setCell _ _ _ _ (by exact h), Below.heap_setCell _ _ _ _ (by exact h), Below.heap_setCell _ _ _ _ (by exact h), Below.heap_setCell _ _ _ _ (by exact h)]
theorem list5 {l xs : List Value} {n : Nat} (hx : xs.length = n * 5) (h : l.take ((n + 1) * 5) = xs ++ zeroTree) (a b c d e : Value) :
    (((((l.set (n * 5) a).set (n * 5 + 1) b).set (n * 5 + 2) c).set (n * 5 + 3) d).set (n * 5 + 4) e).take ((n + 1) * 5) = xs ++ [a, b, c, d, e] := by
  rw [List.take_set, List.take_set, List.take_set, List.take_set, List.take_set, h, ← hx]
  simp [zeroTree, List.set_append]
theorem row5 {w w' : World} {g n cap : Nat} {xs : List Value} (h : w.ownsRow 0 76 5 (.slice (some ⟨g, 0, none⟩) (n + 1) cap) (n + 1) (xs ++ zeroTree)) (hx : xs.length = n * 5) (a b c d e : Value)
    (hw : ∀ cs, w.heap[g]? = some (.cells cs 76 (0, 0)) → w'.heap[g]? = some (.cells (((((cs.setIfInBounds (n * 5) a).setIfInBounds (n * 5 + 1) b).setIfInBounds (n * 5 + 2) c).setIfInBounds (n * 5 + 3) d).setIfInBounds (n * 5 + 4) e) 76 (0, 0))) :
    w'.ownsRow 0 76 5 (.slice (some ⟨g, 0, none⟩) (n + 1) cap) (n + 1) (xs ++ [a, b, c, d, e]) := by
  rcases h.2 with ⟨h1, _⟩ | ⟨g', cap', cur, h1, hb, hg, hc, hm, hs, ht⟩
  · cases h1
  · simp only [Value.slice.injEq, Option.some.injEq, Addr.mk.injEq] at h1
    obtain ⟨⟨rfl, _, _⟩, _, rfl⟩ := h1
    refine ⟨by rw [List.length_append, hx]; simp; omega, .inr ⟨g, cap, _, rfl, hb, hw _ hg, hc, hm, by simpa using hs, ?_⟩⟩
    have := list5 hx ht a b c d e
    simpa using this
def AddedPost (w : World) (tb : Nat) (hd : List Value) (kv : Value) (kn : Nat) (xs news : List Value) (e : Ending) (w' : World) : Prop := e = .returned (.tuple #[]) ∧ Added w tb hd kv kn xs news w'
/-- Whichever was written first. -/
theorem added_of {w w9 w' : World} {tb g kn cap : Nat} {hd : List Value} {v : Value} {xs : List Value} {a b c d e : Value} {base : World} (hbase : Chg (fun i => i = tb ∨ v.ownBlock = some i) w base)
    (hg : base.grownBy w9 v.ownBlock) (hsz : w.heap.size ≤ base.heap.size) (hat : v.ownBlock = some g ∨ g = base.heap.size) (hlt : tb < w.heap.size) (hne : ∀ g, v.ownBlock = some g → tb ≠ g)
    (hown : w9.ownsRow 0 76 5 (.slice (some ⟨g, 0, none⟩) (kn + 1) cap) (kn + 1) (xs ++ zeroTree)) (hx : xs.length = kn * 5) (h9 : w9.heap[tb]? = some (.cells (hd ++ [v]).toArray 76 (0, 0))) (hhd : hd.length = 4)
    (hw : w' = (set5 w9 g (kn * 5) a b c d e).setCell ⟨tb, 4, none⟩ (.slice (some ⟨g, 0, none⟩) (kn + 1) cap) ∨ w' = set5 (w9.setCell ⟨tb, 4, none⟩ (.slice (some ⟨g, 0, none⟩) (kn + 1) cap)) g (kn * 5) a b c d e) :
    Added w tb hd v kn xs [a, b, c, d, e] w' := by
  have htg : tb ≠ g := by
    rcases hat with h | h
    · exact hne g h
    · omega
  have hset : (hd ++ [v]).toArray.setIfInBounds 4 (.slice (some ⟨g, 0, none⟩) (kn + 1) cap) = (hd ++ [Value.slice (some ⟨g, 0, none⟩) (kn + 1) cap]).toArray := by
    match hd, hhd with
    | [a, b, c, d], _ => rfl
  have hc9 : Chg (fun i => i = tb ∨ v.ownBlock = some i) w w9 := hbase.grown hg (fun k hk => .inl (.inr hk))
  have hgS : (g = tb ∨ v.ownBlock = some g) ∨ w.heap.size ≤ g := by
    rcases hat with h | h
    · exact .inl (.inr h)
    · exact .inr (by omega)
  refine ⟨g, cap, ?_, ?_, ?_, ?_, htg⟩
  · refine row5 hown hx a b c d e fun cs hcs => ?_
    rcases hw with rfl | rfl
    · rw [Below.heap_setCell _ _ _ _ (by exact fun h => htg h.symm)]; exact set5_heap _ _ _ _ _ hcs
    · exact set5_heap _ _ _ _ _ (by rw [Below.heap_setCell _ _ _ _ (by exact fun h => htg h.symm)]; exact hcs)
  · rcases hw with rfl | rfl
    · rw [← hset]; exact heap_setCell_same (i := 4) (by rw [set5_other _ _ _ _ _ htg]; exact h9) _
    · rw [set5_other _ _ _ _ _ htg, ← hset]; exact heap_setCell_same (i := 4) h9 _
  · rcases hw with rfl | rfl
    · unfold set5
      exact (((((hc9.setCell _ _ hgS).setCell _ _ hgS).setCell _ _ hgS).setCell _ _ hgS).setCell _ _ hgS).setCell _ _ (.inl (.inl rfl))
    · unfold set5
      exact (((((hc9.setCell _ _ (.inl (.inl rfl))).setCell _ _ hgS).setCell _ _ hgS).setCell _ _ hgS).setCell _ _ hgS).setCell _ _ hgS
  · rcases hat with h | h
    · exact .inl h
    · exact .inr (by omega)
end Go.Proofs.YtipfakmbjajhlaaGreatDoor 
