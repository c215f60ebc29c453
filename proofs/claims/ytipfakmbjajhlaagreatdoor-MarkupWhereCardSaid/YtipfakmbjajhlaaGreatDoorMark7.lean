/-
  markup.Parse's closure: a text, an element's end; the Teller.
-/
import Derived.Test.YtipfakmbjajhlaaGreatDoorMark6
import Derived.Test.YtipfakmbjajhlaaGreatDoorMark3
set_option linter.unusedVariables false
set_option linter.unusedSimpArgs false
namespace Go.Proofs.YtipfakmbjajhlaaGreatDoor 
open Go.RowKit Go.Shelf
variable {ob : Nat} {evs : List Pure.Event} {S SA C : Nat → Prop} {w : World} {ov : Value} {tbs u : List Nat}
theorem nodup_parts {ob g0 tb : Nat} {r u : List Nat} (h : (ob :: ([g0] ++ (tb :: (r ++ u)))).Nodup) :
    ob ≠ g0 ∧ ob ≠ tb ∧ ob ∉ u ∧ g0 ≠ tb ∧ g0 ∉ u ∧ tb ∉ u ∧ u.Nodup ∧ ∀ i ∈ r, i ∉ u ∧ ob ≠ i ∧ g0 ≠ i ∧ tb ≠ i := by
  simp only [List.cons_append, List.nil_append, List.nodup_cons, List.mem_cons, List.mem_append, not_or, List.nodup_append] at h
  obtain ⟨⟨n1, n2, n3, n4⟩, ⟨n5, n6, n7⟩, ⟨n8, n9⟩, n10, n11, n12⟩ := h
  refine ⟨n1, n2, n4, n5, n7, n9, n11, fun i hi => ⟨fun hu => n12 i hi i hu rfl, fun e => n3 (e ▸ hi), fun e => n6 (e ▸ hi), fun e => n8 (e ▸ hi)⟩⟩
theorem tell_text (hm : ParseMem ob evs C ov tbs u w) (hS : ∀ k, S k ↔ C k ∨ k ∈ ob :: (ov.ownBlock.toList ++ u)) {n x : ByteArray} {l : List Pure.Attr} {av : Value} (ha : AttrsAt w SA av l)
    (hd : (depthOf (evs ++ [⟨2, n, l, x⟩])).isSome = true) (hf : evs.length < 9000) :
    Calls Tryz.prog 53 #[.agg #[.int .i64 2, .string n, av, .string x], .pointer (some ⟨ob, 0, none⟩)] w (ToldPost ob (evs ++ [⟨2, n, l, x⟩]) S SA w) := by
  obtain ⟨d, tb, tbs', fr, frs, hdep, rfl, hbl, hl1, hl2⟩ := hm.top
  have hdl := depth_le evs 0 d hdep
  obtain ⟨aq, ac, rfl⟩ := attrs_form ha
  obtain ⟨g0, cap0, hov, hc1, hc2, hlast, _, hg0⟩ := ptr_last hm.row
  subst hov
  have hnd := hm.nodup
  obtain ⟨hltC, hltU⟩ := hm.lt
  have hst := hm.stack
  rw [hbl] at hst
  obtain ⟨kv, u', rfl, ⟨fav, xs, f1, f2, f3, f4⟩, hst'⟩ := hst
  obtain ⟨kq, kc, rfl⟩ := owns_form f3
  have hfew := builds_few' evs fr (by rw [hbl]; simp)
  obtain ⟨n1, n2, n3, n4, n5, n6, n7, n8⟩ := nodup_parts hnd
  have hkvu : ∀ i, (Value.slice kq fr.kids.length kc).ownBlock = some i → i ∉ u' ∧ ob ≠ i ∧ g0 ≠ i ∧ tb ≠ i := fun i hi => n8 i (by simp [hi])
  have hne : ∀ g, (Value.slice kq fr.kids.length kc).ownBlock = some g → tb ≠ g := fun g hg => (hkvu g hg).2.2.2
  refine (parse1_words w ob g0 tbs'.length cap0 tb _ fr.name fav kq fr.kids.length kc n aq l.length ac x xs hm.opn hg0 hlast (by omega) f1 f3 (by omega) hne).mono ?_
  rintro e w' ⟨rfl, g, cap, hrow, htb, hchg, hg, htg⟩
  have hcS : Chg S w w' := hchg.mono fun k _ hk => by
    rcases hk with rfl | hk
    · exact (hS k).2 (.inr (by simp))
    · exact (hS k).2 (.inr (by rw [hk]; simp))
  have htbu : tb ∉ u' ∧ ob ≠ tb ∧ g0 ≠ tb ∧ ob ≠ g0 ∧ ob ∉ u' ∧ g0 ∉ u' ∧ u'.Nodup := ⟨n6, n2, n4, n1, n3, n5, n7⟩
  have hCne : ∀ k, C k → k ≠ tb ∧ ¬ (Value.slice kq fr.kids.length kc).ownBlock = some k := fun k hk => ⟨fun e => hm.apart k (by simp [e]) hk, fun e => hm.apart k (by rw [e]; simp) hk⟩
  have hsameC : ∀ k, C k → w'.heap[k]? = w.heap[k]? := fun k hk => hchg.block k (hltC k hk) (by rintro (h | h); exact (hCne k hk).1 h; exact (hCne k hk).2 h)
  have hgold : (Value.slice kq fr.kids.length kc).ownBlock = some g ∨ w.heap.size ≤ g := hg
  have hobk : w'.heap[ob]? = w.heap[ob]? := hchg.block ob (lt_of_block hm.opn) (by rintro (h | h); exact htbu.2.1 h; exact (hkvu ob h).2.1 rfl)
  refine ⟨rfl, fun k => C k ∨ k ∈ ob :: ((Value.slice (some ⟨g0, 0, none⟩) (tbs'.length + 1) cap0).ownBlock.toList ++ (tb :: ((Value.slice (some ⟨g, 0, none⟩) (fr.kids.length + 1) cap).ownBlock.toList ++ u'))), ⟨C, _, tb :: tbs', tb :: ((Value.slice (some ⟨g, 0, none⟩) (fr.kids.length + 1) cap).ownBlock.toList ++ u'), ⟨?_, ?_, ?_, ?_, ?_, ?_, ?_, hd⟩, fun k => Iff.rfl⟩, ?_, hcS⟩
  · rw [hobk]; exact hm.opn
  · refine owns_keep hm.row fun i hi => hchg.block i ?_ ?_
    · have : g0 = i := by simpa [Value.ownBlock] using hi
      omega
    · have : g0 = i := by simpa [Value.ownBlock] using hi
      subst this
      rintro (h | h)
      · exact htbu.2.2.1 h
      · exact (hkvu _ h).2.2.1 rfl
  · rw [builds_snoc, hbl]
    have e1 : Pure.stepE (fr :: frs) ⟨2, n, l, x⟩ = { fr with kids := fr.kids ++ [Pure.textT x] } :: frs := by unfold Pure.stepE; rw [if_neg (show ¬ (2 : Int) = 1 by decide)]; simp
    rw [e1]
    refine ⟨.slice (some ⟨g, 0, none⟩) (fr.kids.length + 1) cap, u', rfl, ⟨fav, xs ++ [.int .i64 2, .string ⟨#[]⟩, .slice none 0 0, .string x, .slice none 0 0], htb, f2.keep hsameC, ?_, ?_⟩, hst'.mono (fun _ h => h) hsameC fun k hk => hchg.block k (hltU k (by simp [hk])) ?_⟩
    · have : (fr.kids ++ [Pure.textT x]).length = fr.kids.length + 1 := by simp
      show World.ownsRow _ 0 76 5 _ (fr.kids ++ [Pure.textT x]).length _
      rw [this]; exact hrow
    · exact (f4.mono (fun _ h => h) hsameC).snoc (t := Pure.textT x) (av := .slice none 0 0) (kv := .slice none 0 0) (attrs_nil _ _) (treesAt_nil _ _)
    · rintro (h | h)
      · exact htbu.1 (h ▸ hk)
      · exact (hkvu k h).1 hk
  · have hgn : g ∉ u' ∧ ob ≠ g ∧ g0 ≠ g := by
      rcases hgold with h | h
      · exact ⟨(hkvu g h).1, (hkvu g h).2.1, (hkvu g h).2.2.1⟩
      · refine ⟨fun hu => ?_, fun e => ?_, fun e => ?_⟩
        · have := hltU g (by simp [hu]); omega
        · have := lt_of_block hm.opn; omega
        · omega
    simp only [Value.ownBlock, Option.toList, List.cons_append, List.nil_append, List.nodup_cons, List.mem_cons, not_or]
    exact ⟨⟨htbu.2.2.2.1, htbu.2.1, hgn.2.1, htbu.2.2.2.2.1⟩, ⟨htbu.2.2.1, hgn.2.2, htbu.2.2.2.2.2.1⟩, ⟨htg, htbu.1⟩, hgn.1, htbu.2.2.2.2.2.2⟩
  · intro k hk hC
    simp only [Value.ownBlock, Option.toList, List.cons_append, List.nil_append, List.mem_cons] at hk
    rcases hk with rfl | rfl | rfl | rfl | hk
    · exact hm.apart _ (by simp) hC
    · exact hm.apart _ (by simp [Value.ownBlock]) hC
    · exact hm.apart _ (by simp) hC
    · rcases hgold with h | h
      · exact (hCne _ hC).2 h
      · have := hltC _ hC; omega
    · exact hm.apart k (by simp [hk]) hC
  · intro k hk
    obtain ⟨c, e, f, h1, h2⟩ := hm.kindC k hk
    exact ⟨c, e, f, by rw [hsameC k hk]; exact h1, h2⟩
  · intro e he
    rcases List.mem_append.1 he with h | h
    · exact hm.kinds e h
    · simp at h; subst h; exact .inr (.inl rfl)
  · intro k hk
    rcases hk with hk | hk
    · exact .inl ((hS k).2 (.inl hk))
    · simp only [Value.ownBlock, Option.toList, List.cons_append, List.nil_append, List.mem_cons] at hk
      rcases hk with rfl | rfl | rfl | rfl | hk
      · exact .inl ((hS _).2 (.inr (by simp)))
      · exact .inl ((hS _).2 (.inr (by simp [Value.ownBlock])))
      · exact .inl ((hS _).2 (.inr (by simp)))
      · rcases hgold with h | h
        · exact .inl ((hS _).2 (.inr (by rw [h]; simp)))
        · exact .inr (.inr h)
      · exact .inl ((hS _).2 (.inr (by simp [hk])))
theorem nodup_parts2 {ob g0 tb tb2 : Nat} {r r2 u : List Nat} (h : (ob :: ([g0] ++ (tb :: (r ++ (tb2 :: (r2 ++ u)))))).Nodup) :
    (ob ≠ g0 ∧ ob ≠ tb ∧ ob ≠ tb2 ∧ ob ∉ u) ∧ (g0 ≠ tb2 ∧ g0 ∉ u) ∧ (tb2 ≠ tb ∧ tb2 ∉ u) ∧ u.Nodup ∧ (∀ i ∈ r2, i ∉ u ∧ ob ≠ i ∧ g0 ≠ i ∧ tb ≠ i ∧ tb2 ≠ i) ∧ ∀ i ∈ r, i ∉ u ∧ ob ≠ i ∧ g0 ≠ i ∧ tb2 ≠ i ∧ i ∉ r2 := by
  simp only [List.cons_append, List.nil_append, List.nodup_cons, List.mem_cons, List.mem_append, not_or, List.nodup_append] at h
  obtain ⟨⟨a1, a2, a3, a4, a5, a6⟩, ⟨b1, b2, b3, b4, b5⟩, ⟨c1, c2, c3, c4⟩, d1, ⟨e1, e2, e3, e4⟩, f1⟩ := h
  refine ⟨⟨a1, a2, a4, a6⟩, ⟨b3, b5⟩, ⟨fun e => c2 e.symm, e1.2⟩, e3, fun i hi => ⟨fun hu => e4 i hi i hu rfl, fun e => a5 (e ▸ hi), fun e => b4 (e ▸ hi), fun e => c3 (e ▸ hi), fun e => e1.1 (e ▸ hi)⟩, fun i hi => ⟨fun hu => ?_, fun e => a3 (e ▸ hi), fun e => b2 (e ▸ hi), fun e => ?_, fun h2 => ?_⟩⟩
  · exact f1 i hi i (.inr (.inr hu)) rfl
  · exact f1 i hi tb2 (.inl rfl) e.symm
  · exact f1 i hi i (.inr (.inl h2)) rfl
theorem endW_size (w : World) (ob g0 m cap0 : Nat) (nm : ByteArray) (av : Value) (tx : ByteArray) : (endW w ob g0 m cap0 nm av tx).heap.size = w.heap.size + 1 := by unfold endW; simp
theorem endW_ob {w : World} {ob g0 m cap0 : Nat} {nm : ByteArray} {av : Value} {tx : ByteArray} {v : Value} {E : TypeId} (h : w.heap[ob]? = some (.cells #[v] E (0, 0))) : (endW w ob g0 m cap0 nm av tx).heap[ob]? = some (.cells #[.slice (some ⟨g0, 0, none⟩) (m + 1) cap0] E (0, 0)) := by
  have := lt_of_block h
  unfold endW
  rw [Below.heap_alloc _ _ _ (by simpa using this)]
  exact heap_setCell_same (i := 0) h _
theorem tell_close (hm : ParseMem ob evs C ov tbs u w) (hS : ∀ k, S k ↔ C k ∨ k ∈ ob :: (ov.ownBlock.toList ++ u)) {n x : ByteArray} {l : List Pure.Attr} {av : Value} (ha : AttrsAt w SA av l)
    (hd : (depthOf (evs ++ [⟨3, n, l, x⟩])).isSome = true) (hf : evs.length < 9000) :
    Calls Tryz.prog 53 #[.agg #[.int .i64 3, .string n, av, .string x], .pointer (some ⟨ob, 0, none⟩)] w (ToldPost ob (evs ++ [⟨3, n, l, x⟩]) S SA w) := by
  obtain ⟨d, tb, tbs', fr, frs, hdep, rfl, hbl, hl1, hl2⟩ := hm.top
  have hdl := depth_le evs 0 d hdep
  have hd0 : d ≠ 0 := by
    rintro rfl
    rw [depthOf_snoc, hdep] at hd
    simp at hd
  obtain ⟨tb2, tbs'', rfl⟩ : ∃ a b, tbs' = a :: b := by cases tbs' with | nil => simp at hl1; omega | cons a b => exact ⟨a, b, rfl⟩
  obtain ⟨up, frs', rfl⟩ : ∃ a b, frs = a :: b := by cases frs with | nil => simp at hl2; omega | cons a b => exact ⟨a, b, rfl⟩
  obtain ⟨aq, ac, rfl⟩ := attrs_form ha
  obtain ⟨g0, cap0, hov, hc1, hc2, hlast, hrow', hg0⟩ := ptr_last hm.row
  subst hov
  obtain ⟨g0', cap0', he, hc1', _, hlast2, _, _⟩ := ptr_last hrow'
  simp only [List.length_cons, Value.slice.injEq, Option.some.injEq, Addr.mk.injEq] at he
  obtain ⟨⟨rfl, _, _⟩, _, rfl⟩ := he
  have hnd := hm.nodup
  obtain ⟨hltC, hltU⟩ := hm.lt
  have hst := hm.stack
  rw [hbl] at hst
  obtain ⟨kvT, uT, rfl, ⟨favT, xsT, f1, f2, f3, f4⟩, kv, u'', rfl, ⟨fav, xs, e1, e2, e3, e4⟩, hst'⟩ := hst
  obtain ⟨kq, kc, rfl⟩ := owns_form e3
  obtain ⟨uq, uc, rfl⟩ := owns_form f3
  obtain ⟨tq, tc, rfl⟩ := attrs_form f2
  obtain ⟨⟨n1, n2, n3, n4⟩, ⟨n5, n6⟩, ⟨n7, n8⟩, n9, n10, n11⟩ := nodup_parts2 hnd
  have hfew := builds_few' evs up (by rw [hbl]; simp)
  have hkv2 : ∀ i, (Value.slice kq up.kids.length kc).ownBlock = some i → i ∉ u'' ∧ ob ≠ i ∧ g0 ≠ i ∧ tb ≠ i ∧ tb2 ≠ i := fun i hi => n10 i (by simp [hi])
  have hkvT : ∀ i, (Value.slice uq fr.kids.length uc).ownBlock = some i → i ∉ u'' ∧ ob ≠ i ∧ g0 ≠ i ∧ tb2 ≠ i ∧ ¬ (Value.slice kq up.kids.length kc).ownBlock = some i := fun i hi => by
    obtain ⟨a, b, c, d, e⟩ := n11 i (by simp [hi])
    exact ⟨a, b, c, d, fun h => e (by simp [h])⟩
  refine (parse1_end w ob g0 tbs''.length cap0 tb tb2 _ up.name fr.name fav kq up.kids.length kc tq fr.attrs.length tc uq fr.kids.length uc n aq l.length ac x xs hm.opn hg0 hc1 hc2 hlast hlast2 (by simp at hl1; omega) f1 e1 e3 (by omega) (fun g hg => ⟨(hkv2 g hg).2.2.2.2, (hkv2 g hg).2.2.2.1, (hkv2 g hg).2.1⟩) (fun e => n1 e.symm) (fun e => n2 e.symm) (fun e => n3 e.symm)).mono ?_
  rintro e w' ⟨rfl, g, cap, hrow, htb, hchg, hg, htg⟩
  have hWs := endW_size w ob g0 tbs''.length cap0 n (.slice aq l.length ac) x
  have hsame : ∀ k, k < w.heap.size → k ≠ ob → k ≠ tb2 → ¬ (Value.slice kq up.kids.length kc).ownBlock = some k → w'.heap[k]? = w.heap[k]? := by
    intro k hk h1 h2 h3
    rw [hchg.block k (by omega) (by rintro (h | h); exact h2 h; exact h3 h), endW_heap hk h1]
  have hcS : Chg S w w' := by
    refine ⟨hchg.os, hchg.tape, hchg.output, by have := hchg.size; omega, fun k hk hn => hsame k hk (fun e => hn ((hS k).2 (.inr (by simp [e])))) (fun e => hn ((hS k).2 (.inr (by simp [e])))) (fun e => hn ((hS k).2 (.inr (by rw [e]; simp))))⟩
  have hCne : ∀ k, C k → k ≠ ob ∧ k ≠ tb2 ∧ ¬ (Value.slice kq up.kids.length kc).ownBlock = some k := fun k hk => ⟨fun e => hm.apart k (by simp [e]) hk, fun e => hm.apart k (by simp [e]) hk, fun e => hm.apart k (by rw [e]; simp) hk⟩
  have hltT : ∀ k, (Value.slice uq fr.kids.length uc).ownBlock = some k → k < w.heap.size := fun k hk => (f3.lt k hk).2
  have hsameC' : ∀ k, (C k ∨ (Value.slice uq fr.kids.length uc).ownBlock = some k) → w'.heap[k]? = w.heap[k]? := by
    rintro k (hk | hk)
    · exact hsame k (hltC k hk) (hCne k hk).1 (hCne k hk).2.1 (hCne k hk).2.2
    · exact hsame k (hltT k hk) (fun e => (hkvT k hk).2.1 e.symm) (fun e => (hkvT k hk).2.2.2.1 e.symm) (hkvT k hk).2.2.2.2
  have hgold : (Value.slice kq up.kids.length kc).ownBlock = some g ∨ w.heap.size + 1 ≤ g := by rw [hWs] at hg; exact hg
  have hgn : g ∉ u'' ∧ ob ≠ g ∧ g0 ≠ g := by
    rcases hgold with h | h
    · exact ⟨(hkv2 g h).1, (hkv2 g h).2.1, (hkv2 g h).2.2.1⟩
    · refine ⟨fun hu => ?_, fun e => ?_, fun e => ?_⟩
      · have := hltU g (by simp [hu]); omega
      · have := lt_of_block hm.opn; omega
      · omega
  refine ⟨rfl, fun k => (C k ∨ (Value.slice uq fr.kids.length uc).ownBlock = some k) ∨ k ∈ ob :: ((Value.slice (some ⟨g0, 0, none⟩) (tbs''.length + 1) cap0).ownBlock.toList ++ (tb2 :: ((Value.slice (some ⟨g, 0, none⟩) (up.kids.length + 1) cap).ownBlock.toList ++ u''))), ⟨fun k => C k ∨ (Value.slice uq fr.kids.length uc).ownBlock = some k, _, tb2 :: tbs'', tb2 :: ((Value.slice (some ⟨g, 0, none⟩) (up.kids.length + 1) cap).ownBlock.toList ++ u''), ⟨?_, ?_, ?_, ?_, ?_, ?_, ?_, hd⟩, fun k => Iff.rfl⟩, ?_, hcS⟩
  · rw [hchg.block ob (by have := lt_of_block hm.opn; omega) (by rintro (h | h); exact n3 h; exact (hkv2 ob h).2.1 rfl)]
    exact endW_ob hm.opn
  · refine owns_keep hrow' fun i hi => ?_
    have : g0 = i := by simpa [Value.ownBlock] using hi
    subst this
    exact hsame _ hg0 (fun e => n1 e.symm) n5 (fun h => (hkv2 _ h).2.2.1 rfl)
  · rw [builds_snoc, hbl]
    have e5 : Pure.stepE (fr :: up :: frs') ⟨3, n, l, x⟩ = { up with kids := up.kids ++ [Pure.elemT fr.name fr.attrs fr.kids] } :: frs' := by
      unfold Pure.stepE
      rw [if_neg (show ¬ (3 : Int) = 1 by decide)]
      simp
    rw [e5]
    refine ⟨.slice (some ⟨g, 0, none⟩) (up.kids.length + 1) cap, u'', rfl, ⟨fav, xs ++ [.int .i64 1, .string fr.name, .slice tq fr.attrs.length tc, .string ⟨#[]⟩, .slice uq fr.kids.length uc], htb, (e2.mono fun _ h => .inl h).keep hsameC', ?_, ?_⟩, hst'.mono (fun _ h => .inl h) (fun k hk => hsameC' k (.inl hk)) fun k hk => hsame k (hltU k (by simp [hk])) (fun e => n4 (e ▸ hk)) (fun e => n8 (e ▸ hk)) (fun h => (hkv2 k h).1 hk)⟩
    · have : (up.kids ++ [Pure.elemT fr.name fr.attrs fr.kids]).length = up.kids.length + 1 := by simp
      show World.ownsRow _ 0 76 5 _ (up.kids ++ [Pure.elemT fr.name fr.attrs fr.kids]).length _
      rw [this]; exact hrow
    · refine (e4.mono (fun _ h => .inl h) (fun k hk => hsameC' k (.inl hk))).snoc (t := Pure.elemT fr.name fr.attrs fr.kids) (av := .slice tq fr.attrs.length tc) (kv := .slice uq fr.kids.length uc) ((f2.mono fun _ h => .inl h).keep hsameC') ?_
      exact trees_of_row (owns_keep f3 fun i hi => hsameC' i (.inr hi)) (f4.mono (fun _ h => h) fun k hk => hsameC' k (.inl hk)) (fun _ h => .inl h) (fun g h => .inr h)
  · simp only [Value.ownBlock, Option.toList, List.cons_append, List.nil_append, List.nodup_cons, List.mem_cons, not_or]
    exact ⟨⟨n1, n3, hgn.2.1, n4⟩, ⟨n5, hgn.2.2, n6⟩, ⟨htg, n8⟩, hgn.1, n9⟩
  · intro k hk hC
    simp only [Value.ownBlock, Option.toList, List.cons_append, List.nil_append, List.mem_cons] at hk
    rcases hC with hC | hC
    · rcases hk with rfl | rfl | rfl | rfl | hk
      · exact (hCne _ hC).1 rfl
      · exact hm.apart _ (by simp [Value.ownBlock]) hC
      · exact (hCne _ hC).2.1 rfl
      · rcases hgold with h | h
        · exact (hCne _ hC).2.2 h
        · have := hltC _ hC; omega
      · exact hm.apart k (by simp [hk]) hC
    · rcases hk with rfl | rfl | rfl | rfl | hk
      · exact (hkvT _ hC).2.1 rfl
      · exact (hkvT _ hC).2.2.1 rfl
      · exact (hkvT _ hC).2.2.2.1 rfl
      · rcases hgold with h | h
        · exact (hkvT _ hC).2.2.2.2 h
        · have := hltT _ hC; omega
      · exact (hkvT k hC).1 hk
  · intro k hk
    rcases hk with hk | hk
    · obtain ⟨c, e, f, h1, h2⟩ := hm.kindC k hk
      exact ⟨c, e, f, by rw [hsameC' k (.inl hk)]; exact h1, h2⟩
    · obtain ⟨c, f, h1⟩ := tree_row_kind f3 k hk
      exact ⟨c, _, f, by rw [hsameC' k (.inr hk)]; exact h1, .inl rfl⟩
  · intro e he
    rcases List.mem_append.1 he with h | h
    · exact hm.kinds e h
    · simp at h; subst h; exact .inr (.inr rfl)
  · intro k hk
    rcases hk with (hk | hk) | hk
    · exact .inl ((hS k).2 (.inl hk))
    · exact .inl ((hS k).2 (.inr (by rw [hk]; simp)))
    · simp only [Value.ownBlock, Option.toList, List.cons_append, List.nil_append, List.mem_cons] at hk
      rcases hk with rfl | rfl | rfl | rfl | hk
      · exact .inl ((hS _).2 (.inr (by simp)))
      · exact .inl ((hS _).2 (.inr (by simp [Value.ownBlock])))
      · exact .inl ((hS _).2 (.inr (by simp)))
      · rcases hgold with h | h
        · exact .inl ((hS _).2 (.inr (by rw [h]; simp)))
        · exact .inr (.inr (by omega))
      · exact .inl ((hS _).2 (.inr (by simp [hk])))
/-- markup.Parse's closure is a Teller. -/
def parseTeller (ob : Nat) : Teller where
  fn := 53
  cap := #[.pointer (some ⟨ob, 0, none⟩)]
  enters := enters_of Tryz.func53 (by kernel_rfl) rfl
  inv := ParseInv ob
  keep := fun h _ hk => h.keep hk
  kind := fun h hk => h.kind hk
  call := by
    intro evs S w ev av SA hi ha hSA hl hd hf hk hn
    obtain ⟨C, ov, tbs, u, hm, hS⟩ := hi
    obtain ⟨k, n, l, x⟩ := ev
    rcases hk with h | h | h
    · obtain rfl : k = 1 := h
      exact tell_open hm hS ha hSA hd hf
    · obtain rfl : k = 2 := h
      exact tell_text hm hS ha hd hf
    · obtain rfl : k = 3 := h
      exact tell_close hm hS ha hd hf
end Go.Proofs.YtipfakmbjajhlaaGreatDoor 
