/-
  markup.Parse's closure: the walks of a text's and an end's way.
-/
import Derived.Test.YtipfakmbjajhlaaGreatDoorMark2
set_option linter.unusedVariables false
set_option linter.unusedSimpArgs false
namespace Go.Proofs.YtipfakmbjajhlaaGreatDoor 
open Go.RowKit Go.Shelf
theorem words_kept {w w9 : World} {tb : Nat} {k : Int} {fn : ByteArray} {fa v : Value} {o1 o2 : Obj} (htb : w.heap[tb]? = some (.cells #[.int .i64 k, .string fn, fa, .string ⟨#[]⟩, v] 76 (0, 0))) (hne : ∀ g, v.ownBlock = some g → tb ≠ g) (hg : ((w.alloc o1).alloc o2).drew.grownBy w9 v.ownBlock) :
    w9.heap[tb]? = some (.cells #[.int .i64 k, .string fn, fa, .string ⟨#[]⟩, v] 76 (0, 0)) ∧ w9.cell? ⟨tb, 4, none⟩ = some v ∧ w9.frozen? ⟨tb, 4, none⟩ = false := by
  have hlt := lt_of_block htb
  have h1 : w9.heap[tb]? = some (.cells #[.int .i64 k, .string fn, fa, .string ⟨#[]⟩, v] 76 (0, 0)) := by
    rw [hg.block tb (by show tb < ((w.alloc o1).alloc o2).heap.size; simp; omega) (fun e => hne tb e.symm rfl)]
    show ((w.alloc o1).alloc o2).heap[tb]? = _
    rw [Below.heap_alloc _ _ _ (by simp; omega), Below.heap_alloc _ _ _ hlt]; exact htb
  exact ⟨h1, by rw [Lib.cell_of_heap h1]; rfl, Lib.frozen_of_heap h1 _⟩
theorem words_apart {w : World} {tb g : Nat} {v : Value} {o1 o2 : Obj} (hlt : tb < w.heap.size) (hne : ∀ g, v.ownBlock = some g → tb ≠ g) (h : v.ownBlock = some g ∨ g = ((w.alloc o1).alloc o2).drew.heap.size) : ¬ tb = g := by
  rcases h with h | h
  · exact hne g h
  · have h3 : g = ((w.alloc o1).alloc o2).heap.size := h
    simp at h3
    omega
set_option maxRecDepth 100000 in
set_option maxHeartbeats 3200000 in
theorem parse1_words (w : World) (ob g0 m cap0 tb : Nat) (k : Int) (fn : ByteArray) (fa : Value) (kq : Option Addr) (kn kc : Nat) (nm : ByteArray) (aq : Option Addr) (an ac : Nat) (tx : ByteArray) (xs : List Value)
    (hob : w.heap[ob]? = some (.cells #[.slice (some ⟨g0, 0, none⟩) (m + 1) cap0] 89 (0, 0))) (hg0 : g0 < w.heap.size)
    (hlast : w.cell? ⟨g0, m, none⟩ = some (.pointer (some ⟨tb, 0, none⟩))) (hm : m < 20000) (htb : w.heap[tb]? = some (.cells #[.int .i64 k, .string fn, fa, .string ⟨#[]⟩, .slice kq kn kc] 76 (0, 0)))
    (hkv : w.ownsRow 0 76 5 (.slice kq kn kc) kn xs) (hkn : kn < 20000) (hne : ∀ g, (Value.slice kq kn kc).ownBlock = some g → tb ≠ g) :
    Calls Tryz.prog 53 #[.agg #[.int .i64 2, .string nm, .slice aq an ac, .string tx], .pointer (some ⟨ob, 0, none⟩)] w (AddedPost w tb [.int .i64 k, .string fn, fa, .string ⟨#[]⟩] (.slice kq kn kc) kn xs [.int .i64 2, .string ⟨#[]⟩, .slice none 0 0, .string tx, .slice none 0 0]) := by
  have c0 : w.cell? ⟨ob, 0, none⟩ = some (.slice (some ⟨g0, 0, none⟩) (m + 1) cap0) := by rw [Lib.cell_of_heap hob]; rfl
  have cf := Lib.frozen_of_heap hob 0
  have hlt := lt_of_block hob
  have hltb := lt_of_block htb
  have t4 : w.cell? ⟨tb, 4, none⟩ = some (.slice kq kn kc) := by rw [Lib.cell_of_heap htb]; rfl
  have tf := Lib.frozen_of_heap htb 4
  obtain ⟨is, his, hi0, hi1, hi2⟩ := info_parts infoTree
  have hxl : xs.length = kn * 5 := hkv.1
  have hix : (kn : Int) < (kn : Int) + 1 := by omega
  have HTb := Lib.hid htb
  have HOv := Lib.hid (fun o1 o2 => (hkv.alloc o1).alloc o2)
  clear hob htb hkv
  go_enter Tryz.func53, Tryz.ntmps53
  go_wp2_with fail
  go_region_law (refine step_append_lies _ rfl (.tmp 53) (.tmp 58) 27 rfl 0 76 is (.agg #[.int .i64 0, .string ⟨#[]⟩, .slice none 0 0, .string ⟨#[]⟩, .slice none 0 0]) 5 88 Tryz.underlying27 his hi0 hi1 hi2 rfl (by decide) (.slice kq kn kc) kn xs (by simp [Act.eval, Act.put]) (HOv.out _ _) ⟨w.heap.size + 1, 0, none⟩ 1 1 zeroTree (by simp [Act.eval, Act.put]) rfl (news_new _ _ (by simp) _ _) (by intro u hu; simp [zeroTree] at hu; rcases hu with rfl | rfl | rfl | rfl | rfl <;> rfl) (by decide) (by unfold maxLen; omega) (by omega) (by simp) _ rfl ?_; intro g cap w9 hown9 hgrow9 hat9 hlt9; obtain ⟨a0, a1, a2, a3, a4, af⟩ := row_tail hxl hown9; obtain ⟨hh9, hz4, hzf⟩ := words_kept HTb.out hne hgrow9; have htg := words_apart hltb hne hat9)
  all_goals
    go_end0
    refine ⟨rfl, added_of (((Chg.refl _ w).alloc _).alloc _ |>.drewN 1) hgrow9 (by show w.heap.size ≤ ((w.alloc _).alloc _).heap.size; simp; omega) hat9 hltb hne hown9 hxl hh9 rfl ?_⟩
    unfold set5
    first | (left; with_reducible rfl) | (right; with_reducible rfl)
end Go.Proofs.YtipfakmbjajhlaaGreatDoor 
