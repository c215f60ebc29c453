/-
  markup.Parse's closure: the walk of an element's end.
-/
import Derived.Test.YtipfakmbjajhlaaGreatDoorMark2
set_option linter.unusedVariables false
set_option linter.unusedSimpArgs false
namespace Go.Proofs.YtipfakmbjajhlaaGreatDoor 
open Go.RowKit Go.Shelf
/-- The world in which the closed tree is added to the one above. -/
def endW (w : World) (ob g0 m cap0 : Nat) (nm : ByteArray) (av : Value) (tx : ByteArray) : World :=
  (w.setCell ⟨ob, 0, none⟩ (.slice (some ⟨g0, 0, none⟩) (m + 1) cap0)).alloc (.cells #[.int .i64 3, .string nm, av, .string tx] 49)
theorem endW_heap {w : World} {ob g0 m cap0 : Nat} {nm : ByteArray} {av : Value} {tx : ByteArray} {k : Nat} (hk : k < w.heap.size) (hne : k ≠ ob) : (endW w ob g0 m cap0 nm av tx).heap[k]? = w.heap[k]? := by
  unfold endW
  rw [Below.heap_alloc _ _ _ (by simpa using hk), Below.heap_setCell _ _ _ _ (by exact hne)]
def EndPost (w : World) (ob g0 m cap0 tb2 : Nat) (nm : ByteArray) (av : Value) (tx : ByteArray) (hd : List Value) (kv : Value) (kn : Nat) (xs news : List Value) (e : Ending) (w' : World) : Prop :=
  e = .returned (.tuple #[]) ∧ Added (endW w ob g0 m cap0 nm av tx) tb2 hd kv kn xs news w'
theorem end_kept {w w9 : World} {tb : Nat} {k : Int} {fn : ByteArray} {fa v : Value} {o1 : Obj} (htb : w.heap[tb]? = some (.cells #[.int .i64 k, .string fn, fa, .string ⟨#[]⟩, v] 76 (0, 0))) (hne : ∀ g, v.ownBlock = some g → tb ≠ g) (hg : (w.alloc o1).drew.grownBy w9 v.ownBlock) :
    w9.heap[tb]? = some (.cells #[.int .i64 k, .string fn, fa, .string ⟨#[]⟩, v] 76 (0, 0)) ∧ w9.cell? ⟨tb, 4, none⟩ = some v ∧ w9.frozen? ⟨tb, 4, none⟩ = false := by
  have hlt := lt_of_block htb
  have h1 : w9.heap[tb]? = some (.cells #[.int .i64 k, .string fn, fa, .string ⟨#[]⟩, v] 76 (0, 0)) := by
    rw [hg.block tb (by show tb < (w.alloc o1).heap.size; simp; omega) (fun e => hne tb e.symm rfl)]
    show (w.alloc o1).heap[tb]? = _
    rw [Below.heap_alloc _ _ _ hlt]; exact htb
  exact ⟨h1, by rw [Lib.cell_of_heap h1]; rfl, Lib.frozen_of_heap h1 _⟩
theorem end_apart {w : World} {tb g : Nat} {v : Value} {o1 : Obj} (hlt : tb < w.heap.size) (hne : ∀ g, v.ownBlock = some g → tb ≠ g) (h : v.ownBlock = some g ∨ g = (w.alloc o1).drew.heap.size) : ¬ tb = g := by
  rcases h with h | h
  · exact hne g h
  · have h3 : g = (w.alloc o1).heap.size := h
    simp at h3
    omega
set_option maxRecDepth 100000 in
set_option maxHeartbeats 3200000 in
theorem parse1_end (w : World) (ob g0 m cap0 tb tb2 : Nat) (k : Int) (fn tn : ByteArray) (fa : Value) (kq : Option Addr) (kn kc : Nat) (tq : Option Addr) (tl tc : Nat) (uq : Option Addr) (ul uc : Nat) (nm : ByteArray) (aq : Option Addr) (an ac : Nat) (tx : ByteArray) (xs : List Value)
    (hob : w.heap[ob]? = some (.cells #[.slice (some ⟨g0, 0, none⟩) (m + 1 + 1) cap0] 89 (0, 0))) (hg0 : g0 < w.heap.size) (hcap : m + 1 + 1 ≤ cap0) (hcapm : cap0 ≤ 9223372036854775807)
    (hlast : w.cell? ⟨g0, m + 1, none⟩ = some (.pointer (some ⟨tb, 0, none⟩))) (hlast2 : w.cell? ⟨g0, m, none⟩ = some (.pointer (some ⟨tb2, 0, none⟩))) (hm : m < 20000)
    (htb : w.heap[tb]? = some (.cells #[.int .i64 1, .string tn, .slice tq tl tc, .string ⟨#[]⟩, .slice uq ul uc] 76 (0, 0)))
    (htb2 : w.heap[tb2]? = some (.cells #[.int .i64 k, .string fn, fa, .string ⟨#[]⟩, .slice kq kn kc] 76 (0, 0)))
    (hkv : w.ownsRow 0 76 5 (.slice kq kn kc) kn xs) (hkn : kn < 20000) (hne : ∀ g, (Value.slice kq kn kc).ownBlock = some g → tb2 ≠ g ∧ tb ≠ g ∧ ob ≠ g) (ho1 : ¬ g0 = ob) (ho2 : tb ≠ ob) (ho3 : tb2 ≠ ob) :
    Calls Tryz.prog 53 #[.agg #[.int .i64 3, .string nm, .slice aq an ac, .string tx], .pointer (some ⟨ob, 0, none⟩)] w (EndPost w ob g0 m cap0 tb2 nm (.slice aq an ac) tx [.int .i64 k, .string fn, fa, .string ⟨#[]⟩] (.slice kq kn kc) kn xs [.int .i64 1, .string tn, .slice tq tl tc, .string ⟨#[]⟩, .slice uq ul uc]) := by
  have c0 : w.cell? ⟨ob, 0, none⟩ = some (.slice (some ⟨g0, 0, none⟩) (m + 1 + 1) cap0) := by rw [Lib.cell_of_heap hob]; rfl
  have cf := Lib.frozen_of_heap hob 0
  have hlt := lt_of_block hob
  have hltb := lt_of_block htb
  have hltb2 := lt_of_block htb2
  obtain ⟨is, his, hi0, hi1, hi2⟩ := info_parts infoTree
  have h1 : (endW w ob g0 m cap0 nm (.slice aq an ac) tx).heap[tb]? = _ := (endW_heap hltb ho2).trans htb
  have h2 : (endW w ob g0 m cap0 nm (.slice aq an ac) tx).heap[tb2]? = _ := (endW_heap hltb2 ho3).trans htb2
  have h3 : (endW w ob g0 m cap0 nm (.slice aq an ac) tx).ownsRow 0 76 5 (.slice kq kn kc) kn xs := owns_keep hkv fun i hi => endW_heap (hkv.lt i hi).2 (fun e => (hne i hi).2.2 e.symm)
  have hsz : w.heap.size ≤ (endW w ob g0 m cap0 nm (.slice aq an ac) tx).heap.size := by unfold endW; simp
  have hxl : xs.length = kn * 5 := hkv.1
  have HH1 := Lib.hid h1
  have HH2 := Lib.hid h2
  have HH3 := Lib.hid h3
  have hmc : (m : Int) + 1 ≤ (cap0 : Int) := by omega
  have Hne := Lib.hid (fun g (h : (Value.slice kq kn kc).ownBlock = some g) => (hne g h).1)
  clear h1 h2 h3 hob htb htb2 hne hkv
  go_enter Tryz.func53, Tryz.ntmps53
  go_wp2_with fail
  have HH1' := HH1.out
  have HH2' := HH2.out
  have HH3' := HH3.out
  have hpost : Hid (∀ e w', AddedPost (endW w ob g0 m cap0 nm (.slice aq an ac) tx) tb2 [.int .i64 k, .string fn, fa, .string ⟨#[]⟩] (.slice kq kn kc) kn xs [.int .i64 1, .string tn, .slice tq tl tc, .string ⟨#[]⟩, .slice uq ul uc] e w' → EndPost w ob g0 m cap0 tb2 nm (.slice aq an ac) tx [.int .i64 k, .string fn, fa, .string ⟨#[]⟩] (.slice kq kn kc) kn xs [.int .i64 1, .string tn, .slice tq tl tc, .string ⟨#[]⟩, .slice uq ul uc] e w') := fun e w' h => h
  clear c0 cf hlast hlast2 hmc hcap hcapm
  have hW : endW w ob g0 m cap0 nm (.slice aq an ac) tx = (w.setCell ⟨ob, 0, none⟩ (.slice (some ⟨g0, 0, none⟩) (m + 1) cap0)).alloc (.cells #[.int .i64 3, .string nm, .slice aq an ac, .string tx] 49) := rfl
  rw [← hW]
  clear hW HH1 HH2 HH3
  generalize endW w ob g0 m cap0 nm (.slice aq an ac) tx = W at *
  have hltb' : tb < W.heap.size := by omega
  have hltb2' : tb2 < W.heap.size := by omega
  have u0 : W.cell? ⟨tb, 0, none⟩ = some (.int .i64 1) := by rw [Lib.cell_of_heap HH1']; rfl
  have u1 : W.cell? ⟨tb, 1, none⟩ = some (.string tn) := by rw [Lib.cell_of_heap HH1']; rfl
  have u2 : W.cell? ⟨tb, 2, none⟩ = some (.slice tq tl tc) := by rw [Lib.cell_of_heap HH1']; rfl
  have u3 : W.cell? ⟨tb, 3, none⟩ = some (.string ⟨#[]⟩) := by rw [Lib.cell_of_heap HH1']; rfl
  have u4 : W.cell? ⟨tb, 4, none⟩ = some (.slice uq ul uc) := by rw [Lib.cell_of_heap HH1']; rfl
  have t4 : W.cell? ⟨tb2, 4, none⟩ = some (.slice kq kn kc) := by rw [Lib.cell_of_heap HH2']; rfl
  have tf := Lib.frozen_of_heap HH2' 4
  have hix : (kn : Int) < (kn : Int) + 1 := by omega
  have HTb := Lib.hid HH2'
  have HOv := Lib.hid (fun o1 => HH3'.alloc o1)
  have HX := Lib.hid hxl
  clear HH1' HH2' HH3' hltb hltb2 hsz hlt hxl
  go_region_law (refine step_append_lies _ rfl (.tmp 27) (.tmp 32) 27 rfl 0 76 is (.agg #[.int .i64 0, .string ⟨#[]⟩, .slice none 0 0, .string ⟨#[]⟩, .slice none 0 0]) 5 88 Tryz.underlying27 his hi0 hi1 hi2 rfl (by decide) (.slice kq kn kc) kn xs (by simp [Act.eval, Act.put]) (HOv.out _) ⟨W.heap.size, 0, none⟩ 1 1 zeroTree (by simp [Act.eval, Act.put]) rfl (news_new _ _ rfl _ _) (by intro u hu; simp [zeroTree] at hu; rcases hu with rfl | rfl | rfl | rfl | rfl <;> rfl) (by decide) (by unfold maxLen; omega) (by omega) (by simp) _ rfl ?_; intro g cap w9 hown9 hgrow9 hat9 hlt9; obtain ⟨a0, a1, a2, a3, a4, af⟩ := row_tail HX.out hown9; obtain ⟨hh9, hz4, hzf⟩ := end_kept HTb.out Hne.out hgrow9; have htg := end_apart hltb2' Hne.out hat9)
  all_goals
    go_end0
    refine hpost.out _ _ ⟨rfl, added_of ((Chg.refl _ W).alloc _ |>.drewN 1) hgrow9 (by show W.heap.size ≤ (W.alloc _).heap.size; simp) hat9 hltb2' Hne.out hown9 HX.out hh9 rfl ?_⟩
    unfold set5
    first | (left; with_reducible rfl) | (right; with_reducible rfl)
end Go.Proofs.YtipfakmbjajhlaaGreatDoor 
