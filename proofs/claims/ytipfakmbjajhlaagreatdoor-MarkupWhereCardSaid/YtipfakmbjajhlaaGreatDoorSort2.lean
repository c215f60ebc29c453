/-
  scan.sorted at an event.
-/
import Derived.Test.YtipfakmbjajhlaaGreatDoorSort
set_option linter.unusedVariables false
set_option linter.unusedSimpArgs false
namespace Go.Proofs.YtipfakmbjajhlaaGreatDoor 
open Go.RowKit Go.Sort
set_option maxHeartbeats 1000000 in
/-- The sort at no attribute. -/
theorem sortNil_any (w : World) : Calls Tryz.prog 154 #[.slice none 0 0, .func (.func 155) #[] #[]] w fun e w' => e = .returned (.tuple #[]) ∧ w = w' := by
  have hB := fun W => Tryz.bits_Len 0 W (by decide) (by decide)
  have HB := Lib.hid hB
  clear hB
  have hI : ∀ W, Calls Tryz.prog 166 #[.slice none 0 0, .int .i64 0, .int .i64 0, .func (.func 155) #[] #[]] W fun e w' => e = .returned (.tuple #[]) ∧ W = w' := by
    intro W
    go_enter Tryz.func166, Tryz.ntmps166
    go_wp2_with fail
    refine wp_loop_rounds 1 ?_
    rw [rounds_succ]
    go_wp2_with fail
    go_end0
    exact ⟨rfl, rfl⟩
  have HI := Lib.hid hI
  clear hI
  have hP : ∀ W l, Calls Tryz.prog 160 #[.slice none 0 0, .int .i64 0, .int .i64 0, .int .i64 l, .func (.func 155) #[] #[]] W fun e w' => e = .returned (.tuple #[]) ∧ W = w' := by
    intro W l
    go_enter Tryz.func160, Tryz.ntmps160
    go_wp2_with fail
    refine wp_loop_rounds 1 ?_
    rw [rounds_succ]
    go_wp2_with (go_at_call 166; refine (HI.out _).mono ?_; rintro e w' ⟨rfl, rfl⟩)
    refine bodyPost_ret (results_none rfl _ _ _) rfl ?_
    exact ⟨rfl, rfl⟩
  have HP := Lib.hid hP
  clear hP
  go_enter Tryz.func154, Tryz.ntmps154
  go_wp2_with (first | (go_at_call 161; refine (HB.out _).mono ?_; rintro e w' ⟨rfl, rfl⟩) | (go_at_call 160; refine (HP.out _ _).mono ?_; rintro e w' ⟨rfl, rfl⟩))
  go_end0
  exact ⟨rfl, rfl⟩
theorem flatMap_encA (l : List Pure.Attr) : (l.flatMap encA).length = l.length * 2 := by
  induction l with
  | nil => rfl
  | cons a l ih => rw [List.flatMap_cons, List.length_append, ih, List.length_cons]; simp only [encA, List.length_cons, List.length_nil]; omega
theorem flatMap_get (l : List Pure.Attr) : ∀ i (h : i < l.length), (l.flatMap encA)[i * 2]? = some (.string l[i].name) ∧ (l.flatMap encA)[i * 2 + 1]? = some (.string l[i].value) := by
  induction l with
  | nil => intro i h; simp at h
  | cons a l ih =>
    intro i h
    match i with
    | 0 => exact ⟨rfl, rfl⟩
    | i + 1 =>
      have := ih i (by simpa using h)
      simp only [List.flatMap_cons, encA, List.getElem_cons_succ]
      rw [show (i + 1) * 2 = (i * 2) + 2 from by omega, show (i * 2) + 2 + 1 = (i * 2 + 1) + 2 from by omega]
      simpa using this
instance : Inhabited Pure.Attr := ⟨⟨⟨#[]⟩, ⟨#[]⟩⟩⟩
theorem flatK_eq (l : List Pure.Attr) : flatK encA 2 l.toArray = (l.flatMap encA).toArray := by
  apply Array.ext
  · rw [size_flatK, List.size_toArray, List.size_toArray, flatMap_encA]
  · intro t h1 h2
    have h1' : t < l.length * 2 := by simpa using h1
    have hi : t / 2 < l.length := by omega
    have hg := get_flatK encA 2 l.toArray t (by simpa using h1')
    rw [getElem!_pos _ t h1] at hg
    rw [hg]
    have e : l.toArray[t / 2]! = l[t / 2] := by simp [hi]
    rw [e]
    have hf := flatMap_get l (t / 2) hi
    have h3 : t < (l.flatMap encA).length := by simpa using h2
    have h4 : (l.flatMap encA).toArray[t] = (l.flatMap encA)[t] := by simp
    rw [h4]
    rcases Nat.mod_two_eq_zero_or_one t with h | h
    · have h5 := hf.1
      have e2 : t / 2 * 2 = t := by omega
      rw [e2, List.getElem?_eq_getElem h3, Option.some.injEq] at h5
      rw [h, h5]
      rfl
    · have h5 := hf.2
      have e2 : t / 2 * 2 + 1 = t := by omega
      rw [e2, List.getElem?_eq_getElem h3, Option.some.injEq] at h5
      rw [h, h5]
      rfl
/-- The attributes' row as the sort holds it. -/
theorem holds_of_row {w : World} {g : Nat} {cur : Array Value} {l : List Pure.Attr} (hg : w.heap[g]? = some (.cells cur 98 (0, 0))) (ht : cur.toList.take (l.length * 2) = l.flatMap encA) : HoldsK encA 2 w g 0 l.toArray := by
  unfold HoldsK
  rw [flatK_eq]
  intro j hj
  have hj' : j < (l.flatMap encA).length := by simpa using hj
  have hj2 : j < l.length * 2 := by rw [← flatMap_encA]; exact hj'
  have hc : w.cell? ⟨g, 0 + j, none⟩ = cur[0 + j]? := Lib.cell_of_heap hg _
  refine ⟨?_, Lib.frozen_of_heap hg _⟩
  rw [hc, Nat.zero_add]
  have h1 : cur[j]? = (l.flatMap encA)[j]? := by
    rw [← ht, List.getElem?_take_of_lt hj2, Array.getElem?_toList]
  rw [h1, List.getElem?_eq_getElem hj']
  simp [List.getElem?_eq_getElem hj']
theorem putCells_take (F : List Value) (c : Array Value) (h : F.length ≤ c.size) : (putCells id 0 F.toArray c).toList.take F.length = F := by
  apply List.ext_getElem
  · simp [putCells]; omega
  · intro i h1 h2
    simp [putCells, h2]
/-- The world behind the sort. -/
theorem sortWorld_row {w : World} {g n : Nat} {cur : Array Value} {m : List Pure.Attr} {os : Array Obj} (hg : w.heap[g]? = some (.cells cur 98 (0, 0))) (hc : m.length * 2 ≤ cur.size) :
    (∃ cur', (sortWorldK encA 2 w g 0 n m.toArray os).heap[g]? = some (.cells cur' 98 (0, 0)) ∧ cur'.size = cur.size ∧ cur'.toList.take (m.length * 2) = m.flatMap encA) ∧ Chg (· = g) w (sortWorldK encA 2 w g 0 n m.toArray os) := by
  have hlt := lt_of_block hg
  unfold sortWorldK putRowK
  rw [flatK_eq]
  have hh : ∀ k, k < w.heap.size → (grow (putRow id (Sort.ahead w n) g 0 (m.flatMap encA).toArray) os).heap[k]? = (w.heap.modify g (onCells (putCells id 0 (m.flatMap encA).toArray)))[k]? := by
    intro k hk
    show (w.heap.modify g (onCells (putCells id 0 (m.flatMap encA).toArray)) ++ os)[k]? = _
    rw [Array.getElem?_append_left (by simpa using hk)]
  refine ⟨⟨putCells id 0 (m.flatMap encA).toArray cur, ?_, by simp [putCells], ?_⟩, rfl, rfl, rfl, ?_, ?_⟩
  · rw [hh g hlt, Array.getElem?_modify, if_pos rfl, hg]
    rfl
  · have := putCells_take (m.flatMap encA) cur (by rw [flatMap_encA]; exact hc)
    rw [flatMap_encA] at this
    exact this
  · show w.heap.size ≤ (w.heap.modify g (onCells (putCells id 0 (m.flatMap encA).toArray)) ++ os).size
    simp
  · intro k hk hn
    rw [hh k hk, Array.getElem?_modify, if_neg (fun h => hn h.symm)]
theorem sorted_list {l : List Pure.Attr} (ha : Apart l) {d' : Array Pure.Attr} (hp : PermIn 0 l.length l.toArray d') (hs : SortedIn (ltOf cmpA) 0 l.length d') : d' = (Pure.sortA l).toArray := by
  obtain ⟨h1, _, h2⟩ := hp
  simp only [List.size_toArray] at h1
  have e1 : d'.extract 0 l.length = d' := by rw [← h1]; simp
  have e2 : l.toArray.extract 0 l.length = l.toArray := by simp
  rw [e1, e2] at h2
  have h3 : d'.toList = Pure.sortA l := by
    refine sortA_unique ha h2 ?_
    rw [List.pairwise_iff_getElem]
    intro i j hi hj hij
    have := hs i j (Nat.zero_le _) hij (by rw [← h1]; simpa using hj)
    unfold LeA
    simp only [Array.length_toList] at hi hj
    rw [getElem!_pos _ j hj, getElem!_pos _ i hi] at this
    simpa using this
  rw [← h3]
/-- The event whose attributes rise. -/
def SortedPost (B : Nat) (n : ByteArray) (l : List Pure.Attr) (av : Value) (w : World) (e : Ending) (w' : World) : Prop :=
  e = .returned (vEvent (Pure.startE n l) av) ∧ w'.ownsRow B 98 2 av l.length ((Pure.sortA l).flatMap encA) ∧ Chg (fun i => av.ownBlock = some i) w w'
theorem sortA_length (l : List Pure.Attr) : (Pure.sortA l).length = l.length := (sortA_perm l).length_eq
theorem evKept {w w' : World} {a b c d : Value} {o' : Obj} {g : Nat} {z cap : Nat} (hlt : g < w.heap.size) (h : Chg (fun i => Value.ownBlock (.slice (some ⟨g, 0, none⟩) z cap) = some i) ((w.alloc (.cells #[a, b, c, d] 49)).alloc o') w') :
    w'.cell? ⟨w.heap.size, 0, none⟩ = some a ∧ w'.cell? ⟨w.heap.size, 0 + 1, none⟩ = some b ∧ w'.cell? ⟨w.heap.size, 0 + 2, none⟩ = some c ∧ w'.cell? ⟨w.heap.size, 0 + 3, none⟩ = some d := by
  have hh : w'.heap[w.heap.size]? = some (.cells #[a, b, c, d] 49 (0, 0)) := by
    refine h.heap ?_ ?_
    · rw [Below.heap_alloc _ _ _ (by simp)]; exact heap_alloc_new _ _
    · intro e; have : g = w.heap.size := by simpa [Value.ownBlock] using e
      omega
  refine ⟨?_, ?_, ?_, ?_⟩ <;> (rw [Lib.cell_of_heap hh]; rfl)
theorem evKept2 {w w' : World} {o : Obj} {g : Nat} {a b c d : Value} {z cap : Nat} (hlt : g < w.heap.size) (h : Chg (fun i => Value.ownBlock (.slice (some ⟨g, 0, none⟩) z cap) = some i) ((w.alloc o).alloc (.cells #[a, b, c, d] 49)) w') :
    w'.heap[w.heap.size + 1]? = some (.cells #[a, b, c, d] 49 (0, 0)) ∧ (∀ i, w'.frozen? ⟨w.heap.size + 1, i, none⟩ = false) ∧ w'.cell? ⟨w.heap.size + 1, 0, none⟩ = some a ∧ w'.cell? ⟨w.heap.size + 1, 0 + 1, none⟩ = some b ∧ w'.cell? ⟨w.heap.size + 1, 0 + 2, none⟩ = some c ∧ w'.cell? ⟨w.heap.size + 1, 0 + 3, none⟩ = some d := by
  have hh : w'.heap[w.heap.size + 1]? = some (.cells #[a, b, c, d] 49 (0, 0)) := by
    refine h.heap ?_ ?_
    · have := heap_alloc_new (w.alloc o) (.cells #[a, b, c, d] 49)
      simpa using this
    · intro e; have : g = w.heap.size + 1 := by simpa [Value.ownBlock] using e
      omega
  refine ⟨hh, fun i => Lib.frozen_of_heap hh i, ?_, ?_, ?_, ?_⟩ <;> (rw [Lib.cell_of_heap hh]; rfl)
set_option maxHeartbeats 1000000 in
theorem sorted_any (B : Nat) (n : ByteArray) (l : List Pure.Attr) (av : Value) (w : World) (hO : w.ownsRow B 98 2 av l.length (l.flatMap encA)) (ha : Apart l) (hl : l.length ≤ 32) :
    Calls Tryz.prog 147 #[.agg #[.int .i64 1, .string n, av, .string ⟨#[]⟩]] w (SortedPost B n l av w) := by
  obtain ⟨hlen, hO⟩ := hO
  rcases hO with ⟨rfl, h0⟩ | ⟨g, cap, cur, rfl, hB, hg, hn, hcap, hsz, ht⟩
  · have h0' : l = [] := List.length_eq_zero_iff.1 h0
    subst h0'
    have HS := Lib.hid sortNil_any
    go_enter Tryz.func147, Tryz.ntmps147
    go_wp2_with (go_at_call 154; refine (HS.out _).mono ?_; rintro e w' ⟨rfl, rfl⟩)
    refine bodyPost_ret (results_cell_row rfl _ _ (w.heap.size + 1) 49 #[.int .i64 1, .string n, .slice none 0 0, .string ⟨#[]⟩] (0, 0) _ rfl (heap_alloc2_new _ _ _) Tryz.underlying49 rfl (by kernel_rfl)) rfl ?_
    exact ⟨rfl, ⟨rfl, .inl ⟨rfl, rfl⟩⟩, Chg.alloc (Chg.alloc (Chg.refl _ _) _) _⟩
  · have eg : ∀ args w, (callFunc 155 args).run Tryz.prog w = .ok (.enter 155 args) w := enters_of Tryz.func155 (by kernel_rfl) rfl
    have hcon' : ∀ w : World, w.heap[g]? = some (.cells cur 98 (0, 0)) → Calls Tryz.prog 154 #[.slice (some ⟨g, 0, none⟩) l.length cap, .func (.func 155) #[] #[]] w fun e w' => e = .returned (.tuple #[]) ∧ w'.ownsRow B 98 2 (.slice (some ⟨g, 0, none⟩) l.length cap) l.length ((Pure.sortA l).flatMap encA) ∧ Chg (fun i => Value.ownBlock (.slice (some ⟨g, 0, none⟩) l.length cap) = some i) w w' := by
      intro w hg
      have hlt := lt_of_block hg
      have hcon := AnyQ.slices_SortFunc Tryz.sortAttr 2 Tryz.isAgg98 Tryz.sizeOf98 encA (fun _ => rfl) (fun x v hv => by simp [encA] at hv; rcases hv with rfl | rfl <;> rfl) cmpA swoA 155 #[] g 0 cap l.toArray w eg (fun _ _ _ _ x y => sortedCmp_any x y _) (holds_of_row hg ht) hlt (by simp; omega)
      refine Calls.mono hcon ?_
      rintro e w' ⟨rfl, d', n', os, hp, hs, rfl⟩
      have hd := sorted_list ha (by simpa using hp) (by simpa using hs)
      subst hd
      have hm : l.length * 2 ≤ cur.size := by rw [hsz]; exact Nat.mul_le_mul_right 2 hn
      obtain ⟨⟨cur', k1, k2, k3⟩, hc⟩ := sortWorld_row (n := n') (m := Pure.sortA l) (os := os) hg (by rw [sortA_length]; exact hm)
      rw [sortA_length] at k3
      refine ⟨rfl, ⟨by rw [flatMap_encA, sortA_length], .inr ⟨g, cap, cur', rfl, hB, k1, hn, hcap, k2.trans hsz, k3⟩⟩, hc.mono ?_⟩
      rintro i _ rfl
      rfl
    have HC := Lib.hid hcon'
    have HG := Lib.hid hg
    clear hcon' hg ht eg
    have hlt := lt_of_block HG.out
    have hA : ∀ o o' : Obj, Hid (((w.alloc o).alloc o').heap[g]? = some (.cells cur 98 (0, 0))) := fun o o' => by
      show ((w.alloc o).alloc o').heap[g]? = _
      rw [Below.heap_alloc _ _ _ (by simp; omega), Below.heap_alloc _ _ _ hlt]; exact HG.out
    go_enter Tryz.func147, Tryz.ntmps147
    go_wp2_with (go_at_call 154; refine (HC.out _ (hA _ _).out).mono ?_; rintro e w' ⟨rfl, h1, h2⟩; have Hb := Lib.hid (evKept hlt h2); have Hr := Lib.hid (evKept2 hlt h2); have hz := Hr.out.2.1; have hcy := Hr.out.2.2.1; have hcy1 := Hr.out.2.2.2.1; have hcy2 := Hr.out.2.2.2.2.1; have hcy3 := Hr.out.2.2.2.2.2; have hcx := Hb.out.1; have hcx1 := Hb.out.2.1; have hcx2 := Hb.out.2.2.1; have hcx3 := Hb.out.2.2.2; have H1 := Lib.hid h1; have H2 := Lib.hid h2; clear h1 h2)
    have hR := heap_setCell_same (i := 3) (heap_setCell_same (i := 2) (heap_setCell_same (i := 1) (heap_setCell_same (i := 0) Hr.out.1 (.int .i64 1)) (.string n)) (.slice (some ⟨g, 0, none⟩) l.length cap)) (.string ⟨#[]⟩)
    refine bodyPost_ret (results_cell_row rfl _ _ (w.heap.size + 1) 49 #[.int .i64 1, .string n, .slice (some ⟨g, 0, none⟩) l.length cap, .string ⟨#[]⟩] (0, 0) _ rfl hR Tryz.underlying49 rfl (by kernel_rfl)) rfl ?_
    have hne : g ≠ w.heap.size + 1 := by omega
    have hC : Chg (· = w.heap.size + 1) w' ((((w'.setCell ⟨w.heap.size + 1, 0, none⟩ (.int .i64 1)).setCell ⟨w.heap.size + 1, 1, none⟩ (.string n)).setCell ⟨w.heap.size + 1, 2, none⟩ (.slice (some ⟨g, 0, none⟩) l.length cap)).setCell ⟨w.heap.size + 1, 3, none⟩ (.string ⟨#[]⟩)) :=
      Chg.setCell (Chg.setCell (Chg.setCell (Chg.setCell (Chg.refl (· = w.heap.size + 1) w') _ _ (.inl rfl)) _ _ (.inl rfl)) _ _ (.inl rfl)) _ _ (.inl rfl)
    refine ⟨rfl, owns_keep H1.out fun i hi => hC.block i (H1.out.lt i hi).2 ?_, ?_⟩
    · rintro rfl
      have : g = w.heap.size + 1 := by simpa [Value.ownBlock] using hi
      exact hne this
    · refine Chg.trans (Chg.trans (Chg.alloc (Chg.alloc (Chg.refl _ w) _) _) (H2.out.mono fun i _ hi => .inl hi)) (hC.mono fun i _ hi => .inr (by omega))
end Go.Proofs.YtipfakmbjajhlaaGreatDoor
