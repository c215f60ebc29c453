/-
  scan.Scan tells what the plain scan tells.
-/
import Derived.Test.YtipfakmbjajhlaaGreatDoorScanA
import Derived.Test.YtipfakmbjajhlaaGreatDoorPureM
set_option linter.unusedVariables false
set_option linter.unusedSimpArgs false
namespace Go.Proofs.YtipfakmbjajhlaaGreatDoor 
open Go.RowKit Go.Shelf
def ScanPost (T : Teller) (B : Nat) (src : ByteArray) (w : World) (e : Ending) (w' : World) : Prop :=
  e = .returned (.tuple #[.int .i64 (Pure.scan (Pure.toL src)).2.1, .int .i64 (Pure.scan (Pure.toL src)).2.2]) ∧ (∃ S, T.inv (Pure.scan (Pure.toL src)).1 S w' ∧ ∀ k, S k → B ≤ k) ∧ Below B w w'
/-- The results' variables. -/
def ResAt (H : Nat) (w : World) : Prop := w.heap[H]? = some (.cells #[.int .i64 0] 3 (0, 0)) ∧ w.heap[H + 1]? = some (.cells #[.int .i64 0] 23 (0, 0))
theorem heldRes (H : Nat) : Held (fun i => i = H ∨ i = H + 1) (ResAt H) := by
  constructor
  · intro w w' h _ hk
    exact ⟨by rw [hk H (.inl rfl)]; exact h.1, by rw [hk (H + 1) (.inr rfl)]; exact h.2⟩
  · intro w k h hk
    rcases hk with rfl | rfl
    · exact ⟨_, _, _, h.1, by decide, by decide⟩
    · exact ⟨_, _, _, h.2, by decide, by decide⟩
variable {T : Teller} {B : Nat} {S : Nat → Prop} {src : ByteArray} {w : World}
set_option maxRecDepth 100000 in
set_option maxHeartbeats 3200000 in
theorem scan_big (hB : B ≤ w.heap.size) (hi : T.inv [] S w) (hS : ∀ k, S k → B ≤ k) (hl : 262144 < src.size) : Calls Tryz.prog 52 #[.string src, T.val] w (ScanPost T B src w) := by
  have hmf : ∀ (fn : Fn) (first cap : Array Value) (w : World), (Instr.makeFunc fn first cap).run Tryz.prog w = .ok (.func fn first cap) w := fun _ _ _ _ => rfl
  have hl' : (262144 : Int) < (src.size : Int) := by omega
  have hV : Pure.scan (Pure.toL src) = ([], 0, 2) := by unfold Pure.scan; rw [if_pos (by rw [Pure.length_toL]; exact hl)]
  have hb : Below B w ((w.alloc (.cells #[.int .i64 0] 3)).alloc (.cells #[.int .i64 2] 23)) := ((Below.refl B w).alloc hB _).alloc (Nat.le_trans hB (by simp)) _
  have hfin : ScanPost T B src w (.returned (.tuple #[.int .i64 0, .int .i64 2])) ((w.alloc (.cells #[.int .i64 0] 3)).alloc (.cells #[.int .i64 2] 23)) := by
    unfold ScanPost
    rw [hV]
    refine ⟨rfl, ⟨S, T.keep hi hb.size (fun k hk => ?_), hS⟩, hb⟩
    have := T.lt hi hk
    rw [Below.heap_alloc _ _ _ (by simp; omega), Below.heap_alloc _ _ _ this]
  have HF := Lib.hid hfin
  clear hV hb hfin hi hS hl
  go_enter_defers Tryz.func52, Tryz.ntmps52
  go_wp2
  clear hmf hl'
  simp [bodyPostD, Leaves, settle, results, Tryz.results52, go_sem]
  exact HF.out
/-- What is still to be scanned. -/
def tailR (f : Nat) (s : Pure.St) : Pure.R Unit := (Pure.pieces f s).bind fun _ s => (Pure.flush s).bind fun _ s => if s.opn = [] then .ok () s else .fail 0 4 s.evs
def scanOf (n : Nat) : Pure.R Unit → List Pure.Event × Int × Int
  | .ok _ s => (s.evs, 0, 0)
  | .fail left why evs => (evs, (n : Int) - left, why)
theorem scan_eq (l : Pure.Bytes) (h : l.length ≤ 262144) : Pure.scan l = scanOf l.length (tailR (l.length + 1) ⟨l, [], [], 0, []⟩) := by
  unfold Pure.scan
  rw [if_neg (by omega)]
  unfold scanOf tailR
  rfl
def ScanRel (T : Teller) (B : Nat) (src : ByteArray) (rb H : Nat) (w : World) (m : Nat) (wr : World) : Prop :=
  ∃ f s, m = s.rest.length ∧ s.rest.length < f ∧ Inv (T.with _ _ (heldRes H)) B src rb s wr ∧ Below B w wr ∧ Pure.scan (Pure.toL src) = scanOf src.size (tailR f s)
/-- The scan ends with a fault: it is caught. -/
theorem scan_caught {H left : Nat} {why : Int} {evs : List Pure.Event} {w9 : World} (hV : Pure.scan (Pure.toL src) = scanOf src.size (.fail left why evs)) (hi : ∃ S, (T.with _ _ (heldRes H)).inv evs S w9 ∧ ∀ k, S k → B ≤ k) (hb : Below B w w9) (hH : B ≤ H) :
    ScanPost T B src w (.returned (.tuple #[.int .i64 ((src.size : Int) - left), .int .i64 why])) (((w9.setCell ⟨H, 0, none⟩ (.int .i64 ((src.size : Int) - left))).setCell ⟨H + 1, 0, none⟩ (.int .i64 why)).drew) := by
  obtain ⟨S, ⟨S1, h1, h2, h3, h4⟩, hS⟩ := hi
  have hc : Chg (fun i => i = H ∨ i = H + 1) w9 (((w9.setCell ⟨H, 0, none⟩ (.int .i64 ((src.size : Int) - left))).setCell ⟨H + 1, 0, none⟩ (.int .i64 why)).drew) :=
    (((Chg.refl _ w9).setCell ⟨H, 0, none⟩ _ (.inl (.inl rfl))).setCell ⟨H + 1, 0, none⟩ _ (.inl (.inr rfl))).drewN 1
  unfold ScanPost
  rw [hV]
  refine ⟨rfl, ⟨S1, T.keep h1 hc.size (fun k hk => hc.block k (T.lt h1 hk) (fun hK => h3 k hK hk)), fun k hk => hS k ((h2 k).2 (.inl hk))⟩, ?_⟩
  exact Below.drewN (((hb.setCell hH _).setCell (by show B ≤ H + 1; omega) _)) 1
theorem res_cells {H : Nat} {w9 : World} (h : ResAt H w9) : w9.cell? ⟨H, 0, none⟩ = some (.int .i64 0) ∧ w9.cell? ⟨H + 1, 0, none⟩ = some (.int .i64 0) ∧ w9.frozen? ⟨H, 0, none⟩ = false ∧ w9.frozen? ⟨H + 1, 0, none⟩ = false :=
  ⟨by rw [Lib.cell_of_heap h.1]; rfl, by rw [Lib.cell_of_heap h.2]; rfl, Lib.frozen_of_heap h.1 _, Lib.frozen_of_heap h.2 _⟩
theorem with_res {H : Nat} {evs : List Pure.Event} {w9 : World} (hi : ∃ S, (T.with _ _ (heldRes H)).inv evs S w9 ∧ ∀ k, S k → B ≤ k) : ResAt H w9 := by
  obtain ⟨S, ⟨S1, h1, h2, h3, h4⟩, hS⟩ := hi
  exact h4
/-- Where it begins. -/
theorem scan_start (hT : Tabs w) (h9 : 9 ≤ B) (hB : B ≤ w.heap.size) (hi : T.inv [] S w) (hS : ∀ k, S k → B ≤ k) (hx : NoHex (Pure.toL src)) (hl : src.size ≤ 262144) {w3 : World}
    (h3 : w3 = (((w.alloc (.cells #[.int .i64 0] 3)).alloc (.cells #[.int .i64 0] 23)).alloc (.cells #[.string src, .int .i64 0, .slice none 0 0, .pointer none, .slice none 0 0, .int .i64 0, .func (.func T.fn) #[] T.cap] 126))) :
    Inv (T.with _ _ (heldRes w.heap.size)) B src (w.heap.size + 1 + 1) ⟨Pure.toL src, [], [], 0, []⟩ w3 ∧ Below B w w3 := by
  subst h3
  have hb : Below B w (((w.alloc (.cells #[.int .i64 0] 3)).alloc (.cells #[.int .i64 0] 23)).alloc (.cells #[.string src, .int .i64 0, .slice none 0 0, .pointer none, .slice none 0 0, .int .i64 0, .func (.func T.fn) #[] T.cap] 126)) :=
    (((Below.refl B w).alloc hB _).alloc (Nat.le_trans hB (by simp)) _).alloc (Nat.le_trans hB (by simp; omega)) _
  have hbn : Below w.heap.size w (((w.alloc (.cells #[.int .i64 0] 3)).alloc (.cells #[.int .i64 0] 23)).alloc (.cells #[.string src, .int .i64 0, .slice none 0 0, .pointer none, .slice none 0 0, .int .i64 0, .func (.func T.fn) #[] T.cap] 126)) :=
    (((Below.refl _ w).alloc (Nat.le_refl _) _).alloc (by simp) _).alloc (by simp; omega) _
  refine ⟨?_, hb⟩
  have e0 : (((w.alloc (.cells #[.int .i64 0] 3)).alloc (.cells #[.int .i64 0] 23)).alloc (.cells #[.string src, .int .i64 0, .slice none 0 0, .pointer none, .slice none 0 0, .int .i64 0, .func (.func T.fn) #[] T.cap] 126)).heap[w.heap.size]? = some (.cells #[.int .i64 0] 3 (0, 0)) := by
    rw [Below.heap_alloc _ _ _ (by simp; omega), Below.heap_alloc _ _ _ (by simp), heap_alloc_new]
  have e1 : (((w.alloc (.cells #[.int .i64 0] 3)).alloc (.cells #[.int .i64 0] 23)).alloc (.cells #[.string src, .int .i64 0, .slice none 0 0, .pointer none, .slice none 0 0, .int .i64 0, .func (.func T.fn) #[] T.cap] 126)).heap[w.heap.size + 1]? = some (.cells #[.int .i64 0] 23 (0, 0)) := by
    rw [Below.heap_alloc _ _ _ (by simp)]
    have := heap_alloc_new (w.alloc (.cells #[.int .i64 0] 3)) (.cells #[.int .i64 0] 23)
    simpa using this
  have e2 : (((w.alloc (.cells #[.int .i64 0] 3)).alloc (.cells #[.int .i64 0] 23)).alloc (.cells #[.string src, .int .i64 0, .slice none 0 0, .pointer none, .slice none 0 0, .int .i64 0, .func (.func T.fn) #[] T.cap] 126)).heap[w.heap.size + 1 + 1]? = some (.cells #[.string src, .int .i64 0, .slice none 0 0, .pointer none, .slice none 0 0, .int .i64 0, .func (.func T.fn) #[] T.cap] 126 (0, 0)) := by
    have := heap_alloc_new ((w.alloc (.cells #[.int .i64 0] 3)).alloc (.cells #[.int .i64 0] 23)) (.cells #[.string src, .int .i64 0, .slice none 0 0, .pointer none, .slice none 0 0, .int .i64 0, .func (.func T.fn) #[] T.cap] 126)
    simpa using this
  exact {
    mem := ⟨0, .slice none 0 0, .pointer none, .slice none 0 0, fun i => S i ∨ (i = w.heap.size ∨ i = w.heap.size + 1),
      ⟨e2, World.ownsRow_nil _ _ _ _, .inl rfl, BufAt.nil _ _,
        ⟨S, T.keep hi hbn.size (fun k hk => hbn.block k (T.lt hi hk)), fun k => Iff.rfl, fun k hk hs => by have := T.lt hi hs; omega, e0, e1⟩,
        fun i hi' => by rcases hi' with h | h | h; exact hS i h; omega; omega, fun i hi' => by simp [Value.ownBlock] at hi'⟩, Nat.zero_le _, rfl⟩
    base := by omega
    tabs := hT.below hb h9
    glob := h9
    room := Nat.le_trans hB hb.size
    size := hl
    nohex := hx
    nodes := by simp
    deep := by simp
    text := by simp
    wf := rfl
    few := by simp }
/-- The scan ends well. -/
theorem scan_told {H rb : Nat} {s : Pure.St} {w9 : World} (hV : Pure.scan (Pure.toL src) = scanOf src.size (.ok () s)) (hI : Inv (T.with _ _ (heldRes H)) B src rb s w9) (hb : Below B w w9) (hH : B ≤ H) :
    ScanPost T B src w (.returned (.tuple #[.int .i64 0, .int .i64 0])) ((w9.setCell ⟨H, 0, none⟩ (.int .i64 0)).setCell ⟨H + 1, 0, none⟩ (.int .i64 0)) := by
  obtain ⟨S, ⟨S1, h1, h2, h3, h4⟩, hS⟩ := hI.told
  have hc : Chg (fun i => i = H ∨ i = H + 1) w9 ((w9.setCell ⟨H, 0, none⟩ (.int .i64 0)).setCell ⟨H + 1, 0, none⟩ (.int .i64 0)) :=
    ((Chg.refl _ w9).setCell ⟨H, 0, none⟩ _ (.inl (.inl rfl))).setCell ⟨H + 1, 0, none⟩ _ (.inl (.inr rfl))
  unfold ScanPost
  rw [hV]
  exact ⟨rfl, ⟨S1, T.keep h1 hc.size (fun k hk => hc.block k (T.lt h1 hk) (fun hK => h3 k hK hk)), fun k hk => hS k ((h2 k).2 (.inl hk))⟩, (hb.setCell hH _).setCell (by show B ≤ H + 1; omega) _⟩
set_option maxRecDepth 100000 in
set_option maxHeartbeats 3200000 in
theorem scan_small (hT : Tabs w) (h9 : 9 ≤ B) (hB : B ≤ w.heap.size) (hi : T.inv [] S w) (hS : ∀ k, S k → B ≤ k) (hx : NoHex (Pure.toL src)) (hl : src.size ≤ 262144) : Calls Tryz.prog 52 #[.string src, T.val] w (ScanPost T B src w) := by
  have hmf : ∀ (fn : Fn) (first cap : Array Value) (w : World), (Instr.makeFunc fn first cap).run Tryz.prog w = .ok (.func fn first cap) w := fun _ _ _ _ => rfl
  have hl' : ¬ (262144 : Int) < (src.size : Int) := by omega
  have HS := Lib.hid (fun w3 h3 => scan_start (w3 := w3) hT h9 hB hi hS hx hl h3)
  have HV0 : Hid (Pure.scan (Pure.toL src) = scanOf src.size (tailR ((Pure.toL src).length + 1) ⟨Pure.toL src, [], [], 0, []⟩)) := by
    show _ = _
    rw [scan_eq _ (by rw [Pure.length_toL]; exact hl), Pure.length_toL]
  have HT := Lib.hid hT
  have hsz : 0 ≤ (src.size : Int) := by omega
  clear hi hS hx hT
  unfold Teller.val
  go_enter_defers Tryz.func52, Tryz.ntmps52
  go_wp2_with fail
  clear hmf hl'
  obtain ⟨h3, hb3⟩ := HS.out _ rfl
  have H3 := Lib.hid h3
  have Hb3 := Lib.hid hb3
  clear h3 hb3 HS
  go_loopg [] src.size (fun m wr => ScanRel T B src (w.heap.size + 1 + 1) w.heap.size w m wr)
  case atStart => exact ⟨_, _, (Pure.length_toL src).symm, Nat.lt_succ_self _, H3.out, Hb3.out, HV0.out⟩
  case round =>
    obtain ⟨f, s, rfl, hf, hI, hb, hV⟩ := hrel
    obtain ⟨f, rfl⟩ : ∃ f', f = f' + 1 := ⟨f - 1, by omega⟩
    obtain ⟨k, ov, tp, tv, S', Hm, hk, Hr, Hl, c0, c1, c2, c3, c4, c5, c6, cf⟩ := hI.parts
    have hl1 := Hl.out
    have HI := Lib.hid hI
    have Hb := Lib.hid hb
    have HV := Lib.hid hV
    clear hI hb hV
    by_cases hne : s.rest = []
    · have hkk : k = src.size := by rw [hne] at hl1; simpa using hl1
      have hge : ¬ (k : Int) < (src.size : Int) := by omega
      obtain ⟨s', hfl, htx, hrr, hoo, hnn, _⟩ := flush_ok' s
      have HF := Lib.hid (flush_R HI.out)
      rw [hfl] at HF
      have HVf : Hid (Pure.scan (Pure.toL src) = scanOf src.size (if s'.opn = [] then .ok () s' else .fail 0 4 s'.evs)) := by
        show _ = _
        rw [HV.out]
        unfold tailR
        conv => lhs; unfold Pure.pieces
        rw [if_pos hne]
        show scanOf src.size ((Pure.flush s).bind _) = _
        rw [hfl]
        rfl
      clear hl1 hne hfl HV hrr hoo hnn hkk htx
      go_wp2_with (go_at_call 95; refine (HF.out).mono ?_)
      rintro e9 w9 ⟨rfl, h1, hb1⟩
      obtain ⟨k1, ov1, tp1, tv1, S1, Hm1, hk1, Hr1, Hl1, d0, d1, d2, d3, d4, d5, d6, df⟩ := h1.parts
      obtain ⟨q1, cc1, hov⟩ := owns_form Hm1.out.opn
      subst hov
      obtain ⟨r0, r1, f0, f1⟩ := res_cells h1.held
      have H1 := Lib.hid h1
      have Hb1 := Lib.hid (Hb.out.trans hb1)
      have hdp := h1.deep
      clear h1 hb1 HF c0 c1 c2 c3 c4 c5 c6 cf
      unfold encU
      by_cases hop : s'.opn = []
      · have HX : Hid (Pure.scan (Pure.toL src) = scanOf src.size (.ok () s')) := by show _ = _; rw [HVf.out, if_pos hop]
        have h0 : ¬ (0 : Int) < (s'.opn.length : Int) := by rw [hop]; simp
        have hne1 : w.heap.size ≠ w.heap.size + 1 := by omega
        clear hop HVf
        go_wp2_with fail
        refine leaves_cons (f := 93) (args := #[.pointer (some ⟨w.heap.size, 0, none⟩), .pointer (some ⟨w.heap.size + 1, 0, none⟩)]) (by simp) (by simp [go_sem]) ?_
        refine (catch_idle _ _ _).mono ?_
        rintro e u' w'' ⟨rfl, rfl, rfl⟩
        have hfin := scan_told (w := w) HX.out H1.out Hb1.out hB
        simp [Leaves, settle, results, Tryz.results52, go_sem, f0, f1, r0, r1]
        exact hfin
      · have HX : Hid (Pure.scan (Pure.toL src) = scanOf src.size (.fail 0 4 s'.evs)) := by show _ = _; rw [HVf.out, if_neg hop]
        have h0 : (0 : Int) < (s'.opn.length : Int) := by have := List.length_pos_iff.2 hop; omega
        clear hop HVf
        go_wp2_with (go_at_call 96; refine (fail_any _ _ _ _).mono ?_; rintro e' w2 ⟨rfl, rfl⟩)
        refine leaves_cons (f := 93) (args := #[.pointer (some ⟨w.heap.size, 0, none⟩), .pointer (some ⟨w.heap.size + 1, 0, none⟩)]) (by simp) (by simp [go_sem]) ?_
        refine (catch_fault w.heap.size (w.heap.size + 1) 0 0 _ _ (by omega) _ r0 r1 f0 f1).mono ?_
        rintro e u' w'' ⟨rfl, rfl, rfl⟩
        have hfin := scan_caught (w := w) HX.out H1.out.told Hb1.out hB
        rw [show (src.size : Int) - ((0 : Nat) : Int) = src.size from by omega] at hfin
        simp [Leaves, settle, results, Tryz.results52, go_sem, f0, f1, r0, r1]
        exact hfin
    · have hlt : (k : Int) < (src.size : Int) := by have := List.length_pos_iff.2 hne; omega
      have HP := Lib.hid (piece_any HI.out hne)
      have hpl := fun u s' (h : Pure.piece s = .ok u s') => piece_less h hne
      have HVp : Hid (Pure.scan (Pure.toL src) = scanOf src.size (((Pure.piece s).bind fun _ s => Pure.pieces f s).bind fun _ s => (Pure.flush s).bind fun _ s => if s.opn = [] then .ok () s else .fail 0 4 s.evs)) := by
        show _ = _
        rw [HV.out]
        unfold tailR
        conv => lhs; unfold Pure.pieces
        rw [if_neg hne]
      clear hl1 HV hne
      go_wp2_with (go_at_call 94; refine (HP.out).mono ?_)
      rintro e9 w9 ho
      cases hx : Pure.piece s with
      | fail l y ev =>
        rw [hx] at ho
        obtain ⟨rfl, ho⟩ := ho
        have HX : Hid (Pure.scan (Pure.toL src) = scanOf src.size (.fail l y ev)) := by show _ = _; rw [HVp.out, hx]; rfl
        have Ho1 := Lib.hid ho.1
        have Hb9 := Lib.hid (Hb.out.trans ho.2)
        obtain ⟨r0, r1, f0, f1⟩ := res_cells (with_res ho.1)
        clear hx ho hpl HVp c0 c1 c2 c3 c4 c5 c6 cf
        go_wp2_with fail
        refine leaves_cons (f := 93) (args := #[.pointer (some ⟨w.heap.size, 0, none⟩), .pointer (some ⟨w.heap.size + 1, 0, none⟩)]) (by simp) (by simp [go_sem]) ?_
        refine (catch_fault w.heap.size (w.heap.size + 1) 0 0 _ _ (by omega) _ r0 r1 f0 f1).mono ?_
        rintro e u' w'' ⟨rfl, rfl, rfl⟩
        have hfin := scan_caught (w := w) HX.out Ho1.out Hb9.out hB
        simp [Leaves, settle, results, Tryz.results52, go_sem, f0, f1, r0, r1]
        exact hfin
      | ok u s1 =>
        rw [hx] at ho
        obtain ⟨rfl, h1, hb1⟩ := ho
        have hle := hpl u s1 hx
        have HX : Hid (Pure.scan (Pure.toL src) = scanOf src.size (tailR f s1)) := by show _ = _; rw [HVp.out, hx]; rfl
        have H1 := Lib.hid h1
        have Hb1 := Lib.hid (Hb.out.trans hb1)
        clear hx h1 hb1 hpl HVp
        unfold encU
        go_wp2_with fail
        go_roundg s1.rest.length
        case measure => exact hle
        case rel => exact ⟨f, s1, rfl, by omega, H1.out, Hb1.out, HX.out⟩
theorem scan_any (hT : Tabs w) (h9 : 9 ≤ B) (hB : B ≤ w.heap.size) (hi : T.inv [] S w) (hS : ∀ k, S k → B ≤ k) (hx : NoHex (Pure.toL src)) : Calls Tryz.prog 52 #[.string src, T.val] w (ScanPost T B src w) := by
  rcases Nat.lt_or_ge 262144 src.size with h | h
  · exact scan_big hB hi hS h
  · exact scan_small hT h9 hB hi hS hx h
end Go.Proofs.YtipfakmbjajhlaaGreatDoor 
