/-
  markup.Print prints what the plain print prints.
  package tree: what is wrong with attributes, with a node. Contracts.
  package tree: what is wrong with a node, with a tree: own, look, Check. Contracts.
  package markup: count, can. Contracts.
  package markup: the writer: full, put, escaped. Contracts.
  package markup: escaped; whether a child shows. Contracts.
  package markup: a tree is written. Contract.
-/
import Derived.Test.YtipfakmbjajhlaaGreatDoorMark8
import Derived.Test.YtipfakmbjajhlaaGreatDoorZL
section
set_option linter.unusedVariables false
set_option linter.unusedSimpArgs false
namespace Go.Proofs.YtipfakmbjajhlaaGreatDoor 
open Go.RowKit Go.Shelf
def Sm (s : ByteArray) : Prop := s.size ≤ 140737488355328
def AttrsSm (l : List Pure.Attr) : Prop := l.length ≤ 140737488355328 ∧ ∀ a ∈ l, Sm a.name ∧ Sm a.value
mutual
def smT : Pure.Tree → Prop
  | .mk k n a t kids => Sm n ∧ Sm t ∧ AttrsSm a ∧ kids.length ≤ 140737488355328 ∧ smL kids
def smL : List Pure.Tree → Prop
  | [] => True
  | t :: r => smT t ∧ smL r
end
theorem smL_get : ∀ {l : List Pure.Tree}, smL l → ∀ i (h : i < l.length), smT l[i]
  | [], _, i, h => absurd h (Nat.not_lt_zero _)
  | t :: r, h, 0, _ => h.1
  | t :: r, h, i + 1, hi => smL_get h.2 i (Nat.lt_of_succ_lt_succ hi)
abbrev RdA (w : World) (v : Value) (l : List Pure.Attr) : Prop := AttrsAt w (fun k => k < w.heap.size) v l
abbrev RdL (w : World) (v : Value) (l : List Pure.Tree) : Prop := TreesAt w (fun k => k < w.heap.size) v l
theorem RdA.later {w w' : World} {v : Value} {l : List Pure.Attr} (h : RdA w v l) (hb : Below w.heap.size w w') : RdA w' v l := (h.keep fun k hk => hb.block k hk).mono fun k hk => Nat.lt_of_lt_of_le hk hb.size
theorem RdL.later {w w' : World} {v : Value} {l : List Pure.Tree} (h : RdL w v l) (hb : Below w.heap.size w w') : RdL w' v l := h.mono (fun k hk => Nat.lt_of_lt_of_le hk hb.size) fun k hk => hb.block k hk
theorem less_eq : ∀ (a b : Pure.Bytes), Op.bytesLess a b = decide (Lib.compareBytes a b < 0)
  | [], [] => rfl
  | [], _ :: _ => rfl
  | _ :: _, [] => rfl
  | a :: x, b :: y => by
    have ih := less_eq x y
    unfold Op.bytesLess Lib.compareBytes
    by_cases h1 : a < b
    · simp [h1]
    · by_cases h2 : b < a
      · have hne : (a == b) = false := by rw [beq_eq_false_iff_ne]; intro e; rw [e] at h2; simp at h2
        simp [h1, h2, hne]
      · have he : (a == b) = true := by rw [beq_iff_eq]; exact UInt8.toNat_inj.1 (by rw [UInt8.lt_iff_toNat_lt] at h1 h2; omega)
        simp [h1, h2, ih, he]
/-- How the walk spells 'is not above'. -/
theorem notAbove_eq (a b : ByteArray) : Pure.bytesLe (Pure.toL a) (Pure.toL b) = (Op.bytesLess a.toList b.toList || a.toList == b.toList) := by
  have h1 : a.toList = Pure.toL a := ByteArray.toList_eq _
  have h2 : b.toList = Pure.toL b := ByteArray.toList_eq _
  rw [h1, h2, less_eq]
  unfold Pure.bytesLe
  by_cases h : Pure.toL a = Pure.toL b
  · rw [h, Pure.cmp_self]; simp
  · have h3 : (Pure.toL a == Pure.toL b) = false := beq_eq_false_iff_ne.2 h
    have h4 : Lib.compareBytes (Pure.toL a) (Pure.toL b) ≠ 0 := fun e => h (Pure.cmp_eq _ _ e)
    rw [h3, Bool.or_false, decide_eq_decide]
    omega
/-- The attributes' loop, at an index. -/
def AttrsRel (l : List Pure.Attr) (i : Nat) : Prop := i ≤ l.length ∧ Pure.attrsBad l = Pure.attrsLoop (if i = 0 then none else some (l.getD (i - 1) ⟨⟨#[]⟩, ⟨#[]⟩⟩).name) (l.drop i)
theorem AttrsRel.step {l : List Pure.Attr} {i : Nat} (h : AttrsRel l i) (hi : i < l.length) : Pure.attrsBad l = if Pure.isName (Pure.toL l[i].name) = false ∨ Pure.notAbove (if i = 0 then none else some (l.getD (i - 1) ⟨⟨#[]⟩, ⟨#[]⟩⟩).name) l[i].name = true then 6
    else if (Pure.text (Pure.toL l[i].value)).2 ≠ 0 then (Pure.text (Pure.toL l[i].value)).2 else Pure.attrsLoop (if i + 1 = 0 then none else some (l.getD (i + 1 - 1) ⟨⟨#[]⟩, ⟨#[]⟩⟩).name) (l.drop (i + 1)) := by
  rw [h.2, List.drop_eq_getElem_cons hi]
  conv => lhs; unfold Pure.attrsLoop
  rw [if_neg (show ¬ i + 1 = 0 by omega)]
  have e : l.getD (i + 1 - 1) ⟨⟨#[]⟩, ⟨#[]⟩⟩ = l[i] := by rw [Nat.add_sub_cancel, List.getD_eq_getElem?_getD, List.getElem?_eq_getElem hi]; rfl
  rw [e]
theorem AttrsRel.done {l : List Pure.Attr} (h : AttrsRel l l.length) : Pure.attrsBad l = 0 := by
  rw [h.2, List.drop_length]
  split <;> rfl
set_option maxRecDepth 100000 in
set_option maxHeartbeats 3200000 in
theorem tattrs_any (l : List Pure.Attr) (av : Value) (w : World) (hT : Tabs w) (ha : RdA w av l) (hs : AttrsSm l) : Calls Tryz.prog 141 #[av] w (RetN (.int .i64 (Pure.attrsBad l)) w) := by
  obtain ⟨q, c, rfl, hlc, hcells⟩ := ha
  have hl := hs.1
  by_cases h32 : l.length > 32
  · have hV : Pure.attrsBad l = 2 := by unfold Pure.attrsBad; rw [if_pos h32]
    rw [hV]
    have h32' : (32 : Int) < (l.length : Int) := by omega
    clear hV hcells hT hs h32
    go_enter Tryz.func141, Tryz.ntmps141
    go_wp2_with fail
    go_ret
    exact ⟨rfl, Below.refl _ _⟩
  have h32' : ¬ (32 : Int) < (l.length : Int) := by omega
  have HR : Hid (AttrsRel l 0) := ⟨Nat.zero_le _, by unfold Pure.attrsBad; rw [if_neg h32]; rfl⟩
  have HC := Lib.hid hcells
  have HT := Lib.hid hT
  have HS := Lib.hid hs.2
  clear hcells hT hs h32
  go_enter Tryz.func141, Tryz.ntmps141
  go_wp2_with fail
  go_loopw [12] (fun i wr => ∃ k : Nat, i = .int .i64 (k : Int) ∧ AttrsRel l k ∧ Below w.heap.size w wr) (fun i _ => l.length - (intOf i).toNat)
  case atStart => exact ⟨0, rfl, HR.out, Below.refl _ _⟩
  case round =>
    obtain ⟨k, rfl, hR, hb⟩ := hrel
    have Hb := Lib.hid hb
    have HR2 := Lib.hid hR
    have hkl := hR.1
    clear hb hR
    by_cases hk : k < l.length
    · have hstep := HR2.out.step hk
      have hki : (k : Int) < (l.length : Int) := by omega
      rcases HC.out with h0 | ⟨g, o, rfl, hg, hcs⟩
      · rw [h0] at hk; simp at hk
      obtain ⟨hc0, hc1⟩ := hcs k hk
      have hmem := HS.out _ (List.getElem_mem hk)
      have hgr : g < wr.heap.size := Nat.lt_of_lt_of_le hg Hb.out.size
      have d0 : wr.cell? ⟨g, o + k * 2, none⟩ = some (.string l[k].name) := by rw [Hb.out.cell (p := ⟨g, o + k * 2, none⟩) hg, Nat.mul_comm]; exact hc0
      have d1 : wr.cell? ⟨g, o + k * 2 + 1, none⟩ = some (.string l[k].value) := by rw [Hb.out.cell (p := ⟨g, o + k * 2 + 1, none⟩) hg, Nat.mul_comm]; exact hc1
      have HNm := Lib.hid (fun W => name_any l[k].name W hmem.1)
      have hwt : Tabs wr := HT.out.new Hb.out
      have HTx := Lib.hid (fun n (o : Obj) => Text_any l[k].value ((wr.alloc o).drewN n) ((hwt.new ((Below.refl _ wr).alloc (Nat.le_refl _) o)).drewN n) hmem.2)
      have hBn := Lib.hid (fun n (o : Obj) => Below.drewN ((Hb.out).alloc Hb.out.size o) n)
      have HAdd := Lib.hid (fun n (o : Obj) (w2 : World) (h : Below ((wr.alloc o).drewN n).heap.size ((wr.alloc o).drewN n) w2) => (Below.thenNew (Below.drewN ((Hb.out).alloc Hb.out.size o) n) (by show w.heap.size ≤ (wr.alloc o).heap.size; have := Hb.out.size; simp; omega) h : Below w.heap.size w w2))
      have HPrev := Lib.hid (fun j (hj : j + 1 = k) => (by
        have hj2 : j < l.length := by omega
        have e : l.getD (k - 1) ⟨⟨#[]⟩, ⟨#[]⟩⟩ = l[j] := by rw [show k - 1 = j by omega, List.getD_eq_getElem?_getD, List.getElem?_eq_getElem hj2]; rfl
        exact ⟨l[j].name, by rw [Hb.out.cell (p := ⟨g, o + j * 2, none⟩) hg, Nat.mul_comm]; exact (hcs j hj2).1, by rw [e]⟩ : ∃ pn, wr.cell? ⟨g, o + j * 2, none⟩ = some (.string pn) ∧ (l.getD (k - 1) ⟨⟨#[]⟩, ⟨#[]⟩⟩).name = pn))
      have HNext := Lib.hid (fun (h : Pure.attrsBad l = Pure.attrsLoop (if k + 1 = 0 then none else some (l.getD (k + 1 - 1) ⟨⟨#[]⟩, ⟨#[]⟩⟩).name) (l.drop (k + 1))) => (⟨by omega, h⟩ : AttrsRel l (k + 1)))
      have HStep := Lib.hid hstep
      clear hstep hc0 hc1 hmem hcs hwt HC HT HS HR HR2 Hb
      generalize l[k].name = nm at *
      generalize l[k].value = vl at *
      cases hnm : Pure.isName (Pure.toL nm) with
      | false =>
        have HV : Hid (Pure.attrsBad l = 6) := by show _ = _; rw [HStep.out, if_pos (.inl hnm)]
        rw [hnm] at HNm
        clear hnm HStep HNext HTx HPrev
        go_wp2_with fail
        go_quiet ((go_at_call 140; exact Calls.quiet_of_same ((HNm.out _).mono fun e w' h => ⟨h.1, h.2.symm⟩)))
        go_wp2_with fail
        go_ret
        rw [HV.out]
        exact ⟨rfl, hBn.out _ _⟩
      | true =>
        rw [hnm] at HNm
        have HStep1 : Hid (Pure.attrsBad l = if Pure.notAbove (if k = 0 then none else some (l.getD (k - 1) ⟨⟨#[]⟩, ⟨#[]⟩⟩).name) nm = true then 6 else if (Pure.text (Pure.toL vl)).2 ≠ 0 then (Pure.text (Pure.toL vl)).2 else Pure.attrsLoop (if k + 1 = 0 then none else some (l.getD (k + 1 - 1) ⟨⟨#[]⟩, ⟨#[]⟩⟩).name) (l.drop (k + 1))) := by
          show _ = _
          rw [HStep.out]
          by_cases h : Pure.notAbove (if k = 0 then none else some (l.getD (k - 1) ⟨⟨#[]⟩, ⟨#[]⟩⟩).name) nm = true
          · rw [if_pos (.inr h), if_pos h]
          · rw [if_neg (by rintro (h1 | h1); rw [hnm] at h1; exact absurd h1 (by decide); exact h h1), if_neg h]
        clear HStep hnm
        cases k with
        | zero =>
          have HStep2 : Hid (Pure.attrsBad l = if (Pure.text (Pure.toL vl)).2 ≠ 0 then (Pure.text (Pure.toL vl)).2 else Pure.attrsLoop (if 0 + 1 = 0 then none else some (l.getD (0 + 1 - 1) ⟨⟨#[]⟩, ⟨#[]⟩⟩).name) (l.drop (0 + 1))) := HStep1.out.trans (if_neg (by simp [Pure.notAbove]))
          clear HStep1 HPrev
          have hd0 : decide ((0 : Int) < ((0 : Nat) : Int)) = false := by decide
          have d0' : wr.cell? ⟨g, o, none⟩ = some (.string nm) := by simpa using d0
          have d1' : wr.cell? ⟨g, o + 1, none⟩ = some (.string vl) := by simpa using d1
          clear d0 d1
          cases ht : Pure.text (Pure.toL vl) with
          | mk ta te =>
            rw [ht] at HTx HStep2
            clear ht
            by_cases hte : te = 0
            · have HV := Lib.hid (HNext.out (HStep2.out.trans (if_neg (fun h => h hte))))
              have hne : (te != 0) = false := by rw [hte]; rfl
              clear HStep2 HNext hte
              go_wp2_with fail
              go_quiet ((go_at_call 140; exact Calls.quiet_of_same ((HNm.out _).mono fun e w' h => ⟨h.1, h.2.symm⟩)))
              go_wp2_with (go_at_call 109; refine (HTx.out _ _).mono ?_; rintro e' w2 ⟨rfl, hb2⟩; have Hb2 := Lib.hid (HAdd.out _ _ _ hb2); clear hb2; unfold vPair)
              go_roundw
              case rel => exact ⟨1, rfl, HV.out, Hb2.out⟩
              case measure => simp [intOf]; omega
            · have HV : Hid (Pure.attrsBad l = te) := HStep2.out.trans (if_pos hte)
              have hne : (te != 0) = true := by rw [bne_iff_ne]; exact hte
              clear HStep2 HNext hte
              go_wp2_with fail
              go_quiet ((go_at_call 140; exact Calls.quiet_of_same ((HNm.out _).mono fun e w' h => ⟨h.1, h.2.symm⟩)))
              go_wp2_with (go_at_call 109; refine (HTx.out _ _).mono ?_; rintro e' w2 ⟨rfl, hb2⟩; have Hb2 := Lib.hid (HAdd.out _ _ _ hb2); clear hb2; unfold vPair)
              go_ret
              rw [HV.out]
              exact ⟨rfl, Hb2.out⟩
        | succ j =>
          obtain ⟨pn, hpn, hpe⟩ := HPrev.out j rfl
          have hjk : (0 : Int) < (j : Int) + 1 := by omega
          have hj0 : 0 ≤ (j : Int) := by omega
          cases hab : Pure.bytesLe (Pure.toL nm) (Pure.toL pn) with
          | true =>
            have HV : Hid (Pure.attrsBad l = 6) := HStep1.out.trans (if_pos (by rw [if_neg (Nat.succ_ne_zero j), hpe]; exact hab))
            rw [notAbove_eq] at hab
            clear HStep1 HPrev HNext HTx hpe
            have hab1 : (Op.bytesLess nm.toList pn.toList = true) ∨ (Op.bytesLess nm.toList pn.toList = false ∧ (nm.toList == pn.toList) = true) := by
              cases h : Op.bytesLess nm.toList pn.toList with
              | true => exact .inl rfl
              | false => rw [h, Bool.false_or] at hab; exact .inr ⟨rfl, hab⟩
            clear hab
            rcases hab1 with hab1 | ⟨hab1, hab2⟩
            all_goals
              go_wp2_with fail
              go_quiet ((go_at_call 140; exact Calls.quiet_of_same ((HNm.out _).mono fun e w' h => ⟨h.1, h.2.symm⟩)))
              go_wp2_with fail
              go_ret
              rw [HV.out]
              exact ⟨rfl, hBn.out _ _⟩
          | false =>
            have HStep2 : Hid (Pure.attrsBad l = if (Pure.text (Pure.toL vl)).2 ≠ 0 then (Pure.text (Pure.toL vl)).2 else Pure.attrsLoop (if j + 1 + 1 = 0 then none else some (l.getD (j + 1 + 1 - 1) ⟨⟨#[]⟩, ⟨#[]⟩⟩).name) (l.drop (j + 1 + 1))) := HStep1.out.trans (if_neg (by rw [if_neg (Nat.succ_ne_zero j), hpe]; show ¬ Pure.bytesLe (Pure.toL nm) (Pure.toL pn) = true; rw [hab]; decide))
            rw [notAbove_eq] at hab
            rw [Bool.or_eq_false_iff] at hab
            obtain ⟨hab1, hab2⟩ := hab
            clear HStep1 HPrev hpe
            cases ht : Pure.text (Pure.toL vl) with
            | mk ta te =>
              rw [ht] at HTx HStep2
              clear ht
              by_cases hte : te = 0
              · have HV := Lib.hid (HNext.out (HStep2.out.trans (if_neg (fun h => h hte))))
                have hne : (te != 0) = false := by rw [hte]; rfl
                clear HStep2 HNext hte
                go_wp2_with fail
                go_quiet ((go_at_call 140; exact Calls.quiet_of_same ((HNm.out _).mono fun e w' h => ⟨h.1, h.2.symm⟩)))
                go_wp2_with (go_at_call 109; refine (HTx.out _ _).mono ?_; rintro e' w2 ⟨rfl, hb2⟩; have Hb2 := Lib.hid (HAdd.out _ _ _ hb2); clear hb2; unfold vPair)
                go_roundw
                case rel => exact ⟨j + 1 + 1, by go_num, HV.out, Hb2.out⟩
                case measure => simp [intOf]; omega
              · have HV : Hid (Pure.attrsBad l = te) := HStep2.out.trans (if_pos hte)
                have hne : (te != 0) = true := by rw [bne_iff_ne]; exact hte
                clear HStep2 HNext hte
                go_wp2_with fail
                go_quiet ((go_at_call 140; exact Calls.quiet_of_same ((HNm.out _).mono fun e w' h => ⟨h.1, h.2.symm⟩)))
                go_wp2_with (go_at_call 109; refine (HTx.out _ _).mono ?_; rintro e' w2 ⟨rfl, hb2⟩; have Hb2 := Lib.hid (HAdd.out _ _ _ hb2); clear hb2; unfold vPair)
                go_ret
                rw [HV.out]
                exact ⟨rfl, Hb2.out⟩
    · obtain rfl : k = l.length := by omega
      have HV := Lib.hid HR2.out.done
      go_wp2_with fail
      go_ret
      rw [HV.out]
      exact ⟨rfl, Hb.out⟩
end Go.Proofs.YtipfakmbjajhlaaGreatDoor 
end

section
set_option linter.unusedVariables false
set_option linter.unusedSimpArgs false
namespace Go.Proofs.YtipfakmbjajhlaaGreatDoor 
open Go.RowKit Go.Shelf
set_option maxRecDepth 100000 in
set_option maxHeartbeats 1600000 in
theorem own_any (k : Int) (nm tx : ByteArray) (a : List Pure.Attr) (aq : Option Addr) (ac : Nat) (kq : Option Addr) (kn kc : Nat) (w : World) (hT : Tabs w) (ha : RdA w (.slice aq a.length ac) a) (hn : Sm nm) (ht : Sm tx) (hs : AttrsSm a) :
    Calls Tryz.prog 125 #[.agg #[.int .i64 k, .string nm, .slice aq a.length ac, .string tx, .slice kq kn kc]] w (RetN (.int .i64 (Pure.own k nm a tx)) w) := by
  have hbo := fun o => (Below.refl w.heap.size w).alloc (Nat.le_refl _) o
  have HNm := Lib.hid (fun W => name_any nm W hn)
  have HAt := Lib.hid (fun o => tattrs_any a (.slice aq a.length ac) (w.alloc o) (hT.new (hbo o)) (ha.later (hbo o)) hs)
  have HTx := Lib.hid (fun o => Text_any tx (w.alloc o) (hT.new (hbo o)) ht)
  have HAdd := Lib.hid (fun (o : Obj) (w2 : World) (h : Below (w.alloc o).heap.size (w.alloc o) w2) => (Below.thenNew (hbo o) (by simp) h : Below w.heap.size w w2))
  have HB := Lib.hid hbo
  clear hT ha hn ht hs hbo
  by_cases h1 : k = 1
  · subst h1
    cases hnm : Pure.isName (Pure.toL nm) with
    | false =>
      have HV : Hid (Pure.own 1 nm a tx = 6) := by show _ = _; unfold Pure.own; rw [if_pos rfl, if_pos hnm]
      rw [hnm] at HNm
      clear hnm
      go_enter Tryz.func125, Tryz.ntmps125
      go_wp2_with (go_at_call 140; refine (HNm.out _).mono ?_; rintro e' w1 ⟨rfl, rfl⟩)
      go_ret
      rw [HV.out]
      exact ⟨rfl, HB.out _⟩
    | true =>
      have HV : Hid (Pure.own 1 nm a tx = Pure.attrsBad a) := by show _ = _; unfold Pure.own; rw [if_pos rfl, if_neg (by rw [hnm]; decide)]
      rw [hnm] at HNm
      clear hnm
      go_enter Tryz.func125, Tryz.ntmps125
      go_wp2_with (first | (go_at_call 140; refine (HNm.out _).mono ?_; rintro e' w1 ⟨rfl, rfl⟩) | (go_at_call 141; refine (HAt.out _).mono ?_; rintro e' w1 ⟨rfl, hb1⟩; have Hb1 := Lib.hid (HAdd.out _ _ hb1); clear hb1))
      go_ret
      rw [HV.out]
      exact ⟨rfl, Hb1.out⟩
  · have g1 : (k == 1) = false := beq_eq_false_iff_ne.2 h1
    by_cases h2 : k = 2
    · subst h2
      have HV : Hid (Pure.own 2 nm a tx = (Pure.text (Pure.toL tx)).2) := by show _ = _; unfold Pure.own; rw [if_neg (by decide), if_pos rfl]
      generalize Pure.text (Pure.toL tx) = R at *
      obtain ⟨r1, r2⟩ := R
      clear h1 g1
      go_enter Tryz.func125, Tryz.ntmps125
      go_wp2_with (go_at_call 109; refine (HTx.out _).mono ?_; rintro e' w1 ⟨rfl, hb1⟩; have Hb1 := Lib.hid (HAdd.out _ _ hb1); clear hb1; unfold vPair)
      go_ret
      rw [HV.out]
      exact ⟨rfl, Hb1.out⟩
    · have HV : Hid (Pure.own k nm a tx = 1) := by show _ = _; unfold Pure.own; rw [if_neg h1, if_neg h2]
      have g2 : (k == 2) = false := beq_eq_false_iff_ne.2 h2
      clear h1 h2
      go_enter Tryz.func125, Tryz.ntmps125
      go_wp2_with fail
      go_ret
      rw [HV.out]
      exact ⟨rfl, HB.out _⟩
/-! ### look -/
def LookPost (t : Pure.Tree) (deep n lb : Nat) (w : World) (e : Ending) (w' : World) : Prop :=
  e = .returned (.int .i64 (Pure.look t deep n).1) ∧ (∃ dd : Int, w'.heap[lb]? = some (.cells #[.int .i64 ((Pure.look t deep n).2 : Int), .int .i64 dd] 140 (0, 0))) ∧ Chg (· = lb) w w'
def LookAt (m : Nat) : Prop := ∀ (k : Int) (nm : ByteArray) (a : List Pure.Attr) (tx : ByteArray) (kids : List Pure.Tree) (C : Nat → Prop) (deep n lb : Nat) (dd : Int) (w : World) (aq : Option Addr) (ac : Nat) (kq : Option Addr) (kc : Nat),
  SizeOf.sizeOf (Pure.Tree.mk k nm a tx kids) ≤ m → Tabs w → 9 ≤ lb → w.heap[lb]? = some (.cells #[.int .i64 (n : Int), .int .i64 dd] 140 (0, 0)) → AttrsAt w C (.slice aq a.length ac) a → TreesAt w C (.slice kq kids.length kc) kids → (∀ i, C i → i < w.heap.size ∧ i ≠ lb) → smT (.mk k nm a tx kids) → deep ≤ 65 → n ≤ 4096 →
  Calls Tryz.prog 112 #[.pointer (some ⟨lb, 0, none⟩), .agg #[.int .i64 k, .string nm, .slice aq a.length ac, .string tx, .slice kq kids.length kc], .int .i64 (deep : Int)] w (LookPost (.mk k nm a tx kids) deep n lb w)
theorem look_size {l : List Pure.Tree} {i : Nat} (h : i < l.length) {k : Int} {nm : ByteArray} {a : List Pure.Attr} {tx : ByteArray} {m : Nat} (hm : SizeOf.sizeOf (Pure.Tree.mk k nm a tx l) ≤ m + 1) : SizeOf.sizeOf l[i] ≤ m := by
  have h1 := List.sizeOf_lt_of_mem (List.getElem_mem h)
  have h2 : SizeOf.sizeOf l < SizeOf.sizeOf (Pure.Tree.mk k nm a tx l) := by simp; omega
  omega
/-- The children's loop, at an index. -/
def LookRel (t : Pure.Tree) (kids : List Pure.Tree) (deep n lb i : Nat) (w wr : World) : Prop :=
  ∃ (ni : Nat) (dd : Int), i ≤ kids.length ∧ ni ≤ 4096 ∧ wr.heap[lb]? = some (.cells #[.int .i64 (ni : Int), .int .i64 dd] 140 (0, 0)) ∧ Chg (· = lb) w wr ∧ Pure.look t deep n = Pure.lookL (kids.drop i) (deep + 1) ni
mutual
theorem look_le : ∀ (t : Pure.Tree) (deep n : Nat), n ≤ 4096 → n ≤ (Pure.look t deep n).2 ∧ (Pure.look t deep n).2 ≤ 4096
  | .mk k nm a tx kids, deep, n, h => by
    unfold Pure.look
    split
    · exact ⟨Nat.le_refl _, h⟩
    · rename_i h1
      split
      · exact ⟨Nat.le_refl _, h⟩
      · split
        · simp only; omega
        · have := lookL_le kids (deep + 1) (n + 1) (by omega)
          omega
theorem lookL_le : ∀ (l : List Pure.Tree) (deep n : Nat), n ≤ 4096 → n ≤ (Pure.lookL l deep n).2 ∧ (Pure.lookL l deep n).2 ≤ 4096
  | [], deep, n, h => by unfold Pure.lookL; exact ⟨Nat.le_refl _, h⟩
  | t :: r, deep, n, h => by
    unfold Pure.lookL
    have h1 := look_le t deep n h
    split
    rename_i e n' he
    rw [he] at h1
    split
    · exact h1
    · have := lookL_le r deep n' h1.2
      simp only at h1
      omega
end
theorem treeP_size (w : World) (lb : Nat) (cs : Array Value) (E : TypeId) (h : w.heap[lb]? = some (.cells cs E (0, 0))) : lb < w.heap.size := lt_of_block h
theorem look_set {w w1 : World} {lb n : Nat} {dd x : Int} (h : w1.heap[lb]? = some (.cells #[.int .i64 (n : Int), .int .i64 dd] 140 (0, 0))) (hc : Chg (· = lb) w w1) :
    ((w1.setCell ⟨lb, 0, none⟩ (.int .i64 ((n : Int) + 1))).setCell ⟨lb, 1, none⟩ (.int .i64 x)).heap[lb]? = some (.cells #[.int .i64 ((n + 1 : Nat) : Int), .int .i64 x] 140 (0, 0)) ∧ Chg (· = lb) w ((w1.setCell ⟨lb, 0, none⟩ (.int .i64 ((n : Int) + 1))).setCell ⟨lb, 1, none⟩ (.int .i64 x)) := by
  refine ⟨?_, (hc.setCell ⟨lb, 0, none⟩ _ (.inl rfl)).setCell ⟨lb, 1, none⟩ _ (.inl rfl)⟩
  have := heap_setCell_same (i := 1) (heap_setCell_same (i := 0) h (.int .i64 ((n : Int) + 1))) (.int .i64 x)
  rw [this]
  have e : ((n + 1 : Nat) : Int) = (n : Int) + 1 := by omega
  rw [e]; rfl
set_option maxRecDepth 100000 in
set_option maxHeartbeats 6400000 in
theorem look_at (m : Nat) (IH : LookAt m) : LookAt (m + 1) := by
  intro k nm a tx kids C deep n lb dd w aq ac kq kc hm hT h9 hlb ha hk hC hsm hdp hn
  obtain ⟨s1, s2, s3, s4, s5⟩ := hsm
  have hlt := lt_of_block hlb
  have l0 : w.cell? ⟨lb, 0, none⟩ = some (.int .i64 (n : Int)) := by rw [Lib.cell_of_heap hlb]; rfl
  have l1 : w.cell? ⟨lb, 1, none⟩ = some (.int .i64 dd) := by rw [Lib.cell_of_heap hlb]; rfl
  have lf := fun i => Lib.frozen_of_heap hlb i
  by_cases h1 : deep > 64 ∨ n ≥ 4096
  · have hV : Pure.look (.mk k nm a tx kids) deep n = (2, n) := by unfold Pure.look; rw [if_pos h1]
    have HF : Hid (∀ o, LookPost (.mk k nm a tx kids) deep n lb w (.returned (.int .i64 2)) (w.alloc o)) := fun o => by
      unfold LookPost; rw [hV]
      exact ⟨rfl, ⟨dd, by rw [Below.heap_alloc _ _ _ hlt]; exact hlb⟩, (Chg.refl _ w).alloc o⟩
    have h1' : (64 : Int) < (deep : Int) ∨ (¬ (64 : Int) < (deep : Int) ∧ (4096 : Int) ≤ (n : Int)) := by omega
    clear h1 hV IH hT hlb ha hk hC s1 s2 s3 s5 hm
    rcases h1' with h1 | ⟨h1, h2⟩
    all_goals
      go_enter Tryz.func112, Tryz.ntmps112
      go_wp2_with fail
      go_ret
      exact HF.out _
  have g1 : ¬ (64 : Int) < (deep : Int) := by omega
  have g2 : ¬ (4096 : Int) ≤ (n : Int) := by omega
  have haR : RdA w (.slice aq a.length ac) a := ha.mono fun i hi => (hC i hi).1
  have hbo := fun o => (Below.refl w.heap.size w).alloc (Nat.le_refl _) o
  have HOw := Lib.hid (fun o => own_any k nm tx a aq ac kq kids.length kc (w.alloc o) (hT.new (hbo o)) (haR.later (hbo o)) s1 s2 s3)
  have HKeep := Lib.hid (fun (o : Obj) (w1 : World) (hb : Below (w.alloc o).heap.size (w.alloc o) w1) => (by
    have h2 : w1.heap[lb]? = some (.cells #[.int .i64 (n : Int), .int .i64 dd] 140 (0, 0)) := by rw [hb.block lb (by simp; omega), Below.heap_alloc _ _ _ hlt]; exact hlb
    exact ⟨h2, (Chg.refl _ w).alloc o |>.trans (Chg.of_below hb |>.mono fun i _ h => .inl h)⟩ : w1.heap[lb]? = some (.cells #[.int .i64 (n : Int), .int .i64 dd] 140 (0, 0)) ∧ Chg (· = lb) w w1))
  have HTr := Lib.hid (fun (v0 v1 v2 v3 v4 : Value) (w1 : World) (hb : Below (w.alloc (.cells #[v0, v1, v2, v3, v4] 76)).heap.size (w.alloc (.cells #[v0, v1, v2, v3, v4] 76)) w1) => (by
    have h2 : w1.heap[w.heap.size]? = some (.cells #[v0, v1, v2, v3, v4] 76 (0, 0)) := by rw [hb.block w.heap.size (by simp), heap_alloc_new]
    exact ⟨by rw [Lib.cell_of_heap h2]; rfl, by rw [Lib.cell_of_heap h2]; rfl⟩ : w1.cell? ⟨w.heap.size, 0, none⟩ = some v0 ∧ w1.cell? ⟨w.heap.size, 4, none⟩ = some v4))
  have HLook : Hid (Pure.look (.mk k nm a tx kids) deep n = if Pure.own k nm a tx ≠ 0 then (Pure.own k nm a tx, n) else if k = 2 then (0, n + 1) else Pure.lookL kids (deep + 1) (n + 1)) := by
    show _ = _
    conv => lhs; unfold Pure.look
    rw [if_neg h1]
  have hneH : ¬ w.heap.size = lb := by omega
  have Hlb := Lib.hid hlb
  have Ha := Lib.hid ha
  have Hk := Lib.hid hk
  have HC := Lib.hid hC
  have HS5 := Lib.hid s5
  have HT := Lib.hid hT
  have Hm := Lib.hid hm
  have HIH := Lib.hid IH
  clear hlb ha hk hC s1 s2 s3 s5 hT hm IH haR hbo h1
  generalize hown : Pure.own k nm a tx = ow at *
  clear hown
  by_cases how : ow = 0
  · subst how
    have gow : ((0 : Int) != 0) = false := rfl
    go_enter Tryz.func112, Tryz.ntmps112
    go_wp2_with (go_at_call 125; refine (HOw.out _).mono ?_)
    rintro e' w1 ⟨rfl, hb1⟩
    obtain ⟨q1, q2⟩ := HTr.out _ _ _ _ _ _ hb1
    obtain ⟨hl1, hc1⟩ := HKeep.out _ _ hb1
    have p0 : w1.cell? ⟨lb, 0, none⟩ = some (.int .i64 (n : Int)) := by rw [Lib.cell_of_heap hl1]; rfl
    have p1 : w1.cell? ⟨lb, 1, none⟩ = some (.int .i64 dd) := by rw [Lib.cell_of_heap hl1]; rfl
    have pf := fun i => Lib.frozen_of_heap hl1 i
    have Hl1 := Lib.hid hl1
    have Hc1 := Lib.hid hc1
    have hH1 : w.heap.size < w1.heap.size := by have := hb1.size; simp at this; omega
    clear hl1 hc1 hb1 l0 l1 lf HTr HKeep HOw
    by_cases hk2 : k = 2
    · have HV : Hid (Pure.look (.mk k nm a tx kids) deep n = (0, n + 1)) := by show _ = _; rw [HLook.out, if_neg (by simp), if_pos hk2]
      have gk : (k == 2) = true := by rw [hk2]; rfl
      clear HLook HIH Hk Ha HS5 Hm hk2
      go_wp2_with fail
      go_ret
      obtain ⟨z1, z2⟩ := look_set (x := max dd (deep : Int)) Hl1.out Hc1.out
      unfold LookPost
      rw [HV.out]
      exact ⟨rfl, ⟨_, z1⟩, z2⟩
    · have gk : (k == 2) = false := beq_eq_false_iff_ne.2 hk2
      have HV : Hid (Pure.look (.mk k nm a tx kids) deep n = Pure.lookL kids (deep + 1) (n + 1)) := by show _ = _; rw [HLook.out, if_neg (by simp), if_neg hk2]
      clear HLook hk2
      go_wp2_with fail
      go_loopw [47] (fun i wr => ∃ j : Nat, i = .int .i64 (j : Int) ∧ LookRel (.mk k nm a tx kids) kids deep n lb j w wr) (fun i _ => kids.length - (intOf i).toNat)
      case atStart =>
        obtain ⟨z1, z2⟩ := look_set (x := max dd (deep : Int)) Hl1.out Hc1.out
        exact ⟨0, rfl, n + 1, _, Nat.zero_le _, by omega, z1, z2, by rw [List.drop_zero]; exact HV.out⟩
      case round =>
        obtain ⟨j, rfl, ni, dj, hj, hni, hlj, hcj, hVj⟩ := hrel
        have HVj := Lib.hid hVj
        have Hlj := Lib.hid hlj
        have Hcj := Lib.hid hcj
        clear q1 q2 p0 p1 pf Hl1 Hc1 HV hlj hcj hVj
        by_cases hlt2 : j < kids.length
        · have hji : (j : Int) < (kids.length : Int) := by omega
          obtain ⟨q, c, hq, hkc, hrow⟩ := Hk.out
          simp only [Value.slice.injEq] at hq
          obtain ⟨rfl, _, rfl⟩ := hq
          rcases hrow with h0 | ⟨g, o, rfl, hCg, hrow⟩
          · rw [h0] at hlt2; simp at hlt2
          have hCk : ∀ i, C i → wr.heap[i]? = w.heap[i]? := fun i hi => Hcj.out.block i (HC.out i hi).1 (HC.out i hi).2
          have hkid := (hrow.mono (fun _ h => h) hCk (hCk g hCg)).get j hlt2
          obtain ⟨av, kv, d0, d1, d2, d3, d4, dA, dK⟩ := treeAt_iff.1 hkid
          obtain ⟨aq', ac', rfl⟩ := attrs_form dA
          have hkf : ∃ q c, kv = .slice q kids[j].kids.length c := by obtain ⟨q, c, h, _⟩ := dK; exact ⟨q, c, h⟩
          obtain ⟨kq', kc', rfl⟩ := hkf
          have hgr : g < wr.heap.size := Nat.lt_of_lt_of_le (HC.out g hCg).1 Hcj.out.size
          have hlr : lb < wr.heap.size := lt_of_block Hlj.out
          have hT9 : Tabs wr := HT.out.below (Hcj.out.below HT.out.size (fun i hi => by rw [hi]; exact h9)) (Nat.le_refl 9)
          have hsz := look_size hlt2 Hm.out
          have hsmj := smL_get HS5.out j hlt2
          have hdrop : kids.drop j = kids[j] :: kids.drop (j + 1) := List.drop_eq_getElem_cons hlt2
          have HVk : Hid (Pure.look (.mk k nm a tx kids) deep n = if (Pure.look kids[j] (deep + 1) ni).1 ≠ 0 then Pure.look kids[j] (deep + 1) ni else Pure.lookL (kids.drop (j + 1)) (deep + 1) (Pure.look kids[j] (deep + 1) ni).2) := by
            show _ = _
            rw [HVj.out, hdrop]; rfl
          have HCall := Lib.hid (fun (o : Obj) => (by
            have hb := (Below.refl wr.heap.size wr).alloc (Nat.le_refl _) o
            have hCk2 : ∀ i, C i → (wr.alloc o).heap[i]? = wr.heap[i]? := fun i hi => hb.block i (by rw [← Nat.not_le]; intro hle; have := (HC.out i hi).1; have := Hcj.out.size; omega)
            generalize hkid' : kids[j] = kd at *
            cases kd with
            | mk k' nm' a' tx' ks' =>
              have := HIH.out k' nm' a' tx' ks' C (deep + 1) ni lb dj (wr.alloc o) aq' ac' kq' kc' hsz (hT9.new hb) h9 (by rw [hb.block lb hlr]; exact Hlj.out) (dA.keep hCk2) (dK.keep hCk2) (fun i hi => ⟨Nat.lt_of_lt_of_le (HC.out i hi).1 (Nat.le_trans Hcj.out.size hb.size), (HC.out i hi).2⟩) hsmj (by omega) hni
              have e : ((deep + 1 : Nat) : Int) = (deep : Int) + 1 := by omega
              rw [e] at this
              exact this :
            Calls Tryz.prog 112 #[.pointer (some ⟨lb, 0, none⟩), .agg #[.int .i64 kids[j].kind, .string kids[j].name, .slice aq' kids[j].attrs.length ac', .string kids[j].text, .slice kq' kids[j].kids.length kc'], .int .i64 ((deep : Int) + 1)] (wr.alloc o) (LookPost kids[j] (deep + 1) ni lb (wr.alloc o))))
          have hle := look_le kids[j] (deep + 1) ni hni
          have e5 : o + 5 * j = o + j * 5 := by omega
          rw [e5] at d0 d1 d2 d3 d4
          clear hkid hrow hCk dA dK hsz hsmj hdrop HVj hT9 Hk HIH
          generalize kids[j] = kd at *
          unfold LookPost at HCall
          generalize Pure.look kd (deep + 1) ni = R at *
          obtain ⟨re, rn⟩ := R
          simp only at HCall HVk hle
          have HChg := Lib.hid (fun (o : Obj) (w2 : World) (h : Chg (· = lb) (wr.alloc o) w2) => (Hcj.out.alloc o |>.trans (h.mono fun i _ h => .inl h) : Chg (· = lb) w w2))
          by_cases hre : re = 0
          · have gre : (re != 0) = false := by rw [hre]; rfl
            have HVn : Hid (Pure.look (.mk k nm a tx kids) deep n = Pure.lookL (kids.drop (j + 1)) (deep + 1) rn) := HVk.out.trans (if_neg (fun h => h hre))
            clear hre HVk
            go_wp2_with (go_at_call 112; refine (HCall.out _).mono ?_; rintro e' w2 ⟨rfl, ⟨dd2, hl2⟩, hc2⟩; have Hl2 := Lib.hid hl2; have Hc2 := Lib.hid (HChg.out _ _ hc2); clear hl2 hc2)
            go_roundw
            case rel => exact ⟨j + 1, by go_num, rn, dd2, by omega, hle.2, Hl2.out, Hc2.out, HVn.out⟩
            case measure => simp [intOf]; omega
          · have gre : (re != 0) = true := by rw [bne_iff_ne]; exact hre
            have HVn : Hid (Pure.look (.mk k nm a tx kids) deep n = (re, rn)) := HVk.out.trans (if_pos hre)
            clear hre HVk
            go_wp2_with (go_at_call 112; refine (HCall.out _).mono ?_; rintro e' w2 ⟨rfl, ⟨dd2, hl2⟩, hc2⟩; have Hl2 := Lib.hid hl2; have Hc2 := Lib.hid (HChg.out _ _ hc2); clear hl2 hc2)
            go_ret
            unfold LookPost
            rw [HVn.out]
            exact ⟨rfl, ⟨_, Hl2.out⟩, Hc2.out⟩
        · obtain rfl : j = kids.length := by omega
          have HV : Hid (Pure.look (.mk k nm a tx kids) deep n = (0, ni)) := by show _ = _; rw [HVj.out, List.drop_length]; rfl
          go_wp2_with fail
          go_ret
          unfold LookPost
          rw [HV.out]
          exact ⟨rfl, ⟨_, Hlj.out⟩, Hcj.out⟩
  · have gow : (ow != 0) = true := by rw [bne_iff_ne]; exact how
    have HV : Hid (Pure.look (.mk k nm a tx kids) deep n = (ow, n)) := HLook.out.trans (if_pos how)
    clear how HLook Hk Ha HIH Hm HS5
    go_enter Tryz.func112, Tryz.ntmps112
    go_wp2_with (go_at_call 125; refine (HOw.out _).mono ?_; rintro e' w1 ⟨rfl, hb1⟩; obtain ⟨hl1, hc1⟩ := HKeep.out _ _ hb1; have Hl1 := Lib.hid hl1; have Hc1 := Lib.hid hc1; clear hl1 hc1 hb1)
    go_ret
    unfold LookPost
    rw [HV.out]
    exact ⟨rfl, ⟨_, Hl1.out⟩, Hc1.out⟩
theorem look_all : ∀ m, LookAt m
  | 0 => fun k nm a tx kids C deep n lb dd w aq ac kq kc hm => by
    have : SizeOf.sizeOf (Pure.Tree.mk k nm a tx kids) > 0 := by simp; omega
    omega
  | m + 1 => look_at m (look_all m)
/-- A tree as a value. -/
def vTree (t : Pure.Tree) (av kv : Value) : Value := .agg #[.int .i64 t.kind, .string t.name, av, .string t.text, kv]
set_option maxRecDepth 100000 in
theorem check_any (t : Pure.Tree) (av kv : Value) (w : World) (hT : Tabs w) (ha : RdA w av t.attrs) (hk : RdL w kv t.kids) (hs : smT t) : Calls Tryz.prog 85 #[vTree t av kv] w (RetN (.int .i64 (Pure.check t)) w) := by
  obtain ⟨aq, ac, rfl⟩ := attrs_form ha
  have hkf : ∃ q c, kv = .slice q t.kids.length c := by obtain ⟨q, c, h, _⟩ := hk; exact ⟨q, c, h⟩
  obtain ⟨kq, kc, rfl⟩ := hkf
  cases t with
  | mk k nm a tx kids =>
    have hb := fun o1 o2 => ((Below.refl w.heap.size w).alloc (Nat.le_refl _) o1).alloc (by simp) o2
    have HC := Lib.hid (fun (o1 : Obj) => look_all _ k nm a tx kids (fun i => i < w.heap.size) 1 0 (w.heap.size + 1) 0 ((w.alloc o1).alloc (.cells #[.int .i64 0, .int .i64 0] 140)) aq ac kq kc (Nat.le_refl _) (hT.new (hb _ _)) (by have := hT.size; omega) (by
        have := heap_alloc_new (w.alloc o1) (.cells #[.int .i64 0, .int .i64 0] 140)
        simpa using this) (ha.keep fun i hi => (hb _ _).block i hi) (hk.keep fun i hi => (hb _ _).block i hi) (fun i hi => ⟨by simp; omega, by omega⟩) hs (by omega) (by omega))
    have HB := Lib.hid (fun (o1 o2 : Obj) (w2 : World) (h : Chg (· = w.heap.size + 1) ((w.alloc o1).alloc o2) w2) => (by
      have h1 : Chg (· = w.heap.size + 1) w w2 := (((Chg.refl _ w).alloc o1).alloc o2).trans (h.mono fun i _ h => .inl h)
      exact h1.below (Nat.le_refl _) (fun i hi => by omega) : Below w.heap.size w w2))
    clear hT ha hk hs hb
    unfold vTree
    simp only [Pure.Tree.kind, Pure.Tree.name, Pure.Tree.attrs, Pure.Tree.text, Pure.Tree.kids]
    go_enter Tryz.func85, Tryz.ntmps85
    go_wp2_with (go_at_call 112; refine (HC.out _).mono ?_; rintro e' w1 ⟨rfl, _, hc1⟩; have Hb1 := Lib.hid (HB.out _ _ _ hc1); clear hc1)
    go_ret
    exact ⟨rfl, Hb1.out⟩
end Go.Proofs.YtipfakmbjajhlaaGreatDoor 
end

section
set_option linter.unusedVariables false
set_option linter.unusedSimpArgs false
namespace Go.Proofs.YtipfakmbjajhlaaGreatDoor 
open Go.RowKit Go.Shelf
theorem countL_take : ∀ (l : List Pure.Tree) (i : Nat) (h : i < l.length), Pure.countL (l.take (i + 1)) = Pure.countL (l.take i) + Pure.count l[i]
  | [], i, h => absurd h (Nat.not_lt_zero _)
  | t :: r, 0, _ => by simp [Pure.countL]
  | t :: r, i + 1, h => by
    have := countL_take r i (Nat.lt_of_succ_lt_succ h)
    simp only [List.take_succ_cons, Pure.countL, List.getElem_cons_succ]
    omega
theorem countL_take_le : ∀ (l : List Pure.Tree) (i : Nat), Pure.countL (l.take i) ≤ Pure.countL l
  | [], i => by simp
  | t :: r, 0 => by simp [Pure.countL]
  | t :: r, i + 1 => by
    have := countL_take_le r i
    simp only [List.take_succ_cons, Pure.countL]
    omega
theorem count_get (l : List Pure.Tree) (i : Nat) (h : i < l.length) : Pure.count l[i] ≤ Pure.countL l := by
  have h1 := countL_take l i h
  have h2 := countL_take_le l (i + 1)
  omega
/-- A tree of a row, as it is read. -/
theorem RdL.get {w : World} {q : Option Addr} {n c : Nat} {l : List Pure.Tree} (h : RdL w (.slice q n c) l) (i : Nat) (hi : i < l.length) :
    ∃ g o aq ac kq kc, q = some ⟨g, o, none⟩ ∧ g < w.heap.size ∧ w.cell? ⟨g, o + i * 5, none⟩ = some (.int .i64 l[i].kind) ∧ w.cell? ⟨g, o + i * 5 + 1, none⟩ = some (.string l[i].name) ∧ w.cell? ⟨g, o + i * 5 + 2, none⟩ = some (.slice aq l[i].attrs.length ac) ∧
      w.cell? ⟨g, o + i * 5 + 3, none⟩ = some (.string l[i].text) ∧ w.cell? ⟨g, o + i * 5 + 4, none⟩ = some (.slice kq l[i].kids.length kc) ∧ RdA w (.slice aq l[i].attrs.length ac) l[i].attrs ∧ RdL w (.slice kq l[i].kids.length kc) l[i].kids := by
  obtain ⟨q', c', he, hc, hrow⟩ := h
  simp only [Value.slice.injEq] at he
  obtain ⟨rfl, _, _⟩ := he
  rcases hrow with h0 | ⟨g, o, rfl, hg, hrow⟩
  · rw [h0] at hi; simp at hi
  obtain ⟨av, kv, d0, d1, d2, d3, d4, dA, dK⟩ := treeAt_iff.1 (hrow.get i hi)
  obtain ⟨aq, ac, rfl⟩ := attrs_form dA
  have hkf : ∃ q c, kv = .slice q l[i].kids.length c := by obtain ⟨q, c, h, _⟩ := dK; exact ⟨q, c, h⟩
  obtain ⟨kq, kc, rfl⟩ := hkf
  have e5 : o + 5 * i = o + i * 5 := by omega
  rw [e5] at d0 d1 d2 d3 d4
  exact ⟨g, o, aq, ac, kq, kc, rfl, hg, d0, d1, d2, d3, d4, dA, dK⟩
def CountAt (m : Nat) : Prop := ∀ (t : Pure.Tree) (aq : Option Addr) (ac : Nat) (kq : Option Addr) (kc : Nat) (w : World), SizeOf.sizeOf t ≤ m → RdL w (.slice kq t.kids.length kc) t.kids → smT t → Pure.count t ≤ 4096 →
  Calls Tryz.prog 86 #[vTree t (.slice aq t.attrs.length ac) (.slice kq t.kids.length kc)] w (RetN (.int .i64 (Pure.count t : Int)) w)
set_option maxRecDepth 100000 in
set_option maxHeartbeats 3200000 in
theorem count_at (m : Nat) (IH : CountAt m) : CountAt (m + 1) := by
  intro t aq ac kq kc w hm hk hs hc
  cases t with
  | mk k nm a tx kids =>
  unfold vTree
  simp only [Pure.Tree.kind, Pure.Tree.name, Pure.Tree.attrs, Pure.Tree.text, Pure.Tree.kids] at hk ⊢
  obtain ⟨_, _, _, s4, s5⟩ := hs
  have HB := Lib.hid (fun o => (Below.refl w.heap.size w).alloc (Nat.le_refl _) o)
  by_cases h1 : k = 1
  · have hV : Pure.count (.mk k nm a tx kids) = Pure.countL kids + 1 := by unfold Pure.count; rw [if_pos h1]
    rw [hV] at hc ⊢
    have g1 : (k == 1) = true := by rw [h1]; rfl
    have Hk := Lib.hid hk
    have Hm := Lib.hid hm
    have HS := Lib.hid s5
    have HIH := Lib.hid IH
    clear hV h1 hk hm s5 IH
    go_enter Tryz.func86, Tryz.ntmps86
    go_wp2_with fail
    go_loopw [3, 12] (fun n i wr => ∃ j : Nat, j ≤ kids.length ∧ i = .int .i64 (j : Int) ∧ n = .int .i64 ((Pure.countL (kids.take j) + 1 : Nat) : Int) ∧ Below w.heap.size w wr) (fun _ i _ => kids.length - (intOf i).toNat)
    case atStart => exact ⟨0, Nat.zero_le _, rfl, rfl, HB.out _⟩
    case round =>
      obtain ⟨j, hj, rfl, rfl, hb⟩ := hrel
      have Hb := Lib.hid hb
      clear hb
      by_cases hlt : j < kids.length
      · have hji : (j : Int) < (kids.length : Int) := by omega
        obtain ⟨g, o, aq', ac', kq', kc', rfl, hg, d0, d1, d2, d3, d4, dA, dK⟩ := (Hk.out.later Hb.out).get j hlt
        have hcg := count_get kids j hlt
        have htk := countL_take kids j hlt
        have htl := countL_take_le kids (j + 1)
        have HCall := Lib.hid (fun o => HIH.out kids[j] aq' ac' kq' kc' (wr.alloc o) (look_size hlt Hm.out) (dK.later ((Below.refl _ wr).alloc (Nat.le_refl _) o)) (smL_get HS.out j hlt) (by omega))
        have HAdd := Lib.hid (fun (o : Obj) (w2 : World) (h : Below (wr.alloc o).heap.size (wr.alloc o) w2) => (Below.thenNew (Hb.out.alloc Hb.out.size o) (by have := Hb.out.size; simp; omega) h : Below w.heap.size w w2))
        have e1 : ((Pure.countL (kids.take (j + 1)) + 1 : Nat) : Int) = ((Pure.countL (kids.take j) : Int) + 1) + (Pure.count kids[j] : Int) := by omega
        have hb1 : 0 ≤ (Pure.countL (kids.take j) : Int) + 1 + (Pure.count kids[j] : Int) := by omega
        have hb2 : (Pure.countL (kids.take j) : Int) + 1 + (Pure.count kids[j] : Int) ≤ 8192 := by omega
        have hcc : Pure.countL kids + 1 ≤ 4096 := hc
        have HE := Lib.hid e1
        unfold vTree at HCall
        clear dA dK hcg htk htl e1 hc
        generalize kids[j] = kd at *
        generalize Pure.countL (kids.take j) = c1 at *
        generalize Pure.count kd = ck at *
        go_wp2_with (go_at_call 86; refine (HCall.out _).mono ?_; rintro e' w2 ⟨rfl, hb2⟩; have Hb2 := Lib.hid (HAdd.out _ _ hb2); clear hb2)
        go_roundw
        case rel => exact ⟨j + 1, by omega, by go_num, by rw [HE.out], Hb2.out⟩
        case measure => simp [intOf]; omega
      · obtain rfl : j = kids.length := by omega
        have e1 : kids.take kids.length = kids := List.take_length
        rw [e1]
        go_wp2_with fail
        go_ret
        exact ⟨rfl, Hb.out⟩
  · have hV : Pure.count (.mk k nm a tx kids) = 1 := by unfold Pure.count; rw [if_neg h1]
    rw [hV]
    have g1 : (k == 1) = false := beq_eq_false_iff_ne.2 h1
    clear hV h1 hk hm s5 IH hc
    go_enter Tryz.func86, Tryz.ntmps86
    go_wp2_with fail
    go_ret
    exact ⟨rfl, HB.out _⟩
theorem count_all : ∀ m, CountAt m
  | 0 => fun t aq ac kq kc w hm => by
    cases t with
    | mk k nm a tx kids =>
      have : SizeOf.sizeOf (Pure.Tree.mk k nm a tx kids) > 0 := by simp; omega
      omega
  | m + 1 => count_at m (count_all m)
theorem count_any (t : Pure.Tree) (aq : Option Addr) (ac : Nat) (kq : Option Addr) (kc : Nat) (w : World) (hk : RdL w (.slice kq t.kids.length kc) t.kids) (hs : smT t) (hc : Pure.count t ≤ 4096) :
    Calls Tryz.prog 86 #[vTree t (.slice aq t.attrs.length ac) (.slice kq t.kids.length kc)] w (RetN (.int .i64 (Pure.count t : Int)) w) := count_all _ t aq ac kq kc w (Nat.le_refl _) hk hs hc
/-! ### can -/
theorem check_count {t : Pure.Tree} (h : Pure.check t = 0) : Pure.count t ≤ 4096 := by
  obtain ⟨_, h2, _⟩ := Pure.look_ok t 1 0 (Pure.look t 1 0).2 (Prod.ext h rfl)
  have := look_le t 1 0 (by omega)
  omega
/-- The first ones are right. -/
def FirstOk (f : List Pure.Tree) (i : Nat) : Prop := i ≤ f.length ∧ Pure.firstBad f = Pure.firstBad (f.drop i)
theorem FirstOk.bad {f : List Pure.Tree} {i : Nat} (h : FirstOk f i) (hi : i < f.length) (hc : Pure.check f[i] ≠ 0) : Pure.canF f = Pure.check f[i] := by
  have h1 : Pure.firstBad f = Pure.check f[i] := by
    rw [h.2, List.drop_eq_getElem_cons hi]
    unfold Pure.firstBad
    rw [if_pos hc]
  unfold Pure.canF
  rw [h1, if_pos hc]
theorem FirstOk.next {f : List Pure.Tree} {i : Nat} (h : FirstOk f i) (hi : i < f.length) (hc : Pure.check f[i] = 0) : FirstOk f (i + 1) := by
  refine ⟨by omega, ?_⟩
  rw [h.2, List.drop_eq_getElem_cons hi]
  conv => lhs; unfold Pure.firstBad
  rw [if_neg (by simpa using hc)]
theorem FirstOk.done {f : List Pure.Tree} (h : FirstOk f f.length) : Pure.canF f = if Pure.countL f > 4096 then 2 else 0 := by
  have h1 : Pure.firstBad f = 0 := by rw [h.2, List.drop_length]; rfl
  unfold Pure.canF
  rw [h1, if_neg (by simp)]
set_option maxRecDepth 100000 in
set_option maxHeartbeats 6400000 in
theorem can_any' (f : List Pure.Tree) (q : Option Addr) (c : Nat) (w : World) (hT : Tabs w) (hr : RdL w (.slice q f.length c) f) (hs : smL f) (hlen : f.length ≤ 140737488355328) : Calls Tryz.prog 47 #[.slice q f.length c] w (RetN (.int .i64 (Pure.canF f)) w) := by
  have HR := Lib.hid hr
  have HT := Lib.hid hT
  have HS := Lib.hid hs
  clear hr hT hs
  -- what a round wants
  have HCk : Hid (∀ wr, Below w.heap.size w wr → ∀ j (hj : j < f.length), ∃ g o aq ac kq kc, q = some ⟨g, o, none⟩ ∧ g < wr.heap.size ∧ wr.cell? ⟨g, o + j * 5, none⟩ = some (.int .i64 f[j].kind) ∧ wr.cell? ⟨g, o + j * 5 + 1, none⟩ = some (.string f[j].name) ∧ wr.cell? ⟨g, o + j * 5 + 2, none⟩ = some (.slice aq f[j].attrs.length ac) ∧
      wr.cell? ⟨g, o + j * 5 + 3, none⟩ = some (.string f[j].text) ∧ wr.cell? ⟨g, o + j * 5 + 4, none⟩ = some (.slice kq f[j].kids.length kc) ∧
      (∀ o, Calls Tryz.prog 85 #[vTree f[j] (.slice aq f[j].attrs.length ac) (.slice kq f[j].kids.length kc)] (wr.alloc o) (RetN (.int .i64 (Pure.check f[j])) (wr.alloc o))) ∧
      (∀ w2, Below wr.heap.size wr w2 → Pure.check f[j] = 0 → Calls Tryz.prog 86 #[vTree f[j] (.slice aq f[j].attrs.length ac) (.slice kq f[j].kids.length kc)] w2 (RetN (.int .i64 (Pure.count f[j] : Int)) w2))) := by
    intro wr hb j hj
    obtain ⟨g, o, aq, ac, kq, kc, h1, h2, h3, h4, h5, h6, h7, hA, hK⟩ := (HR.out.later hb).get j hj
    have hsm := smL_get HS.out j hj
    have hbo := fun o => (Below.refl wr.heap.size wr).alloc (Nat.le_refl _) o
    exact ⟨g, o, aq, ac, kq, kc, h1, h2, h3, h4, h5, h6, h7, fun o => check_any f[j] _ _ (wr.alloc o) ((HT.out.new hb).new (hbo o)) (hA.later (hbo o)) (hK.later (hbo o)) hsm, fun w2 hb2 hc => count_any f[j] aq ac kq kc w2 (hK.later hb2) hsm (check_count hc)⟩
  have HF0 : Hid (FirstOk f 0) := ⟨Nat.zero_le _, rfl⟩
  clear HR HT HS
  go_enter Tryz.func47, Tryz.ntmps47
  go_wp2_with fail
  go_loopw [3, 12] (fun n i wr => ∃ j : Nat, FirstOk f j ∧ i = .int .i64 (j : Int) ∧ n = .int .i64 (Pure.countL (f.take j) : Int) ∧ Pure.countL (f.take j) ≤ 4096 ∧ Below w.heap.size w wr) (fun _ i _ => f.length - (intOf i).toNat)
  case atStart => exact ⟨0, HF0.out, rfl, rfl, by simp [Pure.countL], Below.refl _ _⟩
  case round =>
    obtain ⟨j, hF, rfl, rfl, hn, hb⟩ := hrel
    have Hb := Lib.hid hb
    have HF := Lib.hid hF
    have hjl := hF.1
    clear hb hF
    by_cases hlt : j < f.length
    · have hji : (j : Int) < (f.length : Int) := by omega
      obtain ⟨g, o, aq, ac, kq, kc, rfl, hg, d0, d1, d2, d3, d4, hCk, hCo⟩ := HCk.out wr Hb.out j hlt
      have HCheck := Lib.hid hCk
      unfold vTree at HCheck hCo
      have HAdd := Lib.hid (fun (o : Obj) (w2 : World) (h : Below (wr.alloc o).heap.size (wr.alloc o) w2) => (Below.thenNew (Hb.out.alloc Hb.out.size o) (by have := Hb.out.size; simp; omega) h : Below w.heap.size w w2))
      have HBr := Lib.hid (fun (o : Obj) (w2 : World) (h : Below (wr.alloc o).heap.size (wr.alloc o) w2) => (Below.thenNew ((Below.refl _ wr).alloc (Nat.le_refl _) o) (by simp) h : Below wr.heap.size wr w2))
      have HVar := Lib.hid (fun (v0 v1 v2 v3 v4 : Value) (w1 : World) (hb : Below (wr.alloc (.cells #[v0, v1, v2, v3, v4] 76)).heap.size (wr.alloc (.cells #[v0, v1, v2, v3, v4] 76)) w1) => (by
        have h2 : w1.heap[wr.heap.size]? = some (.cells #[v0, v1, v2, v3, v4] 76 (0, 0)) := by rw [hb.block wr.heap.size (by simp), heap_alloc_new]
        exact ⟨by rw [Lib.cell_of_heap h2]; rfl, by rw [Lib.cell_of_heap h2]; rfl, by rw [Lib.cell_of_heap h2]; rfl, by rw [Lib.cell_of_heap h2]; rfl, by rw [Lib.cell_of_heap h2]; rfl⟩ : w1.cell? ⟨wr.heap.size, 0, none⟩ = some v0 ∧ w1.cell? ⟨wr.heap.size, 1, none⟩ = some v1 ∧ w1.cell? ⟨wr.heap.size, 2, none⟩ = some v2 ∧ w1.cell? ⟨wr.heap.size, 3, none⟩ = some v3 ∧ w1.cell? ⟨wr.heap.size, 4, none⟩ = some v4))
      have HBad := Lib.hid (HF.out.bad hlt)
      have HNext := Lib.hid (HF.out.next hlt)
      have HCnt := Lib.hid (fun w2 => hCo w2)
      have htk := countL_take f j hlt
      have htl := countL_take_le f (j + 1)
      clear hCk hCo HF
      have hck := fun (h : Pure.check f[j] = 0) => check_count h
      generalize f[j] = t at *
      by_cases he : Pure.check t = 0
      · have hct := hck he
        have HN := Lib.hid (HNext.out he)
        have HCn := Lib.hid (fun w2 h => HCnt.out w2 h he)
        rw [he] at HCheck
        have g0 : ((0 : Int) != 0) = false := rfl
        clear HNext HCnt HBad hck he
        go_wp2_with (go_at_call 85; refine (HCheck.out _).mono ?_)
        rintro e1 w1 ⟨rfl, hb1⟩
        obtain ⟨q0, q1, q2, q3, q4⟩ := HVar.out _ _ _ _ _ _ hb1
        have HC1 := Lib.hid (HCn.out w1 (HBr.out _ _ hb1))
        have Hb1 := Lib.hid (HAdd.out _ _ hb1)
        clear hb1 HCheck HVar HBr HCn d0 d1 d2 d3 d4
        go_wp2_with (go_at_call 86; refine (HC1.out).mono ?_)
        rintro e2 w2 ⟨rfl, hb2⟩
        have Hb2 := Lib.hid (Below.thenNew Hb1.out Hb1.out.size hb2)
        clear hb2 HC1 q0 q1 q2 q3 q4
        have hs1 : (Pure.countL (f.take j) : Int) + (Pure.count t : Int) = (Pure.countL (f.take (j + 1)) : Int) := by omega
        have HE := Lib.hid hs1
        by_cases h4 : Pure.countL (f.take (j + 1)) ≤ 4096
        · have h4' : ¬ (4096 : Int) < (Pure.countL (f.take j) : Int) + (Pure.count t : Int) := by omega
          clear hs1 htk htl
          go_wp2_with fail
          go_roundw
          case rel => exact ⟨j + 1, HN.out, by go_num, by rw [← HE.out], h4, Hb2.out⟩
          case measure => simp [intOf]; omega
        · have h4' : (4096 : Int) < (Pure.countL (f.take j) : Int) + (Pure.count t : Int) := by omega
          have h4n : ¬ (Pure.countL (f.take j) : Int) + (Pure.count t : Int) ≤ 4096 := by omega
          have hbig : Pure.countL f > 4096 := by omega
          clear hs1 htk htl HE HN h4
          go_wp2_with fail
          go_loopw [32] (fun i wr => ∃ j : Nat, FirstOk f j ∧ i = .int .i64 (j : Int) ∧ Below w.heap.size w wr) (fun i _ => f.length - (intOf i).toNat)
          case atStart => exact ⟨0, HF0.out, rfl, Hb2.out⟩
          case round =>
            obtain ⟨j2, hF2, rfl, hb3⟩ := hrel
            have Hb3 := Lib.hid hb3
            have HF2 := Lib.hid hF2
            have hjl2 := hF2.1
            clear hb3 hF2
            by_cases hlt2 : j2 < f.length
            · have hji2 : (j2 : Int) < (f.length : Int) := by omega
              obtain ⟨g', o', aq', ac', kq', kc', hq', hg', x0, x1, x2, x3, x4, hCk2, _⟩ := HCk.out _ Hb3.out j2 hlt2
              simp only [Option.some.injEq, Addr.mk.injEq] at hq'
              obtain ⟨rfl, rfl, _⟩ := hq'
              have HCheck2 := Lib.hid hCk2
              unfold vTree at HCheck2
              have HAdd2 := Lib.hid (fun (o : Obj) (w3 : World) (h : Below (World.alloc _ o).heap.size (World.alloc _ o) w3) => (Below.thenNew (Hb3.out.alloc Hb3.out.size o) (by have := Hb3.out.size; simp; omega) h : Below w.heap.size w w3))
              have HBad2 := Lib.hid (HF2.out.bad hlt2)
              have HNext2 := Lib.hid (HF2.out.next hlt2)
              clear hCk2 HF2
              generalize f[j2] = t2 at *
              by_cases he2 : Pure.check t2 = 0
              · have HN2 := Lib.hid (HNext2.out he2)
                rw [he2] at HCheck2
                have g0' : ((0 : Int) != 0) = false := rfl
                clear HNext2 HBad2 he2
                go_wp2_with (go_at_call 85; refine (HCheck2.out _).mono ?_; rintro e1 w4 ⟨rfl, hb4⟩; have Hb4 := Lib.hid (HAdd2.out _ _ hb4); clear hb4)
                go_roundw
                case rel => exact ⟨j2 + 1, HN2.out, by go_num, Hb4.out⟩
                case measure => simp [intOf]; omega
              · have HV : Hid (Pure.canF f = Pure.check t2) := HBad2.out he2
                have ge : (Pure.check t2 != 0) = true := by rw [bne_iff_ne]; exact he2
                clear HNext2 HBad2 he2
                go_wp2_with (go_at_call 85; refine (HCheck2.out _).mono ?_; rintro e1 w4 ⟨rfl, hb4⟩; have Hb4 := Lib.hid (HAdd2.out _ _ hb4); clear hb4)
                go_ret
                rw [HV.out]
                exact ⟨rfl, Hb4.out⟩
            · obtain rfl : j2 = f.length := by omega
              have HV : Hid (Pure.canF f = 2) := by show _ = _; rw [HF2.out.done, if_pos hbig]
              go_wp2_with fail
              go_ret
              rw [HV.out]
              exact ⟨rfl, Hb3.out⟩
      · have HV : Hid (Pure.canF f = Pure.check t) := HBad.out he
        have ge : (Pure.check t != 0) = true := by rw [bne_iff_ne]; exact he
        clear HNext HBad HCnt hck he htk htl
        go_wp2_with (go_at_call 85; refine (HCheck.out _).mono ?_; rintro e1 w4 ⟨rfl, hb4⟩; have Hb4 := Lib.hid (HAdd.out _ _ hb4); clear hb4)
        go_ret
        rw [HV.out]
        exact ⟨rfl, Hb4.out⟩
    · obtain rfl : j = f.length := by omega
      have e1 : f.take f.length = f := List.take_length
      rw [e1] at hn ⊢
      have HV : Hid (Pure.canF f = 0) := by show _ = _; rw [HF.out.done, if_neg (by omega)]
      have hle : (Pure.countL f : Int) ≤ 4096 := by omega
      go_wp2_with fail
      go_ret
      rw [HV.out]
      exact ⟨rfl, Hb.out⟩
end Go.Proofs.YtipfakmbjajhlaaGreatDoor 
end

section
set_option linter.unusedVariables false
set_option linter.unusedSimpArgs false
namespace Go.Proofs.YtipfakmbjajhlaaGreatDoor 
open Go.RowKit Go.Shelf
/-- Blocks of other kinds than the writer's are as they were. -/
def Kept (w w' : World) : Prop := ∀ (k : Nat) (c : Array Value) (e : TypeId) (f : Nat × Nat), w.heap[k]? = some (Obj.cells c e f) → e ≠ 85 → e ≠ 5 → w'.heap[k]? = w.heap[k]?
theorem Kept.refl (w : World) : Kept w w := fun _ _ _ _ _ _ _ => rfl
theorem Kept.trans {a b c : World} (h : Kept a b) (k : Kept b c) : Kept a c := fun i cs e f hi h1 h2 => by
  have := h i cs e f hi h1 h2
  rw [← this]
  exact k i cs e f (by rw [this]; exact hi) h1 h2
theorem Kept.below {w w' : World} (h : Below w.heap.size w w') : Kept w w' := fun k c e f hk _ _ => h.block k (lt_of_block hk)
structure WInv (B wb : Nat) (b : Pure.Bytes) (w : World) : Prop where
  cells : ∃ p v, w.heap[wb]? = some (.cells #[p, v] 85 (0, 0)) ∧ (p = .pointer none ∨ p = .pointer (some ⟨wb, 0, none⟩)) ∧ BufAt w B v b
  base : B ≤ wb
  room : B ≤ w.heap.size
  tabs : Tabs w
  glob : 9 ≤ B
  few : b.length ≤ 1000000
def WOut (B wb : Nat) (w : World) (b' : Pure.Bytes) (e : Ending) (w' : World) : Prop := e = .returned (.tuple #[]) ∧ WInv B wb b' w' ∧ Below B w w' ∧ Kept w w'
theorem placeWriter : Place 85 2 0 := ⟨by kernel_rfl, by decide⟩
theorem WInv.later {B wb : Nat} {b : Pure.Bytes} {w w' : World} (h : WInv B wb b w) (hb : Below w.heap.size w w') : WInv B wb b w' := by
  obtain ⟨p, v, h1, h2, h3⟩ := h.cells
  have hk : ∀ i, i < w.heap.size → w'.heap[i]? = w.heap[i]? := fun i hi => hb.block i hi
  exact ⟨⟨p, v, by rw [hk _ (lt_of_block h1)]; exact h1, h2, owns_keep h3.1 fun i hi => hk i (h3.1.lt i hi).2, h3.2⟩, h.base, Nat.le_trans h.room hb.size, h.tabs.new hb, h.glob, h.few⟩
set_option maxRecDepth 100000 in
theorem wfull_any {B wb : Nat} {b : Pure.Bytes} {w : World} (h : WInv B wb b w) : Calls Tryz.prog 49 #[.pointer (some ⟨wb, 0, none⟩)] w (RetB (Pure.full b) w) := by
  obtain ⟨p, v, h1, _, h3⟩ := h.cells
  obtain ⟨q, c, hv⟩ := h3.form
  have c1 : w.cell? ⟨wb, 0 + 1, none⟩ = some v := by rw [Lib.cell_of_heap h1]; rfl
  have HL := Lib.hid (bLen_any wb 0 v b.length q c w hv c1)
  have hf : Pure.full b = decide ((262144 : Int) < (b.length : Int)) := by
    unfold Pure.full; rw [decide_eq_decide]; omega
  rw [hf]
  have hfew := h.few
  clear h h1 h3 hv c1 hf
  go_enter Tryz.func49, Tryz.ntmps49
  go_wp2_with (go_at_call 91; refine (HL.out).mono ?_; rintro e' w1 ⟨rfl, rfl⟩)
  all_goals
    go_ret
    exact ⟨rfl, rfl⟩
/-- A string more. -/
theorem wwrite_any {B wb : Nat} {b : Pure.Bytes} {w : World} (h : WInv B wb b w) (s : ByteArray) (hs : b.length + s.size ≤ 1000000) : Calls Tryz.prog 99 #[.pointer (some ⟨wb, 0, none⟩), .string s] w fun e w' => e = .returned (.tuple #[.int .i64 s.size, .nilIface]) ∧ WInv B wb (b ++ Pure.toL s) w' ∧ Below B w w' ∧ Kept w w' := by
  obtain ⟨p, v, h1, h2, h3⟩ := h.cells
  refine (bWrite_any wb 0 _ 85 B p v b s w h1 rfl rfl placeWriter h2 (by decide) h3 h.room (by omega)).mono ?_
  rintro e w' ⟨rfl, v', k1, k2, k3⟩
  have hb : Below B w w' := k3.below h.room (by rintro i (rfl | hi); exact h.base; exact (h3.1.lt i hi).1)
  refine ⟨rfl, ⟨⟨_, v', k2, .inr rfl, k1⟩, h.base, Nat.le_trans h.room hb.size, h.tabs.below hb h.glob, h.glob, ?_⟩, hb, ?_⟩
  · rw [List.length_append, Pure.length_toL]; exact hs
  · intro k c e f hk n1 n2
    refine k3.block k (lt_of_block hk) ?_
    rintro (rfl | hv)
    · have := hk.symm.trans h1
      simp at this
      exact n1 this.2.1
    · exact h3.ne hk n2 hv
theorem puts_take (b : Pure.Bytes) (ss : List ByteArray) (i : Nat) (h : i < ss.length) : Pure.puts b ((ss.take (i + 1)).map Pure.toL) = Pure.put (Pure.puts b ((ss.take i).map Pure.toL)) (Pure.toL ss[i]) := by
  rw [List.take_succ_eq_append_getElem h, List.map_append]
  unfold Pure.puts
  rw [List.foldl_append]; rfl
/-- Strings that lie in a row. -/
def StrsAt (w : World) (g o : Nat) (ss : List ByteArray) : Prop := (∃ cs f, w.heap[g]? = some (.cells cs 9 f)) ∧ ∀ i (h : i < ss.length), w.cell? ⟨g, o + i, none⟩ = some (.string ss[i])
theorem StrsAt.kept {w w' : World} {g o : Nat} {ss : List ByteArray} (h : StrsAt w g o ss) (hk : Kept w w') : StrsAt w' g o ss := by
  obtain ⟨⟨cs, f, h1⟩, h2⟩ := h
  have h3 := hk g cs _ f h1 (by decide) (by decide)
  exact ⟨⟨cs, f, by rw [h3]; exact h1⟩, fun i hi => by rw [World.cell?_of_block (w := w) h3]; exact h2 i hi⟩
set_option maxRecDepth 100000 in
set_option maxHeartbeats 1600000 in
theorem put_any {B wb : Nat} {b : Pure.Bytes} {w : World} (h : WInv B wb b w) (g o c : Nat) (ss : List ByteArray) (hss : StrsAt w g o ss) (hn : ss.length ≤ 100) (hsz : ∀ s ∈ ss, s.size ≤ 300000) :
    Calls Tryz.prog 88 #[.pointer (some ⟨wb, 0, none⟩), .slice (some ⟨g, o, none⟩) ss.length c] w (WOut B wb w (Pure.puts b (ss.map Pure.toL))) := by
  have H := Lib.hid h
  have HS := Lib.hid hss
  have HZ := Lib.hid hsz
  clear h hss hsz
  go_enter Tryz.func88, Tryz.ntmps88
  go_wp2_with fail
  go_loopw [8] (fun i wr => ∃ j : Nat, j ≤ ss.length ∧ i = .int .i64 (j : Int) ∧ WInv B wb (Pure.puts b ((ss.take j).map Pure.toL)) wr ∧ Below B w wr ∧ Kept w wr) (fun i _ => ss.length - (intOf i).toNat)
  case atStart => exact ⟨0, Nat.zero_le _, rfl, H.out, Below.refl _ _, Kept.refl _⟩
  case round =>
    obtain ⟨j, hj, rfl, hI, hb, hk⟩ := hrel
    have HI := Lib.hid hI
    have Hb := Lib.hid hb
    have HK := Lib.hid hk
    clear hI hb hk
    by_cases hlt : j < ss.length
    · have hji : (j : Int) < (ss.length : Int) := by omega
      have hcell := (HS.out.kept HK.out).2 j hlt
      have htk := puts_take b ss j hlt
      have hz := HZ.out _ (List.getElem_mem hlt)
      generalize ss[j] = s at *
      cases hf : Pure.full (Pure.puts b ((ss.take j).map Pure.toL)) with
      | true =>
        have hV : Hid (Pure.puts b ((ss.take (j + 1)).map Pure.toL) = Pure.puts b ((ss.take j).map Pure.toL)) := by show _ = _; rw [htk]; unfold Pure.put; rw [hf]; rfl
        have HF := Lib.hid (wfull_any HI.out)
        rw [hf] at HF
        clear htk hf hz
        go_wp2_with (go_at_call 49; refine (HF.out).mono ?_; rintro e' w1 ⟨rfl, rfl⟩)
        go_roundw
        case rel => exact ⟨j + 1, by omega, by go_num, by rw [hV.out]; exact HI.out, Hb.out, HK.out⟩
        case measure => simp [intOf]; omega
      | false =>
        have hV : Hid (Pure.puts b ((ss.take (j + 1)).map Pure.toL) = Pure.puts b ((ss.take j).map Pure.toL) ++ Pure.toL s) := by show _ = _; rw [htk]; unfold Pure.put; rw [hf]; rfl
        have HF := Lib.hid (wfull_any HI.out)
        have hle : (Pure.puts b ((ss.take j).map Pure.toL)).length ≤ 262144 := by
          unfold Pure.full at hf; simpa using hf
        have HW := Lib.hid (wwrite_any HI.out s (by omega))
        rw [hf] at HF
        clear htk hf hz hle
        go_wp2_with (first | (go_at_call 49; refine (HF.out).mono ?_; rintro e' w1 ⟨rfl, rfl⟩) | (go_at_call 99; refine (HW.out).mono ?_; rintro e' w2 ⟨rfl, hI2, hb2, hk2⟩; have HI2 := Lib.hid hI2; have Hb2 := Lib.hid (Hb.out.trans hb2); have HK2 := Lib.hid (HK.out.trans hk2); clear hI2 hb2 hk2))
        go_roundw
        case rel => exact ⟨j + 1, by omega, by go_num, by rw [hV.out]; exact HI2.out, Hb2.out, HK2.out⟩
        case measure => simp [intOf]; omega
    · obtain rfl : j = ss.length := by omega
      have e1 : ss.take ss.length = ss := List.take_length
      have HI3 := HI.out
      rw [e1] at HI3
      have HI4 := Lib.hid HI3
      clear HI3 e1
      go_wp2_with fail
      go_end0
      exact ⟨rfl, HI4.out, Hb.out, HK.out⟩
end Go.Proofs.YtipfakmbjajhlaaGreatDoor 
end

section
set_option linter.unusedVariables false
set_option linter.unusedSimpArgs false
namespace Go.Proofs.YtipfakmbjajhlaaGreatDoor 
open Go.RowKit Go.Shelf
/-- Strings that were just laid down are put. -/
theorem put_new {B wb : Nat} {b : Pure.Bytes} {w : World} (h : WInv B wb b w) (ss : List ByteArray) (cs : Array Value) (hcs : cs = (ss.map Value.string).toArray) (n hh : Nat) (hn : n = ss.length) (hh' : w.heap.size = hh) (hl : ss.length ≤ 100) (hsz : ∀ s ∈ ss, s.size ≤ 300000) :
    Calls Tryz.prog 88 #[.pointer (some ⟨wb, 0, none⟩), .slice (some ⟨hh, 0, none⟩) n n] (w.alloc (.cells cs 9)) (WOut B wb w (Pure.puts b (ss.map Pure.toL))) := by
  subst hn hh'
  have hb := (Below.refl w.heap.size w).alloc (Nat.le_refl _) (.cells cs 9)
  have hnew := heap_alloc_new w (.cells cs 9)
  have hss : StrsAt (w.alloc (.cells cs 9)) w.heap.size 0 ss := by
    refine ⟨⟨_, _, hnew⟩, fun i hi => ?_⟩
    rw [Lib.cell_of_heap hnew, hcs]
    simp [hi]
  refine (put_any (h.later hb) w.heap.size 0 ss.length ss hss hl hsz).mono ?_
  rintro e w' ⟨h1, h2, h3, h4⟩
  exact ⟨h1, h2, ((Below.refl B w).alloc h.room _).trans h3, (Kept.below hb).trans h4⟩
theorem escB_len (q : Bool) : ∀ (t : Pure.Bytes), (Pure.escB q t).length ≤ 6 * t.length
  | [] => by simp [Pure.escB]
  | b :: t => by
    have h1 := escB_len q t
    have h2 : (Pure.escByte q b).length ≤ 6 := by
      unfold Pure.escByte
      repeat' split
      all_goals simp
    have e : Pure.escB q (b :: t) = Pure.escByte q b ++ Pure.escB q t := by simp [Pure.escB]
    rw [e, List.length_append, List.length_cons]
    omega
set_option maxRecDepth 100000 in
set_option maxHeartbeats 1600000 in
theorem escaped_any {B wb : Nat} {b : Pure.Bytes} {w : World} (h : WInv B wb b w) (s : ByteArray) (q : Bool) (hg : Pure.Good (Pure.toL s)) (hl : (Pure.toL s).length ≤ 16384) :
    Calls Tryz.prog 87 #[.pointer (some ⟨wb, 0, none⟩), .string s, .bool q] w (WOut B wb w (Pure.put b (Pure.escOf s q))) := by
  have hsz : s.size ≤ 16384 := by rw [← Pure.length_toL]; exact hl
  have HE := Lib.hid (Escape_any s q w h.tabs (by omega))
  have hel : (Pure.escOf s q).length ≤ 98304 := by
    rw [Pure.escOf_eq hg hl]; have := escB_len q (Pure.toL s); omega
  have HP := Lib.hid (fun (w1 : World) (hb : Below w.heap.size w w1) => (by
    have h2 := put_new (h.later hb) [Pure.ofL (Pure.escOf s q)] #[.string (Pure.ofL (Pure.escOf s q))] rfl 1 w1.heap.size rfl rfl (by simp) (by intro x hx; simp at hx; subst hx; show (Pure.ofL _).size ≤ _; rw [← Pure.length_toL, Pure.toL_ofL]; omega)
    refine h2.mono ?_
    rintro e w' ⟨k1, k2, k3, k4⟩
    exact ⟨k1, k2, (hb.mono h.room).trans k3, (Kept.below hb).trans k4⟩ :
    Calls Tryz.prog 88 #[.pointer (some ⟨wb, 0, none⟩), .slice (some ⟨w1.heap.size, 0, none⟩) 1 1] (w1.alloc (.cells #[.string (Pure.ofL (Pure.escOf s q))] 9)) (WOut B wb w (Pure.put b (Pure.escOf s q)))))
  have e1 : Pure.escOf s q = (Pure.escape (Pure.toL s) q).1 := rfl
  rw [e1] at HP ⊢
  clear h hg hl hel e1
  generalize Pure.escape (Pure.toL s) q = R at *
  obtain ⟨r1, r2, r3⟩ := R
  go_enter Tryz.func87, Tryz.ntmps87
  go_wp2_with (go_at_call 56; refine (HE.out).mono ?_)
  rintro e1 w1 ⟨rfl, hb1⟩
  have HP1 := Lib.hid (HP.out w1 hb1)
  clear hb1 HE HP
  unfold vText
  go_wp2_with (go_at_call 88; refine (HP1.out).mono ?_)
  rintro e2 w2 ⟨rfl, ho⟩
  have Ho := Lib.hid ho
  clear ho HP1
  go_wp2_with fail
  go_end0
  exact ⟨rfl, Ho.out⟩
/-! ### Whether a child shows -/
set_option maxRecDepth 100000 in
theorem shows_any (t : Pure.Tree) (aq : Option Addr) (an ac : Nat) (kq : Option Addr) (kn kc : Nat) (w : World) : Calls Tryz.prog 90 #[.agg #[.int .i64 t.kind, .string t.name, .slice aq an ac, .string t.text, .slice kq kn kc]] w (RetN (.bool (Pure.shows t)) w) := by
  have HB := Lib.hid (fun o => (Below.refl w.heap.size w).alloc (Nat.le_refl _) o)
  by_cases h1 : t.kind = 1
  · have hV : Pure.shows t = true := by unfold Pure.shows; rw [h1]; rfl
    rw [hV, h1]
    clear hV h1
    go_enter Tryz.func90, Tryz.ntmps90
    go_wp2
    go_ret
    exact ⟨rfl, HB.out _⟩
  · have g1 : (t.kind == 1) = false := beq_eq_false_iff_ne.2 h1
    by_cases h2 : Pure.toL t.text = []
    · have hV : Pure.shows t = false := by unfold Pure.shows; rw [g1, decide_eq_true h2]; rfl
      have hE : t.text = ⟨#[]⟩ := Pure.toL_inj h2
      rw [hV, hE]
      clear hV h1 h2 hE
      go_enter Tryz.func90, Tryz.ntmps90
      go_wp2
      go_ret
      exact ⟨rfl, HB.out _⟩
    · have hV : Pure.shows t = true := by unfold Pure.shows; rw [g1, decide_eq_false h2]; rfl
      have hl : t.text.toList = Pure.toL t.text := ByteArray.toList_eq _
      have hE : t.text.toList.isEmpty = false := by rw [hl]; cases h : Pure.toL t.text with | nil => exact absurd h h2 | cons => rfl
      have hE2 : (t.text.toList == []) = false := by rw [hl]; exact beq_eq_false_iff_ne.2 h2
      rw [hV]
      clear hV h1 h2 hl
      go_enter Tryz.func90, Tryz.ntmps90
      go_wp2
      go_ret
      exact ⟨rfl, HB.out _⟩
def IdxPost (l : List Pure.Tree) (w : World) (e : Ending) (w' : World) : Prop := ∃ i : Int, e = .returned (.int .i64 i) ∧ (l.any Pure.shows = true → 0 ≤ i) ∧ (l.any Pure.shows = false → i < 0) ∧ Below w.heap.size w w'
theorem any_take {l : List Pure.Tree} {j : Nat} (h : j < l.length) : (l.take (j + 1)).any Pure.shows = ((l.take j).any Pure.shows || Pure.shows l[j]) := by
  rw [List.take_succ_eq_append_getElem h, List.any_append]; simp
theorem any_of_get {l : List Pure.Tree} {j : Nat} (h : j < l.length) (hs : Pure.shows l[j] = true) : l.any Pure.shows = true := List.any_eq_true.2 ⟨_, List.getElem_mem h, hs⟩
set_option maxRecDepth 100000 in
set_option maxHeartbeats 1600000 in
theorem indexShows_any (l : List Pure.Tree) (q : Option Addr) (c : Nat) (w : World) (hr : RdL w (.slice q l.length c) l) (hlen : l.length ≤ 140737488355328) :
    Calls Tryz.prog 113 #[.slice q l.length c, .func (.func 90) #[] #[]] w (IdxPost l w) := by
  have HR := Lib.hid hr
  have eg : ∀ args w, (callFunc 90 args).run Tryz.prog w = .ok (.enter 90 args) w := enters_of Tryz.func90 (by kernel_rfl) rfl
  clear hr
  go_enter Tryz.func113, Tryz.ntmps113
  go_wp2_with fail
  go_loopw [8] (fun i wr => ∃ j : Nat, j ≤ l.length ∧ i = .int .i64 (j : Int) ∧ (l.take j).any Pure.shows = false ∧ Below w.heap.size w wr) (fun i _ => l.length - (intOf i).toNat)
  case atStart => exact ⟨0, Nat.zero_le _, rfl, by simp, Below.refl _ _⟩
  case round =>
    obtain ⟨j, hj, rfl, ha, hb⟩ := hrel
    have Hb := Lib.hid hb
    have HA := Lib.hid ha
    clear hb ha
    by_cases hlt : j < l.length
    · have hji : (j : Int) < (l.length : Int) := by omega
      obtain ⟨g, o, aq', ac', kq', kc', rfl, hg, d0, d1, d2, d3, d4, _, _⟩ := (HR.out.later Hb.out).get j hlt
      have HCall := Lib.hid (shows_any l[j] aq' l[j].attrs.length ac' kq' l[j].kids.length kc' wr)
      have htk := any_take hlt
      have hof := any_of_get (l := l) hlt
      generalize l[j] = t at *
      cases hs : Pure.shows t with
      | true =>
        have hT := hof hs
        rw [hs] at HCall
        have HT := Lib.hid hT
        clear htk hof hs hT
        go_wp2_with (refine (HCall.out).mono ?_; rintro e1 w1 ⟨rfl, hb1⟩; have Hb1 := Lib.hid (Below.thenNew Hb.out Hb.out.size hb1); clear hb1)
        go_ret
        exact ⟨j, rfl, fun _ => by omega, fun h => by rw [HT.out] at h; exact absurd h (by decide), Hb1.out⟩
      | false =>
        rw [hs] at HCall htk
        have HN : Hid ((l.take (j + 1)).any Pure.shows = false) := by show _ = _; rw [htk, HA.out]; rfl
        clear htk hof hs
        go_wp2_with (refine (HCall.out).mono ?_; rintro e1 w1 ⟨rfl, hb1⟩; have Hb1 := Lib.hid (Below.thenNew Hb.out Hb.out.size hb1); clear hb1)
        go_roundw
        case rel => exact ⟨j + 1, by omega, by go_num, HN.out, Hb1.out⟩
        case measure => simp [intOf]; omega
    · obtain rfl : j = l.length := by omega
      have e1 : l.take l.length = l := List.take_length
      have HF : Hid (l.any Pure.shows = false) := by show _ = _; rw [← e1]; exact HA.out
      clear e1
      go_wp2_with fail
      go_ret
      exact ⟨-1, rfl, fun h => by rw [HF.out] at h; exact absurd h (by decide), fun _ => by omega, Hb.out⟩
set_option maxRecDepth 100000 in
theorem containsShows_any (l : List Pure.Tree) (q : Option Addr) (c : Nat) (w : World) (hr : RdL w (.slice q l.length c) l) (hlen : l.length ≤ 140737488355328) :
    Calls Tryz.prog 89 #[.slice q l.length c, .func (.func 90) #[] #[]] w (RetN (.bool (l.any Pure.shows)) w) := by
  have HI := Lib.hid (indexShows_any l q c w hr hlen)
  clear hr
  go_enter Tryz.func89, Tryz.ntmps89
  go_wp2_with (go_at_call 113; refine (HI.out).mono ?_)
  rintro e1 w1 ⟨i, rfl, h1, h2, hb⟩
  have Hb := Lib.hid hb
  clear hb
  cases hs : l.any Pure.shows with
  | true =>
    have h3 := h1 hs
    have Hs := Lib.hid hs
    clear h1 h2 hs HI
    go_wp2_with fail
    go_ret
    refine ⟨?_, Hb.out⟩
    rw [Hs.out]; simp [h3]
  | false =>
    have h3 := h2 hs
    have h4 : ¬ 0 ≤ i := by omega
    have Hs := Lib.hid hs
    clear h1 h2 hs h3 HI
    go_wp2_with fail
    go_ret
    refine ⟨?_, Hb.out⟩
    rw [Hs.out]; simp [h4]
end Go.Proofs.YtipfakmbjajhlaaGreatDoor 
end

section
set_option linter.unusedVariables false
set_option linter.unusedSimpArgs false
namespace Go.Proofs.YtipfakmbjajhlaaGreatDoor 
open Go.RowKit Go.Shelf
theorem foldl_take (b : Pure.Bytes) (a : List Pure.Attr) (i : Nat) (h : i < a.length) : (a.take (i + 1)).foldl Pure.writeAttr b = Pure.writeAttr ((a.take i).foldl Pure.writeAttr b) a[i] := by
  rw [List.take_succ_eq_append_getElem h, List.foldl_append]; rfl
theorem writeL_append : ∀ (l r : List Pure.Tree) (b : Pure.Bytes), Pure.writeL b (l ++ r) = Pure.writeL (Pure.writeL b l) r
  | [], r, b => rfl
  | t :: l, r, b => by
    show Pure.writeL (Pure.write b t) (l ++ r) = _
    rw [writeL_append l r]; rfl
theorem writeL_take (b : Pure.Bytes) (l : List Pure.Tree) (i : Nat) (h : i < l.length) : Pure.writeL b (l.take (i + 1)) = Pure.write (Pure.writeL b (l.take i)) l[i] := by
  rw [List.take_succ_eq_append_getElem h, writeL_append]; rfl
theorem okL_get : ∀ {l : List Pure.Tree}, Pure.okL l → ∀ i (h : i < l.length), Pure.okT l[i]
  | [], _, i, h => absurd h (Nat.not_lt_zero _)
  | t :: r, h, 0, _ => h.1
  | t :: r, h, i + 1, hi => okL_get h.2 i (Nat.lt_of_succ_lt_succ hi)
/-- A variable of a tree's kind is as it was. -/
def VarT (H : Nat) (cs : Array Value) (w : World) : Prop := w.heap[H]? = some (.cells cs 76 (0, 0))
theorem VarT.kept {H : Nat} {cs : Array Value} {w w' : World} (h : VarT H cs w) (hk : Kept w w') : VarT H cs w' := by
  unfold VarT at *
  rw [hk H cs _ _ h (by decide) (by decide)]; exact h
def VarA1 (H : Nat) (cs : Array Value) (w : World) : Prop := w.heap[H]? = some (.cells cs 98 (0, 0))
theorem VarA1.kept {H : Nat} {cs : Array Value} {w w' : World} (h : VarA1 H cs w) (hk : Kept w w') : VarA1 H cs w' := by
  unfold VarA1 at *
  rw [hk H cs _ _ h (by decide) (by decide)]; exact h
theorem nm_small {n : ByteArray} (h : Pure.isName (Pure.toL n) = true) : n.size ≤ 32 := by
  obtain ⟨_, _, _, _, _, h1⟩ := Pure.isName_all h
  rw [Pure.length_toL] at h1; exact h1
/-- What a step of the writer needs of the world in which the tree began. -/
theorem WOut.from {B wb : Nat} {w w1 : World} {b' : Pure.Bytes} {e : Ending} {w' : World} (h : WOut B wb w1 b' e w') (hb : Below B w w1) (hk : Kept w w1) : WOut B wb w b' e w' := ⟨h.1, h.2.1, hb.trans h.2.2.1, hk.trans h.2.2.2⟩
def TreeW (m : Nat) : Prop := ∀ (k : Int) (nm : ByteArray) (a : List Pure.Attr) (tx : ByteArray) (kids : List Pure.Tree) (B wb : Nat) (b : Pure.Bytes) (w : World) (aq : Option Addr) (ac : Nat) (kq : Option Addr) (kc : Nat),
  SizeOf.sizeOf (Pure.Tree.mk k nm a tx kids) ≤ m → WInv B wb b w → AttrsAt w (fun i => i < B) (.slice aq a.length ac) a → TreesAt w (fun i => i < B) (.slice kq kids.length kc) kids → smT (.mk k nm a tx kids) → Pure.okT (.mk k nm a tx kids) →
  Calls Tryz.prog 48 #[.pointer (some ⟨wb, 0, none⟩), .agg #[.int .i64 k, .string nm, .slice aq a.length ac, .string tx, .slice kq kids.length kc]] w (WOut B wb w (Pure.write b (.mk k nm a tx kids)))
set_option maxRecDepth 100000 in
set_option maxHeartbeats 6400000 in
theorem tree_at (m : Nat) (IH : TreeW m) : TreeW (m + 1) := by
  intro k nm a tx kids B wb b w aq ac kq kc hm hI ha hk hsm hok
  obtain ⟨s1, s2, s3, s4, s5⟩ := hsm
  unfold Pure.okT at hok
  have hbo := fun o => (Below.refl w.heap.size w).alloc (Nat.le_refl _) o
  have HF := Lib.hid (fun o => wfull_any (hI.later (hbo o)))
  cases hf : Pure.full b with
  | true =>
    have hV : Pure.write b (.mk k nm a tx kids) = b := by unfold Pure.write; rw [if_pos hf]
    rw [hV]
    rw [hf] at HF
    have HO := Lib.hid (fun o => (⟨hI.later (hbo o), (hbo o).mono hI.room, Kept.below (hbo o)⟩ : WInv B wb b (w.alloc o) ∧ Below B w (w.alloc o) ∧ Kept w (w.alloc o)))
    clear hV hf hbo hI ha hk s1 s2 s3 s4 s5 hok IH hm
    go_enter Tryz.func48, Tryz.ntmps48
    go_wp2_with (go_at_call 49; refine (HF.out _).mono ?_; rintro e' w1 ⟨rfl, rfl⟩)
    go_end0
    exact ⟨rfl, HO.out _⟩
  | false =>
    rw [hf] at HF
    rcases hok with ⟨h1, hnm, haok, hkok⟩ | ⟨h2, hg, hl⟩
    · subst h1
      have g2 : ((1 : Int) == 2) = false := rfl
      have hns := nm_small hnm
      have hV : Hid (Pure.write b (.mk 1 nm a tx kids) = if kids.any Pure.shows = false then Pure.put (a.foldl Pure.writeAttr (Pure.puts b [[60], Pure.toL nm])) [47, 62] else Pure.puts (Pure.writeL (Pure.put (a.foldl Pure.writeAttr (Pure.puts b [[60], Pure.toL nm])) [62]) kids) [[60, 47], Pure.toL nm, [62]]) := by
        show _ = _
        conv => lhs; unfold Pure.write
        rw [if_neg (by rw [hf]; decide), if_neg (by decide)]
      have HP1 := Lib.hid (fun (o : Obj) (n : Nat) (hn : (w.alloc o).heap.size = n) => (put_new (hI.later (hbo o)) [⟨#[60]⟩, nm] #[.string ⟨#[60]⟩, .string nm] rfl 2 n rfl hn (by simp) (by intro x hx; simp at hx; rcases hx with rfl | rfl; decide; omega)).mono fun e w' h => (⟨h.from ((hbo o).mono hI.room) (Kept.below (hbo o)), h.2.2.2⟩ : WOut B wb w (Pure.puts b [[60], Pure.toL nm]) e w' ∧ Kept (w.alloc o) w'))
      have HVar := Lib.hid (fun (v0 v1 v2 v3 v4 : Value) (w1 : World) (h : Kept (w.alloc (.cells #[v0, v1, v2, v3, v4] 76)) w1) => (VarT.kept (H := w.heap.size) (cs := #[v0, v1, v2, v3, v4]) (heap_alloc_new _ _) h))
      have HA := Lib.hid ha
      have HK := Lib.hid hk
      have HAok := Lib.hid haok.1
      have HKok := Lib.hid hkok
      have HS5 := Lib.hid s5
      have HIH := Lib.hid IH
      have Hm := Lib.hid hm
      have hal := haok.2.2
      have hroom := hI.room
      clear ha hk haok hkok s1 s2 s3 s5 IH hm hI hbo hf hnm
      go_enter Tryz.func48, Tryz.ntmps48
      go_wp2_with (first | (go_at_call 49; refine (HF.out _).mono ?_; rintro e' w1 ⟨rfl, rfl⟩) | (go_at_call 88; refine (HP1.out _ _ (by simp)).mono ?_))
      rintro e1 w1 ⟨⟨rfl, hI1, hb1, hkk1⟩, hk1⟩
      have HKw1 := Lib.hid hkk1
      clear hkk1
      have hvar1 := HVar.out _ _ _ _ _ _ hk1
      have x2 : w1.cell? ⟨w.heap.size, 2, none⟩ = some (.slice aq a.length ac) := by rw [Lib.cell_of_heap hvar1]; rfl
      have HI1 := Lib.hid hI1
      have Hb1 := Lib.hid hb1
      have HVar1 := Lib.hid hvar1
      clear hI1 hb1 hk1 hvar1 HP1 HVar HF
      go_wp2_with fail
      clear x2
      go_loopw [25] (fun i wr => ∃ j : Nat, j ≤ a.length ∧ i = .int .i64 (j : Int) ∧ WInv B wb ((a.take j).foldl Pure.writeAttr (Pure.puts b [[60], Pure.toL nm])) wr ∧ Below B w wr ∧ Kept w wr ∧ VarT w.heap.size #[.int .i64 1, .string nm, .slice aq a.length ac, .string tx, .slice kq kids.length kc] wr) (fun i _ => a.length - (intOf i).toNat)
      case atStart => exact ⟨0, Nat.zero_le _, rfl, HI1.out, Hb1.out, HKw1.out, HVar1.out⟩
      case round =>
        obtain ⟨j, hj, rfl, hI, hb, hkw, hv⟩ := hrel
        have HKw := Lib.hid hkw
        clear hkw
        have HI := Lib.hid hI
        have Hb := Lib.hid hb
        have HV := Lib.hid hv
        clear hI hb hv
        by_cases hlt : j < a.length
        · have hji : (j : Int) < (a.length : Int) := by omega
          have hAr := (HA.out.keep (w' := wr) fun i hi => Hb.out.block i hi)
          obtain ⟨q', c', he, hcc, hcell⟩ := hAr
          simp only [Value.slice.injEq] at he
          obtain ⟨rfl, _, rfl⟩ := he
          rcases hcell with h0 | ⟨g, o, rfl, hg, hcs⟩
          · rw [h0] at hlt; simp at hlt
          obtain ⟨d0, d1⟩ := hcs j hlt
          have e2 : o + 2 * j = o + j * 2 := by omega
          rw [e2] at d0 d1
          have haj := HAok.out _ (List.getElem_mem hlt)
          have hfold := foldl_take (Pure.puts b [[60], Pure.toL nm]) a j hlt
          have hgr : g < wr.heap.size := Nat.lt_of_lt_of_le hg HI.out.room
          clear hcs
          generalize a[j] = at_ at *
          have hbo := fun o => (Below.refl wr.heap.size wr).alloc (Nat.le_refl _) o
          have hn32 := nm_small haj.name
          have HQ1 := Lib.hid (fun (o : Obj) (n : Nat) (hn : (wr.alloc o).heap.size = n) => (put_new (HI.out.later (hbo o)) [⟨#[32]⟩, at_.name, ⟨#[61, 34]⟩] #[.string ⟨#[32]⟩, .string at_.name, .string ⟨#[61, 34]⟩] rfl 3 n rfl hn (by simp) (by intro x hx; simp at hx; rcases hx with rfl | rfl | rfl; decide; omega; decide)).mono fun e w' h => (⟨h.from ((hbo o).mono HI.out.room) (Kept.below (hbo o)), h.2.2.2⟩ : WOut B wb wr (Pure.puts ((a.take j).foldl Pure.writeAttr (Pure.puts b [[60], Pure.toL nm])) [[32], Pure.toL at_.name, [61, 34]]) e w' ∧ Kept (wr.alloc o) w'))
          have HVr := Lib.hid (fun (v0 v1 : Value) (w1 : World) (h : Kept (wr.alloc (.cells #[v0, v1] 98)) w1) => (VarA1.kept (H := wr.heap.size) (cs := #[v0, v1]) (heap_alloc_new _ _) h))
          have HFo := Lib.hid hfold
          have HAj := Lib.hid haj
          clear hbo hfold haj hcc
          go_wp2_with (go_at_call 88; refine (HQ1.out _ _ (by simp)).mono ?_)
          rintro e1 w2 ⟨⟨rfl, hI2, hb2, hk2⟩, hk2'⟩
          have hva := HVr.out _ _ _ hk2'
          have y1 : w2.cell? ⟨wr.heap.size, 1, none⟩ = some (.string at_.value) := by rw [Lib.cell_of_heap hva]; rfl
          have HE := Lib.hid (escaped_any hI2 at_.value true HAj.out.good HAj.out.len)
          have Hb2 := Lib.hid (Hb.out.trans hb2)
          have HK2 := Lib.hid hk2
          clear hI2 hb2 hk2 hk2' hva HQ1 HVr d0 d1
          go_wp2_with (go_at_call 87; refine (HE.out).mono ?_)
          rintro e2 w3 ⟨rfl, hI3, hb3, hk3⟩
          have HQ3 := Lib.hid (put_new hI3 [⟨#[34]⟩] #[.string ⟨#[34]⟩] rfl 1 w3.heap.size rfl rfl (by simp) (by intro x hx; simp at hx; subst hx; decide))
          have Hb3 := Lib.hid (Hb2.out.trans hb3)
          have HK3 := Lib.hid (HK2.out.trans hk3)
          clear hI3 hb3 hk3 HE y1
          go_wp2_with (go_at_call 88; refine (HQ3.out).mono ?_)
          rintro e3 w4 ⟨rfl, hI4, hb4, hk4⟩
          have hI4' : WInv B wb ((a.take (j + 1)).foldl Pure.writeAttr (Pure.puts b [[60], Pure.toL nm])) w4 := by rw [HFo.out]; exact hI4
          have HI4 := Lib.hid hI4'
          have Hb4 := Lib.hid (Hb3.out.trans hb4)
          have HV4 := Lib.hid (HV.out.kept (HK3.out.trans hk4))
          have HKw4 := Lib.hid (HKw.out.trans (HK3.out.trans hk4))
          clear hI4 hI4' hb4 hk4 HQ3
          go_wp2_with fail
          go_roundw
          case rel => exact ⟨j + 1, by omega, by go_num, HI4.out, Hb4.out, HKw4.out, HV4.out⟩
          case measure => simp [intOf]; omega
        · obtain rfl : j = a.length := by omega
          have e1 : a.take a.length = a := List.take_length
          have hI' := HI.out
          rw [e1] at hI'
          have HIa := Lib.hid hI'
          have z4 : wr.cell? ⟨w.heap.size, 4, none⟩ = some (.slice kq kids.length kc) := by rw [Lib.cell_of_heap HV.out]; rfl
          have hkr : TreesAt wr (fun i => i < B) (.slice kq kids.length kc) kids := HK.out.keep fun i hi => Hb.out.block i hi
          have HCo := Lib.hid (containsShows_any kids kq kc wr (hkr.mono (fun i hi => Nat.lt_of_lt_of_le hi HIa.out.room) fun _ _ => rfl) s4)
          clear hI' e1 hkr HI
          generalize a.foldl Pure.writeAttr (Pure.puts b [[60], Pure.toL nm]) = ba at *
          cases hany : kids.any Pure.shows with
          | false =>
            have HW : Hid (Pure.write b (.mk 1 nm a tx kids) = Pure.put ba [47, 62]) := by show _ = _; rw [hV.out, if_pos hany]
            rw [hany] at HCo
            clear hV hany
            go_wp2_with (go_at_call 89; refine (HCo.out).mono ?_)
            rintro e2 w2 ⟨rfl, hb2⟩
            have HQ := Lib.hid (put_new (HIa.out.later hb2) [⟨#[47, 62]⟩] #[.string ⟨#[47, 62]⟩] rfl 1 w2.heap.size rfl rfl (by simp) (by intro x hx; simp at hx; subst hx; decide))
            have Hb2 := Lib.hid (Hb.out.trans (hb2.mono HIa.out.room))
            have HK2 := Lib.hid (HKw.out.trans (Kept.below hb2))
            clear hb2 HCo z4
            go_wp2_with (go_at_call 88; refine (HQ.out).mono ?_)
            rintro e3 w3 ⟨rfl, hI3, hb3, hk3⟩
            have HI3 := Lib.hid hI3
            have Hb3 := Lib.hid (Hb2.out.trans hb3)
            have HK3 := Lib.hid (HK2.out.trans hk3)
            clear hI3 hb3 hk3 HQ
            go_wp2_with fail
            refine bodyPost_ret (results_none rfl _ _ _) rfl ?_
            rw [HW.out]
            exact ⟨rfl, HI3.out, Hb3.out, HK3.out⟩
          | true =>
            have HW : Hid (Pure.write b (.mk 1 nm a tx kids) = Pure.puts (Pure.writeL (Pure.put ba [62]) kids) [[60, 47], Pure.toL nm, [62]]) := by show _ = _; rw [hV.out, if_neg (by rw [hany]; decide)]
            rw [hany] at HCo
            clear hV hany
            go_wp2_with (go_at_call 89; refine (HCo.out).mono ?_)
            rintro e2 w2 ⟨rfl, hb2⟩
            have HQ := Lib.hid (put_new (HIa.out.later hb2) [⟨#[62]⟩] #[.string ⟨#[62]⟩] rfl 1 w2.heap.size rfl rfl (by simp) (by intro x hx; simp at hx; subst hx; decide))
            have Hb2 := Lib.hid (Hb.out.trans (hb2.mono HIa.out.room))
            have HK2 := Lib.hid (Kept.below hb2)
            clear hb2 HCo z4
            go_wp2_with (go_at_call 88; refine (HQ.out).mono ?_)
            rintro e3 w3 ⟨rfl, hI3, hb3, hk3⟩
            have HI3 := Lib.hid hI3
            have Hb3 := Lib.hid (Hb2.out.trans hb3)
            have hv3 := HV.out.kept (HK2.out.trans hk3)
            have HK3 := Lib.hid (HKw.out.trans (HK2.out.trans hk3))
            have z4 : w3.cell? ⟨w.heap.size, 4, none⟩ = some (.slice kq kids.length kc) := by rw [Lib.cell_of_heap hv3]; rfl
            have HV3 := Lib.hid hv3
            clear hI3 hb3 hk3 HQ hv3 HKw HV Hb HIa
            go_wp2_with fail
            clear z4
            go_loopw [55] (fun i wr => ∃ j : Nat, j ≤ kids.length ∧ i = .int .i64 (j : Int) ∧ WInv B wb (Pure.writeL (Pure.put ba [62]) (kids.take j)) wr ∧ Below B w wr ∧ Kept w wr ∧ VarT w.heap.size #[.int .i64 1, .string nm, .slice aq a.length ac, .string tx, .slice kq kids.length kc] wr) (fun i _ => kids.length - (intOf i).toNat)
            case atStart => exact ⟨0, Nat.zero_le _, rfl, HI3.out, Hb3.out, HK3.out, HV3.out⟩
            case round =>
              obtain ⟨j2, hj2, rfl, hI, hb, hkw, hv⟩ := hrel
              have HI := Lib.hid hI
              have Hb := Lib.hid hb
              have HV := Lib.hid hv
              have HKw := Lib.hid hkw
              clear hI hb hv hkw HI3 Hb3 HK3 HV3
              by_cases hlt2 : j2 < kids.length
              · have hji2 : (j2 : Int) < (kids.length : Int) := by omega
                have hKr := HK.out.keep (w' := wr) fun i hi => Hb.out.block i hi
                obtain ⟨q, c, hq, hkc, hrow⟩ := hKr
                simp only [Value.slice.injEq] at hq
                obtain ⟨rfl, _, rfl⟩ := hq
                rcases hrow with h0 | ⟨g, o, rfl, hCg, hrow⟩
                · rw [h0] at hlt2; simp at hlt2
                obtain ⟨av, kv, d0, d1, d2, d3, d4, dA, dK⟩ := treeAt_iff.1 (hrow.get j2 hlt2)
                obtain ⟨aq', ac', rfl⟩ := attrs_form dA
                have hkf : ∃ q c, kv = .slice q kids[j2].kids.length c := by obtain ⟨q, c, h, _⟩ := dK; exact ⟨q, c, h⟩
                obtain ⟨kq', kc', rfl⟩ := hkf
                have hgr := Nat.lt_of_lt_of_le hCg HI.out.room
                have htake := writeL_take (Pure.put ba [62]) kids j2 hlt2
                have hokj := okL_get HKok.out j2 hlt2
                have hsmj := smL_get HS5.out j2 hlt2
                have hsz := look_size hlt2 Hm.out
                have e5 : o + 5 * j2 = o + j2 * 5 := by omega
                rw [e5] at d0 d1 d2 d3 d4
                clear hrow
                have HCall := Lib.hid (fun (ob : Obj) => (by
                  have hbo := (Below.refl wr.heap.size wr).alloc (Nat.le_refl _) ob
                  have hA2 := dA.keep (w' := wr.alloc ob) fun i hi => hbo.block i (Nat.lt_of_lt_of_le hi HI.out.room)
                  have hK2 := dK.keep (w' := wr.alloc ob) fun i hi => hbo.block i (Nat.lt_of_lt_of_le hi HI.out.room)
                  have hI2 := HI.out.later hbo
                  generalize kids[j2] = kd at *
                  cases kd with
                  | mk k' nm' a' tx' ks' => exact HIH.out k' nm' a' tx' ks' B wb _ _ aq' ac' kq' kc' hsz hI2 hA2 hK2 hsmj hokj :
                  Calls Tryz.prog 48 #[.pointer (some ⟨wb, 0, none⟩), .agg #[.int .i64 kids[j2].kind, .string kids[j2].name, .slice aq' kids[j2].attrs.length ac', .string kids[j2].text, .slice kq' kids[j2].kids.length kc']] (wr.alloc ob) (WOut B wb (wr.alloc ob) (Pure.write (Pure.writeL (Pure.put ba [62]) (kids.take j2)) kids[j2]))))
                have HTk := Lib.hid htake
                clear htake hokj hsmj hsz dA dK e5
                generalize kids[j2] = kd at *
                go_wp2_with (go_at_call 48; refine (HCall.out _).mono ?_)
                rintro e4 w4 ⟨rfl, hI4, hb4, hk4⟩
                have hI4' : WInv B wb (Pure.writeL (Pure.put ba [62]) (kids.take (j2 + 1))) w4 := by rw [HTk.out]; exact hI4
                have HI4 := Lib.hid hI4'
                have hbo := fun ob => (Below.refl wr.heap.size wr).alloc (Nat.le_refl _) ob
                have Hb4 := Lib.hid ((Hb.out.trans ((hbo _).mono HI.out.room)).trans hb4)
                have HKw4 := Lib.hid ((HKw.out.trans (Kept.below (hbo _))).trans hk4)
                have HV4 := Lib.hid (HV.out.kept ((Kept.below (hbo _)).trans hk4))
                clear hI4 hI4' hb4 hk4 hbo HCall
                go_wp2_with fail
                go_roundw
                case rel => exact ⟨j2 + 1, by omega, by go_num, HI4.out, Hb4.out, HKw4.out, HV4.out⟩
                case measure => simp [intOf]; omega
              · obtain rfl : j2 = kids.length := by omega
                have e1 : kids.take kids.length = kids := List.take_length
                have hI' := HI.out
                rw [e1] at hI'
                have HQ := Lib.hid (put_new hI' [⟨#[60, 47]⟩, nm, ⟨#[62]⟩] #[.string ⟨#[60, 47]⟩, .string nm, .string ⟨#[62]⟩] rfl 3 wr.heap.size rfl rfl (by simp) (by intro x hx; simp at hx; rcases hx with rfl | rfl | rfl; decide; omega; decide))
                have z1 : wr.cell? ⟨w.heap.size, 1, none⟩ = some (.string nm) := by rw [Lib.cell_of_heap HV.out]; rfl
                clear hI' e1 HI
                go_wp2_with (go_at_call 88; refine (HQ.out).mono ?_)
                rintro e5 w5 ⟨rfl, hI5, hb5, hk5⟩
                have HI5 := Lib.hid hI5
                have Hb5 := Lib.hid (Hb.out.trans hb5)
                have HK5 := Lib.hid (HKw.out.trans hk5)
                clear hI5 hb5 hk5 HQ
                go_wp2_with fail
                go_end0
                rw [HW.out]
                exact ⟨rfl, HI5.out, Hb5.out, HK5.out⟩
    · have hV : Pure.write b (.mk k nm a tx kids) = Pure.put b (Pure.escOf tx false) := by unfold Pure.write; rw [if_neg (by rw [hf]; decide), if_pos h2]
      rw [hV]
      have g2 : (k == 2) = true := by rw [h2]; rfl
      have HE := Lib.hid (fun o => (escaped_any (hI.later (hbo o)) tx false hg hl).mono fun e w' h => (h.from ((hbo o).mono hI.room) (Kept.below (hbo o)) : WOut B wb w _ e w'))
      clear hV hf hbo hI ha hk s1 s2 s3 s4 s5 IH hm hg hl h2
      go_enter Tryz.func48, Tryz.ntmps48
      go_wp2_with (first | (go_at_call 49; refine (HF.out _).mono ?_; rintro e' w1 ⟨rfl, rfl⟩) | (go_at_call 87; refine (HE.out _).mono ?_))
      rintro e2 w2 ⟨rfl, ho⟩
      have Ho := Lib.hid ho
      clear ho
      go_wp2_with fail
      go_end0
      exact ⟨rfl, Ho.out⟩
end Go.Proofs.YtipfakmbjajhlaaGreatDoor 
end

section
set_option linter.unusedVariables false
set_option linter.unusedSimpArgs false
namespace Go.Proofs.YtipfakmbjajhlaaGreatDoor 
open Go.RowKit Go.Shelf
theorem tree_all : ∀ m, TreeW m
  | 0 => fun k nm a tx kids B wb b w aq ac kq kc hm => by
    have : SizeOf.sizeOf (Pure.Tree.mk k nm a tx kids) > 0 := by simp; omega
    omega
  | m + 1 => tree_at m (tree_all m)
theorem wtree_any {B wb : Nat} {b : Pure.Bytes} {w : World} (hI : WInv B wb b w) (t : Pure.Tree) (aq : Option Addr) (ac : Nat) (kq : Option Addr) (kc : Nat) (ha : AttrsAt w (fun i => i < B) (.slice aq t.attrs.length ac) t.attrs) (hk : TreesAt w (fun i => i < B) (.slice kq t.kids.length kc) t.kids) (hs : smT t) (ho : Pure.okT t) :
    Calls Tryz.prog 48 #[.pointer (some ⟨wb, 0, none⟩), .agg #[.int .i64 t.kind, .string t.name, .slice aq t.attrs.length ac, .string t.text, .slice kq t.kids.length kc]] w (WOut B wb w (Pure.write b t)) := by
  cases t with
  | mk k nm a tx kids => exact tree_all _ k nm a tx kids B wb b w aq ac kq kc (Nat.le_refl _) hI ha hk hs ho
def PrintPost (f : List Pure.Tree) (w : World) (e : Ending) (w' : World) : Prop := e = .returned (.tuple #[.string (Pure.ofL (Pure.print f).1), .int .i64 (Pure.print f).2]) ∧ Below w.heap.size w w'
set_option maxRecDepth 100000 in
set_option maxHeartbeats 3200000 in
theorem print_any (f : List Pure.Tree) (q : Option Addr) (c : Nat) (w : World) (hT : Tabs w) (hr : RdL w (.slice q f.length c) f) (hs : smL f) (hlen : f.length ≤ 140737488355328) : Calls Tryz.prog 13 #[.slice q f.length c] w (PrintPost f w) := by
  have HC := Lib.hid (can_any' f q c w hT hr hs hlen)
  by_cases hc : Pure.canF f = 0
  · have hok := (Pure.canF_ok hc).1
    rw [hc] at HC
    have hP : Pure.print f = if Pure.full (Pure.writeL [] f) then ([], 2) else (Pure.writeL [] f, 0) := by unfold Pure.print; rw [if_neg (by simpa using hc)]
    have HP := Lib.hid hP
    have g0 : ((0 : Int) != 0) = false := rfl
    have HR := Lib.hid hr
    have HT := Lib.hid hT
    have HS := Lib.hid hs
    have HOk := Lib.hid hok
    clear hP hr hT hs hok hc
    go_enter Tryz.func13, Tryz.ntmps13
    go_wp2_with (go_at_call 47; refine (HC.out).mono ?_)
    rintro e1 w1 ⟨rfl, hb1⟩
    have hI0 : WInv w.heap.size w1.heap.size [] (w1.alloc (.cells #[.pointer none, .slice none 0 0] 85)) := by
      have hb := hb1.alloc hb1.size (.cells #[.pointer none, .slice none 0 0] 85)
      exact ⟨⟨.pointer none, .slice none 0 0, heap_alloc_new _ _, .inl rfl, BufAt.nil _ _⟩, hb1.size, hb.size, HT.out.new hb, HT.out.size, by simp⟩
    have HI0 := Lib.hid hI0
    have HB0 := Lib.hid (fun o => hb1.alloc hb1.size o)
    clear hI0 hb1 HC
    go_wp2_with fail
    go_loopw [17] (fun i wr => ∃ j : Nat, j ≤ f.length ∧ i = .int .i64 (j : Int) ∧ WInv w.heap.size w1.heap.size (Pure.writeL [] (f.take j)) wr ∧ Below w.heap.size w wr) (fun i _ => f.length - (intOf i).toNat)
    case atStart => exact ⟨0, Nat.zero_le _, rfl, HI0.out, HB0.out _⟩
    case round =>
      obtain ⟨j, hj, rfl, hI, hb⟩ := hrel
      have HI := Lib.hid hI
      have Hb := Lib.hid hb
      clear hI hb HI0 HB0
      by_cases hlt : j < f.length
      · have hji : (j : Int) < (f.length : Int) := by omega
        have hKr := HR.out.keep (w' := wr) fun i hi => Hb.out.block i hi
        obtain ⟨q', c', hq, hkc, hrow⟩ := hKr
        simp only [Value.slice.injEq] at hq
        obtain ⟨rfl, _, rfl⟩ := hq
        rcases hrow with h0 | ⟨g, o, rfl, hCg, hrow⟩
        · rw [h0] at hlt; simp at hlt
        obtain ⟨av, kv, d0, d1, d2, d3, d4, dA, dK⟩ := treeAt_iff.1 (hrow.get j hlt)
        obtain ⟨aq', ac', rfl⟩ := attrs_form dA
        have hkf : ∃ q c, kv = .slice q f[j].kids.length c := by obtain ⟨q, c, h, _⟩ := dK; exact ⟨q, c, h⟩
        obtain ⟨kq', kc', rfl⟩ := hkf
        have hgr : g < wr.heap.size := Nat.lt_of_lt_of_le hCg HI.out.room
        have htake := writeL_take [] f j hlt
        have e5 : o + 5 * j = o + j * 5 := by omega
        rw [e5] at d0 d1 d2 d3 d4
        have hbo := fun ob => (Below.refl wr.heap.size wr).alloc (Nat.le_refl _) ob
        have HCall := Lib.hid (fun (ob : Obj) => wtree_any (HI.out.later (hbo ob)) f[j] aq' ac' kq' kc' (dA.keep fun i hi => (hbo ob).block i (Nat.lt_of_lt_of_le hi HI.out.room)) (dK.keep fun i hi => (hbo ob).block i (Nat.lt_of_lt_of_le hi HI.out.room)) (smL_get HS.out j hlt) (okL_get HOk.out j hlt))
        have HTk := Lib.hid htake
        have HBo := Lib.hid (fun ob => Hb.out.trans ((hbo ob).mono HI.out.room))
        clear htake dA dK e5 hrow hbo
        generalize f[j] = kd at *
        go_wp2_with (go_at_call 48; refine (HCall.out _).mono ?_)
        rintro e4 w4 ⟨rfl, hI4, hb4, hk4⟩
        have hI4' : WInv w.heap.size w1.heap.size (Pure.writeL [] (f.take (j + 1))) w4 := by rw [HTk.out]; exact hI4
        have HI4 := Lib.hid hI4'
        have Hb4 := Lib.hid ((HBo.out _).trans hb4)
        clear hI4 hI4' hb4 hk4 HCall
        go_wp2_with fail
        go_roundw
        case rel => exact ⟨j + 1, by omega, by go_num, HI4.out, Hb4.out⟩
        case measure => simp [intOf]; omega
      · obtain rfl : j = f.length := by omega
        have e1 : f.take f.length = f := List.take_length
        have hI' := HI.out
        rw [e1] at hI'
        have HF := Lib.hid (wfull_any hI')
        obtain ⟨p, v, k1, k2, k3⟩ := hI'.cells
        have HStr := Lib.hid (bString_any w1.heap.size 0 w.heap.size v (Pure.writeL [] f) wr (by rw [Lib.cell_of_heap k1]; rfl) k3)
        have HSb := Lib.hid (fun (w2 : World) (h : Chg (fun i => v.ownBlock = some i) wr w2) => (Hb.out.trans (h.below HI.out.room (fun i hi => (k3.1.lt i hi).1)) : Below w.heap.size w w2))
        clear hI' e1 k1 k2 k3
        cases hf : Pure.full (Pure.writeL [] f) with
        | true =>
          have HV : Hid (Pure.print f = ([], 2)) := by show _ = _; rw [HP.out, if_pos hf]
          rw [hf] at HF
          clear hf HP
          go_wp2_with (go_at_call 49; refine (HF.out).mono ?_; rintro e' w1 ⟨rfl, rfl⟩)
          go_ret2
          unfold PrintPost
          rw [HV.out]
          exact ⟨rfl, Hb.out⟩
        | false =>
          have HV : Hid (Pure.print f = (Pure.writeL [] f, 0)) := by show _ = _; rw [HP.out, if_neg (by rw [hf]; decide)]
          rw [hf] at HF
          clear hf HP
          go_wp2_with (first | (go_at_call 49; refine (HF.out).mono ?_; rintro e' w1 ⟨rfl, rfl⟩) | (go_at_call 50; refine (HStr.out).mono ?_; rintro e' w2 ⟨rfl, hs2⟩; have Hs2 := Lib.hid (HSb.out _ hs2); clear hs2))
          go_ret2
          unfold PrintPost
          rw [HV.out]
          exact ⟨rfl, Hs2.out⟩
  · have HV : Hid (Pure.print f = ([], Pure.canF f)) := by show _ = _; unfold Pure.print; rw [if_pos hc]
    have ge : (Pure.canF f != 0) = true := by rw [bne_iff_ne]; exact hc
    clear hr hT hs hc
    go_enter Tryz.func13, Tryz.ntmps13
    go_wp2_with (go_at_call 47; refine (HC.out).mono ?_; rintro e1 w1 ⟨rfl, hb1⟩; have Hb1 := Lib.hid hb1; clear hb1)
    go_ret2
    unfold PrintPost
    rw [HV.out]
    exact ⟨rfl, Hb1.out⟩
end Go.Proofs.YtipfakmbjajhlaaGreatDoor 
end
