/-
  WHAT IS PROVED: the law espalierlaw04.MarkupWhere answers true, whatever the string and the place. CONDITIONS: the card's own (the variables that the row lists hold what the program's text lays); no others.
  espalierlaw04.lives holds.
  markup.Where tells lines and columns. Contract, and the plain law.
  The law MarkupWhere returns true.
  A call that leaves all that lay as it lay, and answers a bool: what a row asks of it. No program's function here.
  From a row's list of variables to what the walks ask of the world.
-/
import Derived.Test.YtipfakmbjajhlaaGreatDoorZW
import Derived.Test.YtipfakmbjajhlaaGreatDoorZL
import Derived.Test.YtipfakmbjajhlaaGreatDoorChars3
import Derived.Lib.LastIndexByte
import Derived.Below
import Derived.ChangeSame
import Derived.ChangeAt
import Derived.Test.YtipfakmbjajhlaaGreatDoorRows
import Derived.Test.YtipfakmbjajhlaaGreatDoorShelf
import Derived.Lib.LaidU8
import GoSem.PinnedTables
import Derived.MakeChecks
import Derived.Lay
import Derived.Test.YtipfakmbjajhlaaGreatDoorCards
import Derived.Test.YtipfakmbjajhlaaGreatDoorTie
import Derived.ProofKit
import Derived.OpenShut
import Derived.SizedLaws
import Derived.Deep.DeepHandedRow
import Derived.Deep.DeepWitnessRowRef
section
set_option linter.unusedVariables false
set_option linter.unusedSimpArgs false
namespace Go.Proofs.YtipfakmbjajhlaaGreatDoor 
open Go.RowKit Go.Shelf
theorem cell_lt {w : World} {g o : Nat} {v : Value} (h : w.cell? ⟨g, o, none⟩ = some v) : g < w.heap.size := World.block_lt_of_cell? w ⟨g, o, none⟩ h
theorem rdA_of {w : World} {C : Nat → Prop} {v : Value} {l : List Pure.Attr} (h : AttrsAt w C v l) : RdA w v l := by
  obtain ⟨q, c, rfl, hc, h⟩ := h
  refine ⟨q, c, rfl, hc, ?_⟩
  rcases h with h | ⟨g, o, rfl, hg, hcs⟩
  · exact .inl h
  · by_cases hl : l = []
    · exact .inl hl
    · exact .inr ⟨g, o, rfl, cell_lt (hcs 0 (List.length_pos_iff.2 hl)).1, hcs⟩
mutual
theorem rdT_of {w : World} {C : Nat → Prop} : ∀ {g o : Nat} {t : Pure.Tree}, TreeAt w C g o t → TreeAt w (fun k => k < w.heap.size) g o t
  | g, o, .mk k n a t kids, h => by
    unfold TreeAt at h ⊢
    obtain ⟨av, q, c, h1, h2, h3, h4, h5, h6, h7, h8⟩ := h
    refine ⟨av, q, c, h1, h2, h3, h4, h5, rdA_of h6, h7, ?_⟩
    rcases h8 with h8 | ⟨g', o', h9, h10, h11⟩
    · exact .inl h8
    · cases kids with
      | nil => exact .inl rfl
      | cons u r =>
        have h12 := rdRow_of h11
        have h13 : g' < w.heap.size := by
          obtain ⟨av', kv', z, _⟩ := treeAt_iff.1 h11.1
          exact cell_lt z
        exact .inr ⟨g', o', h9, h13, h12⟩
theorem rdRow_of {w : World} {C : Nat → Prop} : ∀ {g o : Nat} {l : List Pure.Tree}, TreeRow w C g o l → TreeRow w (fun k => k < w.heap.size) g o l
  | g, o, [], _ => trivial
  | g, o, t :: r, h => ⟨rdT_of h.1, rdRow_of h.2⟩
end
theorem rdL_of {w : World} {C : Nat → Prop} {v : Value} {l : List Pure.Tree} (h : TreesAt w C v l) : RdL w v l := by
  obtain ⟨q, c, rfl, hc, h⟩ := h
  refine ⟨q, c, rfl, hc, ?_⟩
  rcases h with h | ⟨g, o, rfl, hg, hr⟩
  · exact .inl h
  · cases l with
    | nil => exact .inl rfl
    | cons u r =>
      obtain ⟨av', kv', z, _⟩ := treeAt_iff.1 hr.1
      exact .inr ⟨g, o, rfl, cell_lt z, rdRow_of hr⟩
theorem noHex_dec (l : Pure.Bytes) (h : ((List.range (l.length + 1)).all fun k => !Pure.hasPre (l.drop k) [38, 35, 120]) = true) : NoHex l := by
  intro k
  by_cases hk : k < l.length + 1
  · have := List.all_eq_true.1 h k (List.mem_range.2 hk)
    simpa using this
  · rw [List.drop_eq_nil_of_le (by omega)]; rfl
theorem ex_small : smL Pure.exForest := by
  unfold Pure.exForest Pure.elemT Pure.textT
  simp only [smL, smT, AttrsSm, Sm]
  simp
  decide
def exSrc : ByteArray := ⟨#[60, 97, 32, 98, 61, 39, 49, 39, 62, 120, 60, 33, 45, 45, 32, 121, 32, 45, 45, 62, 122, 60, 99, 47, 62, 60, 47, 97, 62]⟩
def exSrc2 : ByteArray := ⟨#[60, 97, 62, 60, 47, 98, 62]⟩
theorem ex_noHex : NoHex (Pure.toL exSrc) := noHex_dec _ (by decide +kernel)
theorem ex_noHex2 : NoHex (Pure.toL exSrc2) := noHex_dec _ (by decide +kernel)
theorem ex_parse1 : Pure.parse (Pure.toL exSrc) = (Pure.exForest, 0, 0) := Pure.ex_parse
theorem ex_parse2 : (Pure.parse (Pure.toL exSrc2)).2 = (3, 40) := Pure.ex_bad
set_option maxRecDepth 100000 in
set_option maxHeartbeats 1600000 in
theorem lives_any (w : World) (hT : Tabs w) : Calls Tryz.prog 11 #[] w (RetN (.bool true) w) := by
  have HP1 := Lib.hid (parse_any exSrc w hT hT.size ex_noHex)
  have HP2 := Lib.hid (fun w2 (hb : Below w.heap.size w w2) => parse_any exSrc2 w2 (hT.new hb) (hT.new hb).size ex_noHex2)
  have HPr := Lib.hid (fun w1 q c (hb : Below w.heap.size w w1) (hr : RdL w1 (.slice q Pure.exForest.length c) Pure.exForest) => print_any Pure.exForest q c w1 (hT.new hb) hr ex_small (by decide))
  unfold exSrc at HP1
  unfold exSrc2 at HP2
  clear hT
  go_enter Tryz.func11, Tryz.ntmps11
  go_wp2_with (go_at_call 16; refine (HP1.out).mono ?_)
  rintro e1 w1 ⟨v, C, he, ht, hC, hb1⟩
  have hpv : Pure.parse (Pure.toL ⟨#[60, 97, 32, 98, 61, 39, 49, 39, 62, 120, 60, 33, 45, 45, 32, 121, 32, 45, 45, 62, 122, 60, 99, 47, 62, 60, 47, 97, 62]⟩) = (Pure.exForest, 0, 0) := ex_parse1
  rw [hpv] at he ht
  subst he
  have hr := rdL_of ht
  obtain ⟨q, c, hv, _⟩ := id hr
  subst hv
  have hr' : RdL w1 (.slice q Pure.exForest.length c) Pure.exForest := hr
  obtain ⟨g, o, aq, ac, kq, kc, rfl, hg, d0, _⟩ := hr'.get 0 (by decide)
  have HPr1 := Lib.hid (HPr.out w1 _ c hb1 hr')
  have Hb1 := Lib.hid hb1
  have hk0 : Pure.exForest[0].kind = 1 := rfl
  have d0' : w1.cell? ⟨g, o, none⟩ = some (.int .i64 1) := by rw [hk0] at d0; simpa using d0
  have el : Pure.exForest.length = 1 := rfl
  rw [el] at HPr1
  rw [el]
  clear ht hC hr hr' hb1 HPr HP1 d0 hpv el
  go_wp2_with (go_at_call 13; refine (HPr1.out).mono ?_)
  rintro e2 w2 ⟨he, hb2⟩
  rw [Pure.ex_print] at he
  subst he
  have Hb2 := Lib.hid (Below.thenNew Hb1.out Hb1.out.size hb2)
  have d2 : w2.cell? ⟨g, o, none⟩ = some (.int .i64 1) := by rw [hb2.cell (p := ⟨g, o, none⟩) hg]; exact d0'
  have HP22 := Lib.hid (HP2.out w2 Hb2.out)
  have hg2 : g < w2.heap.size := Nat.lt_of_lt_of_le hg hb2.size
  have heq : ((Pure.ofL Pure.exPrint).toList == [60, 97, 32, 98, 61, 34, 49, 34, 62, 120, 122, 60, 99, 47, 62, 60, 47, 97, 62]) = true := by
    have : (Pure.ofL Pure.exPrint).toList = Pure.toL (Pure.ofL Pure.exPrint) := ByteArray.toList_eq _
    rw [this]; rfl
  generalize Pure.ofL Pure.exPrint = pr at *
  clear hb2 HPr1 HP2 d0'
  go_wp2_with (go_at_call 16; refine (HP22.out).mono ?_)
  rintro e3 w3 ⟨v3, C3, he3, ht3, hC3, hb3⟩
  have hpv : (Pure.parse (Pure.toL ⟨#[60, 97, 62, 60, 47, 98, 62]⟩)).2 = (3, 40) := ex_parse2
  rw [hpv] at he3
  subst he3
  have d3 : w3.cell? ⟨g, o, none⟩ = some (.int .i64 1) := by rw [hb3.cell (p := ⟨g, o, none⟩) hg2]; exact d2
  have Hb3 := Lib.hid (Below.thenNew Hb2.out Hb2.out.size hb3)
  clear ht3 hC3 hb3 HP22 hpv d2
  go_wp2_with fail
  go_ret
  exact ⟨rfl, Hb3.out⟩
end Go.Proofs.YtipfakmbjajhlaaGreatDoor 
end

section
set_option linter.unusedVariables false
set_option linter.unusedSimpArgs false
namespace Go.Proofs.YtipfakmbjajhlaaGreatDoor 
open Go.RowKit Go.Shelf
def nlAt (s : ByteArray) (k : Nat) : Nat := Lib.countByte (s.extract 0 k).data.toList 10
def lastAt (s : ByteArray) (k : Nat) : Int := Lib.lastIndexByte (s.extract 0 k) 10
theorem pre_data (s : ByteArray) (k : Nat) : (s.extract 0 k).data.toList = s.data.toList.take k := by
  rw [Lib.extract_data]; simp
theorem getB (s : ByteArray) (i : Nat) (h : i < s.size) : s.data[i]! = s[i] := by
  rw [getElem!_pos s.data i h]; rfl
theorem pre_get (s : ByteArray) (k i : Nat) (hk : k ≤ s.size) (hi : i < k) : (s.extract 0 k).data[i]! = s.data[i]! := by
  have h1 : i < (s.extract 0 k).data.size := by show i < (s.extract 0 k).size; simp; omega
  have h2 : i < s.data.size := by show i < s.size; omega
  rw [getElem!_pos _ i h1, getElem!_pos _ i h2]
  have := pre_data s k
  have h3 : (s.extract 0 k).data.toList[i]? = s.data.toList[i]? := by rw [this, List.getElem?_take_of_lt hi]
  simp
theorem lastIdx_pre (s : ByteArray) (k : Nat) (hk : k ≤ s.size) : ∀ j, j ≤ k → Lib.lastIdx (s.extract 0 k) 10 j = Lib.lastIdx s 10 j
  | 0, _ => rfl
  | j + 1, h => by
    unfold Lib.lastIdx
    rw [pre_get s k j hk (by omega), lastIdx_pre s k hk j (by omega)]
theorem lastAt_eq (s : ByteArray) (k : Nat) (hk : k ≤ s.size) : lastAt s k = Lib.lastIdx s 10 k := by
  unfold lastAt Lib.lastIndexByte
  have : (s.extract 0 k).size = k := by simp; omega
  rw [this]
  exact lastIdx_pre s k hk k (Nat.le_refl _)
theorem nlAt_eq (s : ByteArray) (k : Nat) : nlAt s k = (s.data.toList.take k).count 10 := by unfold nlAt Lib.countByte; rw [pre_data]
theorem nlAt_succ (s : ByteArray) (k : Nat) (hk : k < s.size) : nlAt s (k + 1) = nlAt s k + (if s[k] = 10 then 1 else 0) := by
  have hl : k < s.data.toList.length := by rw [Array.length_toList]; exact hk
  rw [nlAt_eq, nlAt_eq, List.take_succ_eq_append_getElem hl, List.count_append]
  have : s.data.toList[k] = s[k] := rfl
  rw [this]
  by_cases h : s[k] = 10
  · simp [h]
  · simp [h, List.count_singleton]
theorem lastAt_succ (s : ByteArray) (k : Nat) (hk : k < s.size) : lastAt s (k + 1) = if s[k] = 10 then (k : Int) else lastAt s k := by
  rw [lastAt_eq _ _ (by omega), lastAt_eq _ _ (by omega)]
  have e := getB s k hk
  by_cases h : s[k] = 10
  · rw [if_pos h, Lib.lastIdx_hit]; rw [e, h]; rfl
  · rw [if_neg h, Lib.lastIdx_miss]
    rw [e]
    intro h2
    exact h (UInt8.toNat_inj.1 (by show s[k].toNat = 10; omega))
theorem lastAt_bd (s : ByteArray) (k : Nat) (hk : k ≤ s.size) : -1 ≤ lastAt s k ∧ lastAt s k < k ∧ (nlAt s k : Int) ≤ lastAt s k + 1 ∧ nlAt s k ≤ k := by
  induction k with
  | zero =>
    have h0 : lastAt s 0 = -1 := by rw [lastAt_eq _ _ (Nat.zero_le _)]; rfl
    have h1 : nlAt s 0 = 0 := by rw [nlAt_eq]; simp
    omega
  | succ k ih =>
    have := ih (by omega)
    rw [lastAt_succ s k (by omega), nlAt_succ s k (by omega)]
    split <;> omega
set_option maxRecDepth 100000 in
theorem where_any (s : ByteArray) (k : Nat) (w : World) (hk : k ≤ s.size) (hs : s.size ≤ 140737488355328) :
    Calls Tryz.prog 12 #[.string s, .int .i64 (k : Int)] w fun e w' => e = .returned (.tuple #[.int .i64 ((nlAt s k : Int) + 1), .int .i64 ((k : Int) - lastAt s k), .int .i64 0]) ∧ w = w' := by
  obtain ⟨b1, b2, b3, b4⟩ := lastAt_bd s k hk
  have HC := Lib.hid (fun W => Tryz.strings_Count_one (s.extract 0 k) 10 W)
  have HL := Lib.hid (fun W => Tryz.strings_LastIndexByte (s.extract 0 k) 10 (by simp; omega) W)
  have e1 : (Lib.countByte (s.extract 0 k).data.toList 10) = nlAt s k := rfl
  have e2 : Lib.lastIndexByte (s.extract 0 k) 10 = lastAt s k := rfl
  rw [e1] at HC
  rw [e2] at HL
  clear e1 e2 b3
  generalize nlAt s k = n at *
  generalize lastAt s k = l at *
  have g1 : ¬ (k : Int) < 0 := by omega
  have g2 : ¬ (s.size : Int) < (k : Int) := by omega
  go_enter Tryz.func12, Tryz.ntmps12
  go_wp2_with (first | (go_at_call 45; refine (HC.out _).mono ?_; rintro e' w1 ⟨rfl, rfl⟩) | (go_at_call 46; refine (HL.out _).mono ?_; rintro e' w1 ⟨rfl, rfl⟩))
  go_ret3
  exact ⟨rfl, rfl⟩
set_option maxRecDepth 100000 in
theorem where_bad (s : ByteArray) (at_ : Int) (w : World) (hk : at_ < 0 ∨ (s.size : Int) < at_) :
    Calls Tryz.prog 12 #[.string s, .int .i64 at_] w fun e w' => e = .returned (.tuple #[.int .i64 0, .int .i64 0, .int .i64 1]) ∧ w = w' := by
  have hk' : at_ < 0 ∨ (¬ at_ < 0 ∧ (s.size : Int) < at_) := by omega
  clear hk
  rcases hk' with h | ⟨h, h2⟩
  all_goals
    go_enter Tryz.func12, Tryz.ntmps12
    go_wp2
    go_ret3
    exact ⟨rfl, rfl⟩
end Go.Proofs.YtipfakmbjajhlaaGreatDoor 
end

section
set_option linter.unusedVariables false
set_option linter.unusedSimpArgs false
namespace Go.Proofs.YtipfakmbjajhlaaGreatDoor 
open Go.RowKit Go.Shelf
theorem ret_b {a b : Bool} (h : a = b) : Ending.returned (.bool a) = .returned (.bool b) := by rw [h]
set_option maxRecDepth 100000 in
set_option maxHeartbeats 3200000 in
theorem lawWhere_any (s : ByteArray) (at_ : Int) (w : World) (hT : Tabs w) (hs : s.size ≤ 140737488355328) : Calls Tryz.prog 3 #[.string s, .int .i64 at_] w (RetN (.bool true) w) := by
  have HL := Lib.hid (lives_any w hT)
  clear hT
  by_cases hb : at_ < 0 ∨ (s.size : Int) < at_
  · have HW := Lib.hid (fun W => where_bad s at_ W hb)
    have hb' : at_ < 0 ∨ (¬ at_ < 0 ∧ (s.size : Int) < at_) := by omega
    clear hb
    rcases hb' with h | ⟨h, h2⟩
    all_goals
      go_enter Tryz.func3, Tryz.ntmps3
      go_wp2_with (first | (go_at_call 11; refine (HL.out).mono ?_; rintro e' w1 ⟨rfl, hb1⟩; have Hb1 := Lib.hid hb1; clear hb1) | (go_at_call 12; refine (HW.out _).mono ?_; rintro e' w2 ⟨rfl, rfl⟩))
      go_ret
      exact ⟨rfl, Hb1.out⟩
  · obtain ⟨k, rfl⟩ : ∃ k : Nat, at_ = k := ⟨at_.toNat, by omega⟩
    have hk : k ≤ s.size := by omega
    obtain ⟨b1, b2, b3, b4⟩ := lastAt_bd s k hk
    have g1 : ¬ (k : Int) < 0 := by omega
    have g2 : ¬ (s.size : Int) < (k : Int) := by omega
    have HW := Lib.hid (fun W => where_any s k W hk hs)
    clear hb
    by_cases he : k = s.size
    · have ge : ((k : Int) == (s.size : Int)) = true := by rw [he]; simp
      have hsum : ((nlAt s k : Int) + 1) + ((k : Int) - lastAt s k) ≤ (s.size : Int) + 2 := by omega
      clear he
      generalize nlAt s k = n at *
      generalize lastAt s k = l at *
      have c1 : ¬ (n : Int) + 1 < 1 := by omega
      have c2 : ¬ (k : Int) - l < 1 := by omega
      go_enter Tryz.func3, Tryz.ntmps3
      go_wp2_with (first | (go_at_call 11; refine (HL.out).mono ?_; rintro e' w1 ⟨rfl, hb1⟩; have Hb1 := Lib.hid hb1; clear hb1) | (go_at_call 12; refine (HW.out _).mono ?_; rintro e' w2 ⟨rfl, rfl⟩))
      go_ret
      exact ⟨rfl, Hb1.out⟩
    · have hlt : k < s.size := by omega
      have ge : ((k : Int) == (s.size : Int)) = false := by rw [beq_eq_false_iff_ne]; omega
      have HW2 := Lib.hid (fun W => (where_any s (k + 1) W (by omega) hs : Calls _ _ #[_, .int .i64 ((k + 1 : Nat) : Int)] _ _))
      have hn := nlAt_succ s k hlt
      have hl := lastAt_succ s k hlt
      have ec : ((k + 1 : Nat) : Int) = (k : Int) + 1 := by omega
      rw [hn, hl, ec] at HW2
      clear hn hl ec he
      generalize nlAt s k = n at *
      generalize lastAt s k = l at *
      have c1 : ¬ (n : Int) + 1 < 1 := by omega
      have c2 : ¬ (k : Int) - l < 1 := by omega
      by_cases hc : s[k] = 10
      · rw [if_pos hc, if_pos hc] at HW2
        have gc : ((s[k].toNat : Int) == 10) = true := by rw [hc]; rfl
        clear hc
        go_enter Tryz.func3, Tryz.ntmps3
        go_wp2_with (first | (go_at_call 11; refine (HL.out).mono ?_; rintro e' w1 ⟨rfl, hb1⟩; have Hb1 := Lib.hid hb1; clear hb1) | (go_at_call 12; first | ((with_reducible refine (HW.out _).mono ?_); rintro e' w2 ⟨rfl, rfl⟩) | ((with_reducible refine (HW2.out _).mono ?_); rintro e' w2 ⟨rfl, rfl⟩)))
        go_ret
        exact ⟨ret_b (by rw [beq_iff_eq]; omega), Hb1.out⟩
      · rw [if_neg hc, if_neg hc] at HW2
        have gc : ((s[k].toNat : Int) == 10) = false := by rw [beq_eq_false_iff_ne]; intro h; exact hc (UInt8.toNat_inj.1 (by show s[k].toNat = 10; omega))
        clear hc
        go_enter Tryz.func3, Tryz.ntmps3
        go_wp2_with (first | (go_at_call 11; refine (HL.out).mono ?_; rintro e' w1 ⟨rfl, hb1⟩; have Hb1 := Lib.hid hb1; clear hb1) | (go_at_call 12; first | ((with_reducible refine (HW.out _).mono ?_); rintro e' w2 ⟨rfl, rfl⟩) | ((with_reducible refine (HW2.out _).mono ?_); rintro e' w2 ⟨rfl, rfl⟩)))
        go_ret
        exact ⟨ret_b (by rw [beq_iff_eq]; omega), Hb1.out⟩
end Go.Proofs.YtipfakmbjajhlaaGreatDoor 
end

section
set_option linter.unusedVariables false
namespace Go.Proofs.YtipfakmbjajhlaaGreatDoor 
open Go Go.ChangeAt Go.RowKit
theorem post_below {H : Type} {enc : TypeId × Value → H} {P : Program} {f : Func} {s : ChangeSpec} {apart fresh handsOn again : Bool} {W W' : World} {args : Array Value} {v : Value} {ds gs : List (DataW H)} {before pa pv : List MemPlace}
    (hW : DataW.Whole enc P f.params.toList s.vars apart W args.toList ds gs before)
    (hres : ∀ (b : Nat) (sp : Nat → Bool) (hd : Bool), DataW.TrodAll enc P W' b sp hd f.resultTypes.toList (v.resultList f.resultTypes.size) (s.fn H (ds ++ gs)).results [])
    (hargs : ∀ sp : Nat → Bool, (∀ p ∈ before, sp p.block = true) → DataW.TrodAll enc P W' 0 sp true f.params.toList args.toList (s.fn H (ds ++ gs)).args pa)
    (hvars : ∀ sp : Nat → Bool, (∀ p ∈ before, sp p.block = true) → DataW.TrodVars enc P W' sp s.vars (s.fn H (ds ++ gs)).vars pv)
    (hps : before = pa ++ pv) (hb : Below W.heap.size W W')
    (hok : ∀ (j : Nat) (t : TypeId) (r : Value), f.resultTypes[j]? = some t → (v.resultList f.resultTypes.size)[j]? = some r → Value.okWide P W' .any 0 t r) :
    s.post enc P f apart fresh handsOn again W args v W' := by
  have hlt := hW.lt
  have hold : ∀ p ∈ before, (fun b => decide (b < W.heap.size)) p.block = true := fun p hp => by simpa using hlt p hp
  refine ⟨ds, gs, before, [], pa, pv, hW, hres _ _ _, hargs _ hold, hvars _ hold, hb.frame _, fun _ => ?_⟩
  obtain ⟨_, _, _, _, _, hz, hn⟩ := hW
  have hmem : ∀ p, p ∈ ([] ++ pa) ++ pv ↔ p ∈ before := fun p => by rw [hps]; simp
  refine ⟨hok, _, _, ([] ++ pa) ++ pv, ⟨[] ++ pa, pv, ChangeShapes.trodAll_append (hargs _ (fun _ _ => rfl)) (hres _ _ _), hvars _ (fun _ _ => rfl), rfl, ?_, ?_⟩, ?_⟩
  · intro b off hp
    have h1 := (hmem _).1 hp
    have h2 : W'.frozen? ⟨b, off, none⟩ = W.frozen? ⟨b, off, none⟩ := by
      unfold World.frozen?
      rw [hb.block b (hlt _ h1)]
    rw [h2]
    exact hz b off h1
  · intro ha
    have h1 := hn ha
    rw [hps] at h1
    simpa using h1
  · intro p hp _
    exact (hmem p).1 hp
end Go.Proofs.YtipfakmbjajhlaaGreatDoor 
end

section
set_option linter.unusedVariables false
set_option linter.unusedSimpArgs false
namespace Go.Proofs.YtipfakmbjajhlaaGreatDoor 
open Go.RowKit Go.Lib
theorem cell1_5 : Tryz.prog.cellsOf 5 = 1 := by kernel_rfl
theorem cell1_9 : Tryz.prog.cellsOf 9 = 1 := by kernel_rfl
theorem cells_named : Tryz.prog.cellsOf 169 = 2 := by kernel_rfl
theorem u8Extra : U8Extra Tryz.prog Tryz.lays260_ren :=
  { n3 := by kernel_rfl, n4 := by kernel_rfl, y3 := by kernel_rfl, y4 := by kernel_rfl, c5 := by kernel_rfl, c119 := by kernel_rfl, c138 := by kernel_rfl }
theorem accept_eq : (Rows.laid_unicode_utf8_acceptRanges : DataW Unit) = acceptData := by kernel_rfl
theorem first_eq : Rows.laid_unicode_utf8_first = firstData := by kernel_rfl
def refDatum (r : Pure.Bytes × UInt8) : DataW Unit := .agg [.lit (.string r.1), .lit (.int .u8 (r.2.toNat : Int))]
theorem named_eq : (Rows.laid_espalier_chars_named : DataW Unit) = .agg (Pure.namedRefs.map refDatum) := by rfl
theorem gNamed : Tryz.prog.globalNamed "espalier/chars.named" = some 1 := by kernel_rfl
theorem gNamedType : (Tryz.prog.globals[1]?).map (·.type) = some 170 := by kernel_rfl
theorem named_reads {w : World} (h : VarReads Tryz.prog w "espalier/chars.named" Rows.laid_espalier_chars_named) :
    ∀ i (h : i < Pure.namedRefs.length), w.cell? ⟨1, 2 * i, none⟩ = some (.string (Pure.ofL Pure.namedRefs[i].1)) ∧ w.cell? ⟨1, 2 * i + 1, none⟩ = some (.int .u8 (Pure.namedRefs[i].2.toNat : Int)) := by
  intro i hi
  obtain ⟨g, t, cs, fuel, p, hg, hty, hvar, hd⟩ := h
  obtain rfl := Option.some.inj (gNamed.symm.trans hg)
  obtain rfl := Option.some.inj (gNamedType.symm.trans hty)
  rw [named_eq] at hd
  obtain ⟨fuel', d, q, hdi, he⟩ := array_elem Tryz.underlying170 hd i hi
  rw [cells_named] at he
  rw [List.getElem?_map, List.getElem?_eq_getElem hi] at hdi
  obtain rfl := Option.some.inj hdi
  obtain ⟨xs, n, rfl, hx, hl, hxl, hall⟩ := DataW.trod_struct Tryz.underlying169 he
  obtain ⟨x0, x1, rfl⟩ : ∃ x0 x1, xs = [x0, x1] := by
    match xs, hxl with
    | [a, b], _ => exact ⟨a, b, rfl⟩
  have h0 : DataW.trod (fun _ => ()) Tryz.prog w 0 (fun _ => true) false n 9 (List.take (Tryz.prog.cellsOf 9) (List.drop 0 (List.take 2 (List.drop (i * 2) cs.toList)))) = some x0 := hall 0 _ rfl
  have h1 : DataW.trod (fun _ => ()) Tryz.prog w 0 (fun _ => true) false n 5 (List.take (Tryz.prog.cellsOf 5) (List.drop 1 (List.take 2 (List.drop (i * 2) cs.toList)))) = some x1 := hall 1 _ rfl
  rw [cell1_9] at h0
  rw [cell1_5] at h1
  obtain ⟨s, hs, rfl, -⟩ := DataW.trod_string Tryz.underlying9 h0
  obtain ⟨z, hz, rfl, -⟩ := DataW.trod_int Tryz.underlying5 h1
  have hx1 := congrArg Prod.fst hx
  simp only [refDatum, List.map_cons, List.map_nil, DataW.agg.injEq, List.cons.injEq, DataW.lit.injEq, Lit.string.injEq, Lit.int.injEq, true_and, and_true] at hx1
  obtain ⟨ex0, ex1⟩ := hx1
  have f0 := congrArg (·[0]?) hs
  have f1 := congrArg (·[0]?) hz
  simp only [List.getElem?_take, List.getElem?_drop] at f0 f1
  refine ⟨?_, ?_⟩
  · rw [World.var?_cell gNamed hvar (2 * i), ← Array.getElem?_toList]
    have : s = Pure.ofL Pure.namedRefs[i].1 := by rw [ex0]; rfl
    rw [← this]
    simpa [Nat.mul_comm] using f0
  · rw [World.var?_cell gNamed hvar (2 * i + 1), ← Array.getElem?_toList, ex1]
    simpa [Nat.mul_comm] using f1
theorem tabs_of_row {W : World} {l : List (String × DataW Unit)} (hL : laidMetH Tryz.prog l W) (hp : (l.all fun x => x.2.handleName?.isNone) = true) (hs : W.ShapedOpen Tryz.prog)
    (h1 : ("unicode/utf8.first", Rows.laid_unicode_utf8_first) ∈ l) (h2 : ("unicode/utf8.acceptRanges", Rows.laid_unicode_utf8_acceptRanges) ∈ l) (h3 : ("espalier/chars.named", Rows.laid_espalier_chars_named) ∈ l) : Tabs W := by
  rw [Go.MakeChecks.laidMetH_plain _ _ _ hp] at hL
  refine ⟨?_, Tryz.laysM219.s1_3 W hs, named_reads (Go.Lib.laidMet.reads hL h3), ?_⟩
  · have r1 := Go.Lib.laidMet.reads hL h1
    have r2 := Go.Lib.laidMet.reads hL h2
    rw [first_eq] at r1
    rw [accept_eq] at r2
    exact utf8Tabs_of_reads Tryz.lays260 u8Extra r1 r2
  · have hz0 : (((begin Tryz.prog (fun _ _ => 0) default).world.heap[8]?).bind Obj.row?).isSome = true := by kernel_rfl
    obtain ⟨⟨zero, t⟩, hz⟩ := Option.isSome_iff_exists.1 hz0
    obtain ⟨cs, hh, -⟩ := hs.1 8 zero t (of_decide_eq_true (by kernel_rfl)) hz
    have := (Array.getElem?_eq_some_iff.1 hh).1
    omega
end Go.Proofs.YtipfakmbjajhlaaGreatDoor 
end

section
namespace Go.Proofs.YtipfakmbjajhlaaGreatDoor.markupWhere
open Go.ChangeShapes Go.ChangeMaps Go.WideShapes Go.ChangeAt Go.RowKit
theorem own : ownKnob Tryz.prog.godebug = none := by kernel_rfl
set_option maxRecDepth 100000 in
/-- WHAT THE WALK GIVES. -/
theorem contract (H : Type) (enc : TypeId × Value → H) (W : World) (base : Nat) (args : Array Value) (ds gs : List (DataW H)) (before : List MemPlace)
    (hval : ∀ (j : Nat) t v, (Tryz.f3).params[j]? = some t → args[j]? = some v → Value.okWide Tryz.prog W .any base t v)
    (hW : DataW.Whole enc Tryz.prog (Tryz.f3).params.toList Rows.markupWhereSpec.vars false W args.toList ds gs before)
    (hz : (DataW.weightsEach Tryz.prog ((Tryz.f3).params.toList ++ (OpenSpec.ofChange Rows.markupWhereSpec).bare.plain.varTypes Tryz.prog) (ds ++ gs)).all (· ≤ reachBytes) = true)
    (hL : laidMetH Tryz.prog Rows.markupWhereRow.laid W) (hsh : W.ShapedOpen Tryz.prog) :
    Calls Tryz.prog 3 args W fun e W' => ∃ v, e = .returned v ∧ Rows.markupWhereSpec.post enc Tryz.prog Tryz.f3 false true false false W args v W' := by
  have hW' := hW
  obtain ⟨p, q, hA0, hV, rfl, hfz, hnd⟩ := hW
  have hA : DataW.TrodAll enc Tryz.prog W 0 (fun _ => true) true (Tryz.f3).params.toList args.toList ds p := hA0
  have hz0 := fun bytes (hd : (ds ++ gs)[0]? = some (.lit (.string bytes))) => sized_string hz (j := 0) (t := 9) rfl hd
  rw [(Tryz.params3)] at hA hval
  obtain ⟨v0, vs0, d0, ds0, p0, q0, hargs, rfl, rfl, h0, r0⟩ := trodAll_cons hA
  obtain ⟨v1, vs1, d1, ds1, p1, q1, rfl, rfl, rfl, h1, r1⟩ := trodAll_cons r0
  obtain ⟨rfl, rfl, rfl⟩ := trodAll_nil r1
  obtain rfl : args = #[v0, v1] := by cases args; simp_all
  obtain ⟨rfl, rfl⟩ := trodVars_none hV
  obtain ⟨s, rfl, rfl, rfl, hs0⟩ := open_string Tryz.underlying9 (hval 0 9 v0 rfl rfl) h0
  obtain ⟨at_, rfl, rfl, rfl, hwf⟩ := open_int Tryz.underlying3 (hval 1 3 v1 rfl rfl) h1
  clear hA0
  simp only [List.append_nil] at hW'
  have hs : s.size ≤ 140737488355328 := by
    have := hz0 s.data.toList rfl
    have e : s.data.toList.length = s.size := Array.length_toList
    have r : reachBytes ≤ 140737488355328 := by decide +kernel
    omega
  have hT : Tabs W := tabs_of_row hL (by kernel_rfl) hsh (by simp [Rows.markupWhereRow]) (by simp [Rows.markupWhereRow]) (by simp [Rows.markupWhereRow])
  refine (lawWhere_any s at_ W hT hs).mono fun e W' ⟨he, hg⟩ => ?_
  subst he
  exact ⟨_, rfl, post_below (pa := []) (pv := []) hW' (fun _ _ _ => trodAll_cons_mk (shut_bool Tryz.underlying4 _) trodAll_mk0) (fun _ _ => trodAll_cons_mk (shut_string Tryz.underlying9 hs0) (trodAll_cons_mk (shut_int Tryz.underlying3 hwf) trodAll_mk0)) (fun _ _ => rfl) rfl
    hg (ok_one (by kernel_rfl) rfl (okWide_bool_mk Tryz.underlying4 _))⟩

/-- A WORLD FOR THE WITNESS: the settled one, with the listed variables laid. -/
noncomputable def laidWorld (os : Os) : World := World.laidAll Tryz.prog os Rows.markupWhereRow.laid
theorem laid_met (os : Os) : laidMet Tryz.prog Rows.markupWhereRow.laid ((laidWorld os).forCall (fun _ _ => 0) ⟨#[], #[.string ⟨#[]⟩, .int .i64 0], []⟩).memory :=
  laidMet_laidAll _ (by kernel_rfl) (by kernel_rfl)
theorem reads (os : Os) {H : Type} (enc : TypeId × Value → H) : ∃ places, DataW.whole enc Tryz.prog ((laidWorld os).forCall (fun _ _ => 0) ⟨#[], #[.string ⟨#[]⟩, .int .i64 0], []⟩).memory (Tryz.f3).params.toList Rows.markupWhereSpec.vars false #[Value.string ⟨#[]⟩, .int .i64 0].toList 8 = some ([.lit (.string []), .lit (.int .i64 0)], [], places) :=
  ⟨[], by kernel_rfl⟩
set_option maxRecDepth 100000 in
theorem lifted (os : Os) (started : os.Started) (H : Type) (enc : TypeId × Value → H) (F : Stop.Interp) :
    ReturnsInHanded {} Tryz.checked os 3 .any ((OpenSpec.ofChange Rows.markupWhereSpec).preRow enc Tryz.prog Tryz.f3 Rows.markupWhereRow.domain false Rows.markupWhereRow.laid) (((OpenSpec.ofChange Rows.markupWhereSpec).at F).post enc Tryz.prog Tryz.f3 false true false false) := by
  obtain ⟨places, hx⟩ := reads os enc
  refine returnsInHanded_of_row (C := Tryz.checked) (s := OpenSpec.ofChange Rows.markupWhereSpec) own started (by kernel_rfl) (Tryz.func3)
    (witness_row_atRef (enc := enc) (C := Tryz.checked) false (laidWorld os) #[.string ⟨#[]⟩, .int .i64 0] (World.laidAll_os _ _ _) (by kernel_rfl) (by kernel_rfl) (by kernel_rfl)
      (OpenSpec.preRow_of_cond 8 hx (by kernel_rfl) (fun k hk => by cases hk) (by kernel_rfl) (laid_met os))) ?_
  intro W base args ds gs before hval hW _ _ hz hL hsh _
  exact contract H enc W base args ds gs before hval hW hz hL hsh
theorem said : Rows.MarkupWhereSaid :=
  OpenClaim.holds_of_cond 3 Tryz.f3 rfl rfl rfl rfl rfl rfl rfl ⟨rfl, rfl, rfl, rfl, rfl⟩ rfl rfl rfl rfl rfl (by kernel_rfl) (Tryz.func3) (by kernel_rfl)
    (of_decide_eq_true (by kernel_rfl)) (by unfold Func.isWrapper; first | (rw [if_pos (by decide +kernel)]; kernel_rfl) | (rw [if_neg (by decide +kernel)]; exact ⟨rfl, rfl⟩))
    (fun os started H enc _ F => by rw [OpenClaim.pre_eq_preRow]; exact lifted os started H enc F)
theorem plain (f : FuncId) (fn : Func) (hf : Tryz.pinned.checked.prog.funcNamed "espalier/espalierlaw04.MarkupWhere" = some f) (hfn : Tryz.pinned.checked.prog.funcs[f]? = some fn) :
    true = Tryz.pinned.checked.prog.looks [] ∧ ∀ (j : Nat) t, fn.params[j]? = some t → Tryz.pinned.checked.prog.wantsStandIn t = false := by
  obtain rfl : f = 3 := Option.some.inj ((show Tryz.prog.funcNamed "espalier/espalierlaw04.MarkupWhere" = some 3 by kernel_rfl).symm.trans hf) |>.symm
  obtain rfl : fn = Tryz.f3 := (Option.some.inj ((Tryz.func3).symm.trans hfn)).symm
  refine ⟨by kernel_rfl, fun j t ht => ?_⟩
  rw [(Tryz.params3)] at ht
  have hm : t = 9 ∨ t = 3 := by simpa using Array.mem_of_getElem? ht
  rcases hm with rfl | rfl
  · exact (show Tryz.prog.wantsStandIn 9 = false by kernel_rfl)
  · exact (show Tryz.prog.wantsStandIn 3 = false by kernel_rfl)
/-- THE CARD. -/
theorem card : Rows.MarkupWhereCardSaid :=
  Claim7.holds_tied_plain_at .later [] _ _ _ _ said (fun _ h => by cases h) (by kernel_rfl) (fun _ h => by cases h) markupWhere_row_tie rfl ⟨rfl, rfl⟩ (by kernel_rfl) rfl plain (by kernel_rfl)
#print axioms card
end Go.Proofs.YtipfakmbjajhlaaGreatDoor.markupWhere
end
