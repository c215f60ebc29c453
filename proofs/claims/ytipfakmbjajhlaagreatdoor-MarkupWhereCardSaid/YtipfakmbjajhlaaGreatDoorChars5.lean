/-
  chars.Text, chars.Escape: contracts.
-/
import Derived.Test.YtipfakmbjajhlaaGreatDoorBld3
set_option linter.unusedVariables false
set_option linter.unusedSimpArgs false
namespace Go.Proofs.YtipfakmbjajhlaaGreatDoor 
open Go.RowKit
theorem Text_any (s : ByteArray) (w : World) (hT : Tabs w) (hs : s.size ≤ 140737488355328) : Calls Tryz.prog 109 #[.string s] w (RetP (Pure.text (Pure.toL s)) w) := by
  have HF := Lib.hid (text_any s w hT hs)
  generalize Pure.text (Pure.toL s) = R at *
  obtain ⟨r, e⟩ := R
  go_enter Tryz.func109, Tryz.ntmps109
  go_wp2_with (go_at_call 98; refine (HF.out).mono ?_; rintro e w' ⟨rfl, hb⟩; unfold vPair)
  go_ret2
  exact ⟨rfl, by assumption⟩
/-- A text, a place or a length, and an error. -/
def vText (x : Pure.Bytes × Int × Int) : Value := .tuple #[.string (Pure.ofL x.1), .int .i64 x.2.1, .int .i64 x.2.2]
def RetT (x : Pure.Bytes × Int × Int) (w : World) (e : Ending) (w' : World) : Prop := e = .returned (vText x) ∧ Below w.heap.size w w'
theorem text_ok_size {s : Pure.Bytes} (h : (Pure.text s).2 = 0) : s.length ≤ 16384 := by
  unfold Pure.text at h
  split at h
  · exact absurd h (by decide)
  · omega
/-- What the loop of Escape has in its builder at byte k. -/
structure EscInv (s : ByteArray) (quote : Bool) (B bb : Nat) (k : Nat) (W w : World) : Prop where
  bld : ∃ p v, w.heap[bb]? = some (.cells #[p, v] 83 (0, 0)) ∧ (p = .pointer none ∨ p = .pointer (some ⟨bb, 0, none⟩)) ∧ BufAt w B v (((Pure.toL s).take k).flatMap (Pure.escByte quote))
  below : Below B W w
  size : B ≤ w.heap.size
theorem placeBuilder : Place 83 2 0 := ⟨by kernel_rfl, by decide⟩
theorem esc_len (s : ByteArray) (quote : Bool) (k : Nat) : (((Pure.toL s).take k).flatMap (Pure.escByte quote)).length ≤ 6 * s.size := by
  have h1 : ∀ l : Pure.Bytes, (l.flatMap (Pure.escByte quote)).length ≤ 6 * l.length := by
    intro l
    induction l with
    | nil => simp
    | cons c l ih =>
      have hc : (Pure.escByte quote c).length ≤ 6 := by
        unfold Pure.escByte
        repeat' split
        all_goals simp
      simp only [List.flatMap_cons, List.length_append, List.length_cons]
      omega
  have := h1 ((Pure.toL s).take k)
  have h2 : ((Pure.toL s).take k).length ≤ s.size := by rw [List.length_take, Pure.length_toL]; omega
  omega
theorem take_succ_toL (s : ByteArray) (k : Nat) (h : k < s.size) : (Pure.toL s).take (k + 1) = (Pure.toL s).take k ++ [s[k]] := by
  rw [List.take_succ_eq_append_getElem (by rw [Pure.length_toL]; exact h), toL_get s k h]
/-- One more text written: the loop's state at the next byte. -/
theorem EscInv.step {s : ByteArray} {quote : Bool} {B bb k : Nat} {W w w' : World} (hk : k < s.size) (hsz : B ≤ w.heap.size) (hbb : B ≤ bb) (hW : Below B W w) (p v : Value) (t : Pure.Bytes)
    (he : Pure.escByte quote s[k] = t) (hown : ∀ g, v.ownBlock = some g → B ≤ g)
    (hpost : ∃ v', BufAt w' B v' (((Pure.toL s).take k).flatMap (Pure.escByte quote) ++ t) ∧ w'.heap[bb]? = some (.cells (((#[p, v] : Array Value).setIfInBounds 0 (.pointer (some ⟨bb, 0, none⟩))).setIfInBounds (0 + 1) v') 83 (0, 0)) ∧ Chg (fun i => i = bb ∨ v.ownBlock = some i) w w') :
    EscInv s quote B bb (k + 1) W w' := by
  obtain ⟨v', h1, h2, h3⟩ := hpost
  refine ⟨⟨.pointer (some ⟨bb, 0, none⟩), v', h2, .inr rfl, ?_⟩, hW.trans (h3.below hsz ?_), Nat.le_trans hsz h3.size⟩
  · rw [take_succ_toL s k hk, List.flatMap_append]
    simp only [List.flatMap_cons, List.flatMap_nil, List.append_nil]
    rw [he]; exact h1
  · rintro i (rfl | h); exact hbb; exact hown i h
theorem u8_beq (c : UInt8) (n : Nat) (hn : n < 256) : ((c.toNat : Int) == (n : Int)) = decide (c = UInt8.ofNat n) := by
  rw [Bool.eq_iff_iff]
  simp only [beq_iff_eq, decide_eq_true_eq]
  constructor
  · intro h
    have : c.toNat = n := by omega
    rw [← this]; simp
  · rintro rfl
    have : (UInt8.ofNat n).toNat = n := by simp; omega
    rw [this]
/-- Escape's byte, by its tests as the walk spells them. -/
theorem escByte_int (quote : Bool) (c : UInt8) : Pure.escByte quote c =
    if ((c.toNat : Int) == 38) = true then [38, 97, 109, 112, 59] else if ((c.toNat : Int) == 60) = true then [38, 108, 116, 59] else if ((c.toNat : Int) == 62) = true then [38, 103, 116, 59] else if ((c.toNat : Int) == 13) = true then [38, 35, 49, 51, 59]
    else if (quote && ((c.toNat : Int) == 34)) = true then [38, 113, 117, 111, 116, 59] else if (quote && ((c.toNat : Int) == 9)) = true then [38, 35, 57, 59] else if (quote && ((c.toNat : Int) == 10)) = true then [38, 35, 49, 48, 59] else [c] := by
  have h38 := u8_beq c 38 (by decide)
  have h60 := u8_beq c 60 (by decide)
  have h62 := u8_beq c 62 (by decide)
  have h13 := u8_beq c 13 (by decide)
  have h34 := u8_beq c 34 (by decide)
  have h9 := u8_beq c 9 (by decide)
  have h10 := u8_beq c 10 (by decide)
  simp only [Int.cast_ofNat_Int] at h38 h60 h62 h13 h34 h9 h10
  rw [h38, h60, h62, h13, h34, h9, h10]
  unfold Pure.escByte
  cases quote <;> simp
set_option maxRecDepth 100000 in
set_option maxHeartbeats 2000000 in
theorem Escape_any (s : ByteArray) (quote : Bool) (w : World) (hT : Tabs w) (hs : s.size ≤ 140737488355328) : Calls Tryz.prog 56 #[.string s, .bool quote] w (RetT (Pure.escape (Pure.toL s) quote) w) := by
  have hF := text_any s w hT hs
  have hE : ∀ R, Pure.text (Pure.toL s) = R → Pure.escape (Pure.toL s) quote = if R.2 = 0 then ((Pure.toL s).flatMap (Pure.escByte quote), 0, 0) else ([], R.1, R.2) := by rintro R rfl; rfl
  have hE' := hE _ rfl
  have hlen := text_ok_size (s := Pure.toL s)
  rw [hE']
  clear hE hE'
  rw [Pure.length_toL] at hlen
  generalize Pure.text (Pure.toL s) = R at *
  obtain ⟨r, e⟩ := R
  simp only at hlen
  have HF := Lib.hid hF
  clear hF
  by_cases he : e = 0
  · subst he
    have hl := hlen rfl
    rw [if_pos rfl]
    clear hlen
    go_enter Tryz.func56, Tryz.ntmps56
    go_wp2_with (go_at_call 98; refine (HF.out).mono ?_; rintro e w1 ⟨rfl, hb1⟩; unfold vPair)
    have hsz0 : w1.heap.size < (w1.alloc (.cells #[.pointer none, .slice none 0 0] 83)).heap.size := by simp
    have hstart : EscInv s quote w1.heap.size w1.heap.size 0 w1 (w1.alloc (.cells #[.pointer none, .slice none 0 0] 83)) :=
      ⟨⟨_, _, heap_alloc_new w1 _, .inl rfl, by simpa using BufAt.nil _ _⟩, (Below.refl _ _).alloc (Nat.le_refl _) _, by simp⟩
    have HS := Lib.hid hstart
    have Hb1 := Lib.hid hb1
    clear hstart hb1 hsz0
    obtain ⟨BB, hBB⟩ : ∃ BB, BB = w1.heap.size := ⟨_, rfl⟩
    rw [← hBB] at HS ⊢
    have HBB := Lib.hid hBB
    clear hBB
    go_loopw [23] (fun i wr => ∃ k : Nat, k ≤ s.size ∧ i = .int .i64 k ∧ EscInv s quote BB BB k w1 wr) (fun i _ => s.size - (intOf i).toNat)
    case atStart => exact ⟨0, Nat.zero_le _, rfl, HS.out⟩
    case round =>
      obtain ⟨k, hk, rfl, hI⟩ := hrel
      have hI2 := hI
      obtain ⟨⟨p, v, hcell, hp, hB⟩, hbel, hsz⟩ := hI2
      have hel := esc_len s quote k
      by_cases hlt : k < s.size
      · have HW : Hid (∀ t : ByteArray, t.size ≤ 6 → Calls Tryz.prog 99 #[.pointer (some ⟨BB, 0, none⟩), .string t] wr (WritePost BB 0 #[p, v] 83 BB v ((((Pure.toL s).take k).flatMap (Pure.escByte quote)) ++ Pure.toL t) (.tuple #[.int .i64 t.size, .nilIface]) wr)) :=
          fun t ht => bWrite_any BB 0 #[p, v] 83 BB p v _ t wr hcell rfl rfl placeBuilder hp (by decide) hB hsz (by omega)
        have HY := Lib.hid (bByte_any BB 0 #[p, v] 83 BB p v _ s[k] wr hcell rfl rfl placeBuilder hp (by decide) hB hsz (by omega))
        have HG := Lib.hid (fun w' t he hp => EscInv.step (quote := quote) (w' := w') hlt hsz (Nat.le_refl _) hbel p v t he (fun g hg => (hB.1.lt g hg).1) hp)
        clear hcell hp hB hbel hsz hI hel
        cases quote
        all_goals go_wp2_with (first | (go_at_call 99; refine (HW.out _ (by decide)).mono ?_; rintro e w2 ⟨rfl, hpost⟩) | (go_at_call 100; refine (HY.out).mono ?_; rintro e w2 ⟨rfl, hpost⟩))
        all_goals
          go_roundw
          case measure => simp [intOf]; omega
          case rel =>
            refine ⟨k + 1, by omega, by go_num, HG.out _ _ ?_ (by assumption)⟩
            rw [escByte_int]
            simp only [*, if_true, if_false, Bool.false_eq_true, Bool.and_false, Bool.and_true, Bool.true_and, Bool.false_and]
            try rfl
      · obtain rfl : k = s.size := by omega
        have hS := bString_any BB 0 BB v _ wr (by rw [Lib.cell_of_heap hcell]; rfl) hB
        have hall : (Pure.toL s).take s.size = Pure.toL s := by rw [← Pure.length_toL]; exact List.take_length
        rw [hall] at hS
        have HS2 := Lib.hid hS
        have HW := Lib.hid (fun w' (h : Chg (fun i => v.ownBlock = some i) wr w') => hbel.trans (h.below hsz (fun g hg => (hB.1.lt g hg).1)))
        clear hcell hp hB hbel hsz hI hel hS hall
        go_wp2_with (go_at_call 50; refine (HS2.out).mono ?_; rintro e w2 ⟨rfl, hpost⟩)
        go_ret3
        exact ⟨rfl, Below.thenNew Hb1.out Hb1.out.size (HBB.out ▸ HW.out _ (by assumption))⟩
  · have hne : (e != 0) = true := by rw [bne_iff_ne]; exact he
    rw [if_neg he]
    clear hlen he
    go_enter Tryz.func56, Tryz.ntmps56
    go_wp2_with (go_at_call 98; refine (HF.out).mono ?_; rintro e w1 ⟨rfl, hb1⟩; unfold vPair)
    go_ret3
    exact ⟨rfl, by assumption⟩
end Go.Proofs.YtipfakmbjajhlaaGreatDoor 
