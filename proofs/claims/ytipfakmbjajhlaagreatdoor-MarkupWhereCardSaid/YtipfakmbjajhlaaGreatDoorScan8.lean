/-
  The reader's methods past, reference.
-/
import Derived.Test.YtipfakmbjajhlaaGreatDoorScan7
set_option linter.unusedVariables false
set_option linter.unusedSimpArgs false
namespace Go.Proofs.YtipfakmbjajhlaaGreatDoor 
open Go.RowKit
variable {T : Teller} {B : Nat} {src : ByteArray} {rb : Nat} {st : Pure.St} {w : World}
theorem index_room : ∀ (s sub : Pure.Bytes), sub ≠ [] → 0 ≤ Lib.index s sub → Lib.index s sub + sub.length ≤ s.length := by
  intro s sub hs
  induction s with
  | nil => intro h; simp only [Lib.index] at h; split at h
           · rename_i h2; exact absurd (List.isEmpty_iff.1 h2) hs
           · omega
  | cons b l ih =>
    intro h
    simp only [Lib.index] at h ⊢
    split
    · rename_i hp
      have := (List.isPrefixOf_iff_prefix.1 hp).length_le
      omega
    · rename_i hp
      rw [if_neg hp] at h
      split
      · rename_i hm; rw [if_pos hm] at h; omega
      · rename_i hm
        rw [if_neg hm] at h
        have hge := Lib.index_ge l sub
        have hne : Lib.index l sub ≠ -1 := by simpa using hm
        have := ih (by omega)
        simp only [List.length_cons]
        omega
theorem indexByte_lt : ∀ (l : Pure.Bytes) (c : UInt8), 0 ≤ Lib.indexByte l c → Lib.indexByte l c < l.length := by
  intro l c
  induction l with
  | nil => intro h; simp only [Lib.indexByte] at h; omega
  | cons b l ih =>
    intro h
    simp only [Lib.indexByte] at h ⊢
    split
    · simp only [List.length_cons]; omega
    · rename_i hb
      rw [if_neg hb] at h
      split
      · rename_i hm; rw [if_pos hm] at h; omega
      · rename_i hm
        rw [if_neg hm] at h
        have hge := Lib.indexByte_ge l c
        have hne : Lib.indexByte l c ≠ -1 := by simpa using hm
        have := ih (by omega)
        simp only [List.length_cons]
        omega
set_option maxRecDepth 100000 in
set_option maxHeartbeats 3200000 in
theorem past_R (j a : Nat) (mark : ByteArray) (h : Inv T B src rb st w) (ha : a + st.rest.length = src.size + j) (hj : j ≤ st.rest.length) (hm0 : Pure.toL mark ≠ []) (hms : mark.size ≤ 16) :
    Calls Tryz.prog 127 #[.pointer (some ⟨rb, 0, none⟩), .int .i64 (a : Int), .string mark] w (Out T B src rb w encU (Pure.past j (Pure.toL mark) st)) := by
  obtain ⟨k, ov, tp, tv, S, Hm, hk, Hr, Hl, c0, c1, c2, c3, c4, c5, c6, hf⟩ := h.parts
  have hs := h.size
  have hl := Hl.out
  obtain ⟨m, hmx⟩ := h.tabs.maxlen
  have hI := Tryz.strings_Index (src.extract a src.size) mark m w (by simp; omega) hmx
  have ed : Pure.toL (src.extract a src.size) = st.rest.drop j := by rw [toL_extract, Hr.out, List.drop_drop]; congr 1; omega
  change Calls _ _ _ _ fun e w' => e = .returned (.int .i64 (Lib.index (Pure.toL (src.extract a src.size)) (Pure.toL mark))) ∧ w' = w at hI
  rw [ed] at hI
  have hV : Pure.past j (Pure.toL mark) st = if Lib.index (st.rest.drop j) (Pure.toL mark) < 0 then .fail st.rest.length 4 st.evs else .ok () { st with rest := (st.rest.drop j).drop ((Lib.index (st.rest.drop j) (Pure.toL mark)).toNat + (Pure.toL mark).length) } := rfl
  rw [hV]
  have hroom := index_room (st.rest.drop j) (Pure.toL mark) hm0
  rw [List.length_drop, Pure.length_toL] at hroom
  rw [Pure.length_toL]
  have hak : a = k + j := by omega
  have hal : a ≤ src.size := by omega
  have HI := Lib.hid hI
  have H := Lib.hid h
  have HA := Lib.hid hak
  have HL := Lib.hid hl
  have hjl : a + mark.size ≤ 262144 + 16 := by omega
  clear hI hV ed hmx h hm0 ha
  generalize Lib.index (st.rest.drop j) (Pure.toL mark) = x at *
  by_cases hx : x < 0
  · rw [if_pos hx]
    clear hroom hak hl
    go_enter Tryz.func127, Tryz.ntmps127
    go_wp2_with (first | (go_at_call 83; refine (HI.out).mono ?_; rintro e' w1 ⟨rfl, rfl⟩) | (go_at_call 96; refine (fail_any _ _ _ _).mono ?_; rintro e' w2 ⟨rfl, rfl⟩))
    exact ⟨rfl, out_fail H.out (Below.refl _ _) HL.out⟩
  · rw [if_neg hx]
    obtain ⟨n, rfl⟩ : ∃ n : Nat, x = n := ⟨x.toNat, by omega⟩
    have hr := hroom (by omega)
    clear hroom hx
    have hfit : a + n + mark.size ≤ src.size := by omega
    clear hl hak
    go_enter Tryz.func127, Tryz.ntmps127
    go_wp2_with (first | (go_at_call 83; refine (HI.out).mono ?_; rintro e' w1 ⟨rfl, rfl⟩))
    go_end0
    have hmv := H.out.move Hm.out (k' := a + n + mark.size) hfit 0
    have e1 : (st.rest.drop j).drop ((n : Int).toNat + mark.size) = (Pure.toL src).drop (a + n + mark.size) := by
      rw [Hr.out, List.drop_drop, List.drop_drop]; congr 1; have := HA.out; simp only [Int.toNat_natCast]; omega
    rw [e1]
    exact ⟨rfl, hmv, (Below.refl _ _).setCell H.out.base _⟩
end Go.Proofs.YtipfakmbjajhlaaGreatDoor 
