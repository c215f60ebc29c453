/-
  The reader's methods tag, piece: all ways.
-/
import Derived.Test.YtipfakmbjajhlaaGreatDoorTag3
set_option linter.unusedVariables false
set_option linter.unusedSimpArgs false
namespace Go.Proofs.YtipfakmbjajhlaaGreatDoor 
open Go.RowKit Go.Shelf
variable {T : Teller} {B : Nat} {src : ByteArray} {rb : Nat} {st : Pure.St} {w : World}
theorem hasPre_len {s p : Pure.Bytes} (h : Pure.hasPre s p = true) : p.length ≤ s.length := (List.isPrefixOf_iff_prefix.1 h).length_le
theorem tag_R (h : Inv T B src rb st w) {r : Pure.Bytes} (h60 : st.rest = 60 :: r) : Calls Tryz.prog 114 #[.pointer (some ⟨rb, 0, none⟩)] w (Out T B src rb w encU (Pure.tag st)) := by
  obtain ⟨k, ov, tp, tv, S, Hm, hk, Hr, Hl, _⟩ := h.parts
  have hlt : k < src.size := by have h1 := Hl.out; rw [h60] at h1; simp only [List.length_cons] at h1; omega
  have hrs : Pure.toL (src.extract k src.size) = st.rest := by rw [toL_extract]; exact Hr.out.symm
  obtain ⟨b1, b2, q2, b3, q3, h4, h5, h6, h7, l8, hT, eb1, eb2, eb3, eq2, eq3, e4, e5, e6, e7⟩ := tag_tests (st := st) _ hrs
  cases b1 with
  | true => exact tag_short1 h hlt Hr hT
  | false =>
    have hne : st.rest ≠ [60] := of_decide_eq_false eb1.symm
    have hlen : 2 ≤ st.rest.length := by
      rw [h60] at hne ⊢
      cases r with
      | nil => exact absurd rfl hne
      | cons a r => simp
    cases b2 with
    | true =>
      have hr := of_decide_eq_true eb2.symm
      rw [hr] at eb3 eq3 e4
      obtain rfl : b3 = false := eb3.trans (by decide)
      obtain rfl : q3 = false := eq3.trans (by decide)
      obtain rfl : h4 = true := e4.trans (by decide)
      exact tag_remark1 h hlt Hr hT (by rw [hr]; decide)
    | false =>
      cases q2 with
      | true => exact tag_short2 h hlt Hr hT
      | false =>
        cases b3 with
        | true =>
          have hr := of_decide_eq_true eb3.symm
          rw [hr] at eq3 e4 e5 e6
          obtain rfl : h4 = false := e4.trans (by decide)
          obtain rfl : h5 = false := e5.trans (by decide)
          obtain rfl : h6 = true := e6.trans (by decide)
          exact tag_raw1 h hlt Hr hT (by rw [hr]; decide)
        | false =>
          cases q3 with
          | true => exact tag_short3 h hlt Hr hT
          | false =>
            cases h4 with
            | true => exact tag_remark2 h hlt Hr hT (hasPre_len e4.symm)
            | false =>
              cases h5 with
              | true => exact tag_ask h hlt Hr hT (hasPre_len e5.symm)
              | false =>
                cases h6 with
                | true => exact tag_raw2 h hlt Hr hT (hasPre_len e6.symm)
                | false =>
                  cases h7 with
                  | true => exact tag_close h hlt Hr hT hlen
                  | false =>
                    cases l8 with
                    | true => exact tag_open h hlt Hr hT hlen
                    | false => exact tag_none h hlt Hr hT hlen
theorem piece_any (h : Inv T B src rb st w) (hne : st.rest ≠ []) : Calls Tryz.prog 94 #[.pointer (some ⟨rb, 0, none⟩)] w (Out T B src rb w encU (Pure.piece st)) :=
  piece_R h hne fun _ hr => tag_R h hr
end Go.Proofs.YtipfakmbjajhlaaGreatDoor 
