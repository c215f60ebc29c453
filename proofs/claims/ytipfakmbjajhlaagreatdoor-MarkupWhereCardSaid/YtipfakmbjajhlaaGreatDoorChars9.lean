/-
  chars.Unescape (where no '&#x' stands): contract.
-/
import Derived.Test.YtipfakmbjajhlaaGreatDoorChars8
set_option linter.unusedVariables false
set_option linter.unusedSimpArgs false
namespace Go.Proofs.YtipfakmbjajhlaaGreatDoor 
open Go.RowKit
theorem first_err0 (l : Pure.Bytes) (h : (Pure.first l).2.2 ≠ 0) : (Pure.first l).2.1 = 0 := by
  unfold Pure.first at h ⊢
  split
  · rfl
  · rename_i h0
    rw [if_neg h0] at h
    split
    · rfl
    · rename_i h1
      rw [if_neg h1] at h
      exact absurd rfl h
theorem runeBytes_len (r : Int) : (Pure.runeBytes r).length ≤ 4 ∧ 1 ≤ (Pure.runeBytes r).length := by
  unfold Pure.runeBytes Utf8.encode
  dsimp only
  repeat' split
  all_goals simp [Pure.toL]
theorem numbered_len (l : Pure.Bytes) (h2 : 2 ≤ l.length) : 0 ≤ (Pure.numbered10 l).2.1 ∧ ((Pure.numbered10 l).2.2 = 0 → 1 ≤ (Pure.numbered10 l).2.1 ∧ (Pure.numbered10 l).2.1 ≤ l.length ∧ (Pure.numbered10 l).1.length ≤ 4) ∧ (Pure.numbered10 l).1.length ≤ 4 := by
  unfold Pure.numbered10
  simp only
  cases hd : l.drop (2 + (((l.drop 2).take 7).takeWhile Pure.isDigit10).length) with
  | nil => simp
  | cons c r =>
    have hlt : 2 + (((l.drop 2).take 7).takeWhile Pure.isDigit10).length < l.length := by
      have := congrArg List.length hd
      simp only [List.length_drop, List.length_cons] at this
      omega
    simp only
    split
    · simp
    · split
      · simp
      · have hr := runeBytes_len (Pure.digitsVal (((l.drop 2).take 7).takeWhile Pure.isDigit10) : Int)
        simp only
        generalize Pure.runeBytes _ = q at *
        exact ⟨by omega, fun _ => ⟨by omega, by omega, hr.1⟩, hr.1⟩
theorem refLoop_len (l : Pure.Bytes) : ∀ (tab : List (Pure.Bytes × UInt8)) (why : Int), (∀ x ∈ tab, 1 ≤ x.1.length) →
    0 ≤ (Pure.refLoop l tab why).2.1 ∧ ((Pure.refLoop l tab why).2.2 = 0 → (why = 0 ∨ (1 ≤ (Pure.refLoop l tab why).2.1 ∧ (Pure.refLoop l tab why).2.1 ≤ l.length))) ∧ (Pure.refLoop l tab why).1.length ≤ 4 := by
  intro tab
  induction tab with
  | nil =>
    intro why _
    simp only [Pure.refLoop]
    refine ⟨by simp, fun h => ?_, by simp⟩
    split at h
    · exact absurd h (by decide)
    · exact .inl h
  | cons x tab ih =>
    obtain ⟨t, c⟩ := x
    intro why hx
    simp only [Pure.refLoop]
    split
    · rename_i hp
      have h1 := hx (t, c) (List.mem_cons_self ..)
      have h2 := (List.isPrefixOf_iff_prefix.1 hp).length_le
      refine ⟨by simp only; omega, fun _ => .inr ⟨by simp only at *; omega, by simp only; omega⟩, by simp⟩
    · split
      · obtain ⟨i1, i2, i3⟩ := ih 4 (fun x hx' => hx x (List.mem_cons_of_mem _ hx'))
        exact ⟨i1, fun h => by rcases i2 h with h | h; exact absurd h (by decide); exact .inr h, i3⟩
      · exact ih why (fun x hx' => hx x (List.mem_cons_of_mem _ hx'))
theorem reference_len (l : Pure.Bytes) : 0 ≤ (Pure.reference l).2.1 ∧ ((Pure.reference l).2.2 = 0 → 1 ≤ (Pure.reference l).2.1 ∧ (Pure.reference l).2.1 ≤ l.length) ∧ (Pure.reference l).1.length ≤ 4 := by
  unfold Pure.reference
  split
  · rename_i hp
    have h2 := (List.isPrefixOf_iff_prefix.1 hp).length_le
    split
    · simp
    · obtain ⟨h0, h1, h3⟩ := numbered_len l h2
      exact ⟨h0, fun h => ⟨(h1 h).1, (h1 h).2.1⟩, h3⟩
  · obtain ⟨h0, h1, h3⟩ := refLoop_len l Pure.namedRefs 20 (by decide)
    exact ⟨h0, fun h => by rcases h1 h with h | h; exact absurd h (by decide); exact h, h3⟩
/-- What one step of Unescape reads: what it stands for, its length, its error. -/
def unStep (l : Pure.Bytes) (c : UInt8) : Pure.Bytes × Int × Int := if c = 38 then Pure.reference l else ((l.take (Pure.first l).2.1.toNat), (Pure.first l).2.1, (Pure.first l).2.2)
/-- What is left to be unescaped, from byte k on. -/
def UnAt (s : ByteArray) (R : Pure.Bytes × Int × Int) (k f : Nat) (acc : Pure.Bytes) : Prop := Pure.unescFrom f ((Pure.toL s).drop k) k acc = R
theorem drop_cons (s : ByteArray) (k : Nat) (hk : k < s.size) : (Pure.toL s).drop k = s[k] :: (Pure.toL s).drop (k + 1) := by
  rw [List.drop_eq_getElem_cons (by rw [Pure.length_toL]; exact hk), toL_get s k hk]
theorem UnAt.eq {s : ByteArray} {R : Pure.Bytes × Int × Int} {k f : Nat} {acc : Pure.Bytes} (h : UnAt s R k (f + 1) acc) (hk : k < s.size) :
    R = (if (if (unStep ((Pure.toL s).drop k) s[k]).2.2 = 0 ∧ acc.length + (unStep ((Pure.toL s).drop k) s[k]).1.length > 16384 then 2 else (unStep ((Pure.toL s).drop k) s[k]).2.2) ≠ 0
      then ([], (k : Int), if (unStep ((Pure.toL s).drop k) s[k]).2.2 = 0 ∧ acc.length + (unStep ((Pure.toL s).drop k) s[k]).1.length > 16384 then 2 else (unStep ((Pure.toL s).drop k) s[k]).2.2)
      else Pure.unescFrom f (((Pure.toL s).drop k).drop (unStep ((Pure.toL s).drop k) s[k]).2.1.toNat) (k + (unStep ((Pure.toL s).drop k) s[k]).2.1) (acc ++ (unStep ((Pure.toL s).drop k) s[k]).1)) := by
  unfold UnAt at h
  rw [← h]
  rw [drop_cons s k hk]
  rfl
theorem UnAt.eq' {s : ByteArray} {R : Pure.Bytes × Int × Int} {k f : Nat} {acc : Pure.Bytes} (h : UnAt s R k (f + 1) acc) (hk : k < s.size) {t : Pure.Bytes} {n e e2 : Int} (hu : unStep ((Pure.toL s).drop k) s[k] = (t, n, e))
    (h2 : (if e = 0 ∧ acc.length + t.length > 16384 then 2 else e) = e2) : R = if e2 ≠ 0 then ([], (k : Int), e2) else Pure.unescFrom f (((Pure.toL s).drop k).drop n.toNat) (k + n) (acc ++ t) := by
  have h' := h.eq hk
  rw [hu] at h'
  simp only [h2] at h'
  exact h'
theorem UnAt.bad {s : ByteArray} {R : Pure.Bytes × Int × Int} {k f : Nat} {acc : Pure.Bytes} (h : UnAt s R k (f + 1) acc) (hk : k < s.size) {t : Pure.Bytes} {n e : Int} (hu : unStep ((Pure.toL s).drop k) s[k] = (t, n, e)) (he : e ≠ 0) : R = ([], (k : Int), e) := by
  rw [h.eq' hk hu (if_neg (fun h => he h.1)), if_pos he]
theorem UnAt.long {s : ByteArray} {R : Pure.Bytes × Int × Int} {k f : Nat} {acc : Pure.Bytes} (h : UnAt s R k (f + 1) acc) (hk : k < s.size) {t : Pure.Bytes} {n : Int} (hu : unStep ((Pure.toL s).drop k) s[k] = (t, n, 0)) (hl : acc.length + t.length > 16384) : R = ([], (k : Int), 2) := by
  rw [h.eq' hk hu (if_pos ⟨rfl, hl⟩), if_pos (by decide)]
theorem UnAt.good {s : ByteArray} {R : Pure.Bytes × Int × Int} {k f : Nat} {acc : Pure.Bytes} (h : UnAt s R k (f + 1) acc) (hk : k < s.size) {t : Pure.Bytes} {n : Nat} (hu : unStep ((Pure.toL s).drop k) s[k] = (t, (n : Int), 0)) (hl : ¬ acc.length + t.length > 16384) : UnAt s R (k + n) f (acc ++ t) := by
  have h' := h.eq' hk hu (if_neg (fun h => hl h.2))
  rw [if_neg (by simp)] at h'
  unfold UnAt
  rw [h', List.drop_drop]
  simp
theorem UnAt.stop {s : ByteArray} {R : Pure.Bytes × Int × Int} {f : Nat} {acc : Pure.Bytes} (h : UnAt s R s.size (f + 1) acc) : R = (acc, 0, 0) := by
  unfold UnAt at h
  rw [← h, ← Pure.length_toL, List.drop_length]
  rfl
end Go.Proofs.YtipfakmbjajhlaaGreatDoor 
