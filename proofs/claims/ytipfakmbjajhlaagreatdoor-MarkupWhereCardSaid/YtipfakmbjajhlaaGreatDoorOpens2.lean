/-
  The reader's method opens.
-/
import Derived.Test.YtipfakmbjajhlaaGreatDoorLess
import Derived.Deep.AppendLies
import Derived.RegionDies
import Derived.Deep.RegionLaw
set_option linter.unusedVariables false
set_option linter.unusedSimpArgs false
namespace Go.Proofs.YtipfakmbjajhlaaGreatDoor 
open Go.RowKit Go.Shelf
variable {T : Teller} {B : Nat} {src : ByteArray} {rb : Nat} {st : Pure.St} {w : World}
theorem flush_ok (s : Pure.St) : ∃ s', Pure.flush s = .ok () s' ∧ s'.txt = [] ∧ s'.rest = s.rest ∧ s'.opn = s.opn ∧ s'.nodes = s.nodes ∧ s'.evs.length + 0 ≤ s.evs.length + (if s.txt = [] then 0 else 1) := by
  unfold Pure.flush
  by_cases h : s.txt = []
  · rw [if_pos h]; exact ⟨s, rfl, h, rfl, rfl, rfl, by simp [h]⟩
  · rw [if_neg h]; exact ⟨_, rfl, rfl, rfl, rfl, rfl, by simp [Pure.tellE, h]⟩
/-- What a round's walk wants. -/
structure OpensCells (T : Teller) (w5 : World) (rb k X : Nat) (src n : ByteArray) (av : Value) : Prop where
  r0 : w5.cell? ⟨rb, 0, none⟩ = some (.string src)
  r1 : w5.cell? ⟨rb, 1, none⟩ = some (.int .i64 (k : Int))
  r6 : w5.cell? ⟨rb, 6, none⟩ = some (.func (.func T.fn) #[] T.cap)
  rf : ∀ i, w5.frozen? ⟨rb, i, none⟩ = false
  x0 : w5.cell? ⟨X, 0, none⟩ = some (.int .i64 1)
  x1 : w5.cell? ⟨X, 1, none⟩ = some (.string n)
  x2 : w5.cell? ⟨X, 2, none⟩ = some av
  x3 : w5.cell? ⟨X, 3, none⟩ = some (.string ⟨#[]⟩)
  xf : ∀ i, w5.frozen? ⟨X, i, none⟩ = false
  rX : rb ≠ X
/-- Whoever is told, and the row that is shown to him. -/
def Ready (T : Teller) (B : Nat) (src : ByteArray) (rb k X : Nat) (st : Pure.St) (av : Value) (w : World) : Prop :=
  ∃ ov tp tv S, Mem T B src rb k st ov tp tv S w ∧ RowApart B rb S ov tv av ∧ ¬ S X ∧ av.ownBlock ≠ some X
theorem opens_cells {X : Nat} {n : ByteArray} {av : Value} {l : List Pure.Attr} {w5 : World} (hI : Inv (T.with _ _ (heldRow X n av l)) B src rb st w5) :
    ∃ k, k ≤ src.size ∧ Hid (st.rest = (Pure.toL src).drop k) ∧ Hid (st.rest.length + k = src.size) ∧ OpensCells T w5 rb k X src n av ∧ Hid (Ready T B src rb k X st av w5) ∧ Hid (∃ ov tp tv S, Mem (T.with _ _ (heldRow X n av l)) B src rb k st ov tp tv S w5) := by
  obtain ⟨k, ov, tp, tv, S, hm, hk, hr⟩ := hI.mem
  have hl := rest_length hk hr
  obtain ⟨d0, d1, d2, d3, d4, d5, d6, df⟩ := hm.rd.cells
  obtain ⟨k', ov', tp', tv', S', hm', a1, a2, a3, a4, a5, hk', hr'⟩ := hI.heldApart
  obtain rfl : k' = k := by
    have := rest_length hk' hr'
    omega
  have hv := hI.held
  refine ⟨k', hk, hr, hl, ⟨d0, d1, d6, df, ?_, ?_, ?_, ?_, fun i => Lib.frozen_of_heap hv.var i, fun h => a2 (.inl h)⟩, ⟨ov', tp', tv', S', hm', fun i hi => ⟨a1 i (.inr hi), fun h => a2 (.inr (h ▸ hi)), fun h => a3 i h (.inr hi), fun h => a4 i h (.inr hi), a5 i (.inr hi)⟩, a1 X (.inl rfl), ?_⟩, ⟨ov, tp, tv, S, hm⟩⟩
  · rw [Lib.cell_of_heap hv.var]; rfl
  · rw [Lib.cell_of_heap hv.var]; rfl
  · rw [Lib.cell_of_heap hv.var]; rfl
  · rw [Lib.cell_of_heap hv.var]; rfl
  · intro h
    obtain ⟨c, f, hg⟩ := row_kind hv.row X h
    have := hg.symm.trans hv.var
    simp at this
/-- An element's loop, at a round. -/
def OpensRel (T : Teller) (B : Nat) (src : ByteArray) (rb : Nat) (w : World) (st s3 : Pure.St) (n : ByteArray) (X m : Nat) (wr : World) : Prop :=
  ∃ k l av f, m = src.size - k ∧ k ≤ src.size ∧ src.size - k < f ∧ Apart l ∧ l.length ≤ 32 ∧ Inv (T.with _ _ (heldRow X n av l)) B src rb { s3 with rest := (Pure.toL src).drop k } wr ∧ Below B w wr ∧
    Pure.opens st = Pure.opensLoop f n l { s3 with rest := (Pure.toL src).drop k }
theorem infoAttr : (Tryz.prog.info? 98).map (fun i => (i.zero, i.size, i.bytes)) = some (some (.agg #[.string ⟨#[]⟩, .string ⟨#[]⟩]), 2, 32) := by kernel_rfl
theorem infoString : (Tryz.prog.info? 9).map (fun i => (i.zero, i.size, i.bytes)) = some (some (.string ⟨#[]⟩), 1, 16) := by kernel_rfl
set_option maxRecDepth 100000 in
set_option maxHeartbeats 3200000 in
theorem opens_R (h : Inv T B src rb st w) (h0 : st.rest ≠ []) : Calls Tryz.prog 130 #[.pointer (some ⟨rb, 0, none⟩)] w (Out T B src rb w encU (Pure.opens st)) := by
  have HF := Lib.hid (flush_R h)
  obtain ⟨s1, hf1, hx1, hr1, ho1, hn1, he1⟩ := flush_ok st
  have hfew := h.few
  rw [hf1] at HF
  have HV1 : Hid (Pure.opens st = (Pure.begins s1.rest.length s1).bind fun _ s => (Pure.name (Pure.skip s)).bind fun n s => Pure.opensLoop (s.rest.length + 1) n [] s) := by
    show Pure.opens st = _
    unfold Pure.opens; rw [hf1]; rfl
  have hsz := h.size
  have hbase := h.base
  clear h hf1
  go_enter Tryz.func130, Tryz.ntmps130
  go_wp2_with (go_at_call 95; refine (HF.out).mono ?_)
  rintro e1 w1 ⟨rfl, h1, hb1⟩
  obtain ⟨k1, ov1, tp1, tv1, S1, Hm1, hk1, Hr1, Hl1, c0, c1, c2, c3, c4, c5, c6, cf⟩ := h1.parts
  have HB := Lib.hid (begins_R (w := w1) s1.rest.length k1 h1 Hl1.out)
  have Hb1 := Lib.hid hb1
  have hlt1 : k1 < src.size := by
    have h1 := Hl1.out
    have h2 := List.length_pos_iff.2 h0
    rw [hr1] at h1
    omega
  have H1 := Lib.hid h1
  clear h1 hb1
  unfold encU
  go_wp2_with (go_at_call 131; refine (HB.out).mono ?_)
  rintro e2 w2 ho2
  cases hbg : Pure.begins s1.rest.length s1 with
  | fail lf y ev =>
    rw [hbg] at ho2 HV1
    obtain ⟨rfl, ho⟩ := ho2
    go_wp2_with fail
    rw [HV1.out]
    exact ⟨rfl, rfl, ho.1, Hb1.out.trans ho.2⟩
  | ok u s2 =>
    rw [hbg] at ho2 HV1
    obtain ⟨rfl, h2, hb2⟩ := ho2
    have hbe : s2 = { s1 with nodes := s1.nodes + 1 } ∧ s1.nodes < 4096 ∧ s1.opn.length < 64 := by
      unfold Pure.begins at hbg
      split at hbg
      · cases hbg
      · rename_i hno
        cases hbg
        exact ⟨rfl, by omega, by omega⟩
    obtain ⟨k2, ov2, tp2, tv2, S2, Hm2, hk2, Hr2, Hl2, d0, d1, d2, d3, d4, d5, d6, df⟩ := h2.parts
    have hkk : k2 = k1 := by
      have h3 := Hl2.out
      have h4 := Hl1.out
      rw [hbe.1] at h3
      change s1.rest.length + k2 = src.size at h3
      omega
    subst hkk
    have hmv := h2.move Hm2.out (k' := k2 + 1) hlt1 0
    have e1 : ((k2 + 1 : Nat) : Int) = (k2 : Int) + 1 := by omega
    rw [e1] at hmv
    have hsk : Pure.skip s2 = { s2 with rest := (Pure.toL src).drop (k2 + 1) } := by unfold Pure.skip; rw [Hr2.out, List.drop_drop]
    rw [← hsk] at hmv
    have HN := Lib.hid (name_R hmv)
    have Hmv := Lib.hid hmv
    have Hb2 := Lib.hid (Hb1.out.trans hb2)
    have hbeg : Begun s2 := by
      have hwf := h2.wf
      refine ⟨hwf, by rw [hbe.1]; exact hx1, ?_, h2.nodes, by rw [hbe.1]; exact hbe.2.2⟩
      rw [hbe.1]
      show s1.evs.length + s1.opn.length + 2 ≤ 2 * (s1.nodes + 1)
      rw [ho1, hn1]
      omega
    have HBg := Lib.hid hbeg
    have HV2 : Hid (Pure.opens st = (Pure.name (Pure.skip s2)).bind fun n s => Pure.opensLoop (s.rest.length + 1) n [] s) := HV1.out
    clear HV1 h2 hb2 hbe hbg hmv hbeg c0 c1 c2 c3 c4 c5 c6 cf hfew hn1 ho1 hr1 hx1 he1
    unfold encU
    go_wp2_with (go_at_call 144; refine (HN.out).mono ?_)
    rintro e3 w3 ho3
    cases hnm : Pure.name (Pure.skip s2) with
    | fail lf y ev =>
      rw [hnm] at ho3 HV2
      obtain ⟨rfl, ho⟩ := ho3
      go_wp2_with fail
      rw [HV2.out]
      exact ⟨rfl, rfl, ho.1, (Hb2.out.setCell hbase _).trans ho.2⟩
    | ok n s3 =>
      rw [hnm] at ho3 HV2
      obtain ⟨rfl, h3, hb3⟩ := ho3
      have HV3 : Hid (Pure.opens st = Pure.opensLoop (s3.rest.length + 1) n [] s3) := HV2.out
      have hro := name_reads hnm
      have hbg3 : Begun s3 := by
        rw [hro]
        exact ⟨HBg.out.wf, HBg.out.txt, HBg.out.few, HBg.out.nodes, HBg.out.deep⟩
      have HB3 := Lib.hid hbg3
      have H3 := Lib.hid h3
      have Hb3 := Lib.hid ((Hb2.out.setCell hbase _).trans hb3)
      clear HV2 h3 hb3 hro hbg3 hnm d0 d1 d2 d3 d4 d5 d6 df
      unfold encS
      go_wp2_with fail
      go_loopg [] (src.size - (src.size - s3.rest.length)) (fun m wr => OpensRel T B src rb w st s3 n w3.heap.size m wr)
      case atStart =>
        obtain ⟨k3, ov3, tp3, tv3, S3, Hm3, hk3, Hr3, Hl3, _⟩ := H3.out.parts
        have hl := Hl3.out
        refine ⟨k3, [], .slice none 0 0, s3.rest.length + 1, by omega, hk3, by omega, List.Pairwise.nil, by simp, ?_, Hb3.out.alloc H3.out.room _, ?_⟩
        · rw [← Hr3.out]
          refine H3.out.hold ((Below.refl _ w3).alloc (Nat.le_refl _) _) (fun k hk => ?_) ⟨heap_alloc_new _ _, World.ownsRow_nil _ _ _ _⟩
          rcases hk with rfl | hk
          · exact Nat.le_refl _
          · simp [Value.ownBlock] at hk
        · rw [← Hr3.out]
          exact HV3.out
      case round =>
        obtain ⟨k, l, av, f, rfl, hk, hf, hap, hl32, hI, hb, hV⟩ := hrel
        have HBl := Lib.hid (blanks_R hI)
        obtain ⟨f, rfl⟩ : ∃ f', f = f' + 1 := ⟨f - 1, by omega⟩
        obtain ⟨ahead, hah⟩ : ∃ ahead : Bool, Pure.blanks { s3 with rest := (Pure.toL src).drop k } = .ok ahead { s3 with rest := ((Pure.toL src).drop k).dropWhile Pure.blank } := ⟨_, rfl⟩
        rw [hah] at HBl
        unfold Pure.opensLoop at hV
        rw [hah] at hV
        have HV := Lib.hid hV
        clear hah
        have HI := Lib.hid hI
        have Hb := Lib.hid hb
        have HAp := Lib.hid hap
        clear hV hI hb hap
        go_wp2_with (go_at_call 145; refine (HBl.out).mono ?_)
        rintro e4 w4 ⟨rfl, h4, hb4⟩
        obtain ⟨k4, hk4, Hr4, Hl4, hC4, Hrd4, Hm4⟩ := opens_cells h4
        obtain ⟨r0, r1, r6, rf, x0, x1, x2, x3, xf, rX⟩ := hC4
        have hkk : k ≤ k4 := by
          have h3 := Hl4.out
          have h5 : ((List.drop k (Pure.toL src)).dropWhile Pure.blank).length ≤ (List.drop k (Pure.toL src)).length := (List.dropWhile_sublist _).length_le
          simp only [List.length_drop, Pure.length_toL] at h3 h5
          omega
        have hrest : Hid (List.dropWhile Pure.blank (List.drop k (Pure.toL src)) = (Pure.toL src).drop k4) := Hr4.out
        rw [hrest.out] at h4 Hr4 Hl4 Hrd4 Hm4
        have HV4 : Hid (Pure.opens st = (Pure.next { s3 with rest := (Pure.toL src).drop k4 }).bind fun c s => if c = 47 then (Pure.must 62 (Pure.skip s)).bind fun _ s => .ok () (Pure.tellE (Pure.tellE s (Pure.startE n l)) (Pure.endE n))
          else if c = 62 then .ok () { Pure.tellE (Pure.skip s) (Pure.startE n l) with opn := n :: s.opn }
          else if ahead && Pure.letter c then (Pure.attr l s).bind fun a s => Pure.opensLoop f n (l ++ [a]) s
          else .fail s.rest.length 3 s.evs) := by
          have h5 := HV.out
          rw [bind_ok] at h5
          simp only [hrest.out] at h5
          exact h5
        have HNx := Lib.hid (next_R h4)
        have HI4 := Lib.hid h4
        have Hb4 := Lib.hid (Hb.out.trans hb4)
        clear h4 hb4 HV hrest
        by_cases hend : k4 = src.size
        · have hnx : Pure.next { s3 with rest := (Pure.toL src).drop k4 } = .fail 0 4 s3.evs := by unfold Pure.next; rw [hend, ← Pure.length_toL, List.drop_length]
          rw [hnx] at HNx HV4
          go_wp2_with (go_at_call 143; refine (HNx.out).mono ?_; rintro e' w5 ho; replace ho := Out.drop ho; obtain ⟨rfl, ho⟩ := ho)
          rw [HV4.out]
          exact ⟨rfl, rfl, ho.1, Hb4.out.trans ho.2⟩
        have hlt : k4 < src.size := by omega
        have hnx : Pure.next { s3 with rest := (Pure.toL src).drop k4 } = .ok src[k4] { s3 with rest := (Pure.toL src).drop k4 } := by unfold Pure.next; simp only [drop_cons src k4 hlt]
        rw [hnx] at HNx HV4
        have HV5 : Hid (Pure.opens st = if src[k4] = 47 then (Pure.must 62 (Pure.skip { s3 with rest := (Pure.toL src).drop k4 })).bind fun _ s => .ok () (Pure.tellE (Pure.tellE s (Pure.startE n l)) (Pure.endE n))
          else if src[k4] = 62 then .ok () { Pure.tellE (Pure.skip { s3 with rest := (Pure.toL src).drop k4 }) (Pure.startE n l) with opn := n :: s3.opn }
          else if ahead && Pure.letter src[k4] then (Pure.attr l { s3 with rest := (Pure.toL src).drop k4 }).bind fun a s => Pure.opensLoop f n (l ++ [a]) s
          else .fail ((Pure.toL src).drop k4).length 3 s3.evs) := HV4.out
        clear HV4 hnx
        have hsk : Pure.skip { s3 with rest := (Pure.toL src).drop k4 } = { s3 with rest := (Pure.toL src).drop (k4 + 1) } := by unfold Pure.skip; simp only [List.drop_drop]
        rw [hsk] at HV5
        clear r0 r1 r6 rf x0 x1 x2 x3 xf rX Hrd4 Hm4 Hr4 Hl4 hsk
        go_wp2_with (go_at_call 143; refine (HNx.out).mono ?_)
        rintro e5 w5 ⟨rfl, h5, hb5⟩
        obtain ⟨k5, hk5, Hr5, Hl5, hC5, Hrd5, Hm5⟩ := opens_cells h5
        obtain rfl : k5 = k4 := by
          have h3 := Hl5.out
          simp only [List.length_drop, Pure.length_toL] at h3
          omega
        obtain ⟨r0, r1, r6, rf, x0, x1, x2, x3, xf, rX⟩ := hC5
        have HI5 := Lib.hid h5
        have Hb5 := Lib.hid (Hb4.out.trans hb5)
        clear h5 hb5 HNx HBl
        unfold encB
        by_cases h47 : src[k5] = 47
        · rw [if_pos h47] at HV5
          have g47 : ((src[k5].toNat : Int) == 47) = true := by rw [h47]; rfl
          clear h47
          have hmv : Inv (T.with _ _ (heldRow w3.heap.size n av l)) B src rb { s3 with rest := (Pure.toL src).drop (k5 + 1) } (w5.setCell ⟨rb, 1, none⟩ (.int .i64 ((k5 : Int) + 1))) := by
            obtain ⟨_, _, _, _, hm⟩ := Hm5.out
            have h3 := HI5.out.move hm (k' := k5 + 1) hlt 0
            have e1 : ((k5 + 1 : Nat) : Int) = (k5 : Int) + 1 := by omega
            rw [e1] at h3
            exact h3
          have HMu := Lib.hid (must_R 62 hmv)
          clear hmv
          go_wp2_with (go_at_call 146; refine (HMu.out).mono ?_)
          rintro e6 w6 ho6
          clear r0 r1 r6 rf x0 x1 x2 x3 xf rX
          cases hmu : Pure.must 62 { s3 with rest := (Pure.toL src).drop (k5 + 1) } with
          | fail lf y ev =>
            rw [hmu] at ho6 HV5
            obtain ⟨rfl, ho⟩ := Out.drop ho6
            go_wp2_with fail
            rw [HV5.out]
            exact ⟨rfl, rfl, ho.1, (Hb5.out.setCell hbase _).trans ho.2⟩
          | ok u6 s6 =>
            rw [hmu] at ho6 HV5
            obtain ⟨rfl, h6, hb6⟩ := ho6
            have hro6 := must_reads hmu
            have hbg6 : Begun s6 := by rw [hro6]; exact ⟨HB3.out.wf, HB3.out.txt, HB3.out.few, HB3.out.nodes, HB3.out.deep⟩
            obtain ⟨k6, hk6, Hr6, Hl6, hC6, Hrd6, Hm6⟩ := opens_cells h6
            obtain ⟨r0, r1, r6, rf, x0, x1, x2, x3, xf, rX⟩ := hC6
            have hrow6 := h6.held.row
            have HVar6 := Lib.hid h6.held.var
            have HRoom6 := Lib.hid h6.room
            have HS := Lib.hid (fun W (hw : W.heap = w6.heap) => sorted_any 0 n l av W (owns_keep hrow6 fun i _ => by rw [hw]) HAp.out hl32)
            obtain ⟨ov6, tp6, tv6, S6, hm6, hav6, hX6, haX6⟩ := Hrd6.out
            have HT := Lib.hid (fun (w0 w1 : World) (hw : w0.heap = w6.heap) hr hc => tell_start (w1 := w1) (n := n) (l := l) hbg6 hm6 (fun i hi => (hav6 i hi).1) hw hr hc hl32)
            have Hm6' := Lib.hid hm6
            have Hav6 := Lib.hid hav6
            have HX6 := Lib.hid hX6
            have HaX6 := Lib.hid haX6
            have hrA : av.ownBlock ≠ some rb := fun h => (hav6 rb h).2.1 rfl
            have hen := T.enters
            have HI6 := Lib.hid h6
            have Hb6 := Lib.hid ((Hb5.out.setCell hbase _).trans hb6)
            have Hbg6 := Lib.hid hbg6
            clear h6 hb6 hro6 hbg6 hrow6 hm6 hav6 hX6 haX6 hmu HMu Hm5 Hrd5 HI5 HI4 Hm6 Hrd6
            unfold encU
            go_wp2_with fail
            go_region_with (first | (go_at_call 147; refine (HS.out w6.drew rfl).mono ?_; rintro e' w7 ⟨rfl, hrow7, hc7⟩; have d6 := hc7.cell (a := ⟨rb, 6, none⟩) r6 hrA) | (refine (HT.out w6.drew _ rfl hrow7 hc7).mono ?_; rintro e' w8 ⟨rfl, hpost⟩))
            all_goals
              obtain ⟨S8, Hm8, Hb8, ⟨_, _, _, _, _, _, t6, _⟩, y0, y1, y2, y3⟩ := after_start Hm6'.out Hav6.out HX6.out HaX6.out HVar6.out HRoom6.out hc7 hpost
              have HE := Lib.hid (fun W (hw : W.heap = w8.heap) => tell_end (T := T) (n := n) (w1 := W) (T.keep Hm8.out.told (by rw [hw]; exact Nat.le_refl _) (fun i _ => by rw [hw])) (depth_start Hbg6.out n l) (by rw [List.length_append]; have := Hbg6.out.few; have := Hbg6.out.nodes; simp only [List.length_cons, List.length_nil]; omega))
              clear hc7 hpost hrow7 d6 r0 r1 r6 rf x0 x1 x2 x3 xf
              have t6' : w8.cell? ⟨rb, 6, none⟩ = some (.func (.func T.fn) #[] T.cap) := t6
              clear t6
              go_wp2_with fail
            all_goals
              go_region_with (refine (HE.out w8.drew rfl).mono ?_; rintro e' w9 ⟨rfl, hpost⟩)
            all_goals
              go_wp2_with fail
              refine bodyPost_ret (results_none rfl _ _ _) rfl ?_
              have hfin : Pure.opens st = .ok () (Pure.tellE (Pure.tellE s6 (Pure.startE n l)) (Pure.endE n)) := HV5.out
              rw [hfin]
              exact opens_end2 HI6.out.drop Hbg6.out Hm8.out Hb8.out hk6 Hr6.out Hb6.out hpost
        · rw [if_neg h47] at HV5
          have g47 : ((src[k5].toNat : Int) == 47) = false := by rw [beq_eq_false_iff_ne]; intro h; apply h47; exact UInt8.toNat_inj.1 (by show src[k5].toNat = 47; omega)
          clear h47
          by_cases h62 : src[k5] = 62
          · rw [if_pos h62] at HV5
            have g62 : ((src[k5].toNat : Int) == 62) = true := by rw [h62]; rfl
            clear h62
            have hmv : Inv (T.with _ _ (heldRow w3.heap.size n av l)) B src rb { s3 with rest := (Pure.toL src).drop (k5 + 1) } (w5.setCell ⟨rb, 1, none⟩ (.int .i64 ((k5 : Int) + 1))) := by
              obtain ⟨_, _, _, _, hm⟩ := Hm5.out
              have h3 := HI5.out.move hm (k' := k5 + 1) hlt 0
              have e1 : ((k5 + 1 : Nat) : Int) = (k5 : Int) + 1 := by omega
              rw [e1] at h3
              exact h3
            have h6 := hmv
            go_wp2_with fail
            clear r0 r1 r6 rf x0 x1 x2 x3 xf rX
            generalize hwA : w5.setCell ⟨rb, 1, none⟩ (.int .i64 ((k5 : Int) + 1)) = w6 at *
            have hbg6 : Begun { s3 with rest := (Pure.toL src).drop (k5 + 1) } := ⟨HB3.out.wf, HB3.out.txt, HB3.out.few, HB3.out.nodes, HB3.out.deep⟩
            obtain ⟨k6, hk6, Hr6, Hl6, hC6, Hrd6, Hm6⟩ := opens_cells h6
            obtain ⟨r0, r1, r6, rf, x0, x1, x2, x3, xf, rX⟩ := hC6
            have hrow6 := h6.held.row
            have HVar6 := Lib.hid h6.held.var
            have HRoom6 := Lib.hid h6.room
            have HS := Lib.hid (fun W (hw : W.heap = w6.heap) => sorted_any 0 n l av W (owns_keep hrow6 fun i _ => by rw [hw]) HAp.out hl32)
            obtain ⟨ov6, tp6, tv6, S6, hm6, hav6, hX6, haX6⟩ := Hrd6.out
            have HT := Lib.hid (fun (w0 w1 : World) (hw : w0.heap = w6.heap) hr hc => tell_start (w1 := w1) (n := n) (l := l) hbg6 hm6 (fun i hi => (hav6 i hi).1) hw hr hc hl32)
            have Hm6' := Lib.hid hm6
            have Hav6 := Lib.hid hav6
            have HX6 := Lib.hid hX6
            have HaX6 := Lib.hid haX6
            have hrA : av.ownBlock ≠ some rb := fun h => (hav6 rb h).2.1 rfl
            have hen := T.enters
            have HI6 := Lib.hid h6
            have hb6 : Below B w w6 := by rw [← hwA]; exact Hb5.out.setCell hbase _
            have Hb6 := Lib.hid hb6
            have Hbg6 := Lib.hid hbg6
            obtain ⟨is, his, hsz0, hsz1, hsz2⟩ := info_parts infoString
            clear h6 hb6 hbg6 hrow6 hm6 hav6 hX6 haX6 Hm5 Hrd5 HI5 HI4 Hm6 Hrd6 hwA hmv
            go_region_with (first | (go_at_call 147; refine (HS.out w6.drew rfl).mono ?_; rintro e' w7 ⟨rfl, hrow7, hc7⟩; have d6 := hc7.cell (a := ⟨rb, 6, none⟩) r6 hrA) | (refine (HT.out w6.drew _ rfl hrow7 hc7).mono ?_; rintro e' w8 ⟨rfl, hpost⟩))
            all_goals
              obtain ⟨S8, Hm8, Hb8, ⟨t0, t1, t2, t3, t4, t5, t6, tf⟩, y0, y1, y2, y3⟩ := after_start Hm6'.out Hav6.out HX6.out HaX6.out HVar6.out HRoom6.out hc7 hpost
              clear hc7 hpost hrow7 d6 r0 r1 r6 rf x0 x1 x2 x3 xf
              have HO := Lib.hid (fun o => World.ownsRow.alloc (show w8.drew.ownsRow B 9 1 ov6 s3.opn.length (s3.opn.reverse.map .string) from Hm8.out.opn) o)
              have hsm : s3.opn.length ≤ 64 := by have := HB3.out.deep; omega
              have hr8 : B ≤ w8.heap.size := Nat.le_trans HRoom6.out Hb8.out.size
              have HOp := Lib.hid Hm8.out.opn
              have hneO : ov6.ownBlock ≠ some rb := Hm8.out.ne_ov
              have hlt8 : rb < w8.heap.size := lt_of_block Hm8.out.rd
              go_wp2_with fail
            all_goals
              go_region_law (refine step_append_lies _ rfl (.tmp 81) (.tmp 84) 58 rfl B 9 is (.string ⟨#[]⟩) 1 16 Tryz.underlying58 his hsz0 hsz1 hsz2 rfl (by decide) ov6 s3.opn.length (s3.opn.reverse.map .string) (by simp [Act.eval, Act.put]) (HO.out _) ⟨w8.heap.size, 0, none⟩ 1 1 [.string n] (by simp [Act.eval, Act.put]) rfl (World.news_of_block (heap_alloc_new _ _)) (by intro u hu; simp at hu; subst hu; rfl) (by decide) (by unfold maxLen; omega) (by omega) (by simp; omega) _ rfl ?_; intro g cap w9 hown9 hgrow9 hat9 hlt9; obtain ⟨hh9, hz2, hzf⟩ := opn_kept Hm8.out hgrow9)
            all_goals
              go_wp2_with fail
              refine bodyPost_ret (results_none rfl _ _ _) rfl ?_
              have hfin : Pure.opens st = .ok () { Pure.tellE { s3 with rest := (Pure.toL src).drop (k5 + 1) } (Pure.startE n l) with opn := n :: s3.opn } := HV5.out
              rw [hfin]
              exact opens_end1 HI6.out.drop Hbg6.out Hm8.out Hb8.out hk6 Hr6.out Hb6.out hown9 hgrow9
          · rw [if_neg h62] at HV5
            have g62 : ((src[k5].toNat : Int) == 62) = false := by rw [beq_eq_false_iff_ne]; intro h; apply h62; exact UInt8.toNat_inj.1 (by show src[k5].toNat = 62; omega)
            clear h62
            have HLt := Lib.hid (sletter_any src[k5])
            cases hal : ahead && Pure.letter src[k5] with
            | false =>
              rw [hal] at HV5
              have HVF : Hid (Pure.opens st = .fail ((Pure.toL src).drop k5).length 3 s3.evs) := HV5.out
              cases ahead with
              | false =>
                clear hal
                go_wp2_with (go_at_call 96; refine (fail_any _ _ _ _).mono ?_; rintro e' w6 ⟨rfl, rfl⟩)
                rw [HVF.out]
                have hof := out_fail (enc := encU) (why := 3) HI5.out.drop Hb5.out Hl5.out
                exact ⟨rfl, hof⟩
              | true =>
                have hlt2 : Pure.letter src[k5] = false := by simpa using hal
                rw [hlt2] at HLt
                clear hal hlt2
                go_wp2_with (first | (go_at_call 129; refine (HLt.out _).mono ?_; rintro e' w6 ⟨rfl, rfl⟩) | (go_at_call 96; refine (fail_any _ _ _ _).mono ?_; rintro e' w6 ⟨rfl, rfl⟩))
                rw [HVF.out]
                have hof := out_fail (enc := encU) (why := 3) HI5.out.drop Hb5.out Hl5.out
                exact ⟨rfl, hof⟩
            | true =>
              obtain ⟨rfl, hlt2⟩ := (Bool.and_eq_true _ _).mp hal
              rw [hal] at HV5
              rw [hlt2] at HLt
              have HVA : Hid (Pure.opens st = (Pure.attr l { s3 with rest := (Pure.toL src).drop k5 }).bind fun a s => Pure.opensLoop f n (l ++ [a]) s) := HV5.out
              clear HV5 hal hlt2
              have HA := Lib.hid (attr_R (rowKnows w3.heap.size n av l) (HI5.out.drewN 1) hl32)
              obtain ⟨ia, hia, ha0, ha1, ha2⟩ := info_parts infoAttr
              cases hat : Pure.attr l { s3 with rest := (Pure.toL src).drop k5 } with
              | fail lf y ev =>
                rw [hat] at HA HVA
                go_wp2_with (go_at_call 129; refine (HLt.out _).mono ?_; rintro e' w6 ⟨rfl, rfl⟩)
                go_region_dies
                all_goals
                  go_wp2_with (go_at_call 148; refine (HA.out).mono ?_; rintro e' w6 ho; replace ho := Out.drop ho; obtain ⟨rfl, ho⟩ := ho)
                all_goals
                  rw [HVA.out]
                  exact ⟨rfl, rfl, ho.1, (Below.drewN Hb5.out 1).trans ho.2⟩
              | ok a s7 =>
                obtain ⟨hon, hl31, hany⟩ := attr_on hat
                rw [hat] at HA HVA
                have HOn := Lib.hid hon
                have HAny := Lib.hid hany
                have HVB : Hid (Pure.opens st = Pure.opensLoop f n (l ++ [a]) s7) := HVA.out
                clear hon hany hat HVA
                go_wp2_with (go_at_call 129; refine (HLt.out _).mono ?_; rintro e' w6 ⟨rfl, rfl⟩)
                go_region_law (first | (refine step_append_lies _ rfl (.tmp 95) (.tmp 100) 47 rfl 0 98 ia (.agg #[.string ⟨#[]⟩, .string ⟨#[]⟩]) 2 32 Tryz.underlying47 hia ha0 ha1 ha2 rfl (by decide) av l.length (l.flatMap encA) (by simp [Act.eval, Act.put]) (HI6.out.held.row.alloc _) ⟨w6.heap.size, 0, none⟩ 1 1 (encA a) (by simp [Act.eval, Act.put]) rfl (World.news_of_block (heap_alloc_new _ _)) (by intro u hu; simp [encA] at hu; rcases hu with rfl | rfl <;> rfl) (by decide) (by unfold maxLen; omega) (by omega) (by simp) _ rfl ?_; intro g cap w9 hown9 hgrow9 hat9 hlt9; obtain ⟨hh9, hz2, hzf⟩ := x_kept HI6.out.held hgrow9) | (go_simp; go_at_call 148; refine (HA.out).mono ?_; rintro e' w6 ⟨rfl, h6, hb6⟩; have HI6 := Lib.hid h6; have Hb6 := Lib.hid hb6; have hzx := (opens_cells h6); obtain ⟨k7, hk7, Hr7, Hl7, ⟨_, _, _, _, z0, z1, z2, z3, zf, _⟩, _, _⟩ := hzx; have zA : ∀ o, (w6.alloc o).cell? ⟨w3.heap.size, 2, none⟩ = some av := fun o => Lib.cell?_alloc_some _ z2; clear h6 hb6; unfold encAt))
                all_goals
                  go_wp2_with fail
                  go_roundg (src.size - k7)
                  case measure =>
                    have h1 : s7.rest.length + 1 ≤ ((Pure.toL src).drop k5).length := HOn.out.2
                    have h2 : s7.rest.length + k7 = src.size := Hl7.out
                    have h3 : ((Pure.toL src).drop k5).length + k5 = src.size := Hl5.out
                    omega
                  case rel =>
                    obtain ⟨hI9, hb9⟩ := attr_more HI6.out hown9 hgrow9 hat9
                    have hs7 : s7 = { s3 with rest := (Pure.toL src).drop k7 } := by
                      have := HOn.out.1
                      unfold ReadsOnly at this
                      rw [this, Hr7.out]
                    have h1 : s7.rest.length + 1 ≤ ((Pure.toL src).drop k5).length := HOn.out.2
                    have h2 : s7.rest.length + k7 = src.size := Hl7.out
                    have h3 : ((Pure.toL src).drop k5).length + k5 = src.size := Hl5.out
                    refine ⟨k7, l ++ [a], .slice (some ⟨g, 0, none⟩) (l.length + 1) cap, f, rfl, hk7, by omega, apart_snoc HAp.out HAny.out, by simp; omega, ?_, (Below.drewN Hb5.out 1).trans (Hb6.out.trans hb9), ?_⟩
                    · rw [← hs7]; exact hI9
                    · rw [← hs7]; exact HVB.out
end Go.Proofs.YtipfakmbjajhlaaGreatDoor 
