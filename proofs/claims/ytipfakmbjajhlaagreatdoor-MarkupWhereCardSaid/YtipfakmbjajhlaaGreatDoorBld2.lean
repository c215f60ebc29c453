/-
  strings.Builder: Len, WriteString, WriteByte, Reset: contracts.
-/
import Derived.Test.YtipfakmbjajhlaaGreatDoorBld1
import Derived.Maps.AppendAt
set_option linter.unusedVariables false
set_option linter.unusedSimpArgs false
namespace Go.Proofs.YtipfakmbjajhlaaGreatDoor 
open Go.RowKit
/-- A builder's buffer: it holds these bytes in a row of its own; none, if there are none. -/
def BufAt (w : World) (base : Nat) (v : Value) (l : Pure.Bytes) : Prop := w.ownsRow base 5 1 v l.length (Lib.byteCells l) ∧ (l = [] → v = .slice none 0 0)
theorem BufAt.nil (w : World) (base : Nat) : BufAt w base (.slice none 0 0) [] := ⟨World.ownsRow_nil _ _ _ _, fun _ => rfl⟩
theorem BufAt.form {w : World} {base : Nat} {v : Value} {l : Pure.Bytes} (h : BufAt w base v l) : ∃ a c, v = .slice a l.length c := by
  rcases h.1.2 with ⟨rfl, h0⟩ | ⟨g, cap, cur, rfl, _⟩
  · exact ⟨_, _, by rw [h0]⟩
  · exact ⟨_, _, rfl⟩
theorem BufAt.ne {w : World} {base : Nat} {v : Value} {l : Pure.Bytes} (h : BufAt w base v l) {b : Nat} {cs : Array Value} {T : Nat} {fr : Nat × Nat} (hb : w.heap[b]? = some (.cells cs T fr)) (hT : T ≠ 5) : v.ownBlock ≠ some b := Lib.ownBlock_ne h.1 hb hT
theorem BufAt.kept {w w' : World} {base : Nat} {v : Value} {l : Pure.Bytes} {S : Nat → Prop} (h : BufAt w base v l) (hc : Chg S w w') (hn : ∀ k, v.ownBlock = some k → ¬ S k) : BufAt w' base v l := by
  refine ⟨?_, h.2⟩
  have hlt := h.1.lt
  obtain ⟨h1, h2⟩ := h.1
  refine ⟨h1, ?_⟩
  rcases h2 with h2 | ⟨g, cap, cur, hv, hg, hh, r⟩
  · exact .inl h2
  · refine .inr ⟨g, cap, cur, hv, hg, ?_, r⟩
    have e : v.ownBlock = some g := by rw [hv]; rfl
    rw [hc.block g (hlt g e).2 (hn g e)]; exact hh
set_option maxRecDepth 100000 in
set_option maxHeartbeats 1000000 in
theorem bLen_any (b o : Nat) (v : Value) (n : Nat) (q : Option Addr) (c : Nat) (w : World) (hv : v = .slice q n c) (hc : w.cell? ⟨b, o + 1, none⟩ = some v) :
    Calls Tryz.prog 91 #[.pointer (some ⟨b, o, none⟩)] w fun e w' => e = .returned (.int .i64 n) ∧ w = w' := by
  subst hv
  go_enter Tryz.func91, Tryz.ntmps91
  go_wp2
  go_ret
  exact ⟨rfl, rfl⟩
/-- What a write leaves of a builder at place o of block b. -/
def WritePost (b o : Nat) (cs : Array Value) (T base : Nat) (v : Value) (l : Pure.Bytes) (r : Value) (w : World) (e : Ending) (w' : World) : Prop :=
  e = .returned r ∧ ∃ v', BufAt w' base v' l ∧ w'.heap[b]? = some (.cells ((cs.setIfInBounds o (.pointer (some ⟨b, o, none⟩))).setIfInBounds (o + 1) v') T (0, 0)) ∧ Chg (fun k => k = b ∨ v.ownBlock = some k) w w'
/-- The same; and the buffer's row lies where it lay, or is new. -/
def WritePostAt (b o : Nat) (cs : Array Value) (T base : Nat) (v : Value) (l : Pure.Bytes) (r : Value) (w : World) (e : Ending) (w' : World) : Prop :=
  e = .returned r ∧ ∃ v', BufAt w' base v' l ∧ w'.heap[b]? = some (.cells ((cs.setIfInBounds o (.pointer (some ⟨b, o, none⟩))).setIfInBounds (o + 1) v') T (0, 0)) ∧ Chg (fun k => k = b ∨ v.ownBlock = some k) w w' ∧ (∀ i, v'.ownBlock = some i → v.ownBlock = some i ∨ w.heap.size ≤ i)
theorem WritePostAt.plain {b o : Nat} {cs : Array Value} {T base : Nat} {v : Value} {l : Pure.Bytes} {r : Value} {w : World} {e : Ending} {w' : World} (h : WritePostAt b o cs T base v l r w e w') : WritePost b o cs T base v l r w e w' := by
  obtain ⟨he, v', h1, h2, h3, _⟩ := h
  exact ⟨he, v', h1, h2, h3⟩
/-- Where the row lies to which a string was appended. -/
theorem append_string_at {P : Program} {w : World} {base : Nat} {t u ty e : TypeId} {i : TypeInfo} (ht : P.underlying t = some (.slice e)) (hu : P.underlying u = some .string) (hi : P.info? e = some i) (hz : i.zero = some (.int .u8 0))
    (hsize : i.size = 1) (hby : i.bytes = 1) {v : Value} {n : Nat} {xs : List Value} (hown : w.ownsRow base e 1 v n xs) (s : ByteArray) (h63 : n + s.size ≤ maxLen) (hbytes : n + s.size ≤ 140737488355328)
    {v' : Value} {w' : World} (h : (Builtin.append_ #[t, u] ty #[v, .string s]).run P w = .ok v' w') : ∀ k, v'.ownBlock = some k → v.ownBlock = some k ∨ w.heap.size ≤ k := by
  have hsmall : n + s.size ≤ 9223372036854775807 := by simp only [maxLen] at h63; omega
  have hxl : xs.length = n := by simpa using hown.1
  intro k hk
  rcases hown.2 with ⟨rfl, rfl⟩ | ⟨g, cap, cur, rfl, hbg, hg, hnc, hcm, hcs, htake⟩
  · by_cases hm : s.size = 0
    · have hf := Lib.run_firstCells_string (P := P) w 1 s
      rw [hm] at hf
      have hr : (Builtin.append_ #[t, u] ty #[.slice none 0 0, .string s]).run P w = .ok (.slice none 0 0) w := by
        simp [Builtin.append_, run_underlying ht, run_underlying hu, sizeOf, typeInfo, hi, hsize, Builtin.lenOf, hm, hf]
      rw [hr] at h
      cases h
      simp [Value.ownBlock] at hk
    · have hr := run_append_nil_string (P := P) w t u ty e i (.int .u8 0) ht hu hi hz s (by omega) (by omega) (by rw [hby]; omega)
      rw [hr] at h
      cases h
      simp [Value.ownBlock] at hk
      right; omega
  · by_cases hroom : n + s.size ≤ cap
    · have hcs' : cur.size = cap := by simpa using hcs
      have hr := Lib.run_append_room_string (P := P) w t u ty e i ht hu hi hsize g n cap cur hg s hroom (by omega)
      rw [hr] at h
      cases h
      left; simpa [Value.ownBlock] using hk
    · have holds : ∀ j u, xs[j]? = some u → w.cell? ((⟨g, 0, none⟩ : Addr).add j) = some u := hown.cells (g := g) rfl
      have hr := Lib.run_append_grow_string (P := P) w t u ty e i (.int .u8 0) ht hu hi hz ⟨g, 0, none⟩ n cap xs (by rw [hsize]; simpa using hxl) holds s (by omega) (by omega) (by rw [hby]; exact growslice_fits (by omega) (by omega))
      rw [hr] at h
      cases h
      simp [Value.ownBlock] at hk
      right; omega
theorem wpList_append_string_at {P : Program} (w : World) {ops : Array Oper} {rest : List Oper} {o : Oper} {a : Act} {Q : Exit → Act → World → Prop} (hgd : o.guard = none) (sl x : Operand) (t u : TypeId)
    (ho : o.op = .call { callee := .builtin .append, args := #[sl, x], argTypes := #[t, u] })
    (base : Nat) (e : TypeId) (i : TypeInfo) (ht : P.underlying t = some (.slice e)) (hu : P.underlying u = some .string) (hi : P.info? e = some i) (hz : i.zero = some (.int .u8 0))
    (hsize : i.size = 1) (hby : i.bytes = 1)
    (v : Value) (n : Nat) (xs : List Value) (hs : a.eval sl = v) (hown : w.ownsRow base e 1 v n xs) (s : ByteArray) (hx : a.eval x = .string s)
    (h63 : n + s.size ≤ maxLen) (hbytes : n + s.size ≤ 140737488355328) (hbase : base ≤ w.heap.size)
    (h : ∀ v' w', w'.ownsRow base e 1 v' (n + s.size) (xs ++ Lib.strCells s) → w.grownBy w' v.ownBlock → (v' = .slice none 0 0 ↔ v = .slice none 0 0 ∧ s.size = 0) → (∀ k, v'.ownBlock = some k → v.ownBlock = some k ∨ w.heap.size ≤ k) → wpList P ops Q rest (a.put o.dst v') w') : wpList P ops Q (o :: rest) a w := by
  refine wpList_plain hgd fun K hK => ?_
  obtain ⟨v', w', hr, h2, h3, h4⟩ := Lib.run_append_own_string (P := P) w base t u o.type e i ht hu hi hz hsize hby v n xs hown s h63 hbytes hbase
  have h5 := append_string_at ht hu hi hz hsize hby hown s h63 hbytes hr
  unfold Oper.wp execOp
  simp only [ho, resolve, invoke, builtin, Sem.run_bind, Sem.run_pure, Result.andThen_ok, List.map_toArray, List.map_cons, List.map_nil, hs, hx, hr]
  exact hK _ _ (h v' w' h2 h3 h4 h5)
set_option maxRecDepth 100000 in
set_option maxHeartbeats 1000000 in
theorem bWriteAt_any (b o : Nat) (cs : Array Value) (T base : Nat) (p v : Value) (l : Pure.Bytes) (s : ByteArray) (w : World) (hb : w.heap[b]? = some (.cells cs T (0, 0))) (hp : cs[o]? = some p) (hv : cs[o + 1]? = some v) (hP : Place T cs.size o)
    (hpv : p = .pointer none ∨ p = .pointer (some ⟨b, o, none⟩)) (hT : T ≠ 5) (hB : BufAt w base v l) (hbase : base ≤ w.heap.size) (hlen : l.length + s.size ≤ 140737488355328) :
    Calls Tryz.prog 99 #[.pointer (some ⟨b, o, none⟩), .string s] w (WritePostAt b o cs T base v (l ++ Pure.toL s) (.tuple #[.int .i64 s.size, .nilIface]) w) := by
  obtain ⟨i0, hi, hz0, hz1, hz2⟩ := info_parts infoByte
  have hCC := copyCheck_any b o cs T p w hb hp hP hpv
  have hne := hB.ne hb hT
  have hlt := lt_of_block hb
  go_enter Tryz.func99, Tryz.ntmps99
  have HCC := Lib.hid hCC
  clear hCC hpv hp
  go_wp2_with (go_at_call 120; refine (HCC.out).mono ?_)
  rintro e w1 ⟨rfl, hb1, hc1, hz⟩
  have hlt1 : b < w1.heap.size := by omega
  have hbase1 : base ≤ w1.heap.size := by omega
  have HZ := Lib.hid hz
  clear hz
  have hB1 := hB.kept hc1 (fun k hk e => hne (by rw [hk, e]))
  have hlo := hP.lt
  have g1 : ((cs.setIfInBounds o (.pointer (some ⟨b, o, none⟩))))[o + 1]? = some v := by rw [Array.getElem?_setIfInBounds_ne (by omega)]; exact hv
  have c1 : w1.cell? ⟨b, o + 1, none⟩ = some v := by rw [Lib.cell_of_heap hb1]; exact g1
  have hown := hB1.1
  have HC := Lib.hid hc1
  have HB := Lib.hid hB1
  have Hb := Lib.hid hb1
  clear hc1 hb1 hB1 g1 hv hB hb
  go_wp2_with (at_builtin; refine wpList_append_string_at _ rfl _ _ 37 9 rfl base 5 i0 Tryz.underlying37 Tryz.underlying9 hi hz0 hz1 hz2 _ _ _ rfl hown s rfl ?c3 ?c4 ?c5 ?_)
  case c3 => unfold maxLen; omega
  case c4 => omega
  case c5 => omega
  intro v' w2 hown' hgrow hnil hat
  have HA := Lib.hid hat
  clear hat
  have hb2 : w2.heap[b]? = some (.cells (cs.setIfInBounds o (.pointer (some ⟨b, o, none⟩))) T (0, 0)) := by
    rw [hgrow.block b (by omega) (fun e => hne e.symm)]; exact Hb.out
  have hsz : (cs.setIfInBounds o (.pointer (some ⟨b, o, none⟩))).size = cs.size := by simp
  have d1 : w2.cell? ⟨b, o + 1, none⟩ = some v := by
    rw [Lib.cell_of_heap hb2, ← Lib.cell_of_heap Hb.out]; exact c1
  have f1 : w2.frozen? ⟨b, o + 1, none⟩ = false := Lib.frozen_of_heap hb2 _
  obtain ⟨ao, n', cap, hve⟩ : ∃ ao n' cap, v' = .slice ao n' cap := by
    rcases hown'.2 with ⟨hv, _⟩ | ⟨g, cap, cur, hv, _⟩
    · exact ⟨_, _, _, hv⟩
    · exact ⟨_, _, _, hv⟩
  have HN := Lib.hid hnil
  have HO := Lib.hid hown'
  have H2 := Lib.hid hb2
  have HG := Lib.hid hgrow
  clear hnil hown' hb2 hgrow hown
  subst hve
  go_wp2
  go_ret2
  refine ⟨rfl, .slice ao n' cap, ?_, heap_setCell_same H2.out _, ?_, ?_⟩
  · have hlen' : (l ++ Pure.toL s).length = l.length + s.size := by rw [List.length_append, Pure.length_toL]
    refine ⟨?_, fun h0 => ?_⟩
    · rw [hlen']
      have hcells : Lib.byteCells (l ++ Pure.toL s) = Lib.byteCells l ++ Lib.strCells s := by rw [Lib.byteCells_append]; rfl
      rw [hcells]
      refine ownsRow_setCell_other HO.out ?_ _
      exact fun e => Lib.ownBlock_ne HO.out H2.out hT e
    · have h1 := List.append_eq_nil_iff.1 h0
      exact HN.out.2 ⟨HB.out.2 h1.1, Pure.toL_inj h1.2⟩
  · exact ((HC.out.mono (fun k _ h => .inl h)).grown HG.out (fun k hk => .inl (.inr hk))).setCell _ _ (.inl (.inl rfl))
  · intro i hi
    rcases HA.out i hi with h | h
    · exact .inl h
    · exact .inr (by have := HC.out.size; omega)
theorem bWrite_any (b o : Nat) (cs : Array Value) (T base : Nat) (p v : Value) (l : Pure.Bytes) (s : ByteArray) (w : World) (hb : w.heap[b]? = some (.cells cs T (0, 0))) (hp : cs[o]? = some p) (hv : cs[o + 1]? = some v) (hP : Place T cs.size o)
    (hpv : p = .pointer none ∨ p = .pointer (some ⟨b, o, none⟩)) (hT : T ≠ 5) (hB : BufAt w base v l) (hbase : base ≤ w.heap.size) (hlen : l.length + s.size ≤ 140737488355328) :
    Calls Tryz.prog 99 #[.pointer (some ⟨b, o, none⟩), .string s] w (WritePost b o cs T base v (l ++ Pure.toL s) (.tuple #[.int .i64 s.size, .nilIface]) w) :=
  (bWriteAt_any b o cs T base p v l s w hb hp hv hP hpv hT hB hbase hlen).mono fun _ _ h => h.plain
set_option maxRecDepth 100000 in
set_option maxHeartbeats 1000000 in
theorem bByteAt_any (b o : Nat) (cs : Array Value) (T base : Nat) (p v : Value) (l : Pure.Bytes) (x : UInt8) (w : World) (hb : w.heap[b]? = some (.cells cs T (0, 0))) (hp : cs[o]? = some p) (hv : cs[o + 1]? = some v) (hP : Place T cs.size o)
    (hpv : p = .pointer none ∨ p = .pointer (some ⟨b, o, none⟩)) (hT : T ≠ 5) (hB : BufAt w base v l) (hbase : base ≤ w.heap.size) (hlen : l.length + 1 ≤ 140737488355328) :
    Calls Tryz.prog 100 #[.pointer (some ⟨b, o, none⟩), .int .u8 (x.toNat : Int)] w (WritePostAt b o cs T base v (l ++ [x]) .nilIface w) := by
  obtain ⟨i0, hi, hz0, hz1, hz2⟩ := info_parts infoByte
  have hCC := copyCheck_any b o cs T p w hb hp hP hpv
  have hne := hB.ne hb hT
  have hlt := lt_of_block hb
  go_enter Tryz.func100, Tryz.ntmps100
  have HCC := Lib.hid hCC
  clear hCC hpv hp
  go_wp2_with (go_at_call 120; refine (HCC.out).mono ?_)
  rintro e w1 ⟨rfl, hb1, hc1, hz⟩
  have hlt1 : b < w1.heap.size := by omega
  have hbase1 : base ≤ w1.heap.size := by omega
  have HZ := Lib.hid hz
  clear hz
  have hB1 := hB.kept hc1 (fun k hk e => hne (by rw [hk, e]))
  have hlo := hP.lt
  have g1 : ((cs.setIfInBounds o (.pointer (some ⟨b, o, none⟩))))[o + 1]? = some v := by rw [Array.getElem?_setIfInBounds_ne (by omega)]; exact hv
  have c1 : w1.cell? ⟨b, o + 1, none⟩ = some v := by rw [Lib.cell_of_heap hb1]; exact g1
  have hown := hB1.1
  have HC := Lib.hid hc1
  have HB := Lib.hid hB1
  have Hb := Lib.hid hb1
  clear hc1 hb1 hB1 g1 hv hB hb
  go_wp2_with (at_builtin; (refine wpList_append_own_at _ rfl _ _ 37 rfl base 5 i0 (.int .u8 0) 1 1 Tryz.underlying37 hi hz0 hz1 hz2 rfl (by decide) _ _ _ rfl (hown.alloc _) ⟨w1.heap.size, 0, none⟩ 1 1 [.int .u8 (x.toNat : Int)] rfl rfl ?c1 ?c2 ?c3 ?c4 ?c5 ?_))
  case c1 =>
    intro j u hj
    match j, hj with
    | 0, hj => simp at hj; subst hj; simp [Addr.add]
  case c2 => intro u hu; simp at hu; subst hu; rfl
  case c3 => unfold maxLen; omega
  case c4 => omega
  case c5 => simp; omega
  intro v' w2 hown' hgrow hnil hat
  have HA := Lib.hid hat
  clear hat
  have hb2 : w2.heap[b]? = some (.cells (cs.setIfInBounds o (.pointer (some ⟨b, o, none⟩))) T (0, 0)) := by
    rw [hgrow.block b (by simp; omega) (fun e => hne e.symm), Lib.alloc_old w1 _ b (by omega)]; exact Hb.out
  have d1 : w2.cell? ⟨b, o + 1, none⟩ = some v := by
    rw [Lib.cell_of_heap hb2, ← Lib.cell_of_heap Hb.out]; exact c1
  have f1 : w2.frozen? ⟨b, o + 1, none⟩ = false := Lib.frozen_of_heap hb2 _
  obtain ⟨ao, n', cap, hve⟩ : ∃ ao n' cap, v' = .slice ao n' cap := by
    rcases hown'.2 with ⟨hv, _⟩ | ⟨g, cap, cur, hv, _⟩
    · exact ⟨_, _, _, hv⟩
    · exact ⟨_, _, _, hv⟩
  have HO := Lib.hid hown'
  have H2 := Lib.hid hb2
  have HG := Lib.hid hgrow
  clear hnil hown' hb2 hgrow hown
  subst hve
  go_wp2
  go_ret
  refine ⟨rfl, .slice ao n' cap, ?_, heap_setCell_same H2.out _, ?_, ?_⟩
  · refine ⟨?_, fun h0 => by simp at h0⟩
    have hlen' : (l ++ [x]).length = l.length + 1 := by simp
    rw [hlen']
    have hcells : Lib.byteCells (l ++ [x]) = Lib.byteCells l ++ [.int .u8 (x.toNat : Int)] := by rw [Lib.byteCells_append]; rfl
    rw [hcells]
    refine ownsRow_setCell_other HO.out ?_ _
    exact fun e => Lib.ownBlock_ne HO.out H2.out hT e
  · refine (Chg.grown (((HC.out.mono (fun k _ h => .inl h)).alloc _)) HG.out (fun k hk => .inl (.inr hk))).setCell _ _ (.inl (.inl rfl))
  · intro i hi
    rcases HA.out with h | h
    · exact .inl (h ▸ hi)
    · have hs := HC.out.size
      rw [h] at hi
      right
      have : w1.heap.size + 1 = i := by simpa using hi
      omega
theorem bByte_any (b o : Nat) (cs : Array Value) (T base : Nat) (p v : Value) (l : Pure.Bytes) (x : UInt8) (w : World) (hb : w.heap[b]? = some (.cells cs T (0, 0))) (hp : cs[o]? = some p) (hv : cs[o + 1]? = some v) (hP : Place T cs.size o)
    (hpv : p = .pointer none ∨ p = .pointer (some ⟨b, o, none⟩)) (hT : T ≠ 5) (hB : BufAt w base v l) (hbase : base ≤ w.heap.size) (hlen : l.length + 1 ≤ 140737488355328) :
    Calls Tryz.prog 100 #[.pointer (some ⟨b, o, none⟩), .int .u8 (x.toNat : Int)] w (WritePost b o cs T base v (l ++ [x]) .nilIface w) :=
  (bByteAt_any b o cs T base p v l x w hb hp hv hP hpv hT hB hbase hlen).mono fun _ _ h => h.plain
set_option maxRecDepth 100000 in
theorem bReset_any (b o : Nat) (cs : Array Value) (T : Nat) (p v : Value) (w : World) (hb : w.heap[b]? = some (.cells cs T (0, 0))) (hp : cs[o]? = some p) (hv : cs[o + 1]? = some v) :
    Calls Tryz.prog 118 #[.pointer (some ⟨b, o, none⟩)] w fun e w' => e = .returned (.tuple #[]) ∧ (w.setCell ⟨b, o, none⟩ (.pointer none)).setCell ⟨b, o + 1, none⟩ (.slice none 0 0) = w' := by
  have c0 : w.cell? ⟨b, o, none⟩ = some p := by rw [Lib.cell_of_heap hb]; exact hp
  have f0 : w.frozen? ⟨b, o, none⟩ = false := Lib.frozen_of_heap hb _
  have hb2 := heap_setCell_same (i := o) hb (.pointer none)
  have c1 : (w.setCell ⟨b, o, none⟩ (.pointer none)).cell? ⟨b, o + 1, none⟩ = some v := by
    rw [Lib.cell_of_heap hb2, Array.getElem?_setIfInBounds_ne (by omega)]; exact hv
  have f1 : (w.setCell ⟨b, o, none⟩ (.pointer none)).frozen? ⟨b, o + 1, none⟩ = false := Lib.frozen_of_heap hb2 _
  clear hb hp hv hb2
  go_enter Tryz.func118, Tryz.ntmps118
  go_wp2
  go_end0
  exact ⟨rfl, rfl⟩
end Go.Proofs.YtipfakmbjajhlaaGreatDoor 
