/- Vx, part G: every operation that only looks is sound. -/
import Derived.Test.YtlfphbmbehbcjaaVxF
import Derived.Laws.Tables
import Derived.Great.BuildSlice
set_option linter.unusedSimpArgs false
set_option linter.unusedVariables false
namespace Go.Vx
open Go
section
variable {𝕋 : TTab} {P : Program} {R : Value → World → Prop}

theorem zeroV_ok {t : TypeId} {v : SVal (Sh 𝕋 P R)} (h : zeroV (𝔸 := Sh 𝕋 P R) P t = some v) (β : List Nat) (n : Nat) :
    ∃ i zv, P.info? t = some i ∧ i.zero = some zv ∧ zv = den (𝔸 := Sh 𝕋 P R) β v ∧ wf n v ∧ v.cells.all notAgg = true ∧ v.cells.length = P.cellsOf t := by
  unfold zeroV at h
  split at h
  · rename_i i hi
    split at h
    · rename_i zv hz
      split at h
      · rename_i u hv
        split at h
        · rename_i hl
          simp only [Option.some.injEq] at h
          obtain ⟨h1, h2, h3⟩ := lift_ok (P := P) (R := R) hv β n
          subst h
          exact ⟨i, zv, hi, hz, h1.symm, h2, h3, Nat.eq_of_beq_eq_true hl⟩
        · cases h
      · cases h
    · cases h
  · cases h
theorem zeroS_ok {t : TypeId} {z : List (SVal (Sh 𝕋 P R))} (h : zeroS (𝔸 := Sh 𝕋 P R) P t = some z) (β : List Nat) (n : Nat) :
    ∃ i zv, P.info? t = some i ∧ i.zero = some zv ∧ zv.cells = (denL (𝔸 := Sh 𝕋 P R) β z).toArray ∧ wfL n z ∧ z.all notAgg = true ∧ z.length = P.cellsOf t := by
  unfold zeroS at h
  split at h
  · rename_i v hv
    simp only [Option.some.injEq] at h
    subst h
    obtain ⟨i, zv, h1, h2, h3, h4, h5, h6⟩ := zeroV_ok hv β n
    exact ⟨i, zv, h1, h2, by rw [h3, den_cells β h4], wf_cells h4, h5, h6⟩
  · cases h

theorem partsS_ok {st : St (Sh 𝕋 P R)} {a : Act} (ha : RelA st a) : ∀ {parts : List (Nat × Operand)} {ps : List (Nat × SVal (Sh 𝕋 P R))}, partsS st parts = some ps →
    (parts.map fun p => (p.1, a.eval p.2)) = (ps.map fun p => (p.1, den (𝔸 := Sh 𝕋 P R) st.bases p.2)) ∧ ∀ p ∈ ps, wf st.bases.length p.2
  | [], ps, h => by simp only [partsS, Option.some.injEq] at h; subst h; exact ⟨rfl, by simp⟩
  | (i, x) :: r, ps, h => by
    simp only [partsS] at h
    split at h
    · rename_i v vs hv hvs
      simp only [Option.some.injEq] at h
      subst h
      obtain ⟨h1, h2⟩ := opd_ok ha hv
      obtain ⟨h3, h4⟩ := partsS_ok ha hvs
      refine ⟨by simp [h1, h3], fun p hp => ?_⟩
      rcases List.mem_cons.1 hp with rfl | hp
      · exact h2
      · exact h4 p hp
    · cases h

theorem places_ok : ∀ (fs : List Field), (fs.all fun f => (P.info? f.type).isSome) = true →
    fs.mapM (fun f => (P.info? f.type).map fun i => (f.offset, i.size)) = some (fs.map fun f => (f.offset, P.cellsOf f.type))
  | [], _ => rfl
  | f :: fs, h => by
    simp only [List.all_cons, Bool.and_eq_true] at h
    obtain ⟨i, hi⟩ := Option.isSome_iff_exists.1 h.1
    simp [List.mapM_cons, hi, places_ok fs h.2, Program.cellsOf]

theorem buildS_ok {t : TypeId} {ps : List (Nat × SVal (Sh 𝕋 P R))} {v : SVal (Sh 𝕋 P R)} (h : buildS (𝔸 := Sh 𝕋 P R) P t ps = some v) (β : List Nat) {n : Nat} (hp : ∀ p ∈ ps, wf n p.2) :
    P.built t (ps.map fun p => (p.1, den (𝔸 := Sh 𝕋 P R) β p.2)) = some (den (𝔸 := Sh 𝕋 P R) β v).cells ∧ (∃ cs, v = .agg cs) ∧ wf n v := by
  unfold buildS at h
  split at h
  · cases h
  · rename_i z hz
    obtain ⟨i, zv, hi, hzv, hc, hw, _, _⟩ := zeroS_ok hz β n
    split at h
    · rename_i fs hu
      split at h
      · rename_i hall
        cases hf : fillS (𝔸 := Sh 𝕋 P R) (fun i => (fs[i]?).map fun f => (f.offset, P.cellsOf f.type)) z ps with
        | none => simp [hf] at h
        | some r =>
          simp only [hf, Option.map_some, Option.some.injEq] at h
          subst h
          obtain ⟨h1, h2, h3⟩ := fillS_ok β _ ps z r hf hw hp
          refine ⟨?_, ⟨r, rfl⟩, h2⟩
          simp only [Program.built, hi, hu, hzv, places_ok fs.toList hall]
          rw [hc]
          simp only [den, Value.cells]
          rw [← h1]
          congr 1
          funext k
          simp
      · cases h
    · rename_i m e hu
      split at h
      · rename_i hsome
        cases hf : fillS (𝔸 := Sh 𝕋 P R) (fun i => some (i * P.cellsOf e, P.cellsOf e)) z ps with
        | none => simp [hf] at h
        | some r =>
          simp only [hf, Option.map_some, Option.some.injEq] at h
          subst h
          obtain ⟨ie, hie⟩ := Option.isSome_iff_exists.1 hsome
          obtain ⟨h1, h2, h3⟩ := fillS_ok β _ ps z r hf hw hp
          refine ⟨?_, ⟨r, rfl⟩, h2⟩
          simp only [Program.built, hi, hu, hzv, hie]
          rw [hc]
          simp only [den, Value.cells]
          rw [← h1]
          simp [Program.cellsOf, hie]
      · cases h
    · cases h

theorem optI_ok {st : St (Sh 𝕋 P R)} {a : Act} (ha : RelA st a) {x : Option Operand} {l : Option Int} (h : optI st x = some l) :
    (x = none ∧ l = none) ∨ (∃ y k n, x = some y ∧ l = some n ∧ a.eval y = .int k n) := by
  cases x with
  | none => simp only [optI, Option.some.injEq] at h; exact .inl ⟨rfl, h.symm⟩
  | some y =>
    simp only [optI] at h
    split at h
    · rename_i v hv
      cases hi : asI (𝔸 := Sh 𝕋 P R) v with
      | none => simp [hi] at h
      | some p =>
        simp only [hi, Option.map_some, Option.some.injEq] at h
        subst h
        exact .inr ⟨y, p.1, p.2, rfl, rfl, by rw [(opd_ok ha hv).1, asI_ok (k := p.1) (e := p.2) hi]⟩
    · cases h

theorem run_sliceBound_ok (k : IntKind) (i : Int) (y : Nat) (code : BoundsCode) (h0 : 0 ≤ i) (h1 : i ≤ y) (w : World) : (Instr.sliceBound (.int k i) y code).run P w = .ok i.toNat w := by
  simp [Instr.sliceBound, asIntOf, h0, h1]

theorem run_sliceBounds_gen {x y : Option Operand} {l h : Option Int} {a : Act} (isS : Bool) (n c : Nat)
    (hx : (x = none ∧ l = none) ∨ (∃ z k m, x = some z ∧ l = some m ∧ a.eval z = .int k m))
    (hy : (y = none ∧ h = none) ∨ (∃ z k m, y = some z ∧ h = some m ∧ a.eval z = .int k m))
    (h0 : 0 ≤ loOf l) (h1 : loOf l ≤ hiOf n h) (h2 : hiOf n h ≤ c) (w : World) :
    (Instr.sliceBounds isS n c (x.map a.eval) (y.map a.eval) none).run P w = .ok ((loOf l).toNat, (hiOf n h).toNat, c) w := by
  rcases hx with ⟨rfl, rfl⟩ | ⟨z, k, m, rfl, rfl, hz⟩ <;> rcases hy with ⟨rfl, rfl⟩ | ⟨z', k', m', rfl, rfl, hz'⟩
  · simp [Instr.sliceBounds, loOf, hiOf]
  · simp only [loOf, hiOf] at *
    simp [Instr.sliceBounds, hz', run_sliceBound_ok k' m' c _ (by omega) h2]
  · simp only [loOf, hiOf] at *
    simp [Instr.sliceBounds, hz, run_sliceBound_ok k m n _ h0 (by omega)]
  · simp only [loOf, hiOf] at *
    have e := run_sliceBound_ok (P := P) k m m'.toNat .sliceB h0 (by omega) w
    simp [Instr.sliceBounds, hz, hz', run_sliceBound_ok k' m' c _ (by omega) h2, e]

theorem run_sliceBounds_ok {x y : Option Operand} {l h : Option Int} {a : Act} (isS : Bool) (n c : Nat) (hn : n ≤ c)
    (hx : (x = none ∧ l = none) ∨ (∃ z k m, x = some z ∧ l = some m ∧ a.eval z = .int k m))
    (hy : (y = none ∧ h = none) ∨ (∃ z k m, y = some z ∧ h = some m ∧ a.eval z = .int k m))
    (h0 : 0 ≤ loOf l) (h1 : loOf l ≤ hiOf n h) (h2 : hiOf n h ≤ c) (w : World) :
    (Instr.sliceBounds isS n c (x.map a.eval) (y.map a.eval) none).run P w = .ok ((loOf l).toNat, (hiOf n h).toNat, c) w := by
  rcases hx with ⟨rfl, rfl⟩ | ⟨z, k, m, rfl, rfl, hz⟩ <;> rcases hy with ⟨rfl, rfl⟩ | ⟨z', k', m', rfl, rfl, hz'⟩
  · simp [Instr.sliceBounds, loOf, hiOf]
  · simp only [loOf, hiOf] at *
    simp [Instr.sliceBounds, hz', run_sliceBound_ok k' m' c _ (by omega) h2]
  · simp only [loOf, hiOf] at *
    simp [Instr.sliceBounds, hz, run_sliceBound_ok k m n _ h0 (by omega)]
  · simp only [loOf, hiOf] at *
    have e := run_sliceBound_ok (P := P) k m m'.toNat .sliceB h0 (by omega) w
    simp [Instr.sliceBounds, hz, hz', run_sliceBound_ok k' m' c _ (by omega) h2, e]

theorem byteAt_ok {s : ByteArray} {i : Int} (h0 : 0 ≤ i) (h1 : i < ((s.size : Nat) : Int)) : ∃ b : UInt8, s[i.toNat]? = some b ∧ byteAt s i = (b.toNat : Int) := by
  have hlt : i.toNat < s.size := by omega
  refine ⟨s[i.toNat], by simp [hlt], ?_⟩
  unfold byteAt
  have : s.data.getD i.toNat 0 = s[i.toNat] := by
    have h2 : i.toNat < s.data.size := hlt
    rw [Array.getD, dif_pos h2]
    rfl
  rw [this]

theorem run_sizeOf_info {t : TypeId} (h : (P.info? t).isSome = true) (w : World) : (sizeOf t).run P w = .ok (P.cellsOf t) w := by
  obtain ⟨i, hi⟩ := Option.isSome_iff_exists.1 h
  simp [sizeOf, typeInfo, hi, Program.cellsOf]
theorem elemOfT_ok {t e : TypeId} (h : elemOfT P t = some e) : P.underlying t = some (.slice e) ∧ (P.info? e).isSome = true := by
  unfold elemOfT at h
  split at h
  · rename_i e' hu
    split at h
    · rename_i hs
      simp only [Option.some.injEq] at h
      subst h
      exact ⟨hu, hs⟩
    · cases h
  · cases h
theorem arrOfT_ok {t e : TypeId} {n : Nat} (h : arrOfT P t = some (n, e)) : P.underlying t = some (.array n e) ∧ (P.info? e).isSome = true := by
  unfold arrOfT at h
  split at h
  · rename_i m e' hu
    split at h
    · rename_i hs
      simp only [Option.some.injEq, Prod.mk.injEq] at h
      obtain ⟨rfl, rfl⟩ := h
      exact ⟨hu, hs⟩
    · cases h
  · cases h
theorem run_indexAt_slice {t e : TypeId} (h : elemOfT P t = some e) (a : Addr) (l c : Nat) (k : IntKind) (i : Int) (h0 : 0 ≤ i) (h1 : i < (l : Int)) (w : World) :
    (Instr.indexAt t (.slice (some a) l c) (.int k i)).run P w = .ok (.pointer (some (a.add (i.toNat * P.cellsOf e)))) w := by
  obtain ⟨hu, hs⟩ := elemOfT_ok h
  simp [Instr.indexAt, asIntOf, run_underlying hu, h0, h1, run_sizeOf_info hs]
theorem run_indexAt_array {t e : TypeId} {n : Nat} (h : arrOfT P t = some (n, e)) (a : Addr) (k : IntKind) (i : Int) (h0 : 0 ≤ i) (h1 : i < (n : Int)) (w : World) :
    (Instr.indexAt t (.pointer (some a)) (.int k i)).run P w = .ok (.pointer (some (a.add (i.toNat * P.cellsOf e)))) w := by
  obtain ⟨hu, hs⟩ := arrOfT_ok h
  simp [Instr.indexAt, asIntOf, run_underlying hu, Instr.sureAddr, h0, h1, run_sizeOf_info hs]
theorem run_index_string {t : TypeId} (h : P.underlying t = some .string) (s : ByteArray) (k : IntKind) (i : Int) (h0 : 0 ≤ i) (h1 : i < ((s.size : Nat) : Int)) (w : World) :
    (Instr.index t (.string s) (.int k i)).run P w = .ok (.int .u8 (byteAt s i)) w := by
  obtain ⟨b, hb, he⟩ := byteAt_ok h0 h1
  simp [Instr.index, asIntOf, run_underlying h, h0, hb, he]

/-- A part of an aggregate. -/
theorem part_ok {t : TypeId} {cs : List (SVal (Sh 𝕋 P R))} {off : Nat} {r : SVal (Sh 𝕋 P R)} (hr : ofCells P t ((cs.drop off).take (P.cellsOf t)) = some r) (β : List Nat) {n : Nat} (hcw : wfL n cs) :
    (∀ w, (part t (denL (𝔸 := Sh 𝕋 P R) β cs).toArray off).run P w = .ok (den (𝔸 := Sh 𝕋 P R) β r) w) ∧ wf n r := by
  unfold ofCells at hr
  split at hr
  · rename_i hl
    have hl' : ((cs.drop off).take (P.cellsOf t)).length = P.cellsOf t := Nat.eq_of_beq_eq_true hl
    have hle : P.cellsOf t = 0 ∨ off + P.cellsOf t ≤ cs.length := by simp at hl'; omega
    have hrun : ∀ (hs : (P.underlying t).isSome = true) (h1 : isAggT P t = false → P.cellsOf t = 1) (w' : World),
        (part t (denL (𝔸 := Sh 𝕋 P R) β cs).toArray off).run P w' = .ok (ofVals P t (((denL (𝔸 := Sh 𝕋 P R) β cs).drop off).take (P.cellsOf t))) w' := by
      intro hs h1 w'
      rcases hle with hz | hle
      · have hA : isAggT P t = true := by
          cases hA : isAggT P t
          · have := h1 hA; omega
          · rfl
        unfold part ofVals
        rw [Sem.run_bind, run_isAgg hs]
        simp [hA, run_sizeOf' hs, hz]
      · have e : (denL (𝔸 := Sh 𝕋 P R) β cs).toArray.size = cs.length := by rw [List.size_toArray, denL_length]
        exact run_part hs (by rw [e]; exact hle) h1 w'
    split at hr
    · rename_i hA
      simp only [Option.some.injEq] at hr
      subst hr
      refine ⟨fun w' => ?_, wfL_take _ (wfL_drop _ hcw)⟩
      have e := hrun (isAgg_some hA) (fun hf => by rw [hA] at hf; cases hf) w'
      simp only [ofVals, hA, if_true] at e
      simp only [den]
      rw [denL_take, denL_drop]
      exact e
    · rename_i hA
      have hA' : isAggT P t = false := by simpa using hA
      split at hr
      · rename_i c hc
        split at hr
        · rename_i hs
          simp only [Option.some.injEq] at hr
          subst hr
          have hwc : wf n c := by
            have := wfL_take (P.cellsOf t) (wfL_drop off hcw)
            rw [hc] at this
            exact this.1
          refine ⟨fun w' => ?_, hwc⟩
          have h1 : P.cellsOf t = 1 := by rw [hc] at hl'; simpa using hl'.symm
          have e := hrun hs (fun _ => h1) w'
          rw [← denL_drop, ← denL_take, hc] at e
          simp only [ofVals, hA', Bool.false_eq_true, if_false, denL, List.headD_cons] at e
          exact e
        · cases hr
      · cases hr
  · cases hr

/-- The operations that the executor knows. -/
theorem silK_ok {o : Oper} {a : Act} {st : St (Sh 𝕋 P R)} {w : World} (ha : RelA st a) (hw : RelW st w) {c : Cls} {φ : (SVal (Sh 𝕋 P R) → St (Sh 𝕋 P R) → Prop) → Prop}
    (h : silK (𝔸 := Sh 𝕋 P R) P st o.op = some (c, φ)) {K : SVal (Sh 𝕋 P R) → St (Sh 𝕋 P R) → Prop} (hK : φ K) : SilGoal o a st w c K := by
  cases hop : o.op <;> simp only [hop, silK] at h <;> try (cases h; done)
  case move x =>
    refine silV_ok h hK fun u hu => ?_
    obtain ⟨h1, h2⟩ := opd_ok ha hu
    exact ⟨h2, fun w' => by simp only [execOp, hop, h1]; rfl⟩
  case assign x =>
    refine silV_ok h hK fun u hu => ?_
    obtain ⟨h1, h2⟩ := opd_ok ha hu
    exact ⟨h2, fun w' => by simp only [execOp, hop, h1]; rfl⟩
  case pick p q r =>
    split at h
    · rename_i hc
      refine silV_ok h hK fun u hu => ?_
      obtain ⟨h1, h2⟩ := opd_ok ha hu
      exact ⟨h2, fun w' => by simp [execOp, hop, (opd_ok ha hc).1, den, asBool, h1]⟩
    · rename_i hc
      refine silV_ok h hK fun u hu => ?_
      obtain ⟨h1, h2⟩ := opd_ok ha hu
      exact ⟨h2, fun w' => by simp [execOp, hop, (opd_ok ha hc).1, den, asBool, h1]⟩
    · rename_i cb hc
      split at h
      · rename_i x y hx hy
        simp only [Option.some.injEq, Prod.mk.injEq] at h
        obtain ⟨rfl, rfl⟩ := h
        obtain ⟨h1, h2⟩ := opd_ok ha hx
        obtain ⟨h3, h4⟩ := opd_ok ha hy
        have hcv := (opd_ok ha hc).1
        cases hb : cb with
        | true =>
          exact ⟨x, st, hK.1 hb, .refl _ _, h2, fun w' _ => by simp [execOp, hop, hcv, den, hb, asBool, h1]⟩
        | false =>
          exact ⟨y, st, hK.2 hb, .refl _ _, h4, fun w' _ => by simp [execOp, hop, hcv, den, hb, asBool, h3]⟩
      · cases h
    · cases h
  case load t x =>
    split at h
    · rename_i i off hx
      split at h
      · rename_i b hb
        obtain ⟨h1, h2, h3, h4, h5⟩ := hw.locs i b hb
        cases hv : ofCells P t ((b.cells.drop off).take (P.cellsOf t)) with
        | none => simp [hv] at h
        | some v =>
          simp only [hv, Option.map_some, Option.some.injEq, Prod.mk.injEq] at h
          obtain ⟨rfl, rfl⟩ := h
          refine ⟨v, st, hK, .refl _ _, (load_loc h2 hv h3 h4).2, fun w' hg => ?_⟩
          have := (load_loc (hg b hb) hv h3 h4).1
          simp only [execOp, hop, (opd_ok ha hx).1, den]
          exact run_valued _ this
      · cases h
    · rename_i ad off hx
      split at h
      · rename_i sh hs
        simp only [Option.some.injEq, Prod.mk.injEq] at h
        obtain ⟨rfl, rfl⟩ := h
        obtain ⟨st', hsame, hwe, hd, hK'⟩ := atWorld_ok hw hK
        obtain ⟨v, h1, h2, h3⟩ := load_ext (K := fun v => K v st') hs (st := st') (w := st'.we) hK'
        rw [hsame.bases] at h2 h3
        refine ⟨v, st', h1, hsame, h2, fun w' hg => ?_⟩
        simp only [execOp, hop, (opd_ok ha hx).1, den]
        rw [hwe] at h3
        exact run_valued _ (h3 w' hg)
      · cases h
    · rename_i p hx
      split at h
      · rename_i sh hs
        simp only [Option.some.injEq, Prod.mk.injEq] at h
        obtain ⟨rfl, rfl⟩ := h
        obtain ⟨ad, hp, hK⟩ := hK
        obtain ⟨st', hsame, hwe, hd, hK'⟩ := atWorld_ok hw hK
        obtain ⟨v, h1, h2, h3⟩ := load_ext (K := fun v => K v st') hs (st := st') (w := st'.we) hK'
        rw [hsame.bases] at h2 h3
        refine ⟨v, st', h1, hsame, h2, fun w' hg => ?_⟩
        simp only [execOp, hop, (opd_ok ha hx).1, den, hp]
        rw [hwe, add_zero] at h3
        exact run_valued _ (h3 w' hg)
      · cases h
    · cases h
  case nilCheck x =>
    split at h
    · rename_i p hx
      simp only [Option.some.injEq, Prod.mk.injEq] at h
      obtain ⟨rfl, rfl⟩ := h
      obtain ⟨ad, hp, hK⟩ := hK
      exact ⟨_, st, hK, .refl _ _, trivial, fun w' _ => by simp only [execOp, hop, (opd_ok ha hx).1, den, hp, add_zero]; rfl⟩
    · rename_i ad off hx
      simp only [Option.some.injEq, Prod.mk.injEq] at h
      obtain ⟨rfl, rfl⟩ := h
      exact ⟨_, st, hK, .refl _ _, trivial, fun w' _ => by simp only [execOp, hop, (opd_ok ha hx).1, den]; rfl⟩
    · rename_i i off hx
      simp only [Option.some.injEq, Prod.mk.injEq] at h
      obtain ⟨rfl, rfl⟩ := h
      exact ⟨_, st, hK, .refl _ _, (opd_ok ha hx).2, fun w' _ => by simp only [execOp, hop, (opd_ok ha hx).1, den]; rfl⟩
    · rename_i f fs cs hx
      simp only [Option.some.injEq, Prod.mk.injEq] at h
      obtain ⟨rfl, rfl⟩ := h
      exact ⟨_, st, hK, .refl _ _, (opd_ok ha hx).2, fun w' _ => by simp only [execOp, hop, (opd_ok ha hx).1, den]; rfl⟩
    · cases h
  case binOp op t x y yt =>
    split at h
    · rename_i s r hx hy
      split at h
      · rename_i hadd
        subst hadd
        simp only [Option.some.injEq, Prod.mk.injEq] at h
        obtain ⟨rfl, rfl⟩ := h
        obtain ⟨hfit, hK⟩ := hK
        refine ⟨_, st, hK, .refl _ _, trivial, fun w' _ => ?_⟩
        have h3 : ((ByteArray.size s : Nat) : Int) + ((ByteArray.size r : Nat) : Int) ≤ 9223372036854775807 := by
          have h2 : ((ByteArray.size s + ByteArray.size r : Nat) : Int) ≤ 9223372036854775807 := hfit
          omega
        simp only [execOp, hop, (opd_ok ha hx).1, (opd_ok ha hy).1, den]
        refine run_valued _ ?_
        simp [eqGuard, Go.binOp, Op.stringOp]
        exact h3
      · refine silV_ok h hK fun u hu => ?_
        obtain ⟨h1, h2⟩ := binS_ok hu st.bases st.bases.length
        refine ⟨h2, fun w' => ?_⟩
        simp only [execOp, hop, (opd_ok ha hx).1, (opd_ok ha hy).1]
        exact run_valued _ (h1 w')
    · rename_i u v hno hx hy
      refine silV_ok h hK fun r hr => ?_
      obtain ⟨h1, h2⟩ := binS_ok hr st.bases st.bases.length
      refine ⟨h2, fun w' => ?_⟩
      simp only [execOp, hop, (opd_ok ha hx).1, (opd_ok ha hy).1]
      exact run_valued _ (h1 w')
    · cases h
  case unOp op t x =>
    split at h
    · rename_i v hx
      refine silV_ok h hK fun r hr => ?_
      obtain ⟨h1, h2⟩ := unS_ok hr st.bases st.bases.length
      exact ⟨h2, fun w' => by simp only [execOp, hop, (opd_ok ha hx).1]; exact run_valued _ (h1 w')⟩
    · cases h
  case convert s d x =>
    split at h
    · rename_i v hx
      split at h
      · rename_i hs
        refine silV_ok h hK fun r hr => ?_
        obtain ⟨h1, h2⟩ := convS_ok hr hs st.bases st.bases.length
        exact ⟨h2, fun w' => by simp only [execOp, hop, (opd_ok ha hx).1]; exact run_valued _ (h1 w')⟩
      · cases h
    · cases h
  case fieldAddr s x f =>
    split at h
    · rename_i fd v hf hx
      split at h
      · cases h
      · rename_i hz
        have hz' : P.cellsOf fd.type ≠ 0 := fun e => hz (by rw [e]; rfl)
        cases hv : addrS (𝔸 := Sh 𝕋 P R) st fd.offset v with
        | none => simp [hv] at h
        | some ψ =>
          simp only [hv, Option.map_some, Option.some.injEq, Prod.mk.injEq] at h
          obtain ⟨rfl, rfl⟩ := h
          have hvw := (opd_ok ha hx).2
          have hve := (opd_ok ha hx).1
          cases v <;> simp only [addrS] at hv <;> try (cases hv; done)
          case ptr p =>
            simp only [Option.some.injEq] at hv
            subst hv
            obtain ⟨ad, hp, hK⟩ := hK
            exact ⟨_, st, hK, .refl _ _, trivial, fun w' _ => by simp only [execOp, hop, hve, den, hp]; exact run_valued _ (run_fieldAt hf hz' _ _)⟩
          case addr ad off =>
            simp only [Option.some.injEq] at hv
            subst hv
            exact ⟨_, st, hK, .refl _ _, trivial, fun w' _ => by simp only [execOp, hop, hve, den]; rw [← add_add]; exact run_valued _ (run_fieldAt hf hz' _ _)⟩
          case loc i off =>
            simp only [Option.some.injEq] at hv
            subst hv
            exact ⟨_, st, hK, .refl _ _, hvw, fun w' _ => by simp only [execOp, hop, hve, den]; rw [← add_mid]; exact run_valued _ (run_fieldAt hf hz' _ _)⟩
    · cases h
  case field t x f =>
    split at h
    · rename_i fd cs hf hx
      refine silV_ok h hK fun r hr => ?_
      obtain ⟨fs, hu, hff⟩ := fieldOf_ok hf
      have hcw : wfL st.bases.length cs := (opd_ok ha hx).2
      obtain ⟨hr1, hr2⟩ := part_ok hr st.bases hcw
      refine ⟨hr2, fun w' => ?_⟩
      simp only [execOp, hop, (opd_ok ha hx).1, den]
      refine run_valued _ ?_
      simp only [Instr.field, Sem.run_bind, run_underlying hu, Result.andThen_ok, hff, asAgg, Sem.run_pure]
      exact hr1 w'
    · cases h
  case extract x i =>
    split at h
    · rename_i cs hx
      refine silV_ok h hK fun r hr => ?_
      have hvw : wfL st.bases.length cs := (opd_ok ha hx).2
      rw [wfL_iff] at hvw
      refine ⟨hvw r (List.mem_of_getElem? hr), fun w' => ?_⟩
      simp only [execOp, hop, (opd_ok ha hx).1, den]
      refine run_valued _ ?_
      have e : (denL (𝔸 := Sh 𝕋 P R) st.bases cs).toArray[i]? = some (den (𝔸 := Sh 𝕋 P R) st.bases r) := by
        rw [List.getElem?_toArray, denL_get, hr]; rfl
      simp only [Instr.extract, e]
      rfl
    · cases h
  case makeInterface t x =>
    split at h
    · rename_i v hx
      split at h
      · cases h
      · rename_i hi
        split at h
        · rename_i hs
          refine silV_ok h hK fun r hr => ?_
          simp only [Option.some.injEq] at hr
          subst hr
          obtain ⟨d, hd⟩ := Option.isSome_iff_exists.1 hs
          refine ⟨(opd_ok ha hx).2, fun w' => ?_⟩
          simp only [execOp, hop, (opd_ok ha hx).1, den]
          refine run_valued _ ?_
          simp only [Instr.makeInterface, Sem.run_bind, run_underlying hd, Result.andThen_ok]
          simp only [isIfaceT, hd] at hi
          cases d <;> first | rfl | simp at hi
        · cases h
    · cases h
  case makeFunc fn fs cs =>
    cases fn <;> simp only at h <;> try (cases h; done)
    case func f =>
      split at h
      · rename_i us vs hus hvs
        refine silV_ok h hK fun r hr => ?_
        simp only [Option.some.injEq] at hr
        subst hr
        obtain ⟨h1, h2⟩ := opds_ok ha hus
        obtain ⟨h3, h4⟩ := opds_ok ha hvs
        refine ⟨⟨h2, h4⟩, fun w' => ?_⟩
        simp only [execOp, hop, den]
        refine run_valued _ ?_
        simp only [Instr.makeFunc, Sem.run_pure]
        rw [← h1, ← h3]
        congr 2
        · apply Array.ext'; simp
        · apply Array.ext'; simp
      · cases h
  case build t parts =>
    split at h
    · rename_i ps hps
      refine silV_ok h hK fun r hr => ?_
      obtain ⟨h1, h2⟩ := partsS_ok ha hps
      obtain ⟨h3, ⟨cs, rfl⟩, h5⟩ := buildS_ok hr st.bases h2
      refine ⟨h5, fun w' => ?_⟩
      simp only [execOp, hop, den]
      refine run_valued _ (run_build w' t _ _ ?_)
      rw [← h1] at h3
      simpa [den, Value.cells] using h3
    · cases h
  case indexAddr t x ix =>
    split at h
    · rename_i p l cp i hx hi
      split at h
      · rename_i e k n he hn
        simp only [Option.some.injEq, Prod.mk.injEq] at h
        obtain ⟨rfl, rfl⟩ := h
        obtain ⟨ad, hp, ⟨h0, h1⟩, hK⟩ := hK
        refine ⟨_, st, hK, .refl _ _, trivial, fun w' _ => ?_⟩
        have hiv : a.eval ix = .int k n := by rw [(opd_ok ha hi).1, asI_ok hn]
        simp only [execOp, hop, (opd_ok ha hx).1, hiv, den, hp, add_zero, Nat.zero_add]
        exact run_valued _ (run_indexAt_slice he ad l cp k n h0 h1 w')
      · cases h
    · rename_i i off l cp k n hx hi
      split at h
      · rename_i e he
        split at h
        · rename_i hb
          simp only [Bool.and_eq_true, decide_eq_true_eq] at hb
          refine silV_ok h hK fun r hr => ?_
          simp only [Option.some.injEq] at hr
          subst hr
          refine ⟨(opd_ok ha hx).2, fun w' => ?_⟩
          simp only [execOp, hop, (opd_ok ha hx).1, (opd_ok ha hi).1, den]
          rw [← add_mid]
          exact run_valued _ (run_indexAt_slice he _ l cp k n hb.1 hb.2 w')
        · cases h
      · cases h
    · rename_i i off k n hx hi
      split at h
      · rename_i l e he
        split at h
        · rename_i hb
          simp only [Bool.and_eq_true, decide_eq_true_eq] at hb
          refine silV_ok h hK fun r hr => ?_
          simp only [Option.some.injEq] at hr
          subst hr
          refine ⟨(opd_ok ha hx).2, fun w' => ?_⟩
          simp only [execOp, hop, (opd_ok ha hx).1, (opd_ok ha hi).1, den]
          rw [← add_mid]
          exact run_valued _ (run_indexAt_array he _ k n hb.1 hb.2 w')
        · cases h
      · cases h
    · rename_i ad off k n hx hi
      split at h
      · rename_i l e he
        split at h
        · rename_i hb
          simp only [Bool.and_eq_true, decide_eq_true_eq] at hb
          refine silV_ok h hK fun r hr => ?_
          simp only [Option.some.injEq] at hr
          subst hr
          refine ⟨trivial, fun w' => ?_⟩
          simp only [execOp, hop, (opd_ok ha hx).1, (opd_ok ha hi).1, den]
          rw [← add_add]
          exact run_valued _ (run_indexAt_array he _ k n hb.1 hb.2 w')
        · cases h
      · cases h
    · cases h
  case index t x ix =>
    split at h
    · rename_i s i hx hi
      split at h
      · rename_i k n hu hn
        simp only [Option.some.injEq, Prod.mk.injEq] at h
        obtain ⟨rfl, rfl⟩ := h
        obtain ⟨⟨h0, h1⟩, hK⟩ := hK
        refine ⟨_, st, hK, .refl _ _, trivial, fun w' _ => ?_⟩
        have hiv : a.eval ix = .int k n := by rw [(opd_ok ha hi).1, asI_ok hn]
        simp only [execOp, hop, (opd_ok ha hx).1, hiv, den]
        exact run_valued _ (run_index_string hu s k n h0 h1 w')
      · cases h
    · rename_i cs k n hx hi
      split at h
      · rename_i l e he
        split at h
        · rename_i hb
          simp only [Bool.and_eq_true, decide_eq_true_eq] at hb
          obtain ⟨hu, hs⟩ := arrOfT_ok he
          refine silV_ok h hK fun r hr => ?_
          have hcw : wfL st.bases.length cs := (opd_ok ha hx).2
          obtain ⟨hr1, hr2⟩ := part_ok hr st.bases hcw
          refine ⟨hr2, fun w' => ?_⟩
          simp only [execOp, hop, (opd_ok ha hx).1, (opd_ok ha hi).1, den]
          refine run_valued _ ?_
          have := hr1 w'
          simp [Instr.index, asIntOf, run_underlying hu, hb.1, hb.2, run_sizeOf_info hs, this]
        · cases h
      · cases h
    · cases h
  case slice t x l hh m =>
    cases m with
    | some m => cases h
    | none =>
      simp only at h
      split at h
      · rename_i s lo hi hx hl hhi
        split at h
        · rename_i hu
          simp only [Option.some.injEq, Prod.mk.injEq] at h
          obtain ⟨rfl, rfl⟩ := h
          obtain ⟨⟨h0, h1, h2⟩, hK⟩ := hK
          refine ⟨_, st, hK, .refl _ _, trivial, fun w' _ => ?_⟩
          simp only [execOp, hop, (opd_ok ha hx).1, den]
          refine run_valued _ ?_
          have e := run_sliceBounds_ok (P := P) false (ByteArray.size s) (ByteArray.size s) (Nat.le_refl _) (optI_ok ha hl) (optI_ok ha hhi) h0 h1 h2 w'
          simp [Instr.sliceAt, Instr.slice, run_underlying hu, e, cutStr]
        · cases h
      · rename_i p n c lo hi hx hl hhi
        split at h
        · rename_i e he
          simp only [Option.some.injEq, Prod.mk.injEq] at h
          obtain ⟨rfl, rfl⟩ := h
          obtain ⟨⟨h0, h1, h2⟩, hK⟩ := hK
          obtain ⟨hu, hs⟩ := elemOfT_ok he
          refine ⟨_, st, hK, .refl _ _, trivial, fun w' _ => ?_⟩
          simp only [execOp, hop, (opd_ok ha hx).1, den]
          refine run_valued _ ?_
          have e := run_sliceBounds_gen (P := P) true n c (optI_ok ha hl) (optI_ok ha hhi) h0 h1 h2 w'
          simp only [Instr.sliceAt, Instr.slice, Sem.run_bind, run_underlying hu, Result.andThen_ok, e, run_sizeOf_info hs, Option.map_none, slCutP, slCutL, slCutC, Sem.run_pure]
        · cases h
      · cases h
  case typeAssert x xt t ok =>
    split at h
    · cases h
    · rename_i hc
      simp only [Bool.or_eq_true, Bool.not_eq_true', not_or, Bool.not_eq_true, Bool.not_eq_false] at hc
      obtain ⟨hi, hs⟩ := hc
      obtain ⟨d, hd⟩ := Option.isSome_iff_exists.1 hs
      have hnd : ∀ ms, d ≠ .interface ms := fun ms e => by subst e; simp [isIfaceT, hd] at hi
      have hzero : ∀ (v : SVal (Sh 𝕋 P R)), zeroV (𝔸 := Sh 𝕋 P R) P t = some v → wf st.bases.length v ∧ ∀ w', (zeroValue t).run P w' = .ok (den (𝔸 := Sh 𝕋 P R) st.bases v) w' := by
        intro v hv
        obtain ⟨i, zv, h1, h2, h3, h4, _, _⟩ := zeroV_ok hv st.bases st.bases.length
        exact ⟨h4, fun w' => by simp [zeroValue, typeInfo, h1, h2, h3]⟩
      split at h
      · rename_i u v hx
        split at h
        · rename_i hut
          have hut' := Nat.eq_of_beq_eq_true hut
          subst hut'
          refine silV_ok h hK fun r hr => ?_
          simp only [Option.some.injEq] at hr
          subst hr
          have hwv : wf st.bases.length v := (opd_ok ha hx).2
          refine ⟨by cases ok <;> simp [wf, wfL, hwv], fun w' => ?_⟩
          simp only [execOp, hop, (opd_ok ha hx).1, den]
          refine run_valued _ ?_
          cases ok <;> cases d <;> simp [Instr.typeAssert, run_underlying hd, den, denL] <;> exact (hnd _ rfl).elim
        · rename_i hut
          have hut' : u ≠ t := fun e => hut (by subst e; exact Nat.beq_refl _)
          split at h
          · rename_i hok
            split at h
            · rename_i z hz
              refine silV_ok h hK fun r hr => ?_
              simp only [Option.some.injEq] at hr
              subst hr
              obtain ⟨hz1, hz2⟩ := hzero z hz
              refine ⟨⟨hz1, trivial, trivial⟩, fun w' => ?_⟩
              simp only [execOp, hop, (opd_ok ha hx).1, den]
              refine run_valued _ ?_
              cases d <;> simp [Instr.typeAssert, run_underlying hd, den, denL, hut', hok, hz2] <;> exact (hnd _ rfl).elim
            · cases h
          · cases h
      · rename_i hx
        split at h
        · rename_i hok
          split at h
          · rename_i z hz
            refine silV_ok h hK fun r hr => ?_
            simp only [Option.some.injEq] at hr
            subst hr
            obtain ⟨hz1, hz2⟩ := hzero z hz
            refine ⟨⟨hz1, trivial, trivial⟩, fun w' => ?_⟩
            simp only [execOp, hop, (opd_ok ha hx).1, den]
            refine run_valued _ ?_
            cases d <;> simp [Instr.typeAssert, run_underlying hd, den, denL, hok, hz2] <;> exact (hnd _ rfl).elim
          · cases h
        · cases h
      · cases h
  case call cl =>
    obtain ⟨callee, args, ats⟩ := cl
    cases callee <;> (try simp only at h) <;> try (cases h; done)
    case builtin b =>
      cases b <;> (try simp only at h) <;> try (cases h; done)
      split at h
      · rename_i t x hat hag
        have hats : ats = #[t] := by apply Array.ext'; exact hat
        have hags : args = #[x] := by apply Array.ext'; exact hag
        subst hats
        subst hags
        have hex : ∀ (v : Value) (w' : World), (Builtin.len_ #[t] o.type #[a.eval x]).run P w' = .ok v w' → (execOp a.eval o).run P w' = .ok (.value v) w' := by
          intro v w' hv
          simp only [execOp, hop, resolve, Sem.run_bind, Sem.run_pure, Result.andThen_ok, invoke, builtin]
          have : (#[x].map a.eval) = #[a.eval x] := by simp
          rw [this]
          simp [hv]
        split at h
        · rename_i s hx hu
          refine silV_ok h hK fun r hr => ?_
          simp only [Option.some.injEq] at hr
          subst hr
          refine ⟨trivial, fun w' => hex _ _ ?_⟩
          simp [Builtin.len_, run_underlying hu, (opd_ok ha hx).1, den, goInt]
        · rename_i p l c e hx hu
          refine silV_ok h hK fun r hr => ?_
          simp only [Option.some.injEq] at hr
          subst hr
          refine ⟨trivial, fun w' => hex _ _ ?_⟩
          simp [Builtin.len_, run_underlying hu, (opd_ok ha hx).1, den, goInt]
        · rename_i e hx hu
          refine silV_ok h hK fun r hr => ?_
          simp only [Option.some.injEq] at hr
          subst hr
          refine ⟨trivial, fun w' => hex _ _ ?_⟩
          simp [Builtin.len_, run_underlying hu, (opd_ok ha hx).1, den, goInt]
        · rename_i i off l c e hx hu
          refine silV_ok h hK fun r hr => ?_
          simp only [Option.some.injEq] at hr
          subst hr
          refine ⟨trivial, fun w' => hex _ _ ?_⟩
          simp [Builtin.len_, run_underlying hu, (opd_ok ha hx).1, den, goInt]
        · rename_i k e hx hu
          refine silV_ok h hK fun r hr => ?_
          simp only [Option.some.injEq] at hr
          subst hr
          refine ⟨trivial, fun w' => hex _ _ ?_⟩
          simp [Builtin.len_, run_underlying hu, (opd_ok ha hx).1, den, goInt]
        · rename_i n e hu
          refine silV_ok h hK fun r hr => ?_
          simp only [Option.some.injEq] at hr
          subst hr
          refine ⟨trivial, fun w' => hex _ _ ?_⟩
          simp [Builtin.len_, run_underlying hu, den, goInt]
        · cases h
      · cases h

end
end Go.Vx
