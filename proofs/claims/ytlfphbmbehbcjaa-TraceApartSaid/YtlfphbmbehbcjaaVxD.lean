/- Vx, part D: a state of the executor and a state of the machine; the operations that only look are sound. -/
import Derived.Test.YtlfphbmbehbcjaaVxC
import Derived.Laws.Cells
import Derived.ChangeKeysEq
set_option linter.unusedSimpArgs false
set_option linter.unusedVariables false
namespace Go.Vx
open Go
section
variable {𝕋 : TTab} {P : Program} {R : Value → World → Prop}

structure RelA (st : St (Sh 𝕋 P R)) (a : Act) : Prop where
  size : a.tmps.size = st.nt
  tmps : ∀ t v, st.get t = some v → t < st.nt ∧ a.tmps[t]? = some (den (𝔸 := Sh 𝕋 P R) st.bases v) ∧ wf st.bases.length v
  defers : a.defers = []

structure RelW (st : St (Sh 𝕋 P R)) (w : World) : Prop where
  relb : ∀ i, memN st.rel i = true → i < st.bases.length
  dom : ∀ b : Nat, b ∈ (st.bases : List Nat) → b < w.heap.size
  inj : st.bases.Nodup
  locs : ∀ i b, st.loc? i = some b → i < st.bases.length ∧ w.heap[st.base i]? = some (.cells (denL (𝔸 := Sh 𝕋 P R) st.bases b.cells).toArray b.elem (0, 0)) ∧
    wfL st.bases.length b.cells ∧ b.cells.all notAgg = true ∧ b.stamp < st.ctr
  frame : if st.dirty = true then Framed st.live st.we w else w = st.we

theorem opd_ok {st : St (Sh 𝕋 P R)} {a : Act} (ha : RelA st a) {x : Operand} {v : SVal (Sh 𝕋 P R)} (h : st.opd x = some v) :
    a.eval x = den (𝔸 := Sh 𝕋 P R) st.bases v ∧ wf st.bases.length v := by
  cases x with
  | tmp t =>
    simp only [St.opd] at h
    split at h
    · rename_i u hu
      simp only [Option.some.injEq] at h
      subst h
      obtain ⟨h1, h2, h3⟩ := ha.tmps t u hu
      refine ⟨?_, wf_cv st h3⟩
      rw [den_cv]
      simp [Act.eval, h2]
    · simp at h
  | const c =>
    obtain ⟨h1, h2, _⟩ := lift_ok (P := P) (R := R) h st.bases st.bases.length
    exact ⟨h1.symm, h2⟩
  | global g => simp [St.opd] at h
  | func f =>
    simp only [St.opd, Option.some.injEq] at h
    subst h
    exact ⟨rfl, trivial, trivial⟩

theorem opds_ok {st : St (Sh 𝕋 P R)} {a : Act} (ha : RelA st a) : ∀ {xs : List Operand} {vs : List (SVal (Sh 𝕋 P R))}, opds st xs = some vs →
    xs.map a.eval = denL (𝔸 := Sh 𝕋 P R) st.bases vs ∧ wfL st.bases.length vs
  | [], vs, h => by simp only [opds, Option.some.injEq] at h; subst h; exact ⟨rfl, trivial⟩
  | x :: xs, vs, h => by
    simp only [opds] at h
    split at h
    · rename_i v us hv hus
      simp only [Option.some.injEq] at h
      subst h
      obtain ⟨h1, h2⟩ := opd_ok ha hv
      obtain ⟨h3, h4⟩ := opds_ok ha hus
      exact ⟨by simp [denL, h1, h3], h2, h4⟩
    · simp at h

/-! ### Runs of small parts of the model -/
theorem run_underlying' {t : TypeId} {d : TypeDesc} (h : P.underlying t = some d) (w : World) : (underlying t).run P w = .ok d w := run_underlying h w

theorem run_isAgg {t : TypeId} (h : (P.underlying t).isSome = true) (w : World) : (isAgg t).run P w = .ok (isAggT P t) w := by
  obtain ⟨d, hd⟩ := Option.isSome_iff_exists.1 h
  unfold isAgg isAggT
  rw [Sem.run_bind, run_underlying hd, hd]
  cases d <;> rfl

theorem isAgg_some {t : TypeId} (h : isAggT P t = true) : (P.underlying t).isSome = true := by
  unfold isAggT at h
  cases hd : P.underlying t <;> simp_all

theorem info_of_underlying {t : TypeId} (h : (P.underlying t).isSome = true) : ∃ i, P.info? t = some i := by
  cases hi : P.info? t with
  | some i => exact ⟨i, rfl⟩
  | none => simp [Program.underlying, hi] at h

theorem run_sizeOf' {t : TypeId} (h : (P.underlying t).isSome = true) (w : World) : (sizeOf t).run P w = .ok (P.cellsOf t) w := by
  obtain ⟨i, hi⟩ := info_of_underlying h
  simp [sizeOf, typeInfo, hi, Program.cellsOf]

/-- One value of a type out of its cells. -/
def ofVals (P : Program) (t : TypeId) (vs : List Value) : Value := if isAggT P t then .agg vs.toArray else vs.headD undef

theorem run_loadVar {t : TypeId} (h : (P.underlying t).isSome = true) {a : Addr} {w : World} {vs : List Value} (hl : vs.length = P.cellsOf t)
    (h1 : isAggT P t = false → vs.length = 1) (hc : ∀ j v, vs[j]? = some v → w.cell? (a.add j) = some v) :
    (loadVar t a).run P w = .ok (ofVals P t vs) w := by
  unfold loadVar ofVals
  rw [Sem.run_bind, run_isAgg h]
  simp only [Result.andThen_ok]
  cases hA : isAggT P t with
  | true =>
    simp only [if_true, Sem.run_bind, run_sizeOf' h, Result.andThen_ok, ← hl]
    rw [run_loadCells_list w a vs hc]
    rfl
  | false =>
    simp only [Bool.false_eq_true, if_false]
    have hl1 := h1 hA
    match vs, hl1 with
    | [v], _ =>
      have := hc 0 v rfl
      rw [add_zero] at this
      simp [this]

theorem ofCells_ok {t : TypeId} {cs : List (SVal (Sh 𝕋 P R))} {v : SVal (Sh 𝕋 P R)} (h : ofCells P t cs = some v) (β : List Nat) {n : Nat} (hw : wfL n cs) (ha : cs.all notAgg = true) :
    (P.underlying t).isSome = true ∧ cs.length = P.cellsOf t ∧ (isAggT P t = false → cs.length = 1) ∧ den (𝔸 := Sh 𝕋 P R) β v = ofVals P t (denL (𝔸 := Sh 𝕋 P R) β cs) ∧ wf n v ∧ v.cells = cs := by
  unfold ofCells at h
  split at h
  · rename_i hl
    have hl' : cs.length = P.cellsOf t := Nat.eq_of_beq_eq_true hl
    split at h
    · rename_i hA
      simp only [Option.some.injEq] at h
      subst h
      exact ⟨isAgg_some hA, hl', (fun hf => by rw [hA] at hf; cases hf), by simp [den, ofVals, hA], hw, rfl⟩
    · rename_i hA
      have hA' : isAggT P t = false := by simpa using hA
      split at h
      · rename_i c
        split at h
        · rename_i hs
          simp only [Option.some.injEq] at h
          subst h
          refine ⟨hs, hl', fun _ => rfl, by simp [ofVals, hA', denL], hw.1, ?_⟩
          simp only [List.all_cons, List.all_nil, Bool.and_true] at ha
          cases c <;> simp_all [SVal.cells, notAgg]
        · simp at h
      · simp at h
  · simp at h

/-- All that was there is as it was. -/
def Grows (w w' : World) : Prop := ∀ k, k < w.heap.size → w'.heap[k]? = w.heap[k]?
theorem Grows.refl (w : World) : Grows w w := fun _ _ => rfl
theorem Grows.cells {w w' : World} (h : Grows w w') {a : Addr} {off : Nat} {vs : List Value} (hc : CellsAt w a off vs) : CellsAt w' a off vs := by
  intro j v hj
  have h1 := hc j v hj
  unfold World.cell? at h1 ⊢
  by_cases hlt : (a.add (off + j)).block < w.heap.size
  · rw [h _ hlt]
    exact h1
  · rw [Array.getElem?_eq_none (by omega)] at h1
    simp at h1
/-- What an operation may do to the world, as the executor counts it. -/
def Moves (P : Program) (o : Op) (w w' : World) : Prop := (isLoud P o = false → w' = w) ∧ (isGrow o = true → Grows w w')
theorem Moves.refl (P : Program) (o : Op) (w : World) : Moves P o w w := ⟨fun _ => rfl, fun _ => .refl w⟩
theorem isGrow_cases {o : Op} (h : isGrow o = true) : (∃ t, o = .alloc t) ∨ (∃ t x, o = .box t x) ∨ (∃ t l p, o = .buildSlice t l p) := by
  cases o <;> simp [isGrow] at h <;> simp

/-- What a world has to have in common for an operation that looks. -/
def Good (st : St (Sh 𝕋 P R)) (w : World) : Cls → World → Prop
  | .pure, _ => True
  | .loc i, w' => ∀ b, st.loc? i = some b → w'.heap[st.base i]? = some (.cells (denL (𝔸 := Sh 𝕋 P R) st.bases b.cells).toArray b.elem (0, 0))
  | .ext, w' => Grows w w'

/-- The same state, the world at hand spoken of anew, or not. -/
def Same (st st' : St (Sh 𝕋 P R)) (w : World) : Prop := st' = st ∨ st' = { st with we := w, dirty := false }

theorem Same.refl (st : St (Sh 𝕋 P R)) (w : World) : Same st st w := .inl rfl

theorem Same.relW {st st' : St (Sh 𝕋 P R)} {w : World} (h : Same st st' w) (hw : RelW st w) : RelW st' w := by
  rcases h with rfl | rfl
  · exact hw
  · exact ⟨hw.relb, hw.dom, hw.inj, hw.locs, by simp⟩
theorem Same.relA {st st' : St (Sh 𝕋 P R)} {w : World} {a : Act} (h : Same st st' w) (ha : RelA st a) : RelA st' a := by
  rcases h with rfl | rfl
  · exact ha
  · exact ⟨ha.size, ha.tmps, ha.defers⟩
theorem Same.bases {st st' : St (Sh 𝕋 P R)} {w : World} (h : Same st st' w) : st'.bases = st.bases := by
  rcases h with rfl | rfl <;> rfl

theorem atWorld_ok {st : St (Sh 𝕋 P R)} {w : World} (hw : RelW st w) {K : St (Sh 𝕋 P R) → Prop} (h : St.atWorld (𝔸 := Sh 𝕋 P R) st K) :
    ∃ st', Same st st' w ∧ st'.we = w ∧ st'.dirty = false ∧ K st' := by
  unfold St.atWorld at h
  have hf := hw.frame
  split at h
  · rename_i hd
    simp only [hd, if_true] at hf
    exact ⟨_, .inr rfl, rfl, rfl, h w hf⟩
  · rename_i hd
    simp only [hd] at hf
    exact ⟨st, .inl rfl, hf.symm, by simpa using hd, h⟩

/-! ### Typed values under a quantifier -/
theorem mkC_ex {k : CK} {K : SVal (Sh 𝕋 P R) → Prop} (h : mkC (𝔸 := Sh 𝕋 P R) exS k K) : ∃ v, K v ∧ (∀ n, wf n v) ∧ notAgg v = true := by
  cases k with
  | int q => obtain ⟨x, hx⟩ := h; exact ⟨_, hx, fun _ => trivial, rfl⟩
  | bool => obtain ⟨x, hx⟩ := h; exact ⟨_, hx, fun _ => trivial, rfl⟩
  | str => obtain ⟨x, hx⟩ := h; exact ⟨_, hx, fun _ => trivial, rfl⟩
  | ptr => obtain ⟨x, hx⟩ := h; exact ⟨_, hx, fun _ => trivial, rfl⟩
  | map => obtain ⟨x, hx⟩ := h; exact ⟨_, hx, fun _ => trivial, rfl⟩
  | val => obtain ⟨x, hf, hx⟩ := h; exact ⟨_, hx, fun _ => hf, rfl⟩
  | slice =>
    obtain ⟨x, l, c, hx⟩ := h
    exact ⟨_, hx, fun _ => trivial, rfl⟩
theorem mkL_ex : ∀ {ks : List CK} {K : List (SVal (Sh 𝕋 P R)) → Prop}, mkL (𝔸 := Sh 𝕋 P R) exS ks K → ∃ vs, K vs ∧ (∀ n, wfL n vs) ∧ vs.all notAgg = true ∧ vs.length = ks.length
  | [], K, h => ⟨[], h, fun _ => trivial, rfl, rfl⟩
  | k :: ks, K, h => by
    obtain ⟨v, hv, h1, h2⟩ := mkC_ex h
    obtain ⟨vs, hvs, h3, h4, h5⟩ := mkL_ex hv
    exact ⟨v :: vs, hvs, fun n => ⟨h1 n, h3 n⟩, by simp [h2, h4], by simp [h5]⟩
def flatAts : List AtS → Prop
  | [] => True
  | .v x :: r => Flat x ∧ flatAts r
  | _ :: r => flatAts r
theorem flatB_ok : ∀ {l : List AtS}, flatB l = true → flatAts l
  | [], _ => trivial
  | .v _ :: _, h => by cases h
  | .i _ :: r, h | .b _ :: r, h | .s _ :: r, h | .p _ :: r, h | .n _ :: r, h | .m _ :: r, h => flatB_ok (l := r) h
theorem exAks_ex : ∀ {aks : List AK} {f : List AtS → Prop}, exAks aks f → ∃ ats, flatAts ats ∧ f ats
  | [], f, h => ⟨[], trivial, h⟩
  | k :: ks, f, h => by
    cases k with
    | w => exact h.elim
    | v =>
      obtain ⟨x, hf, hx⟩ := h
      obtain ⟨r, hr, h⟩ := exAks_ex hx
      exact ⟨.v x :: r, ⟨hf, hr⟩, h⟩
    | i =>
      obtain ⟨x, hx⟩ := h
      obtain ⟨r, hr, h⟩ := exAks_ex hx
      exact ⟨.i x :: r, hr, h⟩
    | b =>
      obtain ⟨x, hx⟩ := h
      obtain ⟨r, hr, h⟩ := exAks_ex hx
      exact ⟨.b x :: r, hr, h⟩
    | s =>
      obtain ⟨x, hx⟩ := h
      obtain ⟨r, hr, h⟩ := exAks_ex hx
      exact ⟨.s x :: r, hr, h⟩
    | p =>
      obtain ⟨x, hx⟩ := h
      obtain ⟨r, hr, h⟩ := exAks_ex hx
      exact ⟨.p x :: r, hr, h⟩
    | n =>
      obtain ⟨x, hx⟩ := h
      obtain ⟨r, hr, h⟩ := exAks_ex hx
      exact ⟨.n x :: r, hr, h⟩
    | m =>
      obtain ⟨x, hx⟩ := h
      obtain ⟨r, hr, h⟩ := exAks_ex hx
      exact ⟨.m x :: r, hr, h⟩
theorem exTS_ex {t : TypeId} {aks : List AK} {f : List AtS → Prop} (h : exTS 𝕋 t aks f) : ∃ ats, flatAts ats ∧ f ats := by
  unfold exTS at h
  split at h
  · rename_i s hs
    obtain ⟨d, hd⟩ := h
    exact ⟨_, flatB_ok (s.flat d), hd⟩
  · exact exAks_ex h
theorem ofAts_ok : ∀ (ks : List CK) {ats : List AtS} {vs : List (SVal (Sh 𝕋 P R))}, ofAts (𝔸 := Sh 𝕋 P R) ks ats = some vs → flatAts ats → (∀ n, wfL n vs) ∧ vs.all notAgg = true ∧ vs.length = ks.length := by
  intro ks
  induction ks with
  | nil =>
    intro ats vs h hf
    cases ats with
    | nil =>
      simp only [ofAts, Option.some.injEq] at h
      subst h
      exact ⟨fun _ => trivial, rfl, rfl⟩
    | cons a r => cases h
  | cons k ks ih =>
    intro ats vs h hf
    have step : ∀ {v : SVal (Sh 𝕋 P R)} {us : List (SVal (Sh 𝕋 P R))} {r : List AtS}, vs = v :: us → ofAts (𝔸 := Sh 𝕋 P R) ks r = some us → flatAts r → (∀ n, wf n v) → notAgg v = true → (∀ n, wfL n vs) ∧ vs.all notAgg = true ∧ vs.length = (k :: ks).length := by
      intro v us r e hu hr h1 h2
      subst e
      obtain ⟨g1, g2, g3⟩ := ih hu hr
      exact ⟨fun n => ⟨h1 n, g1 n⟩, by simp [h2, g2], by simp [g3]⟩
    cases k with
    | int q =>
      match ats, h with
      | .i x :: r, h =>
        simp only [ofAts] at h
        split at h
        · rename_i us h1
          simp only [Option.some.injEq] at h
          exact step h.symm h1 hf (fun _ => trivial) rfl
        · cases h
    | bool =>
      match ats, h with
      | .b x :: r, h =>
        simp only [ofAts] at h
        split at h
        · rename_i us h1
          simp only [Option.some.injEq] at h
          exact step h.symm h1 hf (fun _ => trivial) rfl
        · cases h
    | str =>
      match ats, h with
      | .s x :: r, h =>
        simp only [ofAts] at h
        split at h
        · rename_i us h1
          simp only [Option.some.injEq] at h
          exact step h.symm h1 hf (fun _ => trivial) rfl
        · cases h
    | ptr =>
      match ats, h with
      | .p x :: r, h =>
        simp only [ofAts] at h
        split at h
        · rename_i us h1
          simp only [Option.some.injEq] at h
          exact step h.symm h1 hf (fun _ => trivial) rfl
        · cases h
    | map =>
      match ats, h with
      | .m x :: r, h =>
        simp only [ofAts] at h
        split at h
        · rename_i us h1
          simp only [Option.some.injEq] at h
          exact step h.symm h1 hf (fun _ => trivial) rfl
        · cases h
    | val =>
      match ats, h with
      | .v x :: r, h =>
        simp only [ofAts] at h
        split at h
        · rename_i us h1
          simp only [Option.some.injEq] at h
          exact step h.symm h1 hf.2 (fun _ => hf.1) rfl
        · cases h
    | slice =>
      match ats, h with
      | .p x :: .n l :: .n c :: r, h =>
        simp only [ofAts] at h
        split at h
        · rename_i us h1
          simp only [Option.some.injEq] at h
          exact step h.symm h1 hf (fun _ => trivial) rfl
        · cases h
mutual
theorem mkSh_ex : ∀ {s : Shape} {K : SVal (Sh 𝕋 P R) → Prop}, mkSh (𝔸 := Sh 𝕋 P R) exS (exTS 𝕋) s K → ∃ v, K v ∧ (∀ n, wf n v) ∧ (match s with
    | .one _ => notAgg v = true
    | .agg _ ks => ∃ vs, v = .agg vs ∧ vs.all notAgg = true ∧ vs.length = ks.length
    | .tuple _ => True)
  | .one k, K, h => by
    obtain ⟨v, h1, h2, h3⟩ := mkC_ex (by simpa only [mkSh] using h)
    exact ⟨v, h1, h2, h3⟩
  | .agg t ks, K, h => by
    obtain ⟨ats, hf, h1⟩ := exTS_ex (by simpa only [mkSh] using h)
    split at h1
    · rename_i vs hvs
      obtain ⟨h2, h3, h4⟩ := ofAts_ok ks hvs hf
      exact ⟨_, h1, fun n => h2 n, vs, rfl, h3, h4⟩
    · exact h1.elim
  | .tuple cs, K, h => by
    obtain ⟨vs, h1, h2⟩ := mkShs_ex (cs := cs) (by simpa only [mkSh] using h)
    exact ⟨_, h1, fun n => h2 n, trivial⟩
theorem mkShs_ex : ∀ {cs : List Shape} {K : List (SVal (Sh 𝕋 P R)) → Prop}, mkShs (𝔸 := Sh 𝕋 P R) exS (exTS 𝕋) cs K → ∃ vs, K vs ∧ (∀ n, wfL n vs)
  | [], K, h => ⟨[], by simpa only [mkShs] using h, fun _ => trivial⟩
  | c :: cs, K, h => by
    obtain ⟨v, h1, h2, _⟩ := mkSh_ex (s := c) (by simpa only [mkShs] using h)
    obtain ⟨vs, h3, h4⟩ := mkShs_ex h1
    exact ⟨v :: vs, h3, fun n => ⟨h2 n, h4 n⟩⟩
end

/-- What stands behind an operation that looks, once it is carried out. -/
def SilGoal (o : Oper) (a : Act) (st : St (Sh 𝕋 P R)) (w : World) (c : Cls) (K : SVal (Sh 𝕋 P R) → St (Sh 𝕋 P R) → Prop) : Prop :=
  ∃ v st', K v st' ∧ Same st st' w ∧ wf st.bases.length v ∧ ∀ w', Good st w c w' → (execOp a.eval o).run P w' = .ok (.value (den (𝔸 := Sh 𝕋 P R) st.bases v)) w'

theorem run_valued (s : Sem Value) {w w' : World} {v : Value} (h : s.run P w = .ok v w') : (do pure (Next.value (← s)) : Sem Next).run P w = .ok (.value v) w' := by
  simp [h]

theorem silV_ok {o : Oper} {a : Act} {st : St (Sh 𝕋 P R)} {w : World} {v : Option (SVal (Sh 𝕋 P R))} {c : Cls} {φ : (SVal (Sh 𝕋 P R) → St (Sh 𝕋 P R) → Prop) → Prop}
    (h : silV st v = some (c, φ)) {K : SVal (Sh 𝕋 P R) → St (Sh 𝕋 P R) → Prop} (hK : φ K)
    (hv : ∀ u, v = some u → wf st.bases.length u ∧ ∀ w', (execOp a.eval o).run P w' = .ok (.value (den (𝔸 := Sh 𝕋 P R) st.bases u)) w') : SilGoal o a st w c K := by
  cases v with
  | none => simp [silV] at h
  | some u =>
    simp only [silV, Option.map_some, Option.some.injEq, Prod.mk.injEq] at h
    obtain ⟨rfl, rfl⟩ := h
    obtain ⟨h1, h2⟩ := hv u rfl
    exact ⟨u, st, hK, .refl _ _, h1, fun w' _ => h2 w'⟩

end
end Go.Vx
