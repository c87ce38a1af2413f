/- Vx, part K: what is let go, what is stored; results; loops' slots. -/
import Derived.Test.YtlfphbmbehbcjaaVxJ
set_option linter.unusedSimpArgs false
set_option linter.unusedVariables false
namespace Go.Vx
open Go
section
variable {𝕋 : TTab} {P : Program} {R : Value → World → Prop}

theorem beq_false_of_ne {i j : Nat} (h : i ≠ j) : Nat.beq i j = false := by
  cases hq : Nat.beq i j
  · rfl
  · exact absurd (Nat.eq_of_beq_eq_true hq) h

/-- A store into a block of the call's own. -/
theorem setLoc_ok {st : St (Sh 𝕋 P R)} {a : Act} {w : World} (ha : RelA st a) (hw : RelW st w) {i : Nat} {b : Blk (Sh 𝕋 P R)} (hb : st.loc? i = some b) {off : Nat} {vs : List (SVal (Sh 𝕋 P R))}
    (hl : off + vs.length ≤ b.cells.length) (hv : wfL st.bases.length vs) (hn : vs.all notAgg = true) :
    Hist st (st.setLoc i b off vs) ∧ RelA (st.setLoc i b off vs) a ∧
      RelW (st.setLoc i b off vs) (w.setRow (st.base i) ((denL (𝔸 := Sh 𝕋 P R) st.bases b.cells).take off ++ denL (𝔸 := Sh 𝕋 P R) st.bases vs ++ (denL (𝔸 := Sh 𝕋 P R) st.bases b.cells).drop (off + vs.length)).toArray) := by
  obtain ⟨h1, h2, h3, h4, h5⟩ := hw.locs i b hb
  obtain ⟨hr, hlive⟩ := loc_live hw hb
  have hcells : denL (𝔸 := Sh 𝕋 P R) st.bases (b.cells.take off ++ (vs ++ b.cells.drop (off + vs.length))) =
      (denL (𝔸 := Sh 𝕋 P R) st.bases b.cells).take off ++ denL (𝔸 := Sh 𝕋 P R) st.bases vs ++ (denL (𝔸 := Sh 𝕋 P R) st.bases b.cells).drop (off + vs.length) := by
    rw [denL_append', denL_append', denL_take, denL_drop, List.append_assoc]
  have hloc : ∀ k, k ≠ i → (st.setLoc i b off vs).loc? k = st.loc? k := by
    intro k hk
    simp only [St.loc?, St.setLoc, assoc, beq_false_of_ne (Ne.symm hk)]
    rfl
  have hloci : (st.setLoc i b off vs).loc? i = some { cells := b.cells.take off ++ (vs ++ b.cells.drop (off + vs.length)), elem := b.elem, stamp := st.ctr } := by
    simp [St.loc?, St.setLoc, assoc, hr]
  refine ⟨⟨rfl, ⟨[], by simp [St.setLoc]⟩, Nat.le_succ _, ⟨[], rfl⟩, fun k b' hk hb' hs => ?_⟩, ⟨ha.size, ha.tmps, ha.defers⟩, ⟨hw.relb, fun x hx => by rw [setRow_size]; exact hw.dom x hx, hw.inj, fun k b' hb' => ?_, ?_⟩⟩
  · by_cases hki : k = i
    · subst hki
      rw [hloci] at hb'
      simp only [Option.some.injEq] at hb'
      subst hb'
      exact absurd hs (Nat.lt_irrefl _)
    · rw [hloc k hki] at hb'
      exact hb'
  · by_cases hki : k = i
    · subst hki
      rw [hloci] at hb'
      simp only [Option.some.injEq] at hb'
      subst hb'
      refine ⟨h1, ?_, wfL_append (wfL_take _ h3) (wfL_append hv (wfL_drop _ h3)), ?_, Nat.lt_succ_self _⟩
      · show (w.setRow (st.base k) _).heap[st.base k]? = some (.cells (denL (𝔸 := Sh 𝕋 P R) st.bases _).toArray b.elem (0, 0))
        rw [hcells]
        exact setRow_heap w _ _ _ _ _ h2
      · rw [List.all_eq_true] at *
        intro x hx
        rcases List.mem_append.1 hx with hx | hx
        · exact h4 x (List.mem_of_mem_take hx)
        · rcases List.mem_append.1 hx with hx | hx
          · exact hn x hx
          · exact h4 x (List.mem_of_mem_drop hx)
    · rw [hloc k hki] at hb'
      obtain ⟨k1, k2, k3, k4, k5⟩ := hw.locs k b' hb'
      refine ⟨k1, ?_, k3, k4, Nat.lt_succ_of_lt k5⟩
      show (w.setRow (st.base i) _).heap[st.base k]? = _
      rw [setRow_other _ _ _ _ (fun e => hki (base_inj hw k1 h1 e))]
      exact k2
  · simp only [St.setLoc, if_true]
    have hl2 : ∀ x ∈ st.live, x < (w.setRow (st.base i) ((denL (𝔸 := Sh 𝕋 P R) st.bases b.cells).take off ++ denL (𝔸 := Sh 𝕋 P R) st.bases vs ++ (denL (𝔸 := Sh 𝕋 P R) st.bases b.cells).drop (off + vs.length)).toArray).heap.size := by
      intro x hx
      rw [setRow_size]
      exact hw.dom x (live_sub _ _ _ _ hx)
    have hf := hw.frame
    split at hf
    · refine ⟨hf.os, hf.tape, hf.output, by rw [setRow_size]; exact hf.size, hl2, fun k hk hkn => ?_⟩
      rw [setRow_other _ _ _ _ (fun e => hkn (by rw [e]; exact hlive))]
      exact hf.same k hk hkn
    · subst hf
      refine ⟨rfl, rfl, rfl, by rw [setRow_size]; exact Nat.le_refl _, hl2, fun k hk hkn => ?_⟩
      rw [setRow_other _ _ _ _ (fun e => hkn (by rw [e]; exact hlive))]

theorem holdsS_ok {st : St (Sh 𝕋 P R)} {w : World} (hw : RelW st w) {K : Prop} : ∀ {l : List Nat}, holdsS (𝔸 := Sh 𝕋 P R) st w l K → K
  | [], h => h
  | i :: r, h => by
    simp only [holdsS] at h
    split at h
    · rename_i b hb
      exact holdsS_ok hw (h (hw.locs i b hb).2.1)
    · exact holdsS_ok hw h

theorem reach_ok (st : St (Sh 𝕋 P R)) : ∀ (n : Nat) (todo seen : List Nat) (i : Nat), i ∈ reach st n todo seen → i ∈ seen ∨ ∃ b, st.loc? i = some b
  | 0, _, seen, i, h => .inl h
  | n + 1, [], seen, i, h => .inl h
  | n + 1, j :: todo, seen, i, h => by
    simp only [reach] at h
    split at h
    · exact reach_ok st n todo seen i h
    · split at h
      · rename_i b hb
        rcases reach_ok st n _ _ i h with h | h
        · rcases List.mem_cons.1 h with rfl | h
          · exact .inr ⟨b, hb⟩
          · exact .inl h
        · exact .inr h
      · exact reach_ok st n todo seen i h

theorem memN_append (a b : List Nat) (i : Nat) : memN (a ++ b) i = (memN a i || memN b i) := by
  induction a with
  | nil => rfl
  | cons x a ih => simp only [List.cons_append, memN, ih, Bool.or_assoc]

/-- What is let go. -/
theorem letGo_ok {st : St (Sh 𝕋 P R)} {a : Act} {w : World} (ha : RelA st a) (hw : RelW st w) (hd : st.dirty = false) {vs : List (SVal (Sh 𝕋 P R))} {K : St (Sh 𝕋 P R) → Prop}
    (h : St.letGo (𝔸 := Sh 𝕋 P R) st vs K) : ∃ st', Hist st st' ∧ RelA st' a ∧ RelW st' w ∧ st'.dirty = false ∧ st'.we = w ∧ st'.bases = st.bases ∧ st'.nt = st.nt ∧ st'.tmps = st.tmps ∧ K st' := by
  have hwe : w = st.we := by
    have := hw.frame
    simpa [hd] using this
  unfold St.letGo at h
  split at h
  · exact ⟨st, .refl _, ha, hw, hd, hwe.symm, rfl, rfl, rfl, h⟩
  · rename_i l _
    have hK := holdsS_ok (show RelW st st.we from hwe ▸ hw) h
    have hsub : ∀ i, memN st.rel i = true → memN (reach st 1000 (locsOfL vs) [] ++ st.rel) i = true := fun i hi => by rw [memN_append, hi, Bool.or_true]
    have hloc : ∀ i b, ({ st with rel := reach st 1000 (locsOfL vs) [] ++ st.rel } : St (Sh 𝕋 P R)).loc? i = some b → st.loc? i = some b := by
      intro i b hb
      unfold St.loc? at hb ⊢
      cases hm : memN (reach st 1000 (locsOfL vs) [] ++ st.rel) i with
      | true => simp [hm] at hb
      | false =>
        simp only [hm, Bool.false_eq_true, if_false] at hb
        rw [memN_append, Bool.or_eq_false_iff] at hm
        simp only [hm.2, Bool.false_eq_true, if_false]
        exact hb
    refine ⟨{ st with rel := reach st 1000 (locsOfL vs) [] ++ st.rel }, ⟨rfl, ⟨[], by simp⟩, Nat.le_refl _, ⟨[], rfl⟩, fun i b' _ hb _ => hloc i b' hb⟩, ⟨ha.size, ha.tmps, ha.defers⟩, ⟨fun i hi => ?_, hw.dom, hw.inj, fun i b hb => hw.locs i b (hloc i b hb), ?_⟩, hd, hwe.symm, rfl, rfl, rfl, hK⟩
    · have hi : memN (reach st 1000 (locsOfL vs) [] ++ st.rel) i = true := hi
      rw [memN_append, Bool.or_eq_true] at hi
      rcases hi with hi | hi
      · rcases reach_ok st _ _ _ i (memN_iff.1 hi) with h1 | ⟨b, hb⟩
        · simp at h1
        · exact (hw.locs i b hb).1
      · exact hw.relb i hi
    · simp [hd, hwe]

/-- A store at an address. -/
theorem storeAt_kept {L : List Nat} {w : World} {a : Addr} {off : Nat} {vs : List Value} (h : CanStore L w a off vs.length) : Kept L w (storeAt w a off vs) := by
  have hsz : ∀ (vs : List Value) (o : Nat) (w : World), (w.setCells a.block o vs).heap.size = w.heap.size := by
    intro vs
    induction vs with
    | nil => intro o w; rfl
    | cons v vs ih => intro o w; rw [World.setCells, ih]; simp [World.setCell]
  have hoth : ∀ (vs : List Value) (o : Nat) (w : World) (k : Nat), k ≠ a.block → (w.setCells a.block o vs).heap[k]? = w.heap[k]? := by
    intro vs
    induction vs with
    | nil => intro o w k hk; rfl
    | cons v vs ih => intro o w k hk; rw [World.setCells, ih _ _ k hk]; exact RowKit.Below.heap_setCell _ _ _ _ hk
  exact ⟨Nat.le_of_eq (hsz _ _ _).symm, fun b hb => hoth _ _ _ _ (fun e => h.out (e ▸ hb))⟩

theorem cells_info {t : TypeId} {n : Nat} (h : n = P.cellsOf t) (hn : n ≠ 0) : (P.info? t).isSome = true := by
  cases hi : P.info? t with
  | none => simp [Program.cellsOf, hi] at h; omega
  | some i => rfl

theorem run_storeVar {t : TypeId} {a : Addr} {v : Value} {w w' : World} (hi : (P.info? t).isSome = true) (hl : v.cells.size = P.cellsOf t) (hs : (storeCells a v.cells.toList).run P w = .ok () w') :
    (storeVar t a v).run P w = .ok () w' := by
  simp [storeVar, run_sizeOf_info hi, hl, hs]

/-! ### Results -/
def resRun (tmps : Array Value) : ResultVar → Sem Value
  | .tmp t => pure (tmps.getD t undef)
  | .cell c t => do loadVar t (← asAddr (tmps.getD c undef))

theorem resOne_ok {st : St (Sh 𝕋 P R)} {a : Act} {w : World} (ha : RelA st a) (hw : RelW st w) {r : ResultVar} {v : SVal (Sh 𝕋 P R)} (h : resOne (𝔸 := Sh 𝕋 P R) P st r = some v) :
    (resRun a.tmps r).run P w = .ok (den (𝔸 := Sh 𝕋 P R) st.bases v) w ∧ wf st.bases.length v := by
  cases r with
  | tmp t =>
    obtain ⟨h1, h2⟩ := opd_ok ha (x := .tmp t) h
    refine ⟨?_, h2⟩
    simp only [Act.eval] at h1
    simp only [resRun, Sem.run_pure, h1]
  | cell c t =>
    simp only [resOne] at h
    split at h
    · rename_i i off hc
      split at h
      · rename_i b hb
        obtain ⟨h1, h2, h3, h4, h5⟩ := hw.locs i b hb
        obtain ⟨k1, k2⟩ := load_loc h2 h h3 h4
        refine ⟨?_, k2⟩
        obtain ⟨e1, e2⟩ := opd_ok ha hc
        simp only [Act.eval] at e1
        simp only [resRun, e1, den, asAddr, Sem.run_bind, Sem.run_pure, Result.andThen_ok]
        simp only [Instr.loadAt, Instr.sureAddr, Sem.run_bind, Sem.run_pure, Result.andThen_ok] at k1
        exact k1
      · cases h
    · cases h

theorem resAll_ok {st : St (Sh 𝕋 P R)} {a : Act} {w : World} (ha : RelA st a) (hw : RelW st w) : ∀ {rs : List ResultVar} {vs : List (SVal (Sh 𝕋 P R))}, resAll (𝔸 := Sh 𝕋 P R) P st rs = some vs →
    (rs.mapM (resRun a.tmps)).run P w = .ok (denL (𝔸 := Sh 𝕋 P R) st.bases vs) w ∧ wfL st.bases.length vs
  | [], vs, h => by simp only [resAll, Option.some.injEq] at h; subst h; exact ⟨rfl, trivial⟩
  | r :: rs, vs, h => by
    simp only [resAll] at h
    split at h
    · rename_i v us hv hus
      simp only [Option.some.injEq] at h
      subst h
      obtain ⟨h1, h2⟩ := resOne_ok ha hw hv
      obtain ⟨h3, h4⟩ := resAll_ok ha hw hus
      refine ⟨?_, h2, h4⟩
      rw [List.mapM_cons, Sem.run_bind, h1]
      simp only [Result.andThen_ok, Sem.run_bind, h3, Sem.run_pure]
      rfl
    · cases h

theorem resS_ok {st : St (Sh 𝕋 P R)} {a : Act} {w : World} (ha : RelA st a) (hw : RelW st w) {fn : Func} {v : SVal (Sh 𝕋 P R)} (h : resS (𝔸 := Sh 𝕋 P R) P st fn = some v) :
    (results fn a.tmps).run P w = .ok (den (𝔸 := Sh 𝕋 P R) st.bases v) w ∧ wf st.bases.length v := by
  have hrun : ∀ vs, resAll (𝔸 := Sh 𝕋 P R) P st fn.results.toList = some vs → (fn.results.mapM (resRun a.tmps)).run P w = .ok (denL (𝔸 := Sh 𝕋 P R) st.bases vs).toArray w ∧ wfL st.bases.length vs := by
    intro vs hvs
    obtain ⟨h1, h2⟩ := resAll_ok ha hw hvs
    refine ⟨?_, h2⟩
    rw [Array.mapM_eq_mapM_toList, Sem.run_map, h1]
    rfl
  have hres : results fn a.tmps = (do let vs ← fn.results.mapM (resRun a.tmps); pure (if h : vs.size = 1 then vs[0] else .tuple vs)) := rfl
  rw [hres]
  unfold resS at h
  split at h
  · rename_i u hu
    simp only [Option.some.injEq] at h
    subst h
    obtain ⟨h1, h2⟩ := hrun _ hu
    refine ⟨?_, h2.1⟩
    rw [Sem.run_bind, h1]
    simp [denL]
  · rename_i vs hvs hno
    simp only [Option.some.injEq] at h
    subst h
    obtain ⟨h1, h2⟩ := hrun _ hno
    refine ⟨?_, h2⟩
    rw [Sem.run_bind, h1]
    simp only [Result.andThen_ok, Sem.run_pure, den]
    have : ¬ (denL (𝔸 := Sh 𝕋 P R) st.bases vs).toArray.size = 1 := by
      rw [List.size_toArray, denL_length]
      intro e
      match vs, e with
      | [u], _ => exact hvs u rfl
    rw [dif_neg this]
  · cases h

end
end Go.Vx
