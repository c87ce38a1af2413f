/- Vx, part L: one operation, whatever it is, is sound, if calls are. -/
import Derived.Test.YtlfphbmbehbcjaaVxK
set_option linter.unusedSimpArgs false
set_option linter.unusedVariables false
namespace Go.Vx
open Go
section
variable {𝕋 : TTab} {P : Program} {R : Value → World → Prop}

/-- What is left behind an operation, or a row of them. -/
def Nx (st : St (Sh 𝕋 P R)) (K : St (Sh 𝕋 P R) → Prop) : Act → World → Prop := fun a w => ∃ st', Hist st st' ∧ RelA st' a ∧ RelW st' w ∧ K st'

theorem Nx.hist {st st1 : St (Sh 𝕋 P R)} (h : Hist st st1) {K : St (Sh 𝕋 P R) → Prop} {a : Act} {w : World} (hn : Nx st1 K a w) : Nx st K a w := by
  obtain ⟨st', h1, h2, h3, h4⟩ := hn
  exact ⟨st', h.trans h1, h2, h3, h4⟩

theorem wp_value {o : Oper} {a : Act} {w w' : World} {v : Value} {K : Act → World → Prop} {Q : Exit → Act → World → Prop} (h : (execOp a.eval o).run P w = .ok (.value v) w') (hK : K (a.put o.dst v) w') : o.wp P a w K Q := by
  unfold Oper.wp
  rw [h]
  exact hK
theorem wp_skipped {o : Oper} {a : Act} {w w' : World} {K : Act → World → Prop} {Q : Exit → Act → World → Prop} (h : (execOp a.eval o).run P w = .ok .skip w') (hK : K (a.put o.dst undef) w') : o.wp P a w K Q := by
  unfold Oper.wp
  rw [h]
  exact hK

theorem nx_put {st st' : St (Sh 𝕋 P R)} {a : Act} {w : World} {o : Oper} (h : Hist st st') (ha : RelA st' a) (hw : RelW st' w) (hd : st'.has o.dst = true) {v : SVal (Sh 𝕋 P R)} (hv : wf st'.bases.length v)
    {K : St (Sh 𝕋 P R) → Prop} (hK : K (st'.put o.dst v)) {u : Value} (hu : u = den (𝔸 := Sh 𝕋 P R) st'.bases v) : Nx st K (a.put o.dst u) w := by
  subst hu
  exact ⟨_, h.trans (put_hist _ _ _), put_relA ha hd hv, put_relW hw _ _, hK⟩

theorem has_nt {st st' : St (Sh 𝕋 P R)} (h : st'.nt = st.nt) (d : Option Tmp) : st'.has d = st.has d := by
  unfold St.has
  rw [h]

theorem good_now {st : St (Sh 𝕋 P R)} {w : World} (hw : RelW st w) (c : Cls) : Good st w c w := by
  cases c with
  | pure => trivial
  | loc i => exact fun b hb => (hw.locs i b hb).2.1
  | ext => exact Grows.refl w

theorem sil_wp {o : Oper} {a : Act} {st : St (Sh 𝕋 P R)} {w : World} (ha : RelA st a) (hw : RelW st w) (hd : st.has o.dst = true) {c : Cls} {K : St (Sh 𝕋 P R) → Prop}
    (h : SilGoal o a st w c fun v st' => K (st'.put o.dst v)) {Q : Exit → Act → World → Prop} : o.wp P a w (fun a' w' => w' = w ∧ Nx st K a' w') Q := by
  obtain ⟨v, st', hK, hs, hv, hrun⟩ := h
  refine wp_value (hrun w (good_now hw c)) ⟨rfl, ?_⟩
  exact nx_put hs.hist (hs.relA ha) (hs.relW hw) (by rw [has_nt hs.hist.nt]; exact hd) (by rw [hs.bases]; exact hv) hK (by rw [hs.bases])

theorem run_newVar (t : TypeId) (v : Value) (w : World) : (newVar t v).run P w = .ok ⟨w.heap.size, 0, none⟩ (w.alloc (.cells v.cells t)) := by
  simp [newVar, newRow]

theorem newBlk_wp {o : Oper} {a : Act} {st : St (Sh 𝕋 P R)} {w : World} (ha : RelA st a) (hw : RelW st w) (hd : st.has o.dst = true) {cells : List (SVal (Sh 𝕋 P R))} {elem : TypeId} {K : St (Sh 𝕋 P R) → Prop}
    {mk : Nat → SVal (Sh 𝕋 P R)} (hmk : ∀ i n, i < n → wf n (mk i)) {val : Nat → Value} (hval : ∀ (β : List Nat) i, den (𝔸 := Sh 𝕋 P R) β (mk i) = val (β.getD i 0))
    (h : St.newBlk (𝔸 := Sh 𝕋 P R) st cells elem fun i st' => K (st'.put o.dst (mk i))) (hc : wfL st.bases.length cells) (hn : cells.all notAgg = true)
    (hrun : (execOp a.eval o).run P w = .ok (.value (val w.heap.size)) (w.alloc (.cells (denL (𝔸 := Sh 𝕋 P R) st.bases cells).toArray elem))) {Q : Exit → Act → World → Prop} : o.wp P a w (fun a' w' => Grows w w' ∧ Nx st K a' w') Q := by
  obtain ⟨st', h1, h2, h3, h4, h5, h6, h7, _⟩ := newBlk_ok ha hw h hc hn
  refine wp_value hrun ⟨fun k hk => by show (w.heap.push _)[k]? = _; rw [Array.getElem?_push_lt hk, Array.getElem?_eq_getElem hk], nx_put h1 h2 h3 (by rw [has_nt h5]; exact hd) (hmk _ _ h7) h4 ?_⟩
  rw [hval, h6]
  have : (st.bases ++ [w.heap.size]).getD st.bases.length 0 = w.heap.size := by simp [List.getD]
  rw [this]

theorem range_zeros (z : List Value) (hz : z.length ≠ 0) : ∀ (len : Nat), ((Array.range (len * z.length)).map fun i => z.toArray[i % z.toArray.size]!) = ((List.replicate len z).flatten).toArray := by
  intro len
  apply Array.ext'
  simp only [Array.toList_map, Array.toList_range, List.size_toArray]
  induction len with
  | zero => simp
  | succ len ih =>
    rw [Nat.succ_mul, List.range_add, List.map_append, ih, List.replicate_succ', List.flatten_append]
    congr 1
    simp only [List.map_map, List.flatten_cons, List.flatten_nil, List.append_nil]
    apply List.ext_getElem
    · simp
    · intro k h1 h2
      simp only [List.getElem_map, List.getElem_range, Function.comp]
      have hk : k < z.length := h2
      have : (len * z.length + k) % z.length = k := by
        rw [Nat.mul_comm, Nat.mul_add_mod]
        exact Nat.mod_eq_of_lt hk
      simp [this, hk]

theorem denL_replicate (β : List Nat) (z : List (SVal (Sh 𝕋 P R))) (len : Nat) : denL (𝔸 := Sh 𝕋 P R) β (List.replicate len z).flatten = (List.replicate len (denL (𝔸 := Sh 𝕋 P R) β z)).flatten := by
  induction len with
  | zero => rfl
  | succ n ih => simp only [List.replicate_succ, List.flatten_cons, denL_append', ih]
theorem wfL_replicate {n : Nat} {z : List (SVal (Sh 𝕋 P R))} (h : wfL n z) (len : Nat) : wfL n (List.replicate len z).flatten := by
  induction len with
  | zero => trivial
  | succ k ih => simp only [List.replicate_succ, List.flatten_cons]; exact wfL_append h ih

theorem storeS_ok {o : Oper} {a : Act} {st : St (Sh 𝕋 P R)} {w : World} (ha : RelA st a) (hw : RelW st w) (hd : st.has o.dst = true) {t : TypeId} {x y : Operand} (hop : o.op = .store t x y)
    {ad v : SVal (Sh 𝕋 P R)} (hx : st.opd x = some ad) (hy : st.opd y = some v) {K : St (Sh 𝕋 P R) → Prop} (h : storeS (𝔸 := Sh 𝕋 P R) P st t ad v fun st' => K (st'.put o.dst undefS)) {Q : Exit → Act → World → Prop} :
    o.wp P a w (Nx st K) Q := by
  obtain ⟨hx1, hx2⟩ := opd_ok ha hx
  obtain ⟨hy1, hy2⟩ := opd_ok ha hy
  unfold storeS at h
  split at h
  · rename_i hc
    simp only [Bool.and_eq_true] at hc
    obtain ⟨⟨hl, hz⟩, hn⟩ := hc
    have hl' : v.cells.length = P.cellsOf t := Nat.eq_of_beq_eq_true hl
    have hz' : v.cells.length ≠ 0 := fun e => by rw [e] at hz; simp at hz
    have hinfo : (P.info? t).isSome = true := cells_info hl' hz'
    have hcells : (den (𝔸 := Sh 𝕋 P R) st.bases v).cells = (denL (𝔸 := Sh 𝕋 P R) st.bases v.cells).toArray := den_cells _ hy2
    have hone : ∀ u ∈ denL (𝔸 := Sh 𝕋 P R) st.bases v.cells, u.oneCell' = true := by
      rw [denL_map]
      intro u hu
      obtain ⟨s, hs, rfl⟩ := List.mem_map.1 hu
      have hwv := wf_cells hy2
      rw [wfL_iff] at hwv
      rw [List.all_eq_true] at hn
      exact den_oneCell _ (hwv s hs) (hn s hs)
    have hsize : (den (𝔸 := Sh 𝕋 P R) st.bases v).cells.size = P.cellsOf t := by rw [hcells, List.size_toArray, denL_length]; exact hl'
    have hst : ∀ (A : Addr) (w1 w' : World), (storeCells A (denL (𝔸 := Sh 𝕋 P R) st.bases v.cells)).run P w1 = .ok () w' → a.eval x = .pointer (some A) → (execOp a.eval o).run P w1 = .ok .skip w' := by
      intro A w1 w' hs he
      have hs2 : (storeCells A (den (𝔸 := Sh 𝕋 P R) st.bases v).cells.toList).run P w1 = .ok () w' := by rw [hcells]; exact hs
      simp only [execOp, hop, he, hy1, Instr.storeAt, Instr.sureAddr, Sem.run_bind, Sem.run_pure, Result.andThen_ok, run_storeVar hinfo hsize hs2]
    have hext : ∀ (A : Addr) (off : Nat), a.eval x = .pointer (some (A.add off)) → (St.atWorld (𝔸 := Sh 𝕋 P R) st fun st => st.letGo v.cells fun st => CanStore st.live st.we A off (denL (𝔸 := Sh 𝕋 P R) st.bases v.cells).length ∧ K ({ st with we := storeAt st.we A off (denL (𝔸 := Sh 𝕋 P R) st.bases v.cells) }.put o.dst undefS)) →
        o.wp P a w (Nx st K) Q := by
      intro A off he hK
      obtain ⟨s1, hsame, hwe, hdd, hK⟩ := atWorld_ok hw hK
      obtain ⟨s2, g1, g2, g3, g4, g5, g6, g7, g8, hcs, hK⟩ := letGo_ok (hsame.relA ha) (hsame.relW hw) hdd hK
      have hW : storeAt s2.we A off (denL (𝔸 := Sh 𝕋 P R) s2.bases v.cells) = storeAt w A off (denL (𝔸 := Sh 𝕋 P R) st.bases v.cells) := by rw [g6, hsame.bases, g5]
      have hcs' : CanStore s2.live w A off (denL (𝔸 := Sh 𝕋 P R) st.bases v.cells).length := by rw [g6, hsame.bases, g5] at hcs; exact hcs
      have hk := storeAt_kept hcs'
      have hrun := run_storeCells_cells (P := P) A.block (A.off + off) (denL (𝔸 := Sh 𝕋 P R) st.bases v.cells) 0 w (fun j hj => by simpa using hcs'.cell j hj) (fun j hj => by simpa using hcs'.free j hj) hone
      have hadd : A.add off = ⟨A.block, A.off + off, none⟩ := by
        have := hcs'.spot
        cases A
        simp only at this
        subst this
        exact add_mid _ _ _
      refine wp_skipped (w' := storeAt w A off (denL (𝔸 := Sh 𝕋 P R) st.bases v.cells)) (hst _ w _ (by rw [hadd]; simpa [storeAt] using hrun) he) ?_
      rw [← hW] at hk ⊢
      refine nx_put (v := undefS) (st' := { s2 with we := storeAt s2.we A off (denL (𝔸 := Sh 𝕋 P R) s2.bases v.cells) }) ((hsame.hist.trans g1).trans (we_hist _ _)) (we_relA g2 _) (kept_relW g3 g4 hk) ?_ trivial hK rfl
      rw [has_nt (st := st) (by show s2.nt = st.nt; rw [g7]; exact hsame.hist.nt)]
      exact hd
    split at h
    · rename_i i off
      split at h
      · rename_i b hb
        split at h
        · rename_i hle
          have hle' : off + v.cells.length ≤ b.cells.length := Nat.le_of_ble_eq_true hle
          obtain ⟨g1, g2, g3⟩ := setLoc_ok ha hw hb hle' (wf_cells hy2) hn
          obtain ⟨h1, h2, h3, h4, h5⟩ := hw.locs i b hb
          have hrun := run_storeCells_at P (st.base i) off b.elem (denL (𝔸 := Sh 𝕋 P R) st.bases v.cells) 0 (denL (𝔸 := Sh 𝕋 P R) st.bases b.cells).toArray w h2 (by
            rw [List.size_toArray, denL_length, denL_length]; simpa using hle') hone
          refine wp_skipped (hst _ w _ hrun (by rw [hx1]; rfl)) ?_
          refine nx_put (v := undefS) (st' := st.setLoc i b off v.cells) g1 g2 ?_ hd trivial h rfl
          have e : (denL (𝔸 := Sh 𝕋 P R) st.bases v.cells).length = v.cells.length := denL_length _ _
          simp only [Nat.add_zero, e]
          exact g3
        · exact h.elim
      · exact h.elim
    · rename_i A off
      exact hext A off (by rw [hx1]; rfl) h
    · rename_i p
      obtain ⟨A, hp, h⟩ := h
      exact hext A 0 (by rw [hx1, add_zero]; simp only [den, hp]) h
    · exact h.elim
  · exact h.elim

end
end Go.Vx
