/- Vx, part F: the operations that only look are sound. -/
import Derived.Test.YtlfphbmbehbcjaaVxE
set_option linter.unusedSimpArgs false
set_option linter.unusedVariables false
namespace Go.Vx
open Go
section
variable {𝕋 : TTab} {P : Program} {R : Value → World → Prop}

theorem cell_of_heap {w : World} {b : Nat} {arr : Array Value} {e : TypeId} {fr : Nat × Nat} (h : w.heap[b]? = some (.cells arr e fr)) (k : Nat) : w.cell? ⟨b, k, none⟩ = arr[k]? := by
  simp [World.cell?, h]

theorem cells_one {v : SVal (Sh 𝕋 P R)} (h : notAgg v = true) : v.cells = [v] := by
  cases v <;> first | rfl | (simp [notAgg] at h; done)

/-- A load out of a block of the call's own. -/
theorem load_loc {t : TypeId} {w : World} {b : Nat} {cells : List (SVal (Sh 𝕋 P R))} {β : List Nat} {e : TypeId} {off : Nat} {v : SVal (Sh 𝕋 P R)} {n : Nat}
    (hh : w.heap[b]? = some (.cells (denL (𝔸 := Sh 𝕋 P R) β cells).toArray e (0, 0))) (hv : ofCells P t ((cells.drop off).take (P.cellsOf t)) = some v) (hw : wfL n cells) (ha : cells.all notAgg = true) :
    (Instr.loadAt t (.pointer (some ⟨b, off, none⟩))).run P w = .ok (den (𝔸 := Sh 𝕋 P R) β v) w ∧ wf n v := by
  have ha' : ((cells.drop off).take (P.cellsOf t)).all notAgg = true := by
    rw [List.all_eq_true] at *
    exact fun x hx => ha x (List.mem_of_mem_drop (List.mem_of_mem_take hx))
  obtain ⟨h1, h2, h3, h4, h5, h6⟩ := ofCells_ok hv β (wfL_take _ (wfL_drop off hw)) ha'
  refine ⟨?_, h5⟩
  simp only [Instr.loadAt, Instr.sureAddr, Sem.run_bind, Sem.run_pure, Result.andThen_ok]
  rw [h4]
  refine run_loadVar h1 (by rw [denL_length]; exact h2) (fun hf => by rw [denL_length]; exact h3 hf) fun j u hj => ?_
  rw [add_mid, cell_of_heap hh]
  rw [denL_take, denL_drop] at hj
  rw [List.getElem?_take] at hj
  split at hj
  · simpa [List.getElem?_drop] using hj
  · cases hj

theorem shape1_ok {t : TypeId} {sh : Shape} (h : shape1 P t = some sh) :
    (P.underlying t).isSome = true ∧ ((∃ k, sh = .one k ∧ isAggT P t = false ∧ P.cellsOf t = 1) ∨ (∃ ks, sh = .agg t ks ∧ isAggT P t = true ∧ ks.length = P.cellsOf t)) := by
  unfold shape1 at h
  split at h
  · rename_i ks hk
    split at h
    · rename_i hl
      have hl' := Nat.eq_of_beq_eq_true hl
      split at h
      · rename_i hA
        simp only [Option.some.injEq] at h
        exact ⟨isAgg_some hA, .inr ⟨ks, h.symm, hA, hl'⟩⟩
      · rename_i hA
        split at h
        · rename_i k
          split at h
          · rename_i hs
            simp only [Option.some.injEq] at h
            exact ⟨hs, .inl ⟨k, h.symm, by simpa using hA, by simpa using hl'.symm⟩⟩
          · cases h
        · cases h
    · cases h
  · cases h

/-- A load from memory that is not the call's own. -/
theorem load_ext {t : TypeId} {sh : Shape} (hs : shape1 P t = some sh) {st : St (Sh 𝕋 P R)} {w : World} {a : Addr} {off : Nat} {K : SVal (Sh 𝕋 P R) → Prop}
    (h : mkSh (𝔸 := Sh 𝕋 P R) exS (exTS 𝕋) sh fun v => CellsAt w a off (denL (𝔸 := Sh 𝕋 P R) st.bases v.cells) ∧ K v) :
    ∃ v, K v ∧ wf st.bases.length v ∧ ∀ w', Grows w w' → (Instr.loadAt t (.pointer (some (a.add off)))).run P w' = .ok (den (𝔸 := Sh 𝕋 P R) st.bases v) w' := by
  obtain ⟨v, ⟨hc, hK⟩, hw, hf⟩ := mkSh_ex h
  obtain ⟨hu, hsh⟩ := shape1_ok hs
  refine ⟨v, hK, hw _, fun w' hgr => ?_⟩
  replace hc := hgr.cells hc
  simp only [Instr.loadAt, Instr.sureAddr, Sem.run_bind, Sem.run_pure, Result.andThen_ok]
  have hden : den (𝔸 := Sh 𝕋 P R) st.bases v = ofVals P t (denL (𝔸 := Sh 𝕋 P R) st.bases v.cells) ∧ v.cells.length = P.cellsOf t := by
    rcases hsh with ⟨k, rfl, hA, hl⟩ | ⟨ks, rfl, hA, hl⟩
    · have : v.cells = [v] := cells_one hf
      rw [this]
      exact ⟨by simp [ofVals, hA, denL], by simp [hl]⟩
    · obtain ⟨vs, rfl, _, hl2⟩ := hf
      exact ⟨by simp [ofVals, hA, den, SVal.cells], by simp [SVal.cells, hl2, hl]⟩
  rw [hden.1]
  refine run_loadVar hu (by rw [denL_length]; exact hden.2) (fun hff => ?_) fun j u hj => ?_
  · rcases hsh with ⟨k, rfl, hA, hl⟩ | ⟨ks, rfl, hA, hl⟩
    · rw [denL_length, hden.2, hl]
    · rw [hA] at hff; cases hff
  · rw [add_add]; exact hc j u hj

theorem fieldOf_ok {s : TypeId} {f : Nat} {fd : Field} (h : fieldOf P s f = some fd) : ∃ fs, P.underlying s = some (.struct fs) ∧ fs[f]? = some fd := by
  unfold fieldOf at h
  split at h
  · rename_i fs hu; exact ⟨fs, hu, h⟩
  · cases h

theorem run_sizeOf_pos {t : TypeId} (h : P.cellsOf t ≠ 0) (w : World) : (sizeOf t).run P w = .ok (P.cellsOf t) w := by
  cases hi : P.info? t with
  | none => simp [Program.cellsOf, hi] at h
  | some i => simp [sizeOf, typeInfo, hi, Program.cellsOf]

theorem run_fieldAt {s : TypeId} {f : Nat} {fd : Field} (h : fieldOf P s f = some fd) (hz : P.cellsOf fd.type ≠ 0) (a : Addr) (w : World) :
    (Instr.fieldAt s (.pointer (some a)) f).run P w = .ok (.pointer (some (a.add fd.offset))) w := by
  obtain ⟨fs, hu, hf⟩ := fieldOf_ok h
  simp [Instr.fieldAt, run_underlying hu, hf, Instr.sureAddr, fieldPlace, run_sizeOf_pos hz, hz]

/-! ### Parts laid over cells -/
theorem foldl_splice : ∀ (vs : List Value) (k off : Nat) (cs : Array Value), off + k + vs.length ≤ cs.size →
    ((vs.zipIdx k).foldl (fun cs (c, j) => cs.setIfInBounds (off + j) c) cs) = (cs.toList.take (off + k) ++ vs ++ cs.toList.drop (off + k + vs.length)).toArray
  | [], k, off, cs, _ => by simp
  | v :: vs, k, off, cs, h => by
    simp only [List.zipIdx_cons, List.foldl_cons]
    rw [foldl_splice vs (k + 1) off _ (by simp at h ⊢; omega)]
    congr 1
    have hl : off + k < cs.toList.length := by simp at h ⊢; omega
    simp only [Array.toList_setIfInBounds, List.length_cons]
    apply List.ext_getElem?
    intro i
    simp only [List.getElem?_append, List.length_append, List.length_take, List.length_set, List.getElem?_take, List.getElem?_drop, List.getElem?_set, List.length_cons]
    simp only [Array.length_toList] at *
    have e1 : min (off + (k + 1)) cs.size = off + k + 1 := by simp at h; omega
    have e2 : min (off + k) cs.size = off + k := by omega
    rw [e1, e2]
    by_cases h1 : i < off + k
    · have : i < off + k + 1 + vs.length := by omega
      have h3 : i < off + k + (vs.length + 1) := by omega
      have h4 : ¬ off + k = i := by omega
      have h5 : i < off + (k + 1) := by omega
      have h6 : i < off + k + 1 := by omega
      simp [this, h3, h4, h5, h1, h6]
    · by_cases h2 : i = off + k
      · subst h2
        have : off + k < cs.size := by omega
        have t1 : off + k < off + (k + 1) := by omega
        have t2 : off + k < off + k + 1 + vs.length := by omega
        have t3 : off + k < off + k + (vs.length + 1) := by omega
        simp [t2, t3, t1, this]
      · have h6 : ¬ i < off + k + 1 := by omega
        by_cases h7 : i < off + k + 1 + vs.length
        · have h8 : i < off + k + (vs.length + 1) := by omega
          have h9 : i - (off + k) = (i - (off + k + 1)) + 1 := by omega
          simp [h7, h8, h6, h1, h9]
        · have h8 : ¬ i < off + k + (vs.length + 1) := by omega
          have h9 : ¬ off + k = off + (k + 1) + vs.length + (i - (off + k + 1 + vs.length)) := by omega
          have h10 : off + (k + 1) + vs.length + (i - (off + k + 1 + vs.length)) = off + k + (vs.length + 1) + (i - (off + k + (vs.length + 1))) := by omega
          simp [h7, h8, h9]
          rw [h10]

theorem fillS_ok (β : List Nat) {n : Nat} (place : Nat → Option (Nat × Nat)) : ∀ (parts : List (Nat × SVal (Sh 𝕋 P R))) (cells : List (SVal (Sh 𝕋 P R))) (r : List (SVal (Sh 𝕋 P R))),
    fillS place cells parts = some r → wfL n cells → (∀ p ∈ parts, wf n p.2) →
    Instr.fill place (denL (𝔸 := Sh 𝕋 P R) β cells).toArray (parts.map fun p => (p.1, den (𝔸 := Sh 𝕋 P R) β p.2)) = some (denL (𝔸 := Sh 𝕋 P R) β r).toArray ∧ wfL n r ∧ r.length = cells.length
  | [], cells, r, h, hw, _ => by
    simp only [fillS, Option.some.injEq] at h
    subst h
    exact ⟨by simp [Instr.fill], hw, rfl⟩
  | (i, v) :: rest, cells, r, h, hw, hp => by
    simp only [fillS] at h
    split at h
    · cases h
    · rename_i off size hpl
      split at h
      · rename_i hc
        simp only [Bool.and_eq_true] at hc
        have hl : v.cells.length = size := Nat.eq_of_beq_eq_true hc.1
        have hb : off + size ≤ cells.length := Nat.le_of_ble_eq_true hc.2
        have hwv : wf n v := hp (i, v) (by simp)
        obtain ⟨h1, h2, h3⟩ := fillS_ok β place rest _ r h (wfL_append (wfL_take _ hw) (wfL_append (wf_cells hwv) (wfL_drop _ hw))) (fun p hp' => hp p (by simp [hp']))
        refine ⟨?_, h2, by rw [h3]; simp; omega⟩
        simp only [List.map_cons, Instr.fill, hpl, den_cells β hwv]
        have e1 : (denL (𝔸 := Sh 𝕋 P R) β v.cells).length = size := by rw [denL_length]; exact hl
        have e2 : (denL (𝔸 := Sh 𝕋 P R) β cells).length = cells.length := denL_length _ _
        have hsz : ((denL (𝔸 := Sh 𝕋 P R) β v.cells).toArray).size = size := by rw [List.size_toArray]; exact e1
        have hsc : ((denL (𝔸 := Sh 𝕋 P R) β cells).toArray).size = cells.length := by rw [List.size_toArray]; exact e2
        have hno : ¬ (((denL (𝔸 := Sh 𝕋 P R) β v.cells).toArray).size ≠ size ∨ off + ((denL (𝔸 := Sh 𝕋 P R) β v.cells).toArray).size > ((denL (𝔸 := Sh 𝕋 P R) β cells).toArray).size) := by
          rw [hsz, hsc]; omega
        rw [if_neg (fun hh => hno (by simpa only [Bool.or_eq_true, decide_eq_true_eq] using hh)), ← h1]
        have hf := foldl_splice (denL (𝔸 := Sh 𝕋 P R) β v.cells) 0 off (denL (𝔸 := Sh 𝕋 P R) β cells).toArray (by rw [hsc, e1]; omega)
        simp only [Nat.add_zero] at hf
        have hz : ((denL (𝔸 := Sh 𝕋 P R) β v.cells).toArray).zipIdx = ((denL (𝔸 := Sh 𝕋 P R) β v.cells).zipIdx 0).toArray := by simp
        rw [hz, List.foldl_toArray', hf]
        · congr 1
          rw [denL_append', denL_append', denL_take, denL_drop, e1, List.append_assoc]
        · simp
      · cases h

end
end Go.Vx
