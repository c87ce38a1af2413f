/- Vx, part J: how the executor's state moves with the machine's. -/
import Derived.Test.YtlfphbmbehbcjaaVxH
import Derived.Test.YtlfphbmbehbcjaaVxI
import Derived.Deep.LoopGhost
set_option linter.unusedSimpArgs false
set_option linter.unusedVariables false
namespace Go.Vx
open Go
section
variable {𝕋 : TTab} {P : Program} {R : Value → World → Prop}

def toExit : Ex → Exit
  | .normal => .normal
  | .exit i => .exit i
  | .ret => .ret

structure Hist (st st' : St (Sh 𝕋 P R)) : Prop where
  nt : st'.nt = st.nt
  bases : ∃ e, st'.bases = st.bases ++ e
  ctr : st.ctr ≤ st'.ctr
  tmps : ∃ pre, st'.tmps = pre ++ st.tmps
  same : ∀ i b', i < st.bases.length → st'.loc? i = some b' → b'.stamp < st.ctr → st.loc? i = some b'

theorem Hist.refl (st : St (Sh 𝕋 P R)) : Hist st st := ⟨rfl, ⟨[], by simp⟩, Nat.le_refl _, ⟨[], rfl⟩, fun _ _ _ h _ => h⟩
theorem Hist.length {st st' : St (Sh 𝕋 P R)} (h : Hist st st') : st.bases.length ≤ st'.bases.length := by
  obtain ⟨e, he⟩ := h.bases
  rw [he]; simp
theorem Hist.trans {a b c : St (Sh 𝕋 P R)} (h : Hist a b) (k : Hist b c) : Hist a c := by
  refine ⟨k.nt.trans h.nt, ?_, Nat.le_trans h.ctr k.ctr, ?_, fun i b' hi hb hs => ?_⟩
  · obtain ⟨e, he⟩ := h.bases
    obtain ⟨f, hf⟩ := k.bases
    exact ⟨e ++ f, by rw [hf, he, List.append_assoc]⟩
  · obtain ⟨e, he⟩ := h.tmps
    obtain ⟨f, hf⟩ := k.tmps
    exact ⟨f ++ e, by rw [hf, he, List.append_assoc]⟩
  · exact h.same i b' hi (k.same i b' (Nat.lt_of_lt_of_le hi h.length) hb (Nat.lt_of_lt_of_le hs h.ctr)) hs

theorem Same.hist {st st' : St (Sh 𝕋 P R)} {w : World} (h : Same st st' w) : Hist st st' := by
  rcases h with rfl | rfl
  · exact .refl _
  · exact ⟨rfl, ⟨[], by simp⟩, Nat.le_refl _, ⟨[], rfl⟩, fun _ _ _ h _ => h⟩

theorem get_put (st : St (Sh 𝕋 P R)) (d t : Nat) (v : SVal (Sh 𝕋 P R)) : (st.put (some d) v).get t = if d = t then some v else st.get t := by
  unfold St.put St.get
  simp only [assoc]
  by_cases h : d = t
  · subst h; simp
  · have : Nat.beq d t = false := by
      cases hb : Nat.beq d t
      · rfl
      · exact absurd (Nat.eq_of_beq_eq_true hb) h
    simp [this, h]

theorem put_relA {st : St (Sh 𝕋 P R)} {a : Act} (ha : RelA st a) {dst : Option Tmp} {v : SVal (Sh 𝕋 P R)} (hd : st.has dst = true) (hv : wf st.bases.length v) :
    RelA (st.put dst v) (a.put dst (den (𝔸 := Sh 𝕋 P R) st.bases v)) := by
  cases dst with
  | none => exact ha
  | some d =>
    have hlt : d < st.nt := Nat.le_of_ble_eq_true hd
    refine ⟨by simpa [Act.put, St.put] using ha.size, fun t u hu => ?_, ha.defers⟩
    rw [get_put] at hu
    split at hu
    · rename_i hdt
      subst hdt
      simp only [Option.some.injEq] at hu
      subst hu
      refine ⟨hlt, ?_, hv⟩
      have : d < a.tmps.size := by rw [ha.size]; exact hlt
      simp [Act.put, this, St.put]
    · rename_i hdt
      obtain ⟨h1, h2, h3⟩ := ha.tmps t u hu
      refine ⟨h1, ?_, h3⟩
      show (a.tmps.setIfInBounds d _)[t]? = _
      rw [Array.getElem?_setIfInBounds_ne hdt]
      exact h2
theorem put_relW {st : St (Sh 𝕋 P R)} {w : World} (hw : RelW st w) (dst : Option Tmp) (v : SVal (Sh 𝕋 P R)) : RelW (st.put dst v) w := by
  cases dst with
  | none => exact hw
  | some d => exact ⟨hw.relb, hw.dom, hw.inj, hw.locs, hw.frame⟩
theorem put_hist (st : St (Sh 𝕋 P R)) (dst : Option Tmp) (v : SVal (Sh 𝕋 P R)) : Hist st (st.put dst v) := by
  cases dst with
  | none => exact .refl _
  | some d => exact ⟨rfl, ⟨[], by simp [St.put]⟩, Nat.le_refl _, ⟨[(d, some v)], rfl⟩, fun _ _ _ h _ => h⟩
theorem put_undef {st : St (Sh 𝕋 P R)} : den (𝔸 := Sh 𝕋 P R) st.bases undefS = undef := rfl

/-- A slot whose bool has become known. -/
theorem put_known {st : St (Sh 𝕋 P R)} {a : Act} (ha : RelA st a) {d : Nat} {b want : Bool} (hd : st.get d = some (.bool b)) (hb : b = want) : RelA (st.put (some d) (.known want)) a := by
  obtain ⟨h1, h2, _⟩ := ha.tmps d _ hd
  refine ⟨by simpa [St.put] using ha.size, fun t u hu => ?_, ha.defers⟩
  rw [get_put] at hu
  split at hu
  · rename_i hdt
    subst hdt
    simp only [Option.some.injEq] at hu
    subst hu
    refine ⟨h1, ?_, trivial⟩
    rw [h2]
    subst hb
    rfl
  · exact ha.tmps t u hu

/-! ### The blocks of the call's own -/
theorem memN_iff {l : List Nat} {n : Nat} : memN l n = true ↔ n ∈ l := by
  induction l with
  | nil => simp [memN]
  | cons k r ih =>
    simp only [memN, Bool.or_eq_true, List.mem_cons, ih]
    constructor
    · rintro (h | h)
      · exact .inl (Nat.eq_of_beq_eq_true h).symm
      · exact .inr h
    · rintro (rfl | h)
      · exact .inl (Nat.beq_refl _)
      · exact .inr h

theorem liveFrom_append (rel : List Nat) : ∀ (l e : List Nat) (i : Nat), liveFrom (𝔸 := Sh 𝕋 P R) rel i (l ++ e) = liveFrom (𝔸 := Sh 𝕋 P R) rel i l ++ liveFrom (𝔸 := Sh 𝕋 P R) rel (i + l.length) e
  | [], e, i => by simp [liveFrom]
  | b :: l, e, i => by
    simp only [List.cons_append, liveFrom, List.length_cons]
    rw [liveFrom_append rel l e (i + 1), show i + 1 + l.length = i + (l.length + 1) by omega]
    split <;> simp
theorem live_sub (rel : List Nat) : ∀ (l : List Nat) (i b : Nat), b ∈ liveFrom (𝔸 := Sh 𝕋 P R) rel i l → b ∈ l
  | [], i, b, h => by simp [liveFrom] at h
  | c :: l, i, b, h => by
    simp only [liveFrom] at h
    split at h
    · exact List.mem_cons_of_mem _ (live_sub rel l (i + 1) b h)
    · rcases List.mem_cons.1 h with rfl | h
      · simp
      · exact List.mem_cons_of_mem _ (live_sub rel l (i + 1) b h)
theorem live_mem (rel : List Nat) : ∀ (l : List Nat) (i k : Nat), k < l.length → memN rel (i + k) = false → l.getD k 0 ∈ liveFrom (𝔸 := Sh 𝕋 P R) rel i l
  | [], i, k, h, _ => by simp at h
  | c :: l, i, 0, _, hm => by
    simp only [Nat.add_zero] at hm
    simp [liveFrom, hm]
  | c :: l, i, k + 1, h, hm => by
    have := live_mem rel l (i + 1) k (by simpa using h) (by rw [show i + 1 + k = i + (k + 1) by omega]; exact hm)
    simp only [liveFrom]
    split
    · simpa using this
    · exact List.mem_cons_of_mem _ (by simpa using this)
theorem live_anti {rel rel' : List Nat} (h : ∀ i, memN rel i = true → memN rel' i = true) : ∀ (l : List Nat) (i b : Nat), b ∈ liveFrom (𝔸 := Sh 𝕋 P R) rel' i l → b ∈ liveFrom (𝔸 := Sh 𝕋 P R) rel i l
  | [], i, b, hb => by simp [liveFrom] at hb
  | c :: l, i, b, hb => by
    simp only [liveFrom] at hb ⊢
    cases h1 : memN rel i with
    | true =>
      rw [h i h1] at hb
      simp only [if_true] at hb ⊢
      exact live_anti h l (i + 1) b hb
    | false =>
      simp only [Bool.false_eq_true, if_false]
      split at hb
      · exact List.mem_cons_of_mem _ (live_anti h l (i + 1) b hb)
      · rcases List.mem_cons.1 hb with rfl | hb
        · simp
        · exact List.mem_cons_of_mem _ (live_anti h l (i + 1) b hb)

theorem loc_live {st : St (Sh 𝕋 P R)} {w : World} (hw : RelW st w) {i : Nat} {b : Blk (Sh 𝕋 P R)} (hb : st.loc? i = some b) : memN st.rel i = false ∧ st.base i ∈ st.live := by
  have h1 : memN st.rel i = false := by
    unfold St.loc? at hb
    cases hm : memN st.rel i
    · rfl
    · simp [hm] at hb
  refine ⟨h1, ?_⟩
  have hlt := (hw.locs i b hb).1
  exact live_mem st.rel st.bases 0 i hlt (by simpa using h1)

theorem base_inj {st : St (Sh 𝕋 P R)} {w : World} (hw : RelW st w) {i j : Nat} (hi : i < st.bases.length) (hj : j < st.bases.length) (h : st.base i = st.base j) : i = j := by
  unfold St.base at h
  have e1 : st.bases.getD i 0 = st.bases[i] := by simp [List.getD, hi]
  have e2 : st.bases.getD j 0 = st.bases[j] := by simp [List.getD, hj]
  have h : st.bases.getD i 0 = st.bases.getD j 0 := h
  rw [e1, e2] at h
  exact (List.getElem_inj hw.inj).1 h

/-- A step of the world that keeps the blocks of the call's own. -/
theorem kept_relW {st : St (Sh 𝕋 P R)} {w w' : World} (hw : RelW st w) (hd : st.dirty = false) (hk : Kept st.live w w') : RelW { st with we := w' } w' := by
  refine ⟨hw.relb, fun b hb => Nat.lt_of_lt_of_le (hw.dom b hb) hk.size, hw.inj, fun i b hb => ?_, by simp [hd]⟩
  have hb' : st.loc? i = some b := hb
  obtain ⟨h1, h2, h3⟩ := hw.locs i b hb'
  refine ⟨h1, ?_, h3⟩
  have := hk.same (st.base i) (loc_live hw hb').2
  exact this.trans h2

theorem we_hist (st : St (Sh 𝕋 P R)) (w : World) : Hist st { st with we := w } := ⟨rfl, ⟨[], by simp⟩, Nat.le_refl _, ⟨[], rfl⟩, fun _ _ _ h _ => h⟩
theorem we_relA {st : St (Sh 𝕋 P R)} {a : Act} (ha : RelA st a) (w : World) : RelA { st with we := w } a := ⟨ha.size, ha.tmps, ha.defers⟩

/-- The world has moved on by a draw. -/
theorem drew_relW {st : St (Sh 𝕋 P R)} {w : World} (hw : RelW st w) : RelW { st with dirty := true } { w with drawn := w.drawn + 1 } := by
  refine ⟨hw.relb, hw.dom, hw.inj, hw.locs, ?_⟩
  simp only [if_true]
  have hf := hw.frame
  have hlive : ∀ b ∈ st.live, b < w.heap.size := fun b hb => hw.dom b (live_sub _ _ _ _ hb)
  split at hf
  · exact ⟨hf.os, hf.tape, hf.output, hf.size, hlive, hf.same⟩
  · subst hf
    exact ⟨rfl, rfl, rfl, Nat.le_refl _, hlive, fun _ _ _ => rfl⟩

theorem denL_base (st : St (Sh 𝕋 P R)) (e : List Nat) {vs : List (SVal (Sh 𝕋 P R))} (h : wfL st.bases.length vs) : denL (𝔸 := Sh 𝕋 P R) (st.bases ++ e) vs = denL (𝔸 := Sh 𝕋 P R) st.bases vs := denL_append _ _ _ h

/-- A new block. -/
theorem newBlk_ok {st : St (Sh 𝕋 P R)} {a : Act} {w : World} (ha : RelA st a) (hw : RelW st w) {cells : List (SVal (Sh 𝕋 P R))} {elem : TypeId} {K : Nat → St (Sh 𝕋 P R) → Prop}
    (h : St.newBlk (𝔸 := Sh 𝕋 P R) st cells elem K) (hc : wfL st.bases.length cells) (hn : cells.all notAgg = true) :
    ∃ st', Hist st st' ∧ RelA st' a ∧ RelW st' (w.alloc (.cells (denL (𝔸 := Sh 𝕋 P R) st.bases cells).toArray elem)) ∧ K st.bases.length st' ∧ st'.nt = st.nt ∧ st'.bases = st.bases ++ [w.heap.size] ∧ st.bases.length < st'.bases.length ∧ st'.tmps = st.tmps := by
  unfold St.newBlk at h
  have hfresh : Fresh st.we st.bases w.heap.size := by
    refine ⟨?_, fun hm => Nat.lt_irrefl _ (hw.dom _ hm)⟩
    have hf := hw.frame
    split at hf
    · exact hf.size
    · rw [hf]; exact Nat.le_refl _
  have hK := h w.heap.size hfresh
  have hlen : (st.bases ++ [w.heap.size]).length = st.bases.length + 1 := by simp
  have hnrel : memN st.rel st.bases.length = false := by
    cases hm : memN st.rel st.bases.length
    · rfl
    · exact absurd (hw.relb _ hm) (Nat.lt_irrefl _)
  have hold : ∀ k, k < w.heap.size → (w.alloc (.cells (denL (𝔸 := Sh 𝕋 P R) st.bases cells).toArray elem)).heap[k]? = w.heap[k]? := fun k hk => RowKit.Below.heap_alloc _ _ _ hk
  have hnew : (w.alloc (.cells (denL (𝔸 := Sh 𝕋 P R) st.bases cells).toArray elem)).heap[w.heap.size]? = some (.cells (denL (𝔸 := Sh 𝕋 P R) st.bases cells).toArray elem (0, 0)) := by
    show (w.heap.push _)[w.heap.size]? = _
    simp
  have hsz : (w.alloc (.cells (denL (𝔸 := Sh 𝕋 P R) st.bases cells).toArray elem)).heap.size = w.heap.size + 1 := by
    show (w.heap.push _).size = _
    simp
  refine ⟨st.grow cells elem w.heap.size, ⟨rfl, ⟨[w.heap.size], rfl⟩, Nat.le_succ _, ⟨[], rfl⟩, fun i b' hi hb hs => ?_⟩, ⟨ha.size, fun t v hv => ?_, ha.defers⟩, ⟨fun i hi => ?_, fun b hb => ?_, ?_, fun i b hb => ?_, ?_⟩, hK, rfl, rfl, by simp [St.grow], rfl⟩
  · have hne : ¬ st.bases.length = i := by omega
    have hbq : Nat.beq st.bases.length i = false := by
      cases hq : Nat.beq st.bases.length i
      · rfl
      · exact absurd (Nat.eq_of_beq_eq_true hq) hne
    simpa [St.loc?, St.grow, assoc, hbq] using hb
  · obtain ⟨h1, h2, h3⟩ := ha.tmps t v hv
    exact ⟨h1, by simp only [St.grow]; rw [den_append _ _ _ h3]; exact h2, wf_mono (by simp [St.grow]) _ h3⟩
  · have := hw.relb i hi; simp [St.grow]; omega
  · rw [hsz]
    have hb : b ∈ (st.bases : List Nat) ++ [w.heap.size] := hb
    rcases List.mem_append.1 hb with hb | hb
    · exact Nat.lt_succ_of_lt (hw.dom b hb)
    · rw [List.mem_singleton.1 hb]; exact Nat.lt_succ_self _
  · show (st.bases ++ [w.heap.size]).Nodup
    rw [List.nodup_append]
    refine ⟨hw.inj, by simp, fun x hx y hy e => ?_⟩
    have h1 : x < w.heap.size := hw.dom x hx
    have h2 : x = w.heap.size := e.trans (List.mem_singleton.1 hy)
    exact Nat.lt_irrefl _ (h2 ▸ h1)
  · by_cases hi : i = st.bases.length
    · subst hi
      have hb2 : b = { cells, elem, stamp := st.ctr } := by
        have : assoc ((st.bases.length, ({ cells, elem, stamp := st.ctr } : Blk (Sh 𝕋 P R))) :: st.locs) st.bases.length = some b := by
          have h0 := hb
          simp only [St.loc?, St.grow, hnrel, Bool.false_eq_true, if_false] at h0
          exact h0
        simp [assoc] at this
        exact this.symm
      subst hb2
      refine ⟨by simp [St.grow], ?_, wfL_mono (by simp [St.grow]) _ hc, hn, Nat.lt_succ_self _⟩
      have hbase : (st.bases ++ [w.heap.size]).getD st.bases.length 0 = w.heap.size := by simp [List.getD]
      show (w.alloc _).heap[(st.bases ++ [w.heap.size]).getD st.bases.length 0]? = some (.cells (denL (𝔸 := Sh 𝕋 P R) (st.bases ++ [w.heap.size]) cells).toArray elem (0, 0))
      rw [hbase, hnew, denL_append _ _ _ hc]
    · have hbq : Nat.beq st.bases.length i = false := by
        cases hq : Nat.beq st.bases.length i
        · rfl
        · exact absurd (Nat.eq_of_beq_eq_true hq).symm hi
      have hb' : st.loc? i = some b := by simpa [St.loc?, St.grow, assoc, hbq] using hb
      obtain ⟨h1, h2, h3, h4, h5⟩ := hw.locs i b hb'
      refine ⟨by simp [St.grow]; omega, ?_, wfL_mono (by simp [St.grow]) _ h3, h4, Nat.lt_succ_of_lt h5⟩
      have hbase : (st.bases ++ [w.heap.size]).getD i 0 = st.bases.getD i 0 := getD_append_left _ _ _ _ h1
      show (w.alloc _).heap[(st.bases ++ [w.heap.size]).getD i 0]? = some (.cells (denL (𝔸 := Sh 𝕋 P R) (st.bases ++ [w.heap.size]) b.cells).toArray b.elem (0, 0))
      rw [hbase, denL_append _ _ _ h3, hold]
      · exact h2
      · exact (Array.getElem?_eq_some_iff.1 h2).1
  · simp only [St.grow, if_true]
    have hlive : ∀ b ∈ (liveFrom (𝔸 := Sh 𝕋 P R) st.rel 0 (st.bases ++ [w.heap.size])), b < (w.alloc (.cells (denL (𝔸 := Sh 𝕋 P R) st.bases cells).toArray elem)).heap.size := by
      intro b hb
      rw [hsz]
      rcases List.mem_append.1 (live_sub _ _ _ _ hb) with hb | hb
      · exact Nat.lt_succ_of_lt (hw.dom b hb)
      · rw [List.mem_singleton.1 hb]; exact Nat.lt_succ_self _
    have hf := hw.frame
    have hsub : ∀ k, k ∉ liveFrom (𝔸 := Sh 𝕋 P R) st.rel 0 (st.bases ++ [w.heap.size]) → k ∉ st.live := by
      intro k hk hm
      refine hk ?_
      rw [liveFrom_append]
      exact List.mem_append.2 (.inl hm)
    split at hf
    · refine ⟨hf.os, hf.tape, hf.output, by rw [hsz]; exact Nat.le_succ_of_le hf.size, hlive, fun k hk hkn => ?_⟩
      rw [hold k (Nat.lt_of_lt_of_le hk hf.size)]
      exact hf.same k hk (hsub k hkn)
    · subst hf
      exact ⟨rfl, rfl, rfl, by rw [hsz]; exact Nat.le_succ _, hlive, fun k hk hkn => hold k hk⟩

end
end Go.Vx
