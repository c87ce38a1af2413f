/- Vx, part N: regions that draw their order are sound if operations are. -/
import Derived.Test.YtlfphbmbehbcjaaVxM
set_option linter.unusedSimpArgs false
set_option linter.unusedVariables false
namespace Go.Vx
open Go
section
variable {𝕋 : TTab} {cfg : Cfg} {R : Value → World → Prop}

/-- The blocks that no operation of the region turns hold what they held. -/
def Stb (st0 : St (Sh 𝕋 cfg.P R)) (stable : List Nat) (w : World) : Prop :=
  ∀ j, memN stable j = true → ∀ b, st0.loc? j = some b → w.heap[st0.base j]? = some (.cells (denL (𝔸 := Sh 𝕋 cfg.P R) st0.bases b.cells).toArray b.elem (0, 0))

def SameSt (st0 st : St (Sh 𝕋 cfg.P R)) (stable : List Nat) : Prop := ∀ j, memN stable j = true → st.loc? j = st0.loc? j

structure Begun (st0 : St (Sh 𝕋 cfg.P R)) (stable : List Nat) : Prop where
  wf : ∀ j b, st0.loc? j = some b → j < st0.bases.length ∧ wfL st0.bases.length b.cells ∧ b.stamp < st0.ctr
  some : ∀ j, memN stable j = true → ∃ b, st0.loc? j = some b

theorem Begun.of {st0 : St (Sh 𝕋 cfg.P R)} {w : World} (hw : RelW st0 w) (t : Option (List Nat)) : Begun st0 (stableS st0 t) := by
  refine ⟨fun j b h => ?_, fun j hj => ?_⟩
  · obtain ⟨h1, _, h3, _, h5⟩ := hw.locs j b h
    exact ⟨h1, h3, h5⟩
  · unfold stableS at hj
    split at hj
    · cases hj
    · rw [memN_iff] at hj
      simp only [List.mem_filter, Bool.and_eq_true] at hj
      exact Option.isSome_iff_exists.1 hj.2.2

theorem base_hist {st0 st : St (Sh 𝕋 cfg.P R)} (hh : Hist st0 st) {j : Nat} (h : j < st0.bases.length) : st.base j = st0.base j := by
  obtain ⟨e, he⟩ := hh.bases
  unfold St.base
  rw [he]
  exact getD_append_left _ _ _ _ h

theorem stb_at {st0 st : St (Sh 𝕋 cfg.P R)} {stable : List Nat} {w : World} (hb : Begun st0 stable) (hh : Hist st0 st) (hw : RelW st w) (hs : SameSt st0 st stable) : Stb st0 stable w := by
  intro j hj b hl
  obtain ⟨h1, h2, h3⟩ := hb.wf j b hl
  have hl2 : st.loc? j = some b := by rw [hs j hj, hl]
  obtain ⟨k1, k2, _⟩ := hw.locs j b hl2
  obtain ⟨e, he⟩ := hh.bases
  rw [he, denL_append _ _ _ h2, base_hist hh h1] at k2
  exact k2

theorem good_of_stb {st0 st : St (Sh 𝕋 cfg.P R)} {stable : List Nat} {w w' : World} (hb : Begun st0 stable) (hh : Hist st0 st) (hs : SameSt st0 st stable) {j : Nat} (hj : memN stable j = true) (h : Stb st0 stable w') :
    Good st w (.loc j) w' := by
  intro b hl
  rw [hs j hj] at hl
  obtain ⟨h1, h2, h3⟩ := hb.wf j b hl
  obtain ⟨e, he⟩ := hh.bases
  rw [he, denL_append _ _ _ h2, base_hist hh h1]
  exact h j hj b hl

theorem same_of_kept {st0 st : St (Sh 𝕋 cfg.P R)} : ∀ {l : List Nat}, (∀ j b, st0.loc? j = some b → j < st0.bases.length ∧ b.stamp < st0.ctr) → Hist st0 st → keptLocs st0 st l = true → (∀ j, memN l j = true → ∃ b, st0.loc? j = some b) → SameSt st0 st l
  | [], _, _, _, _ => fun j hj => by cases hj
  | i :: l, hb, hh, hk, hx => by
    intro j hj
    simp only [keptLocs, Bool.and_eq_true] at hk
    simp only [memN, Bool.or_eq_true] at hj
    rcases hj with hj | hj
    · have : i = j := Nat.eq_of_beq_eq_true hj
      subst this
      obtain ⟨b, hb0⟩ := hx i (by simp [memN])
      obtain ⟨h1, h2⟩ := hb i b hb0
      have hk1 := hk.1
      rw [hb0] at hk1
      simp only at hk1
      split at hk1
      · rename_i b' hb'
        have he : b.stamp = b'.stamp := Nat.eq_of_beq_eq_true hk1
        rw [hb', hb0, ← hh.same i b' h1 hb' (by omega), hb0]
      · cases hk1
    · exact same_of_kept hb hh hk.2 (fun j hj => hx j (by simp [memN, hj])) j hj

/-- A look that may be had first. -/
theorem sil_yields {st0 st : St (Sh 𝕋 cfg.P R)} {stable : List Nat} {ops : Array Oper} {bef : Array Nat} {listed : Array Bool} {i : Nat} {o : Oper} {a : Act} {w : World} (hb : Begun st0 stable) (hh : Hist st0 st) (hs : SameSt st0 st stable)
    (hw : RelW st w) {c : Cls} (hal : allowed cfg.P ops bef stable listed i c = true) {K : SVal (Sh 𝕋 cfg.P R) → St (Sh 𝕋 cfg.P R) → Prop} (h : SilGoal o a st w c K) (hwant : Region.wanted o (yielded ops a.tmps) = true) :
    ∃ v st' C, K v st' ∧ Same st st' w ∧ wf st.bases.length v ∧ YieldsIf cfg.P ops C o (den (𝔸 := Sh 𝕋 cfg.P R) st.bases v) a ∧ C w ∧ (C = (fun _ => True) ∨ C = Stb st0 stable ∨ (C = Grows w ∧ loudWait cfg.P ops bef listed i ops.size = true)) := by
  obtain ⟨v, st', h1, h2, h3, h4⟩ := h
  cases c with
  | pure => exact ⟨v, st', fun _ => True, h1, h2, h3, .inl ⟨hwant, fun w' _ => h4 w' trivial⟩, trivial, .inl rfl⟩
  | loc j => exact ⟨v, st', Stb st0 stable, h1, h2, h3, .inl ⟨hwant, fun w' hw' => h4 w' (good_of_stb hb hh hs hal hw')⟩, stb_at hb hh hw hs, .inr (.inl rfl)⟩
  | ext => exact ⟨v, st', Grows w, h1, h2, h3, .inl ⟨hwant, fun w' hw' => h4 w' hw'⟩, Grows.refl w, .inr (.inr ⟨rfl, hal⟩)⟩

/-- What an operation taken first leaves. -/
def Took (st0 st : St (Sh 𝕋 cfg.P R)) (stable : List Nat) (ops : Array Oper) (bef : Array Nat) (listed : Array Bool) (i : Nat) (a : Act) (w : World) (K : St (Sh 𝕋 cfg.P R) → Prop) : Prop :=
  ∃ o v st' C, ops[i]? = some o ∧ Region.free .any ops listed i = true ∧ YieldsIf cfg.P ops C o v a ∧ C w ∧ (C = (fun _ => True) ∨ C = Stb st0 stable ∨ (C = Grows w ∧ loudWait cfg.P ops bef listed i ops.size = true)) ∧
    Hist st st' ∧ (∀ j, st'.loc? j = st.loc? j) ∧ RelA st' (a.put o.dst v) ∧ RelW st' w ∧ K st'

theorem same_loc {st st' : St (Sh 𝕋 cfg.P R)} {w : World} (h : Same st st' w) (d : Option Tmp) (v : SVal (Sh 𝕋 cfg.P R)) (j : Nat) : (st'.put d v).loc? j = st.loc? j := by
  rcases h with rfl | rfl <;> cases d <;> rfl

theorem takeD_ok {st0 st : St (Sh 𝕋 cfg.P R)} {stable : List Nat} {ops : Array Oper} {bef : Array Nat} {listed : Array Bool} {i : Nat} {a : Act} {w : World} (hb : Begun st0 stable) (hh : Hist st0 st) (hs : SameSt st0 st stable)
    (ha : RelA st a) (hw : RelW st w) {T : (St (Sh 𝕋 cfg.P R) → Prop) → Prop} (h : takeD (𝔸 := Sh 𝕋 cfg.P R) cfg.P ops bef stable listed st i = some T) {K : St (Sh 𝕋 cfg.P R) → Prop} (hT : T K) :
    Took st0 st stable ops bef listed i a w K := by
  unfold takeD at h
  split at h
  · rename_i hfree
    split at h
    · cases h
    · rename_i o ho
      split at h
      · rename_i hd
        split at h
        · cases h
        · rename_i hg
          simp only [Option.some.injEq] at h
          subst h
          refine ⟨o, undef, st.put o.dst undefS, fun _ => True, ho, hfree, .inr ⟨guard_no ha hg, rfl⟩, trivial, .inl rfl, put_hist _ _ _, same_loc (.refl _ w) _ _, ?_, put_relW hw _ _, hT⟩
          exact put_relA (v := undefS) ha hd trivial
        · rename_i hg
          split at h
          · rename_i c φ hsil
            split at h
            · rename_i hal
              simp only [Option.some.injEq] at h
              subst h
              have hsg := silS_ok (K := fun v st' => K (st'.put o.dst v)) ha hw hsil hT
              obtain ⟨v, st', C, h1, h2, h3, h4, h5, h6⟩ := sil_yields hb hh hs hw hal hsg (guard_yes ha hg)
              refine ⟨o, _, st'.put o.dst v, C, ho, hfree, h4, h5, h6, h2.hist.trans (put_hist _ _ _), same_loc h2 _ _, ?_, put_relW (h2.relW hw) _ _, h1⟩
              rw [← h2.bases]
              exact put_relA (h2.relA ha) (by rw [has_nt h2.hist.nt]; exact hd) (by rw [h2.bases]; exact h3)
            · cases h
          · cases h
        · rename_i d b want hg
          obtain ⟨hg1, hg2⟩ := guard_part ha hg
          split at h
          · rename_i c φ hsil
            split at h
            · rename_i hal
              simp only [Option.some.injEq] at h
              subst h
              by_cases hbw : b = want
              · have ha1 := put_known ha hg1 hbw
                have hw1 : RelW (st.put (some d) (.known want)) w := put_relW hw _ _
                have hh1 : Hist st0 (st.put (some d) (.known want)) := hh.trans (put_hist _ _ _)
                have hsg := silS_ok (K := fun v st' => K (st'.put o.dst v)) ha1 hw1 hsil (hT.1 hbw)
                obtain ⟨v, st', C, h1, h2, h3, h4, h5, h6⟩ := sil_yields hb hh1 (fun j hj => hs j hj) hw1 hal hsg (by rw [hg2]; simpa using hbw)
                refine ⟨o, _, st'.put o.dst v, C, ho, hfree, h4, h5, h6, (put_hist _ _ _).trans (h2.hist.trans (put_hist _ _ _)), fun j => same_loc h2 _ _ j, ?_, put_relW (h2.relW hw1) _ _, h1⟩
                rw [← h2.bases]
                exact put_relA (h2.relA ha1) (by rw [has_nt h2.hist.nt, has_nt (put_hist st _ _).nt]; exact hd) (by rw [h2.bases]; exact h3)
              · have ha1 := put_known ha hg1 (bool_ne hbw)
                refine ⟨o, undef, (st.put (some d) (.known !want)).put o.dst undefS, fun _ => True, ho, hfree, .inr ⟨by rw [hg2]; simpa using hbw, rfl⟩, trivial, .inl rfl, (put_hist _ _ _).trans (put_hist _ _ _), fun j => ?_, ?_, put_relW (put_relW hw _ _) _ _, hT.2 (bool_ne hbw)⟩
                · cases o.dst <;> rfl
                · exact put_relA (v := undefS) ha1 (by rw [has_nt (put_hist st _ _).nt]; exact hd) trivial
            · cases h
          · cases h
      · cases h
  · cases h

theorem firstTake_ok {st : St (Sh 𝕋 cfg.P R)} {stable : List Nat} {ops : Array Oper} {bef : Array Nat} {listed : Array Bool} : ∀ {rs : List Nat} {i : Nat} {T : (St (Sh 𝕋 cfg.P R) → Prop) → Prop},
    firstTake (𝔸 := Sh 𝕋 cfg.P R) cfg.P ops bef stable listed st rs = some (i, T) → i ∈ rs ∧ takeD (𝔸 := Sh 𝕋 cfg.P R) cfg.P ops bef stable listed st i = some T
  | [], i, T, h => by cases h
  | k :: rs, i, T, h => by
    simp only [firstTake] at h
    split at h
    · rename_i T' hT
      simp only [Option.some.injEq, Prod.mk.injEq] at h
      obtain ⟨rfl, rfl⟩ := h
      exact ⟨by simp, hT⟩
    · obtain ⟨h1, h2⟩ := firstTake_ok h
      exact ⟨by simp [h1], h2⟩

def loudAt (P : Program) (ops : Array Oper) (j : Nat) : Bool := isLoud P (ops.getD j default).op
def growAt (ops : Array Oper) (j : Nat) : Bool := isGrow (ops.getD j default).op
def movesAt (P : Program) (ops : Array Oper) (j : Nat) (w w' : World) : Prop := Moves P (ops.getD j default).op w w'
theorem Grows.trans {a b c : World} (h : Grows a b) (k : Grows b c) (hs : a.heap.size ≤ b.heap.size) : Grows a c := fun i hi => (k i (Nat.lt_of_lt_of_le hi hs)).trans (h i hi)
theorem Grows.size {a b : World} (h : Grows a b) : a.heap.size ≤ b.heap.size := by
  rcases Nat.lt_or_ge b.heap.size a.heap.size with hlt | hge
  · have h1 := h b.heap.size hlt
    rw [Array.getElem?_eq_none (Nat.le_refl _)] at h1
    rw [Array.getElem?_eq_getElem hlt] at h1
    cases h1
  · exact hge

theorem loudWait_ok {P : Program} {ops : Array Oper} {bef : Array Nat} {listed : Array Bool} {i : Nat} : ∀ {n : Nat}, loudWait P ops bef listed i n = true → ∀ j, j < n → listed.getD j true = true ∨ j = i ∨ loudAt P ops j = false ∨ growAt ops j = true ∨ (bef.getD j 0).testBit i = true
  | 0, _, j, hj => by omega
  | n + 1, h, j, hj => by
    simp only [loudWait, Bool.and_eq_true, Bool.or_eq_true, Bool.not_eq_true'] at h
    by_cases hjn : j = n
    · subst hjn
      rcases h.1 with (((h1 | h1) | h1) | h1) | h1
      · exact .inl h1
      · exact .inr (.inl (Nat.eq_of_beq_eq_true h1).symm)
      · exact .inr (.inr (.inl h1))
      · exact .inr (.inr (.inr (.inl h1)))
      · exact .inr (.inr (.inr (.inr h1)))
    · exact loudWait_ok h.2 j (by omega)

theorem ready_lt {md : Region.Mode} {ops : Array Oper} {L : Array Bool} {j : Nat} (h : j ∈ Region.ready md ops L) : j < ops.size := by
  obtain ⟨_, o, ho, _⟩ := mem_ready.1 h
  exact (Array.getElem?_eq_some_iff.1 ho).1

theorem loudWait_set {P : Program} {ops : Array Oper} {bef : Array Nat} {L : Array Bool} {i k : Nat} : ∀ {n : Nat}, loudWait P ops bef L i n = true → loudWait P ops bef (L.setIfInBounds k true) i n = true
  | 0, h => rfl
  | n + 1, h => by
    simp only [loudWait, Bool.and_eq_true, Bool.or_eq_true, Bool.not_eq_true'] at h ⊢
    refine ⟨?_, loudWait_set h.2⟩
    rcases h.1 with (((h1 | h1) | h1) | h1) | h1
    · refine .inl (.inl (.inl (.inl ?_)))
      by_cases hkn : k = n
      · subst hkn
        by_cases hlt : k < L.size
        · simp [Array.getD, hlt]
        · simp [Array.getD, hlt]
      · rw [getD_set_ne true hkn]
        exact h1
    · exact .inl (.inl (.inl (.inr h1)))
    · exact .inl (.inl (.inr h1))
    · exact .inl (.inr h1)
    · exact .inr h1

/-- A region that draws its order. -/
theorem execD_ok {ops : Array Oper} {stable : List Nat} {st0 : St (Sh 𝕋 cfg.P R)} {Q : Exit → Act → World → Prop} {K : St (Sh 𝕋 cfg.P R) → Prop} {N : Nat} (hsel : Region.noSelect ops = true) (hb : Begun st0 stable)
    (hQ : ∀ c a w, ¬ Q (.panic c) a w) (hK : ∀ a w, Nx st0 K a w → Q .normal a w)
    (hN : ∀ n, n < N → ∀ {i : Nat} {o : Oper}, ops[i]? = some o → ∀ {a : Act} {st : St (Sh 𝕋 cfg.P R)} {w : World}, RelA st a → RelW st w → ∀ {K : St (Sh 𝕋 cfg.P R) → Prop},
      execOp1 (𝔸 := Sh 𝕋 cfg.P R) cfg n ops o st K → ∀ {Q : Exit → Act → World → Prop}, wpOp cfg.P ops Q i (fun a' w' => Moves cfg.P o.op w w' ∧ Nx st K a' w') a w) :
    ∀ (n : Nat), n ≤ N →
      (∀ (m : Nat) (listed : Array Bool) (st : St (Sh 𝕋 cfg.P R)) (a : Act) (w : World), Closed .any ops listed → Hist st0 st → SameSt st0 st stable → RelA st a → RelW st w →
        execD (𝔸 := Sh 𝕋 cfg.P R) cfg n ops (Region.before ops) st0 stable m listed st K → wpAnyE cfg.P .any ops Q (Stb st0 stable) (movesAt cfg.P ops) m listed a w) ∧
      (∀ (m : Nat) (listed : Array Bool) (rs : List Nat) (st : St (Sh 𝕋 cfg.P R)) (a : Act) (w : World), Closed .any ops listed → Hist st0 st → SameSt st0 st stable → RelA st a → RelW st w → (∀ i ∈ rs, i ∈ Region.ready .any ops listed) →
        execAll (𝔸 := Sh 𝕋 cfg.P R) cfg n ops (Region.before ops) st0 stable m listed rs st K →
        ∀ i ∈ rs, wpOp cfg.P ops Q i (fun a' w' => movesAt cfg.P ops i w w' ∧ Stb st0 stable w' ∧ wpAnyE cfg.P .any ops Q (Stb st0 stable) (movesAt cfg.P ops) m (listed.setIfInBounds i true) a' w') a w)
  | 0, _ => ⟨fun m listed st a w _ _ _ _ _ h => h.elim, fun m listed rs st a w _ _ _ _ _ _ h => h.elim⟩
  | n + 1, hn => by
    obtain ⟨ihD, ihA⟩ := execD_ok hsel hb hQ hK hN n (by omega)
    constructor
    · intro m listed st a w hcl hh hs ha hw h
      cases m with
      | zero =>
        simp only [execD] at h
        split at h
        · rename_i hr
          exact ⟨hr, hK _ _ ⟨st, hh, ha, hw, h⟩⟩
        · exact h.elim
      | succ m =>
        simp only [execD] at h
        split at h
        · rename_i hr
          exact ⟨fun _ => hK _ _ ⟨st, hh, ha, hw, h⟩, fun i hi => by rw [hr] at hi; cases hi⟩
        · rename_i rs hne
          split at h
          · rename_i i T hT
            obtain ⟨hi, hT⟩ := firstTake_ok hT
            obtain ⟨o, v, st', C, h1, h2, h3, h4, h5, h6, h7, h8, h9, h10⟩ := takeD_ok hb hh hs ha hw hT h
            refine wpAnyE_first (C := C) (Inv := fun L => Closed .any ops L ∧ (C = Grows w → C ≠ Stb st0 stable → C ≠ (fun _ => True) → loudWait cfg.P ops (Region.before ops) L i ops.size = true)) h1 (Region.noSelect_spec hsel) (fun c a w hp => absurd hp (hQ _ _ _)) ?_ (fun w => Moves.refl _ _ w) ?_ m listed a w ⟨hcl, fun e1 e2 e3 => ?_⟩ (Region.free_spec h1 h2) hi h3 h4 (stb_at hb hh hw hs) ?_
            · intro L j hL hj hji
              exact ⟨hL.1.set hj, fun e1 e2 e3 => loudWait_set (hL.2 e1 e2 e3)⟩
            · intro L j w1 w2 hL hiL hjL hji hC1 hq hS2
              by_cases e3 : C = (fun _ => True)
              · rw [e3]; trivial
              · by_cases e2 : C = Stb st0 stable
                · rw [e2]; exact hS2
                · have e1 : C = Grows w := by
                    rcases h5 with h5 | h5 | h5
                    · exact absurd h5 e3
                    · exact absurd h5 e2
                    · exact h5.1
                  have hlw := loudWait_ok (hL.2 e1 e2 e3) j (ready_lt hjL)
                  have hbit := before_listed' hL.1 hjL hiL
                  have hun := (mem_ready.1 hjL).1
                  rw [e1] at hC1 ⊢
                  rcases hlw with hlw | hlw | hlw | hlw | hlw
                  · rw [hun] at hlw; cases hlw
                  · exact absurd hlw hji
                  · rw [hq.1 hlw]; exact hC1
                  · exact hC1.trans (hq.2 hlw) hC1.size
                  · rw [hbit] at hlw; cases hlw
            · rcases h5 with h5 | h5 | h5
              · exact absurd h5 e3
              · exact absurd h5 e2
              · exact h5.2
            · exact ihD m _ st' _ w (hcl.set hi) (hh.trans h6) (fun j hj => by rw [h7, hs j hj]) h8 h9 h10
          · exact ⟨fun h0 => absurd h0 hne, ihA m listed _ st a w hcl hh hs ha hw (fun i hi => hi) h⟩
    · intro m listed rs st a w hcl hh hs ha hw hsub h
      cases rs with
      | nil => intro i hi; cases hi
      | cons i rs =>
        have hfirst : ∀ (o : Oper), ops[i]? = some o → execOp1 (𝔸 := Sh 𝕋 cfg.P R) cfg n ops o st (fun st' => if keptLocs st0 st' stable then execD (𝔸 := Sh 𝕋 cfg.P R) cfg n ops (Region.before ops) st0 stable m (listed.setIfInBounds i true) st' K else False) →
            wpOp cfg.P ops Q i (fun a' w' => movesAt cfg.P ops i w w' ∧ Stb st0 stable w' ∧ wpAnyE cfg.P .any ops Q (Stb st0 stable) (movesAt cfg.P ops) m (listed.setIfInBounds i true) a' w') a w := by
          intro o ho hx
          refine wpOp_mono ?_ (hN n (by omega) ho ha hw hx)
          rintro a' w' ⟨k1, st', k2, k3, k4, k5⟩
          split at k5
          · rename_i hkept
            have hh' := hh.trans k2
            have hs' : SameSt st0 st' stable := same_of_kept (fun j b hb' => ⟨(hb.wf j b hb').1, (hb.wf j b hb').2.2⟩) hh' hkept hb.some
            refine ⟨?_, stb_at hb hh' k4 hs', ihD m _ st' a' w' (hcl.set (hsub i (by simp))) hh' hs' k3 k4 k5⟩
            have : ops.getD i default = o := by
              obtain ⟨h1, h2⟩ := Array.getElem?_eq_some_iff.1 ho
              simp [Array.getD, h1, h2]
            unfold movesAt
            rw [this]
            exact k1
          · exact k5.elim
        obtain ⟨_, o, ho, _⟩ := mem_ready.1 (hsub i (by simp))
        simp only [execAll, ho] at h
        intro j hj
        cases rs with
        | nil =>
          simp only [List.mem_singleton] at hj
          subst hj
          exact hfirst o ho h
        | cons k rs =>
          rcases List.mem_cons.1 hj with rfl | hj
          · exact hfirst o ho h.1
          · exact ihA m listed _ st a w hcl hh hs ha hw (fun i hi => hsub i (List.mem_cons_of_mem _ hi)) h.2 j hj

end
end Go.Vx
