/- What the document's own scopes do, call by call: a scope made; the first one made. -/
import Derived.Test.YtmnnkkcihmdpmaaRh
set_option linter.unusedSimpArgs false
set_option linter.unusedVariables false
namespace Go.Proofs.Ytmnnkkcihmdpmaa
open Go Go.Vx

theorem run_make46 (w : World) : Sem.run Try.prog (GOp.sem (.makeSlice 46 (.int .i64 1) (.int .i64 1))) w = .ok (.slice (some ⟨w.heap.size, 0, none⟩) 1 1) (w.alloc (.cells #[.slice none 0 0] 54)) := by kernel_rfl

theorem new_R (O : Owner) (id : Nat) (w : World) (hd : Dom O w) :
    Calls Try.prog 6 [].toArray w fun en w' => ∃ v, en = .returned v ∧ ∃ x0, v = .pointer (some x0) ∧ ∃ O' C, Step O O' id w w' ∧ RepR O' id w' x0 C ∧ absR C = [(-1, [])] := by
  refine calls6 _ _ ?_
  unfold NF6
  intro k0 hk0 w1 hw1
  have e0 := hk0.size
  have hl01 : k0 < w1.heap.size := hw1.live k0 (by simp)
  refine ⟨_, _, _, _, run_make46 w1, ⟨by simp, fun b hb => by
    simp only [List.mem_singleton] at hb
    subst hb
    exact heap_alloc_old w1 _ _ hl01⟩, ?_⟩
  intro k6 hk6 w7 hw7 h6 h0
  have hs : (w1.alloc (.cells #[.slice none 0 0] 54)).heap.size = w1.heap.size + 1 := by simp
  have e6 := hk6.size
  have hq1 : Quiet w w1 := hw1.quiet (fun k hk => by simp only [List.mem_singleton] at hk; subst hk; exact e0)
  have hnew7 : w7.heap[w1.heap.size]? = some (.cells #[.slice none 0 0] 54 (0, 0)) := by
    rw [hw7.same w1.heap.size (by omega) (by simp only [List.mem_cons, List.not_mem_nil, or_false]; omega)]
    exact heap_alloc_new w1 _
  have hq : Quiet w w7 := by
    refine ⟨hw7.os.trans hq1.os, hw7.tape.trans hq1.tape, hw7.output.trans hq1.output, ?_, fun k hk => ?_⟩
    · have := hw7.size; have := hq1.size; omega
    · have := hq1.size
      rw [hw7.same k (by omega) (by simp only [List.mem_cons, List.not_mem_nil, or_false]; omega)]
      exact (heap_alloc_old w1 _ k (by omega)).trans (hq1.same k hk)
  have hl0 : k0 < w7.heap.size := (Array.getElem?_eq_some_iff.1 h0).1
  have hl6 : k6 < w7.heap.size := (Array.getElem?_eq_some_iff.1 h6).1
  have hl1 : w1.heap.size < w7.heap.size := (Array.getElem?_eq_some_iff.1 hnew7).1
  have hs1 := hq1.size
  refine ⟨_, rfl, ((O.give k0 (id, 1, 0, 0)).give w1.heap.size (id, 1, 1, 0)).give k6 (id, 0, 0, 0), [⟨-1, .slice none 0 0, []⟩], ?_, ⟨?_, ?_⟩, rfl⟩
  · exact (((hq.step hd id).give e0 hl0 _).give (by omega) hl1 _).give (by omega) hl6 _
  · refine ⟨k6, .slice (some ⟨k0, 0, none⟩) 1 1, .slice (some ⟨w1.heap.size, 0, none⟩) 1 1, k0, w1.heap.size, rfl, Owner.give_same _ _ _, h6, ⟨rfl, .inr ⟨k0, 1, _, rfl, Nat.zero_le _, h0, Nat.le_refl _, by decide, rfl, rfl⟩⟩, rfl, ?_, ⟨rfl, .inr ⟨w1.heap.size, 1, _, rfl, Nat.zero_le _, hnew7, Nat.le_refl _, by decide, rfl, rfl⟩⟩, rfl, ?_⟩
    · rw [Owner.give_ne _ _ (by omega), Owner.give_ne _ _ (by omega), Owner.give_same]
    · rw [Owner.give_ne _ _ (by omega), Owner.give_same]
  · intro i c hc
    cases i with
    | zero =>
      simp only [List.getElem?_cons_zero, Option.some.injEq] at hc
      subst hc
      exact ⟨World.ownsRow_nil _ _ _ _, fun g hg => by simp [Value.ownBlock] at hg⟩
    | succ i => simp at hc

theorem make_R {O : Owner} {id : Nat} {w : World} {x0 : Addr} {C : List RSc} (h : RepR O id w x0 C) (hd : Dom O w) (hn : C.length + 1 ≤ 1000000) (e : Int) :
    Calls Try.prog 9 [(.pointer (some x0)), (.int .i64 e)].toArray w fun en w' => ∃ v, en = .returned v ∧ PostR O id w x0 (makeA (absR C) e).1 (.int .i64 (makeA (absR C) e).2) v w' := by
  refine calls9 _ _ _ _ ?_
  unfold NF9
  obtain ⟨pp, cp, pl, cl, hp, hl, hcell⟩ := h.cells
  refine ⟨fun h0 => ⟨pl, _, cl, hl, fun hx => ?_, fun hx => ?_⟩, fun h0 => ?_⟩
  · simp only [Bool.not_eq_true', decide_eq_false_iff_not] at hx
    simp only [makeA, noA (A := absR C) (e := e) (by rw [absR_length]; exact fun hh => hx hh.2), Bool.false_eq_true, if_false]
    exact PostR.same h hd (.refl _) _
  · simp only [decide_eq_true_eq] at h0
    simp only [Bool.not_eq_false', decide_eq_true_eq] at hx
    have hin : inA (absR C).length e = true := by rw [absR_length]; exact inA_iff.2 ⟨h0, hx⟩
    have hlen0 : 0 < C.length := by omega
    refine ⟨pp, _, cp, hp, ?_⟩
    intro k6 hk6 w7 hw7 hb6
    have e6 := hk6.size
    have hq : Quiet w w7 := hw7.quiet (fun k hk => by simp only [List.mem_singleton] at hk; subst hk; exact e6)
    have hd7 := hq.dom hd
    have h7 := h.quiet hd hq
    obtain ⟨rb, vp, vl, gp, gl, rfl, k2, k3, k4, k5, k6', k7, k8, k9⟩ := h7.head
    have hbound : ∀ k' t, O k' = some t → k' < w7.heap.size := fun k' t hk' => hd7 k' (by rw [hk']; simp)
    obtain ⟨vpp, vpc, rfl⟩ := row_slice k4
    obtain ⟨vlp, vlc, rfl⟩ := row_slice k7
    -- the slices read are those of the head
    have hrb : w7.heap[rb]? = w.heap[rb]? := hq.same rb (hd rb (by rw [k2]; simp))
    have hvp : Value.slice pp C.length cp = .slice vpp C.length vpc := by
      have hx0 := hp 0 _ rfl
      rw [add_mid] at hx0
      unfold World.cell? at hx0
      rw [← hrb, k3] at hx0
      simpa using hx0.symm
    rw [hvp]
    obtain ⟨p8, c8, w11, hrun1, hrow1, hgrow1, g1, hg1, hgg1⟩ := run_app app45 k4 (k := k6) (news := prow ⟨e, .nilFunc, []⟩) hb6 rfl (by intro u hu; simp only [prow, List.mem_singleton] at hu; subst hu; rfl) hn 45
    rw [k5] at hgrow1 hgg1
    have gp_ne_rb : gp ≠ rb := fun e' => by rw [e', k2] at k6'; simp at k6'
    have gl_ne_rb : gl ≠ rb := fun e' => by rw [e', k2] at k9; simp at k9
    have gp_ne_gl : gp ≠ gl := fun e' => by rw [e', k9] at k6'; simp at k6'
    have brb := hbound _ _ k2
    have bgp := hbound _ _ k6'
    have bgl := hbound _ _ k9
    have hg1r : g1 ≠ rb ∧ g1 ≠ gl ∧ g1 < w11.heap.size ∧ (g1 = gp ∨ g1 = w7.heap.size) := by
      rcases hgg1 with hh | ⟨hh1, hh2⟩
      · simp only [Option.some.injEq] at hh
        subst hh
        exact ⟨gp_ne_rb, gp_ne_gl, by have := hgrow1.size; omega, .inl rfl⟩
      · exact ⟨by omega, by omega, hh2, .inr hh1⟩
    have hrb11 : w11.heap[rb]? = some (.cells #[.slice vpp C.length vpc, .slice vlp C.length vlc] 48 (0, 0)) := by rw [hgrow1.block rb brb (by simpa using Ne.symm gp_ne_rb), k3]
    have hst1 := storeAt_blk (vs := [.slice p8 (C.length + 1) c8]) hrb11 (o := 0) (off := 0) (by simp)
    generalize hW1 : storeAt w11 ⟨rb, 0, none⟩ 0 [.slice p8 (C.length + 1) c8] = W1 at *
    have hsz1 : W1.heap.size = w11.heap.size := by rw [← hW1]; exact (storeAt_same _ _ _ _).2.2.2
    have hst1' : W1.heap[rb]? = some (.cells #[.slice p8 (C.length + 1) c8, .slice vlp C.length vlc] 48 (0, 0)) := by rw [hst1]; rfl
    have far1 : ∀ k, k ≠ rb → W1.heap[k]? = w11.heap[k]? := fun k hk => by rw [← hW1]; exact storeAt_far hk
    refine ⟨p8, _, c8, w11, hrun1, ⟨hgrow1.size, fun _ hb => by cases hb⟩, canStore_blk hrb11 (by simp) (by simp), ?_⟩
    simp only [hW1]
    refine ⟨vlp, _, vlc, cellsAt_blk hst1' rfl, ?_⟩
    intro k15 hk15 w16 hw16 hb15
    have e15 := hk15.size
    have hq16 : Quiet W1 w16 := hw16.quiet (fun k hk => by simp only [List.mem_singleton] at hk; subst hk; exact e15)
    have g7s := hgrow1.size
    have s16 := hq16.size
    have hgl16 : w16.heap[gl]? = w7.heap[gl]? := by
      rw [hq16.same gl (by omega), far1 gl gl_ne_rb, hgrow1.block gl bgl (by simpa using Ne.symm gp_ne_gl)]
    have k7' : w16.ownsRow 0 54 1 (.slice vlp C.length vlc) C.length (C.flatMap lrow) := row_kept k7 (fun g' hg' => by
      rw [k8, Option.some.injEq] at hg'
      subst hg'
      exact hgl16)
    obtain ⟨p17, c17, w20, hrun2, hrow2, hgrow2, g2, hg2, hgg2⟩ := run_app app46 k7' (k := k15) (news := lrow ⟨e, .slice none 0 0, []⟩) hb15 rfl (by intro u hu; simp only [lrow, List.mem_singleton] at hu; subst hu; rfl) hn 46
    rw [k8] at hgrow2 hgg2
    have hg2r : g2 ≠ rb ∧ g2 ≠ g1 ∧ g2 < w20.heap.size ∧ (g2 = gl ∨ g2 = w16.heap.size) := by
      rcases hgg2 with hh | ⟨hh1, hh2⟩
      · simp only [Option.some.injEq] at hh
        subst hh
        exact ⟨gl_ne_rb, Ne.symm hg1r.2.1, by have := hgrow2.size; omega, .inl rfl⟩
      · exact ⟨by omega, by have := hg1r.2.2.1; omega, hh2, .inr hh1⟩
    have hrb20 : w20.heap[rb]? = some (.cells #[.slice p8 (C.length + 1) c8, .slice vlp C.length vlc] 48 (0, 0)) := by
      rw [hgrow2.block rb (by omega) (by simpa using Ne.symm gl_ne_rb), hq16.same rb (by omega), hst1']
    have hst2 := storeAt_blk (vs := [.slice p17 (C.length + 1) c17]) hrb20 (o := 0) (off := 1) (by simp)
    generalize hW2 : storeAt w20 ⟨rb, 0, none⟩ 1 [.slice p17 (C.length + 1) c17] = W2 at *
    have hsz2 : W2.heap.size = w20.heap.size := by rw [← hW2]; exact (storeAt_same _ _ _ _).2.2.2
    have hst2' : W2.heap[rb]? = some (.cells #[.slice p8 (C.length + 1) c8, .slice p17 (C.length + 1) c17] 48 (0, 0)) := by rw [hst2]; rfl
    have far2 : ∀ k, k ≠ rb → W2.heap[k]? = w20.heap[k]? := fun k hk => by rw [← hW2]; exact storeAt_far hk
    refine ⟨p17, _, c17, w20, hrun2, ⟨hgrow2.size, fun _ hb => by cases hb⟩, canStore_blk hrb20 (by simp) (by simp), ?_⟩
    simp only [hW2]
    refine ⟨p17, _, c17, cellsAt_blk hst2' rfl, ?_⟩
    simp only [makeA, hin, if_true]
    have g20s := hgrow2.size
    -- what is as it was
    have hsame : ∀ k, k < w7.heap.size → k ≠ gp → k ≠ gl → k ≠ rb → W2.heap[k]? = w7.heap[k]? := by
      intro k hk n1 n2 n3
      rw [far2 k n3, hgrow2.block k (by omega) (by simpa using n2), hq16.same k (by omega), far1 k n3, hgrow1.block k hk (by simpa using n1)]
    have hstep : Step O O id w W2 := by
      have u1 : Upd O id w7 w11 := grown_upd hgrow1 k6'
      have u2 : Upd O id w11 W1 := by rw [← hW1]; exact storeAt_upd k2
      have u4 : Upd O id w16 w20 := grown_upd hgrow2 k9
      have u5 : Upd O id w20 W2 := by rw [← hW2]; exact storeAt_upd k2
      exact ((((((hq.upd O id).trans (fun _ _ => rfl) u1).trans (fun _ _ => rfl) u2).trans (fun _ _ => rfl) (hq16.upd O id)).trans (fun _ _ => rfl) u4).trans (fun _ _ => rfl) u5).step hd
    have hqs := hq.size
    have hO1 : O g1 = some (id, 1, 0, 0) ∨ (w.heap.size ≤ g1 ∧ g1 < W2.heap.size) := by
      rcases hg1r.2.2.2 with hh | hh
      · left; rw [hh, k6']
      · right; have := hg1r.2.2.1; omega
    have hO2 : (O.give g1 (id, 1, 0, 0)) g2 = some (id, 1, 1, 0) ∨ (w.heap.size ≤ g2 ∧ g2 < W2.heap.size) := by
      rcases hg2r.2.2.2 with hh | hh
      · left; rw [Owner.give_ne _ _ hg2r.2.1, hh, k9]
      · right; have := hg2r.2.2.1; omega
    have hown : ∀ k t, O k = some (id, t) → t.1 ≠ 1 → ((O.give g1 (id, 1, 0, 0)).give g2 (id, 1, 1, 0)) k = some (id, t) := by
      intro k t hk ht
      have n : ∀ g, (g = gp ∨ g = gl ∨ w7.heap.size ≤ g) → k ≠ g := by
        rintro g (hh | hh | hh) e'
        · rw [e', hh, k6'] at hk
          simp only [Option.some.injEq, Prod.mk.injEq] at hk
          rw [← hk.2] at ht
          exact ht rfl
        · rw [e', hh, k9] at hk
          simp only [Option.some.injEq, Prod.mk.injEq] at hk
          rw [← hk.2] at ht
          exact ht rfl
        · have := hbound _ _ hk
          omega
      have n2 : k ≠ g2 := n g2 (by
        rcases hg2r.2.2.2 with hh | hh
        · exact .inr (.inl hh)
        · exact .inr (.inr (by omega)))
      have n1 : k ≠ g1 := n g1 (by
        rcases hg1r.2.2.2 with hh | hh
        · exact .inl hh
        · exact .inr (.inr (by omega)))
      rw [Owner.give_ne _ _ n2, Owner.give_ne _ _ n1, hk]
    refine ⟨?_, (O.give g1 (id, 1, 0, 0)).give g2 (id, 1, 1, 0), C ++ [⟨e, .slice none 0 0, []⟩], (hstep.giveAt hO1).giveAt hO2, ⟨?_, ?_⟩, ?_⟩
    · rw [absR_length]
      congr 1
      rw [IntWalk.i64_in _ (by omega)]
      omega
    · refine ⟨rb, .slice p8 (C.length + 1) c8, .slice p17 (C.length + 1) c17, g1, g2, rfl, hown _ _ k2 (by simp), hst2', ?_, hg1, ?_, ?_, hg2, Owner.give_same _ _ _⟩
      · rw [List.length_append, List.flatMap_append]
        refine row_kept hrow1 (fun g' hg' => ?_)
        rw [hg1, Option.some.injEq] at hg'
        subst hg'
        rw [far2 _ hg1r.1, hgrow2.block _ (by have := hg1r.2.2.1; omega) (by simpa using hg1r.2.1), hq16.same _ (by have := hg1r.2.2.1; omega), far1 _ hg1r.1]
      · rw [Owner.give_ne _ _ (Ne.symm hg2r.2.1), Owner.give_same]
      · rw [List.length_append, List.flatMap_append]
        refine row_kept hrow2 (fun g' hg' => ?_)
        rw [hg2, Option.some.injEq] at hg'
        subst hg'
        exact far2 _ hg2r.1
    · intro i cc hc
      by_cases hi : i < C.length
      · rw [List.getElem?_append_left hi] at hc
        obtain ⟨q1, q2⟩ := h7.rows i cc hc
        refine ⟨row_kept q1 (fun g' hg' => ?_), fun g' hg' => hown _ _ (q2 g' hg') (by simp)⟩
        have hq2 := q2 g' hg'
        exact hsame g' (hbound _ _ hq2) (fun e' => by rw [e', k6'] at hq2; simp at hq2) (fun e' => by rw [e', k9] at hq2; simp at hq2) (fun e' => by rw [e', k2] at hq2; simp at hq2)
      · have hi2 : i = C.length := by
          have := (List.getElem?_eq_some_iff.1 hc).1
          simp at this
          omega
        subst hi2
        rw [List.getElem?_append_right (Nat.le_refl _), Nat.sub_self] at hc
        simp only [List.getElem?_cons_zero, Option.some.injEq] at hc
        subst hc
        exact ⟨World.ownsRow_nil _ _ _ _, fun g' hg' => by simp [Value.ownBlock] at hg'⟩
    · simp [absR]
  · simp only [decide_eq_false_iff_not] at h0
    simp only [makeA, noA (A := absR C) (e := e) (fun hh => h0 hh.1), Bool.false_eq_true, if_false]
    exact PostR.same h hd (.refl _) _

end Go.Proofs.Ytmnnkkcihmdpmaa
