/- What the program's own scopes do, call by call: those that make memory. -/
import Derived.Test.YtmnnkkcihmdpmaaScS
import Derived.IntWalk
set_option linter.unusedSimpArgs false
set_option linter.unusedVariables false
namespace Go.Proofs.Ytmnnkkcihmdpmaa
open Go Go.Vx

theorem run_makeMapS (t : TypeId) (w : World) : Sem.run Try.prog (GOp.sem (.makeMap t)) w = .ok (.map (some w.heap.size)) (w.alloc (.map #[] 0)) := rfl

theorem quiet_alloc (w : World) (o : Obj) : Quiet w (w.alloc o) := ⟨rfl, rfl, rfl, by simp, fun k hk => heap_alloc_old w o k hk⟩

theorem grown_upd {O : Owner} {id : Nat} {w w' : World} {g : Nat} {t : Nat × Nat × Nat} (h : w.grownBy w' (some g)) (hg : O g = some (id, t)) : Upd O id w w' :=
  ⟨h.os, h.tape, h.output, h.size, fun k hk hne => h.block k hk (fun e => by
    simp only [Option.some.injEq] at e
    subst e
    exact hne t hg)⟩

theorem _root_.Go.Vx.Step.giveAt {O O' : Owner} {id : Nat} {w w' : World} (h : Step O O' id w w') {b : Nat} {t : Nat × Nat × Nat} (hb : O' b = some (id, t) ∨ (w.heap.size ≤ b ∧ b < w'.heap.size)) : Step O (O'.give b (id, t)) id w w' := by
  rcases hb with hb | hb
  · have : O'.give b (id, t) = O' := by
      funext k
      unfold Owner.give
      split
      · rename_i e; rw [e, hb]
      · rfl
    rw [this]
    exact h
  · exact h.give hb.1 hb.2 t

theorem new_S (O : Owner) (id : Nat) (w : World) (hd : Dom O w) :
    Calls Try.prog 5 [].toArray w fun en w' => ∃ v, en = .returned v ∧ ∃ x0, v = .pointer (some x0) ∧ ∃ O' C, Step O O' id w w' ∧ RepS O' id w' x0 C ∧ absS C = [(-1, [])] := by
  refine calls5 _ _ ?_
  unfold NF5
  refine ⟨some w.heap.size, _, run_makeMapS 39 w, ⟨by simp, fun _ hb => by cases hb⟩, ?_⟩
  intro k2 hk2 k3 hk3 w4 hw4 h3 h2
  have hq1 := quiet_alloc w (.map #[] 0)
  have hs1 : (w.alloc (.map #[] 0)).heap.size = w.heap.size + 1 := by simp
  have e2 := hk2.size
  have e3 := hk3.size
  have hne : k3 ≠ k2 := fun e => hk3.new (by rw [e]; simp)
  have hq2 : Quiet (w.alloc (.map #[] 0)) w4 := hw4.quiet (fun k hk => by
    simp only [List.mem_cons, List.not_mem_nil, or_false] at hk
    rcases hk with rfl | rfl
    · exact e2
    · exact e3)
  have hq := hq1.trans hq2
  have hl2 : k2 < w4.heap.size := (Array.getElem?_eq_some_iff.1 h2).1
  have hl3 : k3 < w4.heap.size := (Array.getElem?_eq_some_iff.1 h3).1
  have hl0 : w.heap.size < w4.heap.size := by have := hq2.size; omega
  have hmap : MapAt w4 w.heap.size [] := mapAt_kept mapAt_made (hq2.same _ (by omega))
  refine ⟨_, rfl, ((O.give w.heap.size (id, 2, 0, 0)).give k2 (id, 1, 0, 0)).give k3 (id, 0, 0, 0), [⟨-1, w.heap.size, []⟩], ?_, ⟨?_, ?_, ?_⟩, rfl⟩
  · exact (((hq.step hd id).give (Nat.le_refl _) hl0 _).give (by omega) hl2 _).give (by omega) hl3 _
  · refine ⟨k3, .slice (some ⟨k2, 0, none⟩) 1 1, k2, rfl, Owner.give_same _ _ _, h3, ⟨rfl, .inr ⟨k2, 1, _, rfl, Nat.zero_le _, h2, Nat.le_refl _, by decide, rfl, rfl⟩⟩, rfl, ?_⟩
    rw [Owner.give_ne _ _ (Ne.symm hne), Owner.give_same]
  · intro i c hc
    cases i with
    | zero =>
      simp only [List.getElem?_cons_zero, Option.some.injEq] at hc
      subst hc
      refine ⟨?_, hmap⟩
      rw [Owner.give_ne _ _ (by show w.heap.size ≠ k3; omega), Owner.give_ne _ _ (by show w.heap.size ≠ k2; omega), Owner.give_same]
    | succ i => simp at hc
  · intro i c j e hc he
    cases i with
    | zero =>
      simp only [List.getElem?_cons_zero, Option.some.injEq] at hc
      subst hc
      simp at he
    | succ i => simp at hc

theorem make_S {O : Owner} {id : Nat} {w : World} {x0 : Addr} {C : List SSc} (h : RepS O id w x0 C) (hd : Dom O w) (hn : C.length + 1 ≤ 1000000) (e : Int) :
    Calls Try.prog 8 [(.pointer (some x0)), (.int .i64 e)].toArray w fun en w' => ∃ v, en = .returned v ∧ PostS O id w x0 (makeA (absS C) e).1 (.int .i64 (makeA (absS C) e).2) v w' := by
  refine calls8 _ _ _ _ ?_
  unfold NF8
  obtain ⟨p, c, hp, hcell⟩ := h.cells
  refine ⟨fun h0 => ⟨p, _, c, hp, fun hx => ?_, fun hx => ?_⟩, fun h0 => ?_⟩
  · simp only [Bool.not_eq_true', decide_eq_false_iff_not] at hx
    simp only [makeA, noA (A := absS C) (e := e) (by rw [absS_length]; exact fun hh => hx hh.2), Bool.false_eq_true, if_false]
    exact PostS.same h hd (.refl _) _
  · simp only [decide_eq_true_eq] at h0
    simp only [Bool.not_eq_false', decide_eq_true_eq] at hx
    have hin : inA (absS C).length e = true := by rw [absS_length]; exact inA_iff.2 ⟨h0, hx⟩
    refine ⟨p, _, c, hp, some w.heap.size, _, run_makeMapS 39 w, ⟨by simp, fun _ hb => by cases hb⟩, ?_⟩
    intro k8 hk8 w9 hw9 h8
    have e8 := hk8.size
    have hs1 : (w.alloc (.map #[] 0)).heap.size = w.heap.size + 1 := by simp
    have hq2 : Quiet (w.alloc (.map #[] 0)) w9 := hw9.quiet (fun k hk => by simp only [List.mem_singleton] at hk; subst hk; exact e8)
    have hq := (quiet_alloc w (.map #[] 0)).trans hq2
    have hd9 := hq.dom hd
    have h9 := h.quiet hd hq
    have hl0 : w.heap.size < w9.heap.size := by have := hq2.size; omega
    have hmap : MapAt w9 w.heap.size [] := mapAt_kept mapAt_made (hq2.same _ (by omega))
    obtain ⟨sb, v, g0, rfl, t1, t2, t3, t4, t5⟩ := h9.head
    have hv : v = .slice p C.length c := by
      obtain ⟨q, d, rfl⟩ := row_slice t3
      have hx := hp 0 _ rfl
      have hx9 : w9.cell? ⟨sb, 0, none⟩ = some (.slice q C.length d) := by
        unfold World.cell?
        simp only [t2, Option.isSome_none, Bool.false_eq_true, if_false]
        rfl
      rw [add_mid] at hx
      have : w9.cell? ⟨sb, 0 + (0 + 0), none⟩ = w.cell? ⟨sb, 0 + (0 + 0), none⟩ := World.cell?_of_block (hq.same sb (hd sb (by rw [t1]; simp)))
      rw [hx] at this
      rw [show (0 + (0 + 0) : Nat) = 0 from rfl] at this
      rw [hx9] at this
      simpa using this
    subst hv
    have h8' : w9.heap[k8]? = some (.cells (srow ⟨e, w.heap.size, []⟩).toArray 41 (0, 0)) := h8
    obtain ⟨p', c', w13, hrun, hrow, hgrow, g, hg, hgg⟩ := run_app app42 t3 h8' rfl (by intro u hu; simp only [srow, List.mem_cons, List.not_mem_nil, or_false] at hu; rcases hu with rfl | rfl <;> rfl) hn 42
    rw [t4] at hgrow hgg
    have hsb : sb ≠ g0 := fun e => by rw [e, t5] at t1; simp at t1
    have hlsb : sb < w9.heap.size := hd9 sb (by rw [t1]; simp)
    have hlg0 : g0 < w9.heap.size := hd9 g0 (by rw [t5]; simp)
    have hsb13 : w13.heap[sb]? = some (.cells #[.slice p C.length c] 44 (0, 0)) := by rw [hgrow.block sb hlsb (by simpa using hsb), t2]
    have hgsb : g ≠ sb := by
      rcases hgg with hgg | hgg
      · simp only [Option.some.injEq] at hgg; rw [← hgg]; exact Ne.symm hsb
      · omega
    have hst := storeAt_blk (vs := [.slice p' (C.length + 1) c']) hsb13 (o := 0) (off := 0) (by simp)
    refine ⟨p', _, c', w13, hrun, ⟨hgrow.size, fun _ hb => by cases hb⟩, canStore_blk hsb13 (by simp) (by simp), p', _, c', cellsAt_blk hst rfl, ?_⟩
    simp only [makeA, hin, if_true]
    have hsz : (storeAt w13 ⟨sb, 0, none⟩ 0 [.slice p' (C.length + 1) c']).heap.size = w13.heap.size := (storeAt_same _ _ _ _).2.2.2
    -- what is as it was
    have hsame : ∀ k t, O k = some (id, t) → t.1 = 2 ∨ t.1 = 3 → (storeAt w13 ⟨sb, 0, none⟩ 0 [.slice p' (C.length + 1) c']).heap[k]? = w9.heap[k]? := by
      intro k t hk ht
      rw [storeAt_far (fun e => by
        have e : k = sb := e
        rw [e, t1] at hk
        simp only [Option.some.injEq, Prod.mk.injEq] at hk
        rw [← hk.2] at ht
        simp at ht)]
      exact hgrow.block k (hd9 k (by rw [hk]; simp)) (fun e => by
        simp only [Option.some.injEq] at e
        rw [e, t5] at hk
        simp only [Option.some.injEq, Prod.mk.injEq] at hk
        rw [← hk.2] at ht
        simp at ht)
    have hnone : O w.heap.size = none := by
      cases hb : O w.heap.size with
      | none => rfl
      | some t => exact absurd (hd w.heap.size (by rw [hb]; simp)) (Nat.lt_irrefl _)
    have hst9 : Step O O id w w13 := (hq.step hd id).trans ((grown_upd hgrow t5).step hd9)
    have hd13 := hst9.dom hd
    have hstep : Step O O id w (storeAt w13 ⟨sb, 0, none⟩ 0 [.slice p' (C.length + 1) c']) := hst9.trans ((storeAt_upd t1).step hd13)
    have hfin : (w.heap.size : Nat) < (storeAt w13 ⟨sb, 0, none⟩ 0 [.slice p' (C.length + 1) c']).heap.size := by rw [hsz]; have := hgrow.size; omega
    have hgO : (O.give w.heap.size (id, 2, C.length, 0)) g = some (id, 1, 0, 0) ∨ (w.heap.size ≤ g ∧ g < (storeAt w13 ⟨sb, 0, none⟩ 0 [.slice p' (C.length + 1) c']).heap.size) := by
      rcases hgg with hgg | hgg
      · simp only [Option.some.injEq] at hgg
        subst hgg
        left
        rw [Owner.give_ne _ _ (fun e => by rw [e, hnone] at t5; cases t5), t5]
      · right
        rw [hsz]
        omega
    have hgm : g ≠ w.heap.size := by
      rcases hgg with hgg | hgg
      · simp only [Option.some.injEq] at hgg
        subst hgg
        exact fun e => by rw [e, hnone] at t5; cases t5
      · omega
    -- the owners behind it
    have hown : ∀ k t, O k = some (id, t) → (t.1 = 0 ∨ t.1 = 2 ∨ t.1 = 3) → ((O.give w.heap.size (id, 2, C.length, 0)).give g (id, 1, 0, 0)) k = some (id, t) := by
      intro k t hk ht
      have hkg : k ≠ g := by
        rcases hgg with hgg | hgg
        · simp only [Option.some.injEq] at hgg
          subst hgg
          intro e
          rw [e, t5] at hk
          simp only [Option.some.injEq, Prod.mk.injEq] at hk
          rw [← hk.2] at ht
          simp at ht
        · have := hd9 k (by rw [hk]; simp)
          omega
      have hkm : k ≠ w.heap.size := fun e => by rw [e, hnone] at hk; cases hk
      rw [Owner.give_ne _ _ hkg, Owner.give_ne _ _ hkm, hk]
    refine ⟨?_, (O.give w.heap.size (id, 2, C.length, 0)).give g (id, 1, 0, 0), C ++ [⟨e, w.heap.size, []⟩], (hstep.give (Nat.le_refl _) hfin _).giveAt hgO, ⟨?_, ?_, ?_⟩, ?_⟩
    · rw [absS_length]
      congr 1
      rw [IntWalk.i64_in _ (by omega)]
      omega
    · refine ⟨sb, .slice p' (C.length + 1) c', g, rfl, hown _ _ t1 (.inl rfl), ?_, ?_, hg, Owner.give_same _ _ _⟩
      · rw [hst]; rfl
      · rw [List.length_append, List.flatMap_append]
        refine row_kept hrow (fun g' hg' => ?_)
        rw [hg, Option.some.injEq] at hg'
        subst hg'
        exact storeAt_far hgsb
    · intro i cc hc
      by_cases hi : i < C.length
      · rw [List.getElem?_append_left hi] at hc
        obtain ⟨m1, m2⟩ := h9.maps i cc hc
        exact ⟨hown _ _ m1 (.inr (.inl rfl)), mapAt_kept m2 (hsame _ _ m1 (.inl rfl))⟩
      · have hi2 : i = C.length := by
          have := (List.getElem?_eq_some_iff.1 hc).1
          simp at this
          omega
        subst hi2
        rw [List.getElem?_append_right (Nat.le_refl _), Nat.sub_self] at hc
        simp only [List.getElem?_cons_zero, Option.some.injEq] at hc
        subst hc
        refine ⟨?_, mapAt_kept hmap ?_⟩
        · show ((O.give w.heap.size (id, 2, C.length, 0)).give g (id, 1, 0, 0)) w.heap.size = _
          rw [Owner.give_ne _ _ (Ne.symm hgm), Owner.give_same]
        · show (storeAt w13 _ 0 _).heap[w.heap.size]? = _
          rw [storeAt_far (fun e => by
            have e : w.heap.size = sb := e
            rw [← e, hnone] at t1; cases t1)]
          exact hgrow.block _ hl0 (fun e => by
            simp only [Option.some.injEq] at e
            rw [← e, hnone] at t5; cases t5)
    · intro i cc j en hc he
      by_cases hi : i < C.length
      · rw [List.getElem?_append_left hi] at hc
        obtain ⟨m1, m2⟩ := h9.vars i cc j en hc he
        exact ⟨hown _ _ m1 (.inr (.inr rfl)), by rw [hsame _ _ m1 (.inr rfl), m2]⟩
      · have hi2 : i = C.length := by
          have := (List.getElem?_eq_some_iff.1 hc).1
          simp at this
          omega
        subst hi2
        rw [List.getElem?_append_right (Nat.le_refl _), Nat.sub_self] at hc
        simp only [List.getElem?_cons_zero, Option.some.injEq] at hc
        subst hc
        simp at he
    · simp [absS]
  · simp only [decide_eq_false_iff_not] at h0
    simp only [makeA, noA (A := absS C) (e := e) (fun hh => h0 hh.1), Bool.false_eq_true, if_false]
    exact PostS.same h hd (.refl _) _

end Go.Proofs.Ytmnnkkcihmdpmaa
