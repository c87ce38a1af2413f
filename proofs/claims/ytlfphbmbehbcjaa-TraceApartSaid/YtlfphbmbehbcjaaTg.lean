/- Whether keys that were told break a rule; whether a reply does. -/
import Derived.Test.YtlfphbmbehbcjaaTf
set_option linter.unusedSimpArgs false
set_option linter.unusedVariables false
namespace Go.Proofs.Ytlfphbmbehbcjaa
open Go Go.Vx

theorem key_val_inj {a b : GKey} (h : GKey.val a = GKey.val b) : a = b := by
  obtain ⟨a1, a2⟩ := a
  obtain ⟨b1, b2⟩ := b
  simp only [GKey.val, GKey.cells, Value.agg.injEq] at h
  have h2 := congrArg Array.toList h
  simp only [List.cons.injEq, Value.string.injEq, Value.int.injEq, and_true, true_and] at h2
  rw [h2.1, h2.2]

/-- What an iterator has brought. -/
def seenOf (w : World) (r : Nat) : Array Nat := match w.heap[r]? with | some (.mapIter _ _ s _) => s | _ => #[]

section
variable {O : Owner} {id : Nat} {w : World} {x : Addr} {F : Fx}

theorem keysBreak_ok (hr : RepF O id w x F) (hd : Dom O w) {n : Nat} (hs : Short F n) (hn : n ≤ 1000000) {s : Sl} {ks : List GKey} (hi : Imm O w s.p s.l GKey.cells 2 ks) (hb : ks.length ≤ 1000000) (ahead : Int) :
    PurIn Try.prog 17 [.pointer (some x), .slice s.p s.l s.c, .int .i64 ahead] w (fun v _ => v = .bool (keysBreakP F ks ahead)) := by
  refine calls17 (fun v w' => v = .bool (keysBreakP F ks ahead) ∧ Quiet w w') x s ahead w ?_
  unfold NF17
  rintro k0 ⟨f0, n0⟩ k1 ⟨f1, n1⟩ w2 g2
  have A2 := (Pt.start w).frame (by simp <;> omega) g2
  refine A2.purIn (twice_ok (hi.quiet A2.quiet) hb) ?_
  rintro v w3 rfl A3 _
  refine ⟨_, rfl, fun ht => ?_, fun ht => ⟨by simp [keysBreakP, ht], A3.quiet⟩⟩
  have hl := hi.1
  refine ⟨fun i w' => Quiet w w' ∧ 0 ≤ i ∧ i ≤ (ks.length : Int) ∧ ∀ (j : Nat) k, (j : Int) < i → ks[j]? = some k → isGoneP F k ahead = false, fun i _ => (ks.length - i).toNat, ⟨A3.quiet, by omega, by omega, fun j k hj => by omega⟩, ?_⟩
  rintro i w7 hw7 ⟨hq, hi0, hi1, hall⟩
  have A7 : Pt w [k0, k1] w7 := .of_within hq (by simp <;> omega) hw7
  refine ⟨fun hlt => ?_, fun hlt => ?_⟩
  · simp only [decide_eq_true_eq] at hlt
    obtain ⟨a, k, e1, e2, e3⟩ := (hi.quiet hq).at hi0 hlt
    refine ⟨a, e1, ⟨hi0, hlt⟩, k, e3, ?_⟩
    rintro k10 ⟨f10, n10⟩ w11 g11
    have A11 := A7.frame (by simp <;> omega) g11
    refine A11.purIn (isGone_ok (hr.quiet hd A11.quiet) (A11.quiet.dom hd) hs hn k ahead) ?_
    rintro v w12 rfl A12 _
    refine ⟨_, rfl, fun hg => ⟨fun _ => ⟨?_, A12.quiet⟩, fun hc => ?_⟩, fun hg => ?_⟩
    · have : (ks.any fun k => isGoneP F k ahead) = true := List.any_eq_true.2 ⟨k, List.mem_of_getElem? e2, hg⟩
      simp [keysBreakP, this]
    · simp at hc
      omega
    · rw [IntWalk.i64_in _ (by omega)]
      refine ⟨⟨A12.quiet, by omega, by omega, fun j y hj hy => ?_⟩, ?_⟩
      · by_cases hji : (j : Int) < i
        · exact hall j y hji hy
        · have : j = i.toNat := by omega
          subst this
          rw [e2, Option.some.injEq] at hy
          rw [← hy]
          exact hg
      · show (ks.length - (i + 1) : Int).toNat < (ks.length - i : Int).toNat
        omega
  · simp only [decide_eq_false_iff_not] at hlt
    have hnone : (ks.any fun k => isGoneP F k ahead) = false := by
      rw [List.any_eq_false]
      intro k hk
      obtain ⟨j, hj⟩ := List.getElem?_of_mem hk
      rw [hall j k (by have := (List.getElem?_eq_some_iff.1 hj).1; omega) hj]
      simp
    obtain ⟨b, g, f, vk, TC, FC, h⟩ := hr
    have h7 := h.quiet hd hq
    obtain ⟨es, clock, m1, m2, m3, m4⟩ := h7.fast
    have hfs : f < w.heap.size := hd f (by rw [h.ownF]; simp)
    have hes : ∀ {w'}, Quiet w w' → w'.heap[f]? = some (.map es clock) := fun {w'} hq' => by rw [hq'.same f hfs, ← hq.same f hfs, m1]
    refine ⟨some f, h7.read rfl, _, _, run_rangeK Try.underlying45 m1, ⟨(quiet_alloc w7 _).size, fun b hb => (quiet_alloc w7 _).same b (hw7 b hb)⟩, ?_⟩
    have hq10 : Quiet w (w7.alloc (.mapIter (some f) clock #[] clock)) := hq.trans (quiet_alloc w7 _)
    have hr10 : (w7.alloc (.mapIter (some f) clock #[] clock)).heap[w7.heap.size]? = some (.mapIter (some f) clock #[] clock) := Go.heap_alloc_new w7 _
    have hsz : w.heap.size ≤ w7.heap.size := hq.size
    have hk0 : k0 < w7.heap.size := hw7 k0 (by simp)
    have hk1 : k1 < w7.heap.size := hw7 k1 (by simp)
    generalize w7.heap.size = r at hr10 hsz hk0 hk1
    generalize w7.alloc (.mapIter (some f) clock #[] clock) = w10 at hq10 hr10
    refine ⟨fun w' => Quiet w w' ∧ ∃ seen, w'.heap[r]? = some (.mapIter (some f) clock seen clock) ∧ ∀ e ∈ es.toList, e.born ∈ seen → ∀ k, e.key = GKey.val k → ((isFastP F k ahead).isSome && !decide (k ∈ ks)) = false, fun w' => leftK es (seenOf w' r), ⟨hq10, #[], hr10, fun e _ hm => by simp at hm⟩, ?_⟩
    rintro w12 hw12 ⟨hq12, seen, hr12, hgood⟩
    have A12 : Pt w [k0, k1] w12 := .of_within hq12 (by simp <;> omega) hw12
    rcases run_nextK (P := Try.prog) hr12 (hes hq12) m4 0 with ⟨hend, hrun⟩ | ⟨e, he, hnot, w18, hrun, hr18, ho18, hs18⟩
    · refine ⟨false, ⟨⟨#[]⟩, 0⟩, none, 0, 0, w12, hrun, .refl _ _, (fun hf => by cases hf), fun _ => ⟨?_, hq12⟩⟩
      have : (F.fast.any fun p => (isFastP F p.1 ahead).isSome && !decide (p.1 ∈ ks)) = false := by
        rw [List.any_eq_false]
        intro p hp
        rw [h.facts] at hp
        obtain ⟨c, hc, rfl⟩ := List.mem_map.1 hp
        have hm2 : es.toList.map (fun e => (e.key, e.val)) = (fcK FC).map (fun x => (GKey.val x.1, x.2)) := m2
        obtain ⟨e, he, hk, _⟩ := of_entry hm2 (x := (c.1, c.2.1.val)) (List.mem_map.2 ⟨c, hc, rfl⟩)
        rw [hgood e he (hend e he) c.1 hk]
        simp
      simp [keysBreakP, ht, hnone, this]
    · have hm2 : es.toList.map (fun e => (e.key, e.val)) = (fcK FC).map (fun x => (GKey.val x.1, x.2)) := m2
      obtain ⟨j, y, hy, hek, hev⟩ := entry_of hm2 he
      unfold fcK at hy
      rw [List.getElem?_map] at hy
      cases hcF : FC[j]? with
      | none => rw [hcF] at hy; cases hy
      | some c =>
        rw [hcF] at hy
        simp only [Option.map_some, Option.some.injEq] at hy
        subst hy
        simp only at hek hev
        have hq18 : Quiet w w18 := ⟨ho18.os.trans hq12.os, ho18.tape.trans hq12.tape, ho18.output.trans hq12.output, by rw [hs18]; exact hq12.size, fun k hk => (ho18.same k (Nat.lt_of_lt_of_le hk hq12.size) (by omega)).trans (hq12.same k hk)⟩
        have hkept : Kept [k0, k1] w12 w18 := ⟨by omega, fun b hb => ho18.same b (hw12 b hb) (by simp at hb; omega)⟩
        have A18 : Pt w [k0, k1] w18 := ⟨hq18, A12.new, fun k hk => by rw [hs18]; exact A12.live k hk⟩
        have hr18lt : r < w18.heap.size := (Array.getElem?_eq_some_iff.1 hr18).1
        rw [hek, hev] at hrun
        have hen := run_entryIt (P := Try.prog) hr18 (hes hq18) he m3
        rw [hek, hev] at hen
        refine ⟨true, c.1, c.2.1.p, c.2.1.l, c.2.1.c, w18, hrun, hkept, fun _ => ⟨c.1, c.2.1.p, c.2.1.l, c.2.1.c, w18, hen, .refl _ _, ?_⟩, fun hf => by cases hf⟩
        rintro k24 ⟨f24, n24⟩ w25 g25
        have A25 := A18.frame (by simp <;> omega) g25
        have hr25 : w25.heap[r]? = some (.mapIter (some f) clock (seen.push e.born) clock) := by rw [g25.same r hr18lt (by simp; omega)]; exact hr18
        have hrep : ∀ {w'}, Quiet w w' → RepF O id w' x F := fun hq' => ⟨b, g, f, vk, TC, FC, h.quiet hd hq'⟩
        refine A25.purIn (isFast_ok (hrep A25.quiet) (A25.quiet.dom hd) hs hn c.1 ahead) ?_
        rintro v w26 rfl A26 q26
        have hr25lt : r < w25.heap.size := (Array.getElem?_eq_some_iff.1 hr25).1
        have hr26 : w26.heap[r]? = some (.mapIter (some f) clock (seen.push e.born) clock) := by rw [q26.same r hr25lt]; exact hr25
        have hr26lt : r < w26.heap.size := (Array.getElem?_eq_some_iff.1 hr26).1
        refine ⟨_, _, rfl, ?_⟩
        rintro k29 ⟨f29, n29⟩
        have next : ∀ {w' : World}, Quiet w w' → w'.heap[r]? = some (.mapIter (some f) clock (seen.push e.born) clock) → ((isFastP F c.1 ahead).isSome && !decide (c.1 ∈ ks)) = false →
            (Quiet w w' ∧ ∃ seen, w'.heap[r]? = some (.mapIter (some f) clock seen clock) ∧ ∀ e ∈ es.toList, e.born ∈ seen → ∀ k, e.key = GKey.val k → ((isFastP F k ahead).isSome && !decide (k ∈ ks)) = false) ∧ leftK es (seenOf w' r) < leftK es (seenOf w12 r) := by
          intro w' hq' hr' hok
          refine ⟨⟨hq', _, hr', fun e' he' hm k hk => ?_⟩, ?_⟩
          · simp only [Array.mem_push] at hm
            rcases hm with hm | hm
            · exact hgood e' he' hm k hk
            · -- the same entry
              have hee : e' = e := by
                obtain ⟨p, hp⟩ := List.getElem?_of_mem he'
                obtain ⟨q, hq⟩ := List.getElem?_of_mem he
                obtain ⟨hpl, hpv⟩ := List.getElem?_eq_some_iff.1 hp
                obtain ⟨hql, hqv⟩ := List.getElem?_eq_some_iff.1 hq
                have := List.pairwise_iff_getElem.1 m3
                rcases Nat.lt_trichotomy p q with h1 | h1 | h1
                · have := this p q hpl hql h1; rw [hpv, hqv] at this; omega
                · subst h1; rw [hpv] at hqv; exact hqv
                · have := this q p hql hpl h1; rw [hpv, hqv] at this; omega
              subst hee
              rw [hek] at hk
              rw [← key_val_inj hk]
              exact hok
          · have e1 : seenOf w' r = seen.push e.born := by unfold seenOf; rw [hr']
            have e2 : seenOf w12 r = seen := by unfold seenOf; rw [hr12]
            rw [e1, e2]
            exact leftK_push he hnot
        refine ⟨fun hsome w30 g30 => ?_, fun hsome w30 g30 => ?_⟩
        · have A30 := A26.frame (by simp <;> omega) g30
          have hr30 : w30.heap[r]? = some (.mapIter (some f) clock (seen.push e.born) clock) := by rw [g30.same r hr26lt (by simp; omega)]; exact hr26
          have hr30lt : r < w30.heap.size := (Array.getElem?_eq_some_iff.1 hr30).1
          refine A30.purIn (contains_ok (hi.quiet A30.quiet) hb c.1) ?_
          rintro v w31 rfl A31 q31
          refine ⟨_, rfl, fun hc => ⟨?_, A31.quiet⟩, fun hc => next A31.quiet (by rw [q31.same r hr30lt]; exact hr30) (by rw [hc]; simp)⟩
          have : (F.fast.any fun p => (isFastP F p.1 ahead).isSome && !decide (p.1 ∈ ks)) = true := by
            rw [List.any_eq_true]
            refine ⟨(c.1, c.2.2), by rw [h.facts]; exact List.mem_map.2 ⟨c, List.mem_of_getElem? hcF, rfl⟩, ?_⟩
            rw [hsome, hc]
            rfl
          simp [keysBreakP, this]
        · have A30 := A26.frame (by simp <;> omega) g30
          have hr30 : w30.heap[r]? = some (.mapIter (some f) clock (seen.push e.born) clock) := by rw [g30.same r hr26lt (by simp; omega)]; exact hr26
          exact next A30.quiet hr30 (by rw [hsome]; rfl)

theorem breaks_ok (hr : RepF O id w x F) (hd : Dom O w) {n : Nat} (hs : Short F n) (hn : n ≤ 1000000) (s : GSeen) (ks : List GKey) (hk : Imm O w s.Reply.Keys.p s.Reply.Keys.l GKey.cells 2 ks) (hb : ks.length ≤ 1000000) (ahead : Int) :
    PurIn Try.prog 8 [.pointer (some x), GSeen.val s, .int .i64 ahead] w (fun v _ => v = .bool (breaksP F s ks ahead)) := by
  refine calls8 (fun v w' => v = .bool (breaksP F s ks ahead) ∧ Quiet w w') x s ahead w ?_
  unfold NF8
  rintro k0 ⟨f0, n0⟩ w1 g1
  have A1 := (Pt.start w).frame (by simp <;> omega) g1
  refine A1.purIn (isFast_ok (hr.quiet hd A1.quiet) (A1.quiet.dom hd) hs hn _ _) ?_
  rintro v w2 rfl A2 _
  refine ⟨_, _, rfl, ?_⟩
  rintro k5 ⟨f5, n5⟩ k6 ⟨f6, n6⟩
  generalize hD : isFastP F s.Ask.Key ahead = D
  have fr : ∀ {w7}, Framed [k0, k5, k6] w2 w7 → Pt w [k0, k5, k6] w7 := fun g7 => A2.frame (by simp <;> omega) g7
  have rd : ∀ {w7}, Framed [k0, k5, k6] w2 w7 → ∃ b g f vk TC FC, RepF' O id w7 x F b g f vk TC FC := fun g7 => hr.quiet hd (fr g7).quiet
  refine ⟨fun m3 => ⟨fun ho w7 g7 => ?_, fun ho w7 g7 => ⟨by simp [breaksP, m3, ho], (fr g7).quiet⟩⟩, fun m3 => ⟨fun m1 w7 g7 => ?_, fun m1 => ⟨fun m2 => ⟨fun ho w7 g7 => ?_, fun ho w7 g7 => ⟨?_, (fr g7).quiet⟩⟩, fun m2 => ⟨fun m5 w7 g7 => ?_, fun m5 =>
    ⟨fun m7 => ⟨fun ho w7 g7 => ⟨?_, (fr g7).quiet⟩, fun ho w7 g7 => ⟨?_, (fr g7).quiet⟩⟩, fun m7 => ⟨fun m10 => ⟨fun ho w7 g7 => ⟨?_, (fr g7).quiet⟩, fun ho w7 g7 => ⟨?_, (fr g7).quiet⟩⟩, fun m10 => ⟨fun m6 => ⟨fun ho w7 g7 => ?_, fun ho w7 g7 => ⟨?_, (fr g7).quiet⟩⟩, fun m6 =>
    ⟨fun m8 => ⟨fun hb4 w7 g7 => ?_, fun hb4 w7 g7 => ⟨?_, (fr g7).quiet⟩⟩, fun m8 => ⟨fun m9 => ⟨fun ho => ⟨fun hb4 w7 g7 => ?_, fun hb4 w7 g7 => ⟨?_, (fr g7).quiet⟩⟩, fun ho w7 g7 => ⟨?_, (fr g7).quiet⟩⟩, fun m9 => ⟨fun m11 w7 g7 => ?_, fun m11 w7 g7 => ⟨?_, (fr g7).quiet⟩⟩⟩⟩⟩⟩⟩⟩⟩⟩⟩
  · obtain ⟨b, g, f, vk, TC, FC, h⟩ := rd g7
    refine ⟨_, h.read rfl, fun hp => ⟨_, h.read rfl, ?_, (fr g7).quiet⟩, fun hp => ⟨?_, (fr g7).quiet⟩⟩
    · simp only [breaksP, m3, if_true, ho, closedP, hp, Bool.true_and]
    · simp only [breaksP, m3, if_true, ho, closedP, hp, Bool.true_and, Bool.false_and]
  · obtain ⟨b, g, f, vk, TC, FC, h⟩ := rd g7
    refine ⟨_, h.read rfl, fun hp => ⟨_, h.read rfl, fun hlt => ⟨F.proto, h.read rfl, ?_⟩, fun hlt => ⟨?_, (fr g7).quiet⟩⟩, fun hp => ⟨?_, (fr g7).quiet⟩⟩
    · refine (fr g7).pur (same_ok _ _) fun w11 A11 _ => ⟨_, rfl, ?_, A11.quiet⟩
      simp at m3 m1 hp hlt
      simp [breaksP, m3, m1, knownP, hp, hlt]
    · simp only [breaksP, m3, m1, if_true, if_false, Bool.false_eq_true, knownP, hp, hlt, Bool.true_and, Bool.and_false, Bool.false_and]
    · simp only [breaksP, m3, m1, if_true, if_false, Bool.false_eq_true, knownP, hp, Bool.true_and, Bool.and_false, Bool.false_and]
  · obtain ⟨b, g, f, vk, TC, FC, h⟩ := rd g7
    refine ⟨_, h.read rfl, fun hp => ⟨_, h.read rfl, fun hlt => ⟨F.proto, h.read rfl, ?_⟩, fun hlt => ⟨?_, (fr g7).quiet⟩⟩, fun hp => ⟨?_, (fr g7).quiet⟩⟩
    · refine (fr g7).pur (same_ok _ _) fun w11 A11 _ => ⟨_, rfl, ?_, A11.quiet⟩
      simp at m3 m1 m2 hp hlt
      simp [breaksP, m3, m1, m2, ho, knownP, hp, hlt]
    · simp only [breaksP, m3, m1, m2, ho, if_true, if_false, Bool.false_eq_true, knownP, hp, hlt, Bool.true_and, Bool.and_false, Bool.false_and]
    · simp only [breaksP, m3, m1, m2, ho, if_true, if_false, Bool.false_eq_true, knownP, hp, Bool.true_and, Bool.and_false, Bool.false_and]
  · simp only [breaksP, m3, m1, m2, ho, if_true, if_false, Bool.false_eq_true, Bool.false_and]
  · refine (fr g7).purIn (own_ok (hr.quiet hd (fr g7).quiet) ((fr g7).quiet.dom hd) hs hn _ _) ?_
    rintro v w8 rfl A8 _
    exact ⟨_, rfl, by simp only [breaksP, m3, m1, m2, m5, if_true, if_false, Bool.false_eq_true], A8.quiet⟩
  · simp only [breaksP, m3, m1, m2, m5, m7, ho, if_true, if_false, Bool.false_eq_true, hD, Bool.true_and]
  · simp only [breaksP, m3, m1, m2, m5, m7, ho, if_true, if_false, Bool.false_eq_true, hD, Bool.false_and]
  · simp only [breaksP, m3, m1, m2, m5, m7, m10, ho, if_true, if_false, Bool.false_eq_true, hD, Bool.true_and]
  · simp only [breaksP, m3, m1, m2, m5, m7, m10, ho, if_true, if_false, Bool.false_eq_true, hD, Bool.false_and]
  · refine (fr g7).purIn (isGone_ok (hr.quiet hd (fr g7).quiet) ((fr g7).quiet.dom hd) hs hn _ _) ?_
    rintro v w8 rfl A8 _
    exact ⟨_, rfl, by simp only [breaksP, m3, m1, m2, m5, m7, m10, m6, ho, if_true, if_false, Bool.false_eq_true, Bool.true_and], A8.quiet⟩
  · simp only [breaksP, m3, m1, m2, m5, m7, m10, m6, ho, if_true, if_false, Bool.false_eq_true, hD, Bool.false_and]
  · cases D with
    | none => cases hb4
    | some d =>
      refine (fr g7).pur (value_ok _ _ _ _) fun w8 A8 _ => ⟨_, rfl, ?_, A8.quiet⟩
      simp only [breaksP, m3, m1, m2, m5, m7, m10, m6, m8, if_true, if_false, Bool.false_eq_true, hD, Option.getD_some]
  · cases D with
    | some d => cases hb4
    | none => simp only [breaksP, m3, m1, m2, m5, m7, m10, m6, m8, if_true, if_false, Bool.false_eq_true, hD]
  · cases D with
    | none => cases hb4
    | some d =>
      refine (fr g7).pur (value_ok _ _ _ _) fun w8 A8 _ => ⟨_, rfl, ?_, A8.quiet⟩
      simp only [breaksP, m3, m1, m2, m5, m7, m10, m6, m8, m9, ho, if_true, if_false, Bool.false_eq_true, hD, Option.getD_some, Bool.true_and]
  · cases D with
    | some d => cases hb4
    | none => simp only [breaksP, m3, m1, m2, m5, m7, m10, m6, m8, m9, ho, if_true, if_false, Bool.false_eq_true, hD, Bool.true_and]
  · simp only [breaksP, m3, m1, m2, m5, m7, m10, m6, m8, m9, ho, if_true, if_false, Bool.false_eq_true, hD, Bool.false_and]
  · refine (fr g7).purIn (keysBreak_ok (hr.quiet hd (fr g7).quiet) ((fr g7).quiet.dom hd) hs hn (hk.quiet (fr g7).quiet) hb _) ?_
    rintro v w8 rfl A8 _
    exact ⟨_, rfl, by simp only [breaksP, m3, m1, m2, m5, m7, m10, m6, m8, m9, m11, if_true, if_false, Bool.false_eq_true], A8.quiet⟩
  · simp only [breaksP, m3, m1, m2, m5, m7, m10, m6, m8, m9, m11, if_true, if_false, Bool.false_eq_true]
end
end Go.Proofs.Ytlfphbmbehbcjaa
