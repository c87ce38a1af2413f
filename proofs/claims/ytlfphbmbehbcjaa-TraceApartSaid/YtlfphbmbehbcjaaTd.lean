/- The functions that look at an object's facts, and at rows of keys: what they answer. -/
import Derived.Test.YtlfphbmbehbcjaaTc
set_option linter.unusedSimpArgs false
set_option linter.unusedVariables false
namespace Go.Proofs.Ytlfphbmbehbcjaa
open Go Go.Vx

section
variable {O : Owner} {id : Nat} {w : World} {x : Addr} {F : Fx}

theorem RepF'.quiet {b g f : Nat} {vk : Sl} {TC : List (Int × Sl × List GKey)} {FC : List (GKey × Sl × List (Int × GDesc))} (h : RepF' O id w x F b g f vk TC FC) (hd : Dom O w) {w' : World} (hq : Quiet w w') : RepF' O id w' x F b g f vk TC FC :=
  h.move (fun k t hk => ⟨hk, hq.same k (hd k (by rw [hk]; simp))⟩) hq.size fun k hk hn => ⟨hn, hq.same k hk⟩

/-- What is read of the keys that were told. -/
theorem RepF'.toldAt {b g f : Nat} {vk : Sl} {TC : List (Int × Sl × List GKey)} {FC : List (GKey × Sl × List (Int × GDesc))} (h : RepF' O id w x F b g f vk TC FC) : vk.l = TC.length ∧
    ∀ i : Int, 0 ≤ i → i < ((vk.l : Nat) : Int) → ∃ a t, vk.p = some a ∧ TC[i.toNat]? = some t ∧ CellsAt w (Addr.add a (0 + Int.toNat i * 2)) 0 (toldL t) := by
  have hrow := h.rowK
  obtain ⟨p, cc, hv⟩ := row_slice hrow
  have hl : vk.l = TC.length := by
    have : vk.val = .slice p TC.length cc := hv
    simp only [Sl.val, Value.slice.injEq] at this
    exact this.2.1
  refine ⟨hl, fun j hj0 hj1 => ?_⟩
  have hjl : j.toNat < TC.length := by omega
  obtain ⟨gb, cc', cur, e1, e2, _⟩ := row_blk hrow (by omega)
  have e1' : vk.p = some ⟨gb, 0, none⟩ := by
    simp only [Sl.val, Value.slice.injEq] at e1
    exact e1.1
  refine ⟨_, TC[j.toNat], e1', by simp [hjl], ?_⟩
  rw [add_mid]
  refine row_cells hrow e2 ?_
  rw [show 0 + (0 + j.toNat * 2) + 0 = j.toNat * 2 + 0 by omega]
  have := flat_get toldL_len (C := TC) (i := j.toNat) (c := TC[j.toNat]) (by simp [hjl]) (off := 0) (n := 2) (by omega)
  rw [toldL_len, this]
  rfl

theorem isGone_ok (hr : RepF O id w x F) (hd : Dom O w) {n : Nat} (hs : Short F n) (hn : n ≤ 1000000) (k : GKey) (ahead : Int) :
    PurIn Try.prog 15 [.pointer (some x), GKey.val k, .int .i64 ahead] w (fun v _ => v = .bool (isGoneP F k ahead)) := by
  obtain ⟨b, g, f, vk, TC, FC, h⟩ := hr
  refine calls15 (fun v w' => v = .bool (isGoneP F k ahead) ∧ Quiet w w') x k ahead w ?_
  unfold NF15
  rintro k0 ⟨f0, n0⟩ k1 ⟨f1, n1⟩ w2 g2
  have A2 := (Pt.start w).frame (by simp <;> omega) g2
  have h2 := h.quiet hd A2.quiet
  refine ⟨some g, h2.read rfl, ?_⟩
  have hlk := run_lookupK key_fit Try.underlying44 h2.gone (zero3 w2) k true
  rw [look_gone] at hlk
  -- the rest, behind the look-up
  have rest : ∀ (hno : ∀ p, getA k F.gone = some p → decide (p < ahead) = false), ∃ p7 : Option Addr, ∃ n8 n9 : Nat, CellsAt w2 x 6 [(.slice p7 n8 n9)] ∧
      ∃ (J10 : Int → World → Prop) (m10 : Int → World → Nat), J10 0 w2 ∧ ∀ i11 : Int, ∀ w12 : World, Within [k0, k1] w12 → J10 i11 w12 →
      ((decide (i11 < ((n8 : Nat) : Int))) = true → ∃ a13 : Addr, p7 = some a13 ∧ (0 ≤ i11 ∧ i11 < ((n8 : Nat) : Int)) ∧ ∃ dGTraceTold_14 : GTraceTold, CellsAt w12 (Addr.add a13 (0 + Int.toNat i11 * 2)) 0 (GTraceTold.cells dGTraceTold_14) ∧
       ∀ k15 : Nat, Fresh w12 [k0, k1] k15 →
       ((decide (dGTraceTold_14.at_ < ahead)) = true → ∀ w16 : World, Framed [k0, k1, k15] w12 w16 →
        CallsV Try.prog 23 [(.slice dGTraceTold_14.keys.p dGTraceTold_14.keys.l dGTraceTold_14.keys.c), (GKey.val k)] w16 [k0, k1, k15] fun r17 w17 => ∃ b18 : Bool, r17 = (.bool b18) ∧
         ((!b18) = true → ((.bool (decide (0 ≤ i11)) : Value) = .bool (isGoneP F k ahead) ∧ Quiet w w17)) ∧
         ((!b18) = false → (J10 (IntKind.wrap .i64 (i11 + 1)) w17) ∧ ((m10 (IntKind.wrap .i64 (i11 + 1)) w17) < (m10 i11 w12)))) ∧
       ((decide (dGTraceTold_14.at_ < ahead)) = false → ∀ w16 : World, Framed [k0, k1, k15] w12 w16 → (J10 (IntKind.wrap .i64 (i11 + 1)) w16) ∧ ((m10 (IntKind.wrap .i64 (i11 + 1)) w16) < (m10 i11 w12)))) ∧
      ((decide (i11 < ((n8 : Nat) : Int))) = false → ((.bool false : Value) = .bool (isGoneP F k ahead) ∧ Quiet w w12)) := by
    intro hno
    have hgone : isGoneP F k ahead = F.keys.any fun t => decide (t.1 < ahead) && !decide (k ∈ t.2) := by
      unfold isGoneP
      cases hg : getA k F.gone with
      | none => rfl
      | some p => simp only [hno p hg, Bool.false_or]
    have hkl : TC.length ≤ n := by
      have := hs.1
      rw [h.keys, List.length_map] at this
      exact this
    obtain ⟨hl, _⟩ := h2.toldAt
    refine ⟨vk.p, vk.l, vk.c, h2.read rfl, fun i w' => Quiet w w' ∧ 0 ≤ i ∧ i ≤ (TC.length : Int) ∧ ∀ (j : Nat) t, (j : Int) < i → TC[j]? = some t → (decide (t.1 < ahead) && !decide (k ∈ t.2.2)) = false, fun i _ => (TC.length - i).toNat,
      ⟨A2.quiet, by omega, by omega, fun j t hj => by omega⟩, ?_⟩
    rintro i w3 hw3 ⟨hq, hi0, hi1, hall⟩
    have A3 : Pt w [k0, k1] w3 := .of_within hq (by simp <;> omega) hw3
    refine ⟨fun hi => ?_, fun hi => ⟨?_, hq⟩⟩
    · simp only [decide_eq_true_eq] at hi
      have h3 := h.quiet hd hq
      obtain ⟨a, t, q1, q2, q3⟩ := h3.toldAt.2 i hi0 hi
      refine ⟨a, q1, ⟨hi0, hi⟩, ⟨t.1, t.2.1⟩, q3, ?_⟩
      rintro k15 ⟨f15, n15⟩
      have himm := h.told t (List.mem_of_getElem? q2)
      have hlk : t.2.2.length ≤ 1000000 := by
        have := hs.2.1 (t.1, t.2.2) (by rw [h.keys]; exact List.mem_map.2 ⟨t, List.mem_of_getElem? q2, rfl⟩)
        exact this
      have next : ∀ {w' : World}, Quiet w w' → (decide (t.1 < ahead) && !decide (k ∈ t.2.2)) = false → (Quiet w w' ∧ 0 ≤ IntKind.wrap .i64 (i + 1) ∧ IntKind.wrap .i64 (i + 1) ≤ (TC.length : Int) ∧ ∀ (j : Nat) t, (j : Int) < IntKind.wrap .i64 (i + 1) → TC[j]? = some t → (decide (t.1 < ahead) && !decide (k ∈ t.2.2)) = false) ∧ (TC.length - IntKind.wrap .i64 (i + 1) : Int).toNat < (TC.length - i : Int).toNat := by
        intro w' hq' ht
        rw [IntWalk.i64_in _ (by omega)]
        refine ⟨⟨hq', by omega, by omega, fun j u hj hu => ?_⟩, by omega⟩
        by_cases hji : (j : Int) < i
        · exact hall j u hji hu
        · have : j = i.toNat := by omega
          subst this
          rw [q2, Option.some.injEq] at hu
          rw [← hu]
          exact ht
      refine ⟨fun ha w4 g4 => ?_, fun ha w4 g4 => ?_⟩
      · have A4 := A3.frame (by simp <;> omega) g4
        refine A4.purIn (contains_ok (himm.quiet A4.quiet) hlk k) ?_
        rintro v w5 rfl A5 _
        refine ⟨_, rfl, fun hc => ⟨?_, A5.quiet⟩, fun hc => next A5.quiet (by rw [hc]; simp)⟩
        rw [hgone]
        have : (F.keys.any fun t => decide (t.1 < ahead) && !decide (k ∈ t.2)) = true := by
          rw [List.any_eq_true]
          refine ⟨(t.1, t.2.2), by rw [h.keys]; exact List.mem_map.2 ⟨t, List.mem_of_getElem? q2, rfl⟩, ?_⟩
          rw [hc]
          simpa using ha
        rw [this]
        simp [hi0]
      · have A4 := A3.frame (by simp <;> omega) g4
        have ha' : decide (t.1 < ahead) = false := ha
        exact next A4.quiet (by rw [ha']; rfl)
    · simp only [decide_eq_false_iff_not] at hi
      rw [hgone]
      have : (F.keys.any fun t => decide (t.1 < ahead) && !decide (k ∈ t.2)) = false := by
        rw [List.any_eq_false]
        intro u hu
        rw [h.keys] at hu
        obtain ⟨t, ht, rfl⟩ := List.mem_map.1 hu
        obtain ⟨j, hj⟩ := List.getElem?_of_mem ht
        have := hall j t (by have := (List.getElem?_eq_some_iff.1 hj).1; omega) hj
        rw [this]
        simp
      rw [this]
  cases hg : getA k F.gone with
  | none =>
    rw [hg] at hlk
    refine ⟨0, false, w2, hlk, .refl _ _, (fun hb => by cases hb), fun _ => ?_⟩
    exact rest (fun p hp => by rw [hg] at hp; cases hp)
  | some p =>
    rw [hg] at hlk
    refine ⟨p, true, w2, hlk, .refl _ _, fun _ => ⟨fun hp => ⟨?_, A2.quiet⟩, fun hp => rest (fun q hq => by rw [hg, Option.some.injEq] at hq; rw [← hq]; exact hp)⟩, fun hb => by cases hb⟩
    unfold isGoneP
    rw [hg]
    simp only
    rw [hp]
    rfl

theorem own_ok (hr : RepF O id w x F) (hd : Dom O w) {n : Nat} (hs : Short F n) (hn : n ≤ 1000000) (s : GSeen) (ahead : Int) :
    PurIn Try.prog 14 [.pointer (some x), GSeen.val s, .int .i64 ahead] w (fun v _ => v = .bool (ownBreaksP F s ahead)) := by
  refine calls14 (fun v w' => v = .bool (ownBreaksP F s ahead) ∧ Quiet w w') x s ahead w ?_
  unfold NF14
  rintro k0 ⟨f0, n0⟩ w1 g1
  have A1 := (Pt.start w).frame (by simp <;> omega) g1
  refine A1.purIn (isFast_ok (hr.quiet hd A1.quiet) (A1.quiet.dom hd) hs hn _ _) ?_
  rintro v w2 rfl A2 _
  refine ⟨_, _, rfl, ?_⟩
  rintro k5 ⟨f5, n5⟩ k6 ⟨f6, n6⟩
  generalize hD : isFastP F s.Ask.Key ahead = D
  refine ⟨fun hh w7 g7 => ⟨?_, (A2.frame (by simp <;> omega) g7).quiet⟩, fun hh w7 g7 => ?_⟩
  · simp at hh
    simp [ownBreaksP, hh, hD]
  · simp at hh
    have A7 := A2.frame (by simp <;> omega) g7
    refine A7.pur (whole_ok _) fun w8 A8 _ => ⟨_, rfl, fun hw => ?_, fun hw => ⟨?_, A8.quiet⟩⟩
    · refine A8.purIn (isGone_ok (hr.quiet hd A8.quiet) (A8.quiet.dom hd) hs hn _ _) ?_
      rintro v w10 rfl A10 _
      simp at hw
      refine ⟨_, rfl, fun hgn => ⟨by simp [ownBreaksP, hh, hw, hgn], A10.quiet⟩, fun hgn => ⟨fun hb => ?_, fun hb => ⟨?_, A10.quiet⟩⟩⟩
      · cases D with
        | none => cases hb
        | some d =>
          refine A10.pur (turned_ok _ _) fun w12 A12 _ => ⟨_, rfl, ?_, A12.quiet⟩
          simp [ownBreaksP, hh, hw, hgn, hD]
      · cases D with
        | some d => cases hb
        | none => simp [ownBreaksP, hh, hw, hgn, hD]
    · simp at hw
      simp [ownBreaksP, hh, hw]
end

/-- Is a key there twice? -/
theorem twice_ok {O : Owner} {w : World} {s : Sl} {ks : List GKey} (h : Imm O w s.p s.l GKey.cells 2 ks) (hb : ks.length ≤ 1000000) : PurIn Try.prog 24 [.slice s.p s.l s.c] w (fun v _ => v = .bool (twiceP ks)) := by
  refine calls24 (fun v w' => v = .bool (twiceP ks) ∧ Quiet w w') s w ?_
  unfold NF24
  refine ⟨some w.heap.size, _, run_makeMap0 74 w, ⟨(quiet_alloc w _).size, by simp⟩, ?_⟩
  have hq1 := quiet_alloc w (.map #[] 0)
  have hm1 : MapK GKey.val (w.alloc (.map #[] 0)) w.heap.size [] := mapK_made
  have hs1 : w.heap.size < (w.alloc (.map #[] 0)).heap.size := by show _ < (w.heap.push _).size; simp
  generalize w.alloc (.map #[] 0) = w1 at hq1 hm1 hs1
  have hl := h.1
  refine ⟨fun i w' => Quiet w w' ∧ w.heap.size < w'.heap.size ∧ 0 ≤ i ∧ i ≤ (ks.length : Int) ∧ (ks.take i.toNat).Nodup ∧ ∃ l, MapK GKey.val w' w.heap.size l ∧ (∀ k, getK k l = if k ∈ ks.take i.toNat then some (.bool true) else none), fun i _ => (ks.length - i).toNat,
    ⟨hq1, hs1, by omega, by omega, by simp, [], hm1, fun k => by simp [getK]⟩, ?_⟩
  rintro i w4 _ ⟨hq, hsz, hi0, hi1, hnd, l, hm, hget⟩
  refine ⟨fun hi => ?_, fun hi => ⟨?_, hq⟩⟩
  · simp only [decide_eq_true_eq] at hi
    obtain ⟨a, k, e1, e2, e3⟩ := (h.quiet hq).at hi0 hi
    refine ⟨a, e1, ⟨hi0, hi⟩, k, e3, ?_⟩
    rintro k7 ⟨f7, n7⟩ w8 g8
    have A4 : Pt w [] w4 := ⟨hq, by simp, by simp⟩
    have A8 := A4.frame (by simp <;> omega) g8
    have hm8 := hm.kept (g8.same w.heap.size hsz (by simp; omega))
    have hlk := run_lookupK key_fit Try.underlying74 hm8 (zero4 w8) k false
    rw [hget] at hlk
    have hlt : i.toNat < ks.length := by omega
    by_cases hk : k ∈ ks.take i.toNat
    · simp only [hk, if_true] at hlk
      refine ⟨true, w8, hlk, .refl _ _, fun _ => ⟨?_, A8.quiet⟩, fun hf => by cases hf⟩
      have : ¬ ks.Nodup := fun hn => by
        have h2 : ks.take (i.toNat + 1) = ks.take i.toNat ++ [k] := by
          rw [List.take_succ_eq_append_getElem hlt, (List.getElem?_eq_some_iff.1 e2).2]
        have h3 := hn.sublist (List.take_sublist (i.toNat + 1) ks)
        rw [h2, List.nodup_append] at h3
        exact h3.2.2 k hk k (by simp) rfl
      simp [twiceP, this]
    · simp only [hk, if_false] at hlk
      refine ⟨false, w8, hlk, .refl _ _, fun hf => (by cases hf), fun _ => ?_⟩
      obtain ⟨w11, r1, r2, r3, r4, r5, r6, r7⟩ := run_updateK key_fit Try.underlying74 hm8 k (.bool true)
      have ho : Only w.heap.size w8 w11 := .of_eq r3 r4 r5 r6 r7
      refine ⟨w11, r1, ⟨by omega, fun b hb => r7 b (by simp at hb; omega)⟩, ?_⟩
      rw [IntWalk.i64_in _ (by omega)]
      have h2 : ks.take (i + 1).toNat = ks.take i.toNat ++ [k] := by
        rw [show (i + 1).toNat = i.toNat + 1 by omega, List.take_succ_eq_append_getElem hlt, (List.getElem?_eq_some_iff.1 e2).2]
      have hs8 := g8.size
      refine ⟨⟨⟨r3.trans A8.quiet.os, r4.trans A8.quiet.tape, r5.trans A8.quiet.output, by have := A8.quiet.size; omega, fun b hb => (r7 b (by omega)).trans (A8.quiet.same b hb)⟩, by omega, by omega, by omega, ?_, _, r2, fun k' => ?_⟩, ?_⟩
      · rw [h2, List.nodup_append]
        exact ⟨hnd, by simp, fun a ha b hb => by simp only [List.mem_singleton] at hb; subst hb; exact fun e => hk (e ▸ ha)⟩
      · rw [h2]
        have hput : ∀ (l : List (GKey × Value)), getK k' (putK k (.bool true) l) = if k' = k then some (.bool true) else getK k' l := by
          intro l
          induction l with
          | nil => simp [putK, getK]
          | cons y l ih =>
            obtain ⟨y1, y2⟩ := y
            simp only [putK]
            by_cases hky : k = y1
            · simp only [hky, if_true, getK]
              by_cases h : k' = y1 <;> simp [h]
            · simp only [hky, if_false, getK, ih]
              by_cases h : k' = y1
              · have : ¬ k' = k := fun e => hky (e.symm.trans h)
                simp [h, Ne.symm hky]
              · simp [h]
        rw [hput, hget]
        by_cases h : k' = k
        · simp [h]
        · simp [h]
      · show (ks.length - (i + 1) : Int).toNat < (ks.length - i : Int).toNat
        omega
  · simp only [decide_eq_false_iff_not] at hi
    rw [List.take_of_length_le (by omega)] at hnd
    simp [twiceP, hnd]
end Go.Proofs.Ytlfphbmbehbcjaa
