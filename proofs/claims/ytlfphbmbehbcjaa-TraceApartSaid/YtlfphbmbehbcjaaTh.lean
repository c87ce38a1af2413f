/- Which reply of a row breaks a rule first: the contract of First. -/
import Derived.Test.YtlfphbmbehbcjaaTg
set_option linter.unusedSimpArgs false
set_option linter.unusedVariables false
namespace Go.Proofs.Ytlfphbmbehbcjaa
open Go Go.Vx

/-- A row in memory: what was seen, with the keys of each reply. -/
def RowAt (O : Owner) (w : World) (p : Option Addr) (n : Nat) (L : Row) : Prop :=
  Imm O w p n (fun x : GSeen × List GKey => GSeen.cells x.1) 55 L ∧ ∀ x ∈ L, Imm O w x.1.Reply.Keys.p x.1.Reply.Keys.l GKey.cells 2 x.2 ∧ x.2.length ≤ 1000000
theorem RowAt.since {O O' : Owner} {w0 w : World} {p : Option Addr} {n : Nat} {L : Row} (h : RowAt O w0 p n L) (hs : Since O' w0 w) : RowAt O' w p n L := ⟨h.1.since hs, fun x hx => ⟨(h.2 x hx).1.since hs, (h.2 x hx).2⟩⟩

def intV (i : Int) : Value := .int .i64 i
theorem int_fit : KeyFit Try.prog 3 intV where
  eq := ⟨_, Try.underlying3, .inl fun a b => by simp [Instr.sameNow, intV]; rw [Bool.eq_iff_iff]; simp⟩
  check := fun em a w => by kernel_rfl
  stays := fun a => by simp [Instr.sameBits, intV]
theorem zero43 (w : World) : (zeroValue 43).run Try.prog w = .ok (.pointer none) w := by kernel_rfl
theorem min_run (a b : Int) (w : World) : Sem.run Try.prog (GOp.sem (.builtin .min #[3, 3] 3 [(.int .i64 a), (.int .i64 b)])) w = .ok (.int .i64 (min a b)) w := by
  simp [GOp.sem, Go.builtin, Builtin.min_, Builtin.min2]
  rw [Int.min_def]
  split <;> split <;> omega

theorem short_learn {f : Fx} {n : Nat} (h : Short f n) (s : GSeen) {ks : List GKey} (hk : ks.length ≤ 1000000) (i : Int) : Short (learnP f s ks i) (n + 1) := by
  have up : Short f (n + 1) := ⟨by have := h.1; omega, h.2.1, fun p hp => by have := h.2.2 p hp; omega⟩
  unfold learnP
  split
  · split
    · exact up
    · exact up
  · split
    · split
      · exact up
      · exact up
    · split
      · have h1 : Short (if s.Reply.Has && !s.Reply.Desc.Configurable then { f with fast := putA s.Ask.Key ((getA s.Ask.Key f.fast).getD [] ++ [(i, s.Reply.Desc)]) f.fast } else f) (n + 1) := by
          split
          · refine ⟨up.1, up.2.1, fun p hp => ?_⟩
            rcases mem_putA hp with hp | hp
            · have := h.2.2 p hp; omega
            · rw [hp]
              simp only [List.length_append, List.length_cons, List.length_nil]
              cases hg : getA s.Ask.Key f.fast with
              | none => simp
              | some l =>
                have := h.2.2 _ (getA_mem hg)
                simp only [Option.getD_some]
                simp only at this
                omega
          · exact up
        dsimp only
        split
        · exact ⟨h1.1, h1.2.1, h1.2.2⟩
        · exact h1
      · split
        · split
          · refine ⟨by have := h.1; simp; omega, fun t ht => ?_, up.2.2⟩
            rcases List.mem_append.1 ht with ht | ht
            · exact h.2.1 t ht
            · simp only [List.mem_singleton] at ht
              rw [ht]
              exact hk
          · exact up
        · exact up
theorem short_state {L : Row} (hL : ∀ x ∈ L, x.2.length ≤ 1000000) (t : Int) : ∀ {i : Nat}, i ≤ L.length → Short (stateP L i t) i
  | 0, _ => ⟨Nat.zero_le _, (fun t ht => by cases ht), (fun p hp => by cases hp)⟩
  | i + 1, hi => by
    have hx : L[i]? = some L[i] := by simp [show i < L.length by omega]
    rw [state_succ hx]
    have ih := short_state hL t (i := i) (by omega)
    split
    · exact short_learn ih _ (hL _ (List.mem_of_getElem? hx)) _
    · exact ⟨by have := ih.1; omega, ih.2.1, fun p hp => by have := ih.2.2 p hp; omega⟩

/-- The objects that have been met: what each is, and where its facts lie. -/
abbrev Met := List (Int × Nat)
def metV (T : Met) : List (Int × Value) := T.map fun t => (t.1, .pointer (some ⟨t.2, 0, none⟩))
theorem met_look (x : Int) : ∀ T : Met, (getK x (metV T) = none ∧ x ∉ T.map (·.1)) ∨ ∃ (j : Nat) (t : Int × Nat), T[j]? = some t ∧ t.1 = x ∧ getK x (metV T) = some (.pointer (some ⟨t.2, 0, none⟩))
  | [] => .inl ⟨rfl, by simp⟩
  | t :: T => by
    simp only [metV, List.map_cons, getK]
    by_cases hx : x = t.1
    · exact .inr ⟨0, t, rfl, hx.symm, by simp [hx]⟩
    · simp only [hx, if_false]
      rcases met_look x T with ⟨h1, h2⟩ | ⟨j, u, h1, h2, h3⟩
      · exact .inl ⟨h1, by simp [hx]; simpa using h2⟩
      · exact .inr ⟨j + 1, u, by simpa using h1, h2, h3⟩

structure FirstInv (L : Row) (w0 : World) (mb : Nat) (i : Nat) (O : Owner) (T : Met) (w : World) : Prop where
  since : Since O w0 w
  dom : Dom O w
  own : O mb = some (0, 0, 0, 0)
  map : MapK intV w mb (metV T)
  nodup : (T.map (·.1)).Nodup
  facts : ∀ j t, T[j]? = some t → RepF O (j + 1) w ⟨t.2, 0, none⟩ (stateP L i t.1)
  none : ∀ x, x ∉ T.map (·.1) → stateP L i x = Fx.new
  len : i ≤ L.length
  ok : ∀ k, k < i → breaksAt L k = false

theorem RepF.ext {S : Tag → Prop} {O O' : Owner} {id : Nat} {w w' : World} {x : Addr} {F : Fx} (h : RepF O id w x F) (he : Ext S O w O' w') (hs : ∀ t, S (id, t)) : RepF O' id w' x F := by
  obtain ⟨b, g, f, vk, TC, FC, h⟩ := h
  exact ⟨b, g, f, vk, TC, FC, h.move (fun k t hk => he.kept k _ hk (hs t)) he.size he.free⟩

/-- The round behind the look-up: the object's facts are there. -/
theorem round_ok {L : Row} {w0 w4 : World} {mb i : Nat} {O4 : Owner} {T4 : Met} (hI : FirstInv L w0 mb i O4 T4 w4) (hlen : L.length ≤ 900000) (hks : ∀ x ∈ L, x.2.length ≤ 1000000) {x : GSeen × List GKey} (hx : L[i]? = some x) (hkx : Imm O4 w4 x.1.Reply.Keys.p x.1.Reply.Keys.l GKey.cells 2 x.2)
    {O : Owner} {w1 : World} {k7 j : Nat} {t : Int × Nat} {T : Met} (hE : Ext (fun t => t ≠ (0, 0, 0, 0)) O4 w4 O w1) (hk7 : w4.heap.size ≤ k7) (hk7' : k7 < w1.heap.size) (hn7 : O k7 = none)
    (hown : O mb = some (0, 0, 0, 0)) (hmap : MapK intV w1 mb (metV T)) (hnd : (T.map (·.1)).Nodup) (hj : T[j]? = some t) (ht : t.1 = x.1.Thing) (hf : RepF O (j + 1) w1 ⟨t.2, 0, none⟩ (stateP L i t.1))
    (hother : ∀ j' t', T[j']? = some t' → j' ≠ j → RepF O (j' + 1) w1 ⟨t'.2, 0, none⟩ (stateP L i t'.1)) (hnone : ∀ y, y ∉ T.map (·.1) → stateP L i y = Fx.new)
    {K R : World → Prop} (hK : ∀ O' w', FirstInv L w0 mb (i + 1) O' T w' → K w') (hR : ∀ w', Quiet w0 w' → breaksAt L i = true → R w') :
    CallsV Try.prog 8 [(.pointer (some ⟨t.2, 0, none⟩)), (GSeen.val x.1), (.int .i64 (min x.1.From i))] w1 [k7] fun r19 w19 => ∃ b20 : Bool, r19 = (.bool b20) ∧ (b20 = true → R w19) ∧
      (b20 = false → CallsV Try.prog 9 [(.pointer (some ⟨t.2, 0, none⟩)), (GSeen.val x.1), (.int .i64 i)] w19 [k7] fun r21 w21 => r21 = (.tuple #[]) ∧ K w21) := by
  have hs := short_state hks t.1 hI.len
  have hil : i < L.length := (List.getElem?_eq_some_iff.1 hx).1
  have himm : Imm O w1 x.1.Reply.Keys.p x.1.Reply.Keys.l GKey.cells 2 x.2 := hkx.move hE.size hE.free
  have hkl := hks x (List.mem_of_getElem? hx)
  refine CallsV.of (breaks_ok hf hE.dom hs (by omega) x.1 x.2 himm hkl _) ?_
  rintro v w19 ⟨rfl, hq⟩
  refine ⟨⟨hq.size, fun b hb => by simp only [List.mem_singleton] at hb; rw [hb]; exact hq.same _ hk7'⟩, _, rfl, fun hb => hR w19 ?_ ?_, fun hb => ?_⟩
  · exact (hI.since.ext (hE.quiet hq)).quiet
  · unfold breaksAt
    rw [hx]
    simp only
    rw [← ht]
    exact hb
  · have hd19 := hq.dom hE.dom
    refine CallsV.of (learn_ok (hf.quiet hE.dom hq) hd19 hs (by omega) x.1 x.2 (himm.quiet hq) i) ?_
    rintro v w21 ⟨rfl, O', hst, hd21, hf21⟩
    have hn7' : k7 < w19.heap.size := Nat.lt_of_lt_of_le hk7' hq.size
    refine ⟨hst.kept fun b hb => by simp only [List.mem_singleton] at hb; rw [hb]; exact ⟨hn7, hn7'⟩, rfl, hK O' w21 ?_⟩
    have hE21 : Ext (fun t => t.1 ≠ j + 1 ∧ t ≠ (0, 0, 0, 0)) O4 w4 O' w21 := ((hE.mono fun t h => h.2).quiet hq).step hst fun t h => h.1
    have hmb21 : O' mb = some (0, 0, 0, 0) ∧ w21.heap[mb]? = w1.heap[mb]? := by
      obtain ⟨h1, h2⟩ := hst.other hown (by simp) hd19
      exact ⟨h1, h2.trans (hq.same mb (hE.dom mb (by rw [hown]; simp)))⟩
    refine ⟨hI.since.ext hE21, hd21, hmb21.1, hmap.kept hmb21.2, hnd, fun j' t' hj' => ?_, fun y hy => ?_, by omega, fun k hk => ?_⟩
    · rw [state_succ hx]
      by_cases hjj : j' = j
      · subst hjj
        rw [hj, Option.some.injEq] at hj'
        subst hj'
        rw [if_pos ht.symm]
        exact hf21
      · have hne : ¬ x.1.Thing = t'.1 := fun e => by
          have h1 : (T.map (·.1))[j']? = some t'.1 := by rw [List.getElem?_map, hj']; rfl
          have h2 : (T.map (·.1))[j]? = some t.1 := by rw [List.getElem?_map, hj]; rfl
          rw [← e, ← ht] at h1
          exact hjj (by
            have hl1 := (List.getElem?_eq_some_iff.1 h1).1
            exact (List.getElem?_inj hl1 hnd).1 (h1.trans h2.symm))
        rw [if_neg hne]
        exact ((hother j' t' hj' hjj).quiet hE.dom hq).step hd19 hst (by omega)
    · rw [state_succ hx, if_neg (fun e => hy (by rw [← e, ← ht]; exact List.mem_map.2 ⟨t, List.mem_of_getElem? hj, rfl⟩))]
      exact hnone y hy
    · by_cases hki : k < i
      · exact hI.ok k hki
      · have : k = i := by omega
        subst this
        unfold breaksAt
        rw [hx]
        simp only
        rw [← ht]
        exact hb

theorem first_ok {w : World} {s : Sl} {L : Row} (h : RowAt (fun _ => none) w s.p s.l L) (hlen : L.length ≤ 900000) : PurIn Try.prog 7 [.slice s.p s.l s.c] w (fun v _ => v = .int .i64 (firstP L)) := by
  refine calls7 (fun v w' => v = .int .i64 (firstP L) ∧ Quiet w w') s w ?_
  unfold NF7
  have hks : ∀ x ∈ L, x.2.length ≤ 1000000 := fun x hx => (h.2 x hx).2
  have hl := h.1.1
  refine ⟨some w.heap.size, _, run_makeMap0 42 w, ⟨(quiet_alloc w _).size, by simp⟩, ?_⟩
  have hq1 := quiet_alloc w (.map #[] 0)
  have hm1 : MapK intV (w.alloc (.map #[] 0)) w.heap.size (metV []) := mapK_made
  have hs1 : w.heap.size < (w.alloc (.map #[] 0)).heap.size := by show _ < (w.heap.push _).size; simp
  generalize hmb : w.heap.size = mb at hm1 hs1
  generalize w.alloc (.map #[] 0) = w1 at hq1 hm1 hs1
  refine ⟨fun i w' => 0 ≤ i ∧ ∃ O T, FirstInv L w mb i.toNat O T w', fun i _ => (L.length - i).toNat, ⟨by omega, (fun k => if k = mb then some (0, 0, 0, 0) else none), [], ⟨⟨hq1.os, hq1.tape, hq1.output, hq1.size, fun k hk => by simp; omega, hq1.same⟩, fun k hk => ?_, by simp, hm1, by simp, fun j t ht => by simp at ht, fun x _ => rfl, by simp, fun k hk => by simp at hk⟩⟩, ?_⟩
  · by_cases hkm : k = mb
    · rw [hkm]; exact hs1
    · simp [hkm] at hk
  rintro i w4 _ ⟨hi0, O4, T4, hI⟩
  have hI0 := hI
  obtain ⟨i', rfl⟩ : ∃ n : Nat, i = (n : Int) := ⟨i.toNat, by omega⟩
  simp only [Int.toNat_natCast] at hI
  refine ⟨fun hi => ?_, fun hi => ⟨?_, hI.since.quiet⟩⟩
  · simp only [decide_eq_true_eq] at hi
    have hrow := h.since hI.since
    obtain ⟨a, x, e1, e2, e3⟩ := hrow.1.at hi0 hi
    simp only [Int.toNat_natCast] at e2
    refine ⟨a, e1, ⟨hi0, hi⟩, x.1, e3, ?_⟩
    rintro k7 ⟨f7, n7⟩ w8 g8
    have hkx := (hrow.2 x (List.mem_of_getElem? e2)).1
    have hE0 : Ext (fun _ => True) O4 w4 O4 w4 := .refl hI.dom
    have hE8 : Ext (fun _ => True) O4 w4 O4 w8 := hE0.frame (by simp <;> omega) g8
    have hn7 : O4 k7 = none := by
      cases hO : O4 k7 with
      | none => rfl
      | some t => have := hI.dom k7 (by rw [hO]; simp); omega
    have hk8 : k7 < w8.heap.size := g8.live k7 (by simp)
    have hmap8 := hI.map.kept (hE8.kept mb _ hI.own trivial).2
    have hlk := run_lookupK int_fit Try.underlying42 hmap8 (zero43 w8) x.1.Thing false
    have hend : ∀ w', Quiet w w' → breaksAt L i' = true → (Value.int .i64 (i' : Int) : Value) = .int .i64 (firstP L) ∧ Quiet w w' := by
      intro w' hq hb
      refine ⟨?_, hq⟩
      unfold firstP
      rcases firstFrom_spec L L.length 0 with ⟨q1, q2⟩ | ⟨q, q1, q2, q3, q4, q5⟩
      · have := q2 i' (by omega) (by omega)
        rw [hb] at this
        cases this
      · rw [q1]
        have h1 : ¬ q < i' := fun hlt => by rw [hI.ok q hlt] at q4; cases q4
        have h2 : ¬ i' < q := fun hlt => by have := q5 i' (by omega) hlt; rw [hb] at this; cases this
        have : q = i' := by omega
        rw [this]
    have hnext : ∀ O' T' w', FirstInv L w mb (i' + 1) O' T' w' → (0 ≤ IntKind.wrap .i64 ((i' : Int) + 1) ∧ ∃ O T, FirstInv L w mb (IntKind.wrap .i64 ((i' : Int) + 1)).toNat O T w') ∧ ((L.length : Int) - IntKind.wrap .i64 ((i' : Int) + 1)).toNat < ((L.length : Int) - (i' : Int)).toNat := by
      intro O' T' w' hI'
      rw [IntWalk.i64_in _ (by omega)]
      exact ⟨⟨by omega, O', T', by rw [show ((i' : Int) + 1).toNat = i' + 1 by omega]; exact hI'⟩, by omega⟩
    rcases met_look x.1.Thing T4 with ⟨q1, q2⟩ | ⟨j, t, q1, q2, q3⟩
    · -- a new one
      rw [q1] at hlk
      refine ⟨none, w8, hlk, .refl _ _, fun _ => ?_, fun hf => by cases hf⟩
      have Q1 := quiet_alloc w8 (.map #[] 0)
      have hma : MapK GKey.val (w8.alloc (.map #[] 0)) w8.heap.size [] := mapK_made
      have hsa : w8.heap.size < (w8.alloc (.map #[] 0)).heap.size := by show _ < (w8.heap.push _).size; simp
      refine ⟨some w8.heap.size, _, run_makeMap0 44 w8, ⟨Q1.size, fun b hb => by simp only [List.mem_singleton] at hb; rw [hb]; exact Q1.same _ hk8⟩, ?_⟩
      generalize hga : w8.heap.size = ga at hma hsa
      generalize w8.alloc (.map #[] 0) = w12 at Q1 hma hsa
      have Q2 := quiet_alloc w12 (.map #[] 0)
      have hmf : MapK GKey.val (w12.alloc (.map #[] 0)) w12.heap.size [] := mapK_made
      have hsf : w12.heap.size < (w12.alloc (.map #[] 0)).heap.size := by show _ < (w12.heap.push _).size; simp
      have hk12 : k7 < w12.heap.size := by omega
      refine ⟨some w12.heap.size, _, run_makeMap0 45 w12, ⟨Q2.size, fun b hb => by simp only [List.mem_singleton] at hb; rw [hb]; exact Q2.same _ hk12⟩, ?_⟩
      have hma2 := hma.kept (Q2.same ga (by omega))
      generalize hgf : w12.heap.size = gf at hmf hsf
      generalize w12.alloc (.map #[] 0) = w14 at Q2 hmf hsf hma2
      rintro k15 ⟨f15, n15⟩ w16 g16 hk15
      have hE14 : Ext (fun _ => True) O4 w4 O4 w14 := (hE8.quiet Q1).quiet Q2
      have hE16 : Ext (fun _ => True) O4 w4 O4 w16 := hE14.frame (by have := hE8.size; have := Q1.size; have := Q2.size; simp <;> omega) g16
      have s8 := hE8.size
      have hka : ga ≠ k7 := by omega
      have hkf : gf ≠ k7 := by omega
      have hma16 := hma2.kept (g16.same ga (by omega) (by simp; omega))
      have hmf16 := hmf.kept (g16.same gf (by omega) (by simp; omega))
      have hmap16 := hI.map.kept (hE16.kept mb _ hI.own trivial).2
      obtain ⟨w17, s1, s2, s3, s4, s5, s6, s7⟩ := run_updateK int_fit Try.underlying42 hmap16 x.1.Thing (.pointer (some ⟨k15, 0, none⟩))
      have hmbl : mb < w4.heap.size := hI.dom mb (by rw [hI.own]; simp)
      have s16 := g16.size
      have ho17 : Only mb w16 w17 := .of_eq s3 s4 s5 s6 s7
      have hk7n : k7 ≠ mb := by omega
      refine ⟨w17, s1, ⟨by omega, fun b hb => by simp only [List.mem_singleton] at hb; rw [hb]; exact s7 _ hk7n⟩, min x.1.From i', fun w => min_run _ _ w, ?_⟩
      have hE17 : Ext (fun t => t ≠ (0, 0, 0, 0)) O4 w4 O4 w17 := (hE16.mono fun _ _ => trivial).tch (ho17.touch hE16.dom hI.own) fun t ht => ht
      have hk15s : k15 < w16.heap.size := g16.live k15 (by simp)
      have hnew : ∀ b, w4.heap.size ≤ b → O4 b = none := fun b hb => by
        cases hO : O4 b with
        | none => rfl
        | some t => have := hI.dom b (by rw [hO]; simp); omega
      have hE' := ((hE17.give hI.dom (b := ga) (by omega) (by omega) (T4.length + 1, 1, 0, 0)).give hI.dom (b := gf) (by omega) (by omega) (T4.length + 1, 3, 0, 0)).give hI.dom (b := k15) (by omega) (by omega) (T4.length + 1, 0, 0, 0)
      generalize hO' : ((O4.give ga (T4.length + 1, 1, 0, 0)).give gf (T4.length + 1, 3, 0, 0)).give k15 (T4.length + 1, 0, 0, 0) = O' at hE'
      have ok15 : O' k15 = some (T4.length + 1, 0, 0, 0) := by rw [← hO']; exact Owner.give_same _ _ _
      have oga : O' ga = some (T4.length + 1, 1, 0, 0) := by rw [← hO', Owner.give_ne _ _ (by omega), Owner.give_ne _ _ (by omega)]; exact Owner.give_same _ _ _
      have ogf : O' gf = some (T4.length + 1, 3, 0, 0) := by rw [← hO', Owner.give_ne _ _ (by omega)]; exact Owner.give_same _ _ _
      have omb : O' mb = some (0, 0, 0, 0) := by rw [← hO', Owner.give_ne _ _ (by omega), Owner.give_ne _ _ (by omega), Owner.give_ne _ _ (by omega)]; exact hI.own
      have ok7 : O' k7 = none := by rw [← hO', Owner.give_ne _ _ (by simp at n15; omega), Owner.give_ne _ _ (by omega), Owner.give_ne _ _ (by omega)]; exact hn7
      have hT : (T4 ++ [(x.1.Thing, k15)])[T4.length]? = some (x.1.Thing, k15) := by simp
      have hput : putK x.1.Thing (.pointer (some ⟨k15, 0, none⟩)) (metV T4) = metV (T4 ++ [(x.1.Thing, k15)]) := by
        have hfn : findK x.1.Thing (metV T4) = none := by
          cases hfd : findK x.1.Thing (metV T4) with
          | none => rfl
          | some q => obtain ⟨v, _, hv⟩ := findK_some hfd; rw [q1] at hv; cases hv
        rw [(findK_none hfn).2]
        simp [metV]
      rw [hput] at s2
      have hrep : RepF O' (T4.length + 1) w17 ⟨k15, 0, none⟩ (stateP L i' x.1.Thing) := by
        rw [hI.none _ q2]
        refine ⟨k15, ga, gf, ⟨none, 0, 0⟩, [], [], rfl, ok15, ?_, oga, hma16.kept (s7 ga (by omega)), ⟨rfl, .inl ⟨rfl, rfl⟩⟩, (fun k hk => by cases hk), rfl, (fun t ht => by cases ht), ogf, hmf16.kept (s7 gf (by omega)), rfl, (fun i c hc => by simp at hc)⟩
        rw [s7 k15 (by omega), hk15]
        rfl
      refine round_ok hI hlen hks e2 hkx (T := T4 ++ [(x.1.Thing, k15)]) (j := T4.length) (t := (x.1.Thing, k15)) hE' f7 (by omega) ok7 omb s2 ?_ hT rfl hrep (fun j' t' hj' hne => ?_) (fun y hy => ?_) (K := fun w' => (0 ≤ IntKind.wrap .i64 ((i' : Int) + 1) ∧ ∃ O T, FirstInv L w mb (IntKind.wrap .i64 ((i' : Int) + 1)).toNat O T w') ∧ ((L.length : Int) - IntKind.wrap .i64 ((i' : Int) + 1)).toNat < ((L.length : Int) - (i' : Int)).toNat) (R := fun w' => (Value.int .i64 (i' : Int) : Value) = .int .i64 (firstP L) ∧ Quiet w w') (fun O'' w' hI' => hnext O'' _ w' hI') (fun w' hq hb => hend w' hq hb)
      · rw [List.map_append, List.nodup_append]
        exact ⟨hI.nodup, by simp, fun a ha b hb => by simp only [List.map_cons, List.map_nil, List.mem_singleton] at hb; rw [hb]; exact fun e => q2 (e ▸ ha)⟩
      · have hlt : j' < T4.length := by
          have := (List.getElem?_eq_some_iff.1 hj').1
          simp at this
          omega
        rw [List.getElem?_append_left hlt] at hj'
        exact (hI.facts j' t' hj').ext hE' fun t => by simp
      · refine hI.none y fun hm => hy ?_
        rw [List.map_append]
        exact List.mem_append_left _ hm
    · -- one that was met
      rw [q3] at hlk
      refine ⟨some ⟨t.2, 0, none⟩, w8, hlk, .refl _ _, (fun hf => by cases hf), fun _ => ⟨min x.1.From i', fun w => min_run _ _ w, ?_⟩⟩
      have hE' : Ext (fun t => t ≠ (0, 0, 0, 0)) O4 w4 O4 w8 := hE8.mono fun _ _ => trivial
      exact round_ok hI hlen hks e2 hkx (T := T4) (j := j) (t := t) hE' f7 hk8 hn7 hI.own hmap8 hI.nodup q1 q2 ((hI.facts j t q1).ext hE8 fun _ => trivial) (fun j' t' hj' _ => (hI.facts j' t' hj').ext hE8 fun _ => trivial) hI.none (K := fun w' => (0 ≤ IntKind.wrap .i64 ((i' : Int) + 1) ∧ ∃ O T, FirstInv L w mb (IntKind.wrap .i64 ((i' : Int) + 1)).toNat O T w') ∧ ((L.length : Int) - IntKind.wrap .i64 ((i' : Int) + 1)).toNat < ((L.length : Int) - (i' : Int)).toNat) (R := fun w' => (Value.int .i64 (i' : Int) : Value) = .int .i64 (firstP L) ∧ Quiet w w') (fun O'' w' hI' => hnext O'' _ w' hI') (fun w' hq hb => hend w' hq hb)
  · simp only [decide_eq_false_iff_not] at hi
    have hil : i' = L.length := by have := hI.len; omega
    unfold firstP
    rcases firstFrom_spec L L.length 0 with ⟨q1, _⟩ | ⟨q, q1, q2, q3, q4, q5⟩
    · rw [q1]
    · rw [hI.ok q (by omega)] at q4
      cases q4
end Go.Proofs.Ytlfphbmbehbcjaa
