/- The functions over descriptors and values: what they answer. -/
import Derived.Test.YtlfphbmbehbcjaaNf
import Derived.Test.YtlfphbmbehbcjaaTa
import Derived.Test.YtlfphbmbehbcjaaVxS
import Derived.IntWalk
set_option linter.unusedSimpArgs false
set_option linter.unusedVariables false
namespace Go.Proofs.Ytlfphbmbehbcjaa
open Go Go.Vx

theorem sameV (a b : GValue) : ((a.Kind == b.Kind) && ((a.Num == b.Num) && (strB .eql a.Str b.Str))) = decide (a = b) := GValue.eqB_eq a b
theorem sameK (a b : GKey) : ((strB .eql a.Str b.Str) && (a.Sym == b.Sym)) = decide (a = b) := GKey.eqB_eq a b

theorem data_ok (d : GDesc) : Pur Try.prog 18 [GDesc.val d] (.bool (dataD d)) := by
  intro w
  refine calls18 _ _ _ ?_
  unfold NF18
  rintro k0 ⟨f0, n0⟩
  refine ⟨fun h w1 g1 => ?_, fun h w1 g1 => ?_⟩ <;> exact ⟨by simp [dataD, h], ((Pt.start w).frame (by simp <;> omega) g1).quiet⟩
theorem acc_ok (d : GDesc) : Pur Try.prog 31 [GDesc.val d] (.bool (accD d)) := by
  intro w
  refine calls31 _ _ _ ?_
  unfold NF31
  rintro k0 ⟨f0, n0⟩
  refine ⟨fun h w1 g1 => ?_, fun h w1 g1 => ?_⟩ <;> exact ⟨by simp [accD, h], ((Pt.start w).frame (by simp <;> omega) g1).quiet⟩
theorem fun_ok (v : GValue) : Pur Try.prog 32 [GValue.val v] (.bool (funV v)) := by
  intro w
  refine calls32 _ _ _ ?_
  unfold NF32
  rintro k0 ⟨f0, n0⟩
  refine ⟨fun h w1 g1 => ?_, fun h w1 g1 => ?_⟩ <;> exact ⟨by simp [funV, h], ((Pt.start w).frame (by simp <;> omega) g1).quiet⟩
theorem same_ok (a b : GValue) : Pur Try.prog 13 [GValue.val a, GValue.val b] (.bool (decide (a = b))) := by
  intro w
  refine calls13 _ _ _ _ ?_
  unfold NF13
  rintro k0 ⟨f0, n0⟩ k1 ⟨f1, n1⟩ w1 g1
  exact ⟨by rw [sameV], ((Pt.start w).frame (by simp <;> omega) g1).quiet⟩
theorem value_ok (d : GDesc) (v side : GValue) (b : Bool) : Pur Try.prog 16 [GDesc.val d, GValue.val v, GValue.val side, .bool b] (.bool (valueD d v side b)) := by
  intro w
  refine calls16 _ _ _ _ _ _ ?_
  unfold NF16
  rintro k0 ⟨f0, n0⟩ k1 ⟨f1, n1⟩ k2 ⟨f2, n2⟩ w1 g1
  have A1 := (Pt.start w).frame (by simp <;> omega) g1
  refine A1.pur (data_ok d) fun w2 A2 _ => ⟨_, rfl, fun h => ⟨fun h1 => ?_, fun h1 => ?_⟩, fun h => ⟨fun h1 => ?_, fun h1 => ?_⟩⟩
  · refine A2.pur (same_ok _ _) fun w3 A3 _ => ⟨_, rfl, ?_, A3.quiet⟩
    simp at h1
    simp [valueD, h, h1]
  · exact ⟨by simp at h1; simp [valueD, h, h1], A2.quiet⟩
  · exact ⟨by simp [valueD, h, h1], A2.quiet⟩
  · exact ⟨by simp [valueD, h, h1], A2.quiet⟩
set_option maxHeartbeats 4000000 in
theorem right_ok (d : GDesc) : Pur Try.prog 27 [GDesc.val d] (.bool (rightD d)) := by
  intro w
  refine calls27 _ _ _ ?_
  unfold NF27
  rintro k0 ⟨f0, n0⟩ w1 g1
  have A1 := (Pt.start w).frame (by simp <;> omega) g1
  have e1 : ((d.Value.Kind == 0) && ((d.Value.Num == 0) && (strB .eql d.Value.Str ⟨#[]⟩))) = decide (d.Value = noneV) := GValue.eqB_eq d.Value noneV
  have e2 : ((d.Get.Kind == 0) && ((d.Get.Num == 0) && (strB .eql d.Get.Str ⟨#[]⟩))) = decide (d.Get = noneV) := GValue.eqB_eq d.Get noneV
  have e3 : ((d.Set.Kind == 0) && ((d.Set.Num == 0) && (strB .eql d.Set.Str ⟨#[]⟩))) = decide (d.Set = noneV) := GValue.eqB_eq d.Set noneV
  refine A1.pur (acc_ok d) fun w2 A2 _ => ⟨_, rfl, fun ha => ?_, fun ha => ?_⟩
  · refine A2.pur (data_ok d) fun w4 A3 _ => ⟨_, rfl, fun hd => ?_, fun hd => ⟨by simp [rightD, ha, hd], A3.quiet⟩⟩
    refine A3.pur (fun_ok _) fun w6 A5 _ => ⟨_, rfl, fun hg => ?_, fun hg => ⟨by simp [rightD, ha, hd]; simp at hg; simp [hg], A5.quiet⟩⟩
    refine A5.pur (fun_ok _) fun w8 A4 _ => ⟨_, rfl, fun hs => ⟨by simp [rightD, ha, hd]; simp at hs; simp [hs], A4.quiet⟩, fun hs => ?_⟩
    clear A3 A5
    rintro k10 ⟨f10, n10⟩
    have fin : ∀ w11, Framed [k0, k10] w8 w11 → Quiet w w11 := fun w11 g => (A4.frame (by simp <;> omega) g).quiet
    simp only [e1, e2, e3]
    clear e1 e2 e3 A1 A2 A4 f0 n0 g1 f10 n10
    simp at hg hs
    repeat' (first | refine And.intro (fun h => ?_) (fun h => ?_) | fail)
    all_goals (intro w11 g; exact ⟨by clear fin g; simp [rightD, *], fin w11 g⟩)
  · refine A2.pur (fun_ok _) fun w6 A5 _ => ⟨_, rfl, fun hg => ?_, fun hg => ⟨by simp [rightD, ha]; simp at hg; simp [hg], A5.quiet⟩⟩
    refine A5.pur (fun_ok _) fun w8 A4 _ => ⟨_, rfl, fun hs => ⟨by simp [rightD, ha]; simp at hs; simp [hs], A4.quiet⟩, fun hs => ?_⟩
    clear A5
    rintro k10 ⟨f10, n10⟩
    have fin : ∀ w11, Framed [k0, k10] w8 w11 → Quiet w w11 := fun w11 g => (A4.frame (by simp <;> omega) g).quiet
    simp only [e1, e2, e3]
    clear e1 e2 e3 A1 A2 A4 f0 n0 g1 f10 n10
    simp at hg hs
    repeat' (first | refine And.intro (fun h => ?_) (fun h => ?_) | fail)
    all_goals (intro w11 g; exact ⟨by clear fin g; simp [rightD, *], fin w11 g⟩)
theorem whole_ok (d : GDesc) : Pur Try.prog 19 [GDesc.val d] (.bool (wholeD d)) := by
  intro w
  refine calls19 _ _ _ ?_
  unfold NF19
  rintro k0 ⟨f0, n0⟩ w1 g1
  have A1 := (Pt.start w).frame (by simp <;> omega) g1
  refine A1.pur (right_ok d) fun w2 A2 _ => ⟨_, rfl, ?_⟩
  repeat' (first | refine And.intro (fun h => ?_) (fun h => ?_) | fail)
  all_goals exact ⟨by simp [wholeD, *], A2.quiet⟩
theorem turned_ok (d n : GDesc) : Pur Try.prog 20 [GDesc.val d, GDesc.val n] (.bool (turnedD d n)) := by
  intro w
  refine calls20 _ _ _ _ ?_
  unfold NF20
  rintro k0 ⟨f0, n0⟩ k1 ⟨f1, n1⟩
  have e1 : ((n.Get.Kind == d.Get.Kind) && ((n.Get.Num == d.Get.Num) && (strB .eql n.Get.Str d.Get.Str))) = decide (n.Get = d.Get) := GValue.eqB_eq _ _
  have e2 : ((n.Set.Kind == d.Set.Kind) && ((n.Set.Num == d.Set.Num) && (strB .eql n.Set.Str d.Set.Str))) = decide (n.Set = d.Set) := GValue.eqB_eq _ _
  simp only [e1, e2]
  refine ⟨fun hc => ⟨fun he w2 g2 => ?_, fun he w2 g2 => ⟨by simp at he; simp [turnedD, he], ((Pt.start w).frame (by simp <;> omega) g2).quiet⟩⟩, fun hc w2 g2 => ⟨by simp [turnedD, hc], ((Pt.start w).frame (by simp <;> omega) g2).quiet⟩⟩
  have A2 := (Pt.start w).frame (by simp <;> omega) g2
  have he' : (n.Enumerable != d.Enumerable) = false := by simpa using he
  refine A2.pur (data_ok n) fun w3 A3 _ => ⟨_, rfl, A3.pur (data_ok d) fun w5 A5 _ => ⟨_, rfl, fun h => ⟨?_, A5.quiet⟩, fun h => ?_⟩⟩
  · have h' : (dataD n != dataD d) = true := by simpa using h
    simp [turnedD, h']
  · have h' : (dataD n != dataD d) = false := by simpa using h
    have key : turnedD d n = if !dataD d then decide (n.Get ≠ d.Get) || decide (n.Set ≠ d.Set) else !d.Writable && (n.Writable || decide (n.Value ≠ d.Value)) := by simp [turnedD, hc, he', h']
    rw [key]
    refine A5.pur (data_ok d) fun w7 A7 _ => ⟨_, rfl, fun hd => ⟨fun hg => ⟨?_, A7.quiet⟩, fun hg => ⟨?_, A7.quiet⟩⟩, fun hd => ⟨fun hw => ⟨fun hn => ?_, fun hn => ⟨?_, A7.quiet⟩⟩, fun hw => ⟨?_, A7.quiet⟩⟩⟩
    · simp at hg
      simp [hd, hg]
    · simp at hg
      simp [hd, hg]
    · refine A7.pur (same_ok _ _) fun w9 A9 _ => ⟨_, rfl, ?_, A9.quiet⟩
      simp at hd hw
      simp [hd, hw, hn]
    · simp at hd hw
      simp [hd, hw, hn]
    · simp at hd hw
      simp [hd, hw]

/-! ### Rows of keys -/
theorem run_eqS {t : TypeId} {xs ys : List (SVal (Sh tys Try.prog (fun _ _ => True)))} {b : Bool} (hA : isAggT Try.prog t = true) (h : eqT (𝔸 := Sh tys Try.prog (fun _ _ => True)) Try.prog 60 t xs ys = some b) (w : World) :
    (Op.equal t (.agg (denL (𝔸 := Sh tys Try.prog (fun _ _ => True)) [] xs).toArray) (.agg (denL (𝔸 := Sh tys Try.prog (fun _ _ => True)) [] ys).toArray)).run Try.prog w = .ok b w := by
  have := ((eqT_both (𝕋 := tys) (P := Try.prog) (R := fun _ _ => True) [] 60).1 t 10000 xs ys b w h (by omega)).2.2
  simp only [ofVals, hA, if_true] at this
  exact this
theorem key_fit : KeyFit Try.prog 25 GKey.val where
  eq := ⟨_, Try.underlying25, .inr ⟨fun a b => rfl, fun a b w => by
    rw [← GKey.eqB_eq]
    exact run_eqS (xs := GKey.svs a) (ys := GKey.svs b) (by kernel_rfl) (by kernel_rfl) w⟩⟩
  check := fun em a w => by kernel_rfl
  stays := fun a => by
    simp [Instr.sameBits, GKey.val, GKey.cells]
    exact (Go.MapKept.bytes_beq _ _).2 rfl
theorem contains_ok {O : Owner} {w : World} {s : Sl} {ks : List GKey} (h : Imm O w s.p s.l GKey.cells 2 ks) (hb : ks.length ≤ 1000000) (k : GKey) : PurIn Try.prog 23 [.slice s.p s.l s.c, GKey.val k] w (fun v _ => v = .bool (decide (k ∈ ks))) := by
  refine calls23 (fun v w' => v = .bool (decide (k ∈ ks)) ∧ Quiet w w') s k w ?_
  unfold NF23
  rintro k0 ⟨f0, n0⟩ k1 ⟨f1, n1⟩
  have hl := h.1
  refine ⟨fun i w' => Quiet w w' ∧ 0 ≤ i ∧ i ≤ (ks.length : Int) ∧ ∀ (j : Nat) x, (j : Int) < i → ks[j]? = some x → k ≠ x, fun i _ => (ks.length - i).toNat, fun w3 g3 => ⟨((Pt.start w).frame (by simp <;> omega) g3).quiet, by omega, by omega, fun j x hj => by omega⟩, ?_⟩
  rintro i w4 hw4 ⟨hq, hi0, hi1, hno⟩
  refine ⟨fun hi => ?_, fun hi => ⟨?_, hq⟩⟩
  · simp only [decide_eq_true_eq] at hi
    have A4 : Pt w [k0, k1] w4 := .of_within hq (by simp <;> omega) hw4
    obtain ⟨a, x, e1, e2, e3⟩ := h.at hi0 hi
    refine ⟨a, e1, ⟨hi0, hi⟩, fun w6 g6 => ?_⟩
    have A6 := A4.frame (by simp <;> omega) g6
    obtain ⟨a', x', e1', e2', e3'⟩ := (h.quiet A6.quiet).at hi0 hi
    rw [e1, Option.some.injEq] at e1'
    subst e1'
    rw [e2, Option.some.injEq] at e2'
    subst e2'
    refine ⟨x, e3', fun hx => ⟨?_, A6.quiet⟩, fun hx => ⟨?_, ?_⟩⟩
    · rw [sameK] at hx
      simp only [decide_eq_true_eq] at hx
      subst hx
      have : k ∈ ks := List.mem_of_getElem? e2
      simp [this, hi0]
    · rw [sameK] at hx
      simp only [decide_eq_false_iff_not] at hx
      rw [IntWalk.i64_in _ (by omega)]
      refine ⟨A6.quiet, by omega, by omega, fun j y hj hy => ?_⟩
      by_cases hji : (j : Int) < i
      · exact hno j y hji hy
      · have : j = i.toNat := by omega
        subst this
        rw [e2, Option.some.injEq] at hy
        rw [← hy]
        exact hx
    · rw [IntWalk.i64_in _ (by omega)]
      show (ks.length - (i + 1) : Int).toNat < (ks.length - i : Int).toNat
      omega
  · simp only [decide_eq_false_iff_not] at hi
    have : k ∉ ks := fun hm => by
      obtain ⟨j, hj⟩ := List.getElem?_of_mem hm
      exact hno j k (by have := (List.getElem?_eq_some_iff.1 hj).1; omega) hj rfl
    simp [this]
end Go.Proofs.Ytlfphbmbehbcjaa
