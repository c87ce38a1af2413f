/- Vx, part I: a region that draws its order: an operation that only looks may be taken first. -/
import Derived.OrdersHeld
set_option linter.unusedSimpArgs false
set_option linter.unusedVariables false
namespace Go.Vx
open Go
section
variable {P : Program} {ops : Array Oper} {Q : Exit → Act → World → Prop} {md : Region.Mode} {S : World → Prop} {mv : Nat → World → World → Prop}

/-- Whatever order is picked from here on; behind every operation S holds, and 'mv' tells what it may have done to the world. -/
def wpAnyE (P : Program) (md : Region.Mode) (ops : Array Oper) (Q : Exit → Act → World → Prop) (S : World → Prop) (mv : Nat → World → World → Prop) : Nat → Array Bool → Act → World → Prop
  | 0, listed, a, w => Region.ready md ops listed = [] ∧ Q .normal a w
  | fuel + 1, listed, a, w =>
    (Region.ready md ops listed = [] → Q .normal a w) ∧
    ∀ i ∈ Region.ready md ops listed, wpOp P ops Q i (fun a' w' => mv i w w' ∧ S w' ∧ wpAnyE P md ops Q S mv fuel (listed.setIfInBounds i true) a' w') a w

theorem wpAny_of_E : ∀ (fuel : Nat) (listed : Array Bool) (a : Act) (w : World), wpAnyE P md ops Q S mv fuel listed a w → wpAny P md ops Q fuel listed a w
  | 0, _, _, _, h => h
  | fuel + 1, _, _, _, h => ⟨h.1, fun i hi => wpOp_mono (fun a' w' h' => wpAny_of_E fuel _ a' w' h'.2.2) (h.2 i hi)⟩

theorem wpAnyE_first {i : Nat} {oi : Oper} {v : Value} {C : World → Prop} {Inv : Array Bool → Prop} (hi : ops[i]? = some oi) (hsel : ∀ (j : Nat) (o : Oper) cs b, ops[j]? = some o → o.op ≠ .select cs b)
    (hQ : ∀ c a w, Q (.panic c) (a.put oi.dst v) w → Q (.panic c) a w)
    (hInv : ∀ L j, Inv L → j ∈ Region.ready md ops L → j ≠ i → Inv (L.setIfInBounds j true))
    (hmv : ∀ w, mv i w w)
    (hC : ∀ L j w w', Inv L → i ∈ Region.ready md ops L → j ∈ Region.ready md ops L → j ≠ i → C w → mv j w w' → S w' → C w') :
    ∀ (fuel : Nat) (listed : Array Bool) (a : Act) (w : World), Inv listed →
      (∀ j oj, ops[j]? = some oj → j ≠ i → listed.getD j true = false → (∀ e ∈ oj.after, Region.binds md e = true → e.on ≠ i) → oi.apart ops oj = true) →
      i ∈ Region.ready md ops listed → YieldsIf P ops C oi v a → C w → S w →
      wpAnyE P md ops Q S mv fuel (listed.setIfInBounds i true) (a.put oi.dst v) w → wpAnyE P md ops Q S mv (fuel + 1) listed a w := by
  intro fuel
  induction fuel with
  | zero =>
    intro listed a w _ _ hr hy hc hS H
    refine ⟨fun h => (by rw [h] at hr; cases hr), fun j hj => ?_⟩
    by_cases hji : j = i
    · subst hji; exact hy.wpOp hi hc ⟨hmv _, hS, H⟩
    · have := ready_mono hj hji
      rw [H.1] at this
      cases this
  | succ fuel ih =>
    intro listed a w hinv hfree hr hy hc hS H
    refine ⟨fun h => (by rw [h] at hr; cases hr), fun j hj => ?_⟩
    by_cases hji : j = i
    · subst hji; exact hy.wpOp hi hc ⟨hmv _, hS, H⟩
    · have h1 := H.2 j (ready_mono hj hji)
      obtain ⟨hjun, oj, hoj, hall⟩ := mem_ready.1 hj
      have hnot : ∀ e ∈ oj.after, Region.binds md e = true → e.on ≠ i := fun e he hb heq => by
        have h1 := hall e he hb
        have h0 := (mem_ready.1 hr).1
        rw [heq] at h1
        rcases Nat.lt_or_ge i listed.size with h' | h'
        · simp [h'] at h0 h1; rw [h0] at h1; cases h1
        · simp [Array.getElem?_eq_none h'] at h1
      have h2 := wpOp_putIf hoj (hfree j oj hoj hji hjun hnot) (fun cs b => hsel i oi cs b hi) (fun cs b => hsel j oj cs b hoj) hQ hy h1
      have hfree' : ∀ k ok, ops[k]? = some ok → k ≠ i → (listed.setIfInBounds j true).getD k true = false →
          (∀ e ∈ ok.after, Region.binds md e = true → e.on ≠ i) → oi.apart ops ok = true := fun k ok hk hki hun hno => by
        refine hfree k ok hk hki ?_ hno
        by_cases hjk : j = k
        · subst hjk; exact hjun
        · rw [getD_set_ne true hjk] at hun; exact hun
      refine wpOp_mono (fun a' w' h3 => ⟨h3.2.1, h3.2.2.1, ih (listed.setIfInBounds j true) a' w' (hInv listed j hinv hj hji) hfree' (ready_mono hr (Ne.symm hji)) h3.1 (hC listed j w w' hinv hr hj hji hc h3.2.1 h3.2.2.1) h3.2.2.1 ?_⟩) h2
      rw [Array.setIfInBounds_comm _ _ hji]
      exact h3.2.2.2

/-- What is listed waits for nothing that is not. -/
def Closed (md : Region.Mode) (ops : Array Oper) (L : Array Bool) : Prop :=
  ∀ k o, ops[k]? = some o → L.getD k false = true → ∀ e ∈ o.after, Region.binds md e = true → L.getD e.on false = true

theorem Closed.start (n : Nat) : Closed md ops (Array.replicate n false) := by
  intro k o _ h
  exfalso
  rcases Nat.lt_or_ge k n with hk | hk
  · simp [Array.getD, hk] at h
  · simp [Array.getD, Nat.not_lt.2 hk] at h

theorem Closed.set {L : Array Bool} {j : Nat} (h : Closed md ops L) (hj : j ∈ Region.ready md ops L) : Closed md ops (L.setIfInBounds j true) := by
  intro k o hk hl e he hb
  obtain ⟨_, oj, hoj, hall⟩ := mem_ready.1 hj
  by_cases hjk : j = k
  · subst hjk
    rw [hoj] at hk
    simp only [Option.some.injEq] at hk
    subst hk
    exact getD_set_true (hall e he hb)
  · rw [getD_set_ne false hjk] at hl
    exact getD_set_true (h k o hk hl e he hb)

theorem testBit_fold (acc : Array Nat) (B : Nat → Prop) : ∀ (es : List Edge) (s : Nat), (∀ i, s.testBit i = true → B i) →
    (∀ e ∈ es, Region.binds .any e = true → B e.on ∧ ∀ i, (acc.getD e.on 0).testBit i = true → B i) →
    ∀ i, (es.foldl (fun s e => if Region.binds .any e then s ||| 2 ^ e.on ||| acc.getD e.on 0 else s) s).testBit i = true → B i
  | [], s, hs, _, i, h => hs i h
  | e :: es, s, hs, he, i, h => by
    simp only [List.foldl_cons] at h
    refine testBit_fold acc B es _ ?_ (fun e' he' => he e' (List.mem_cons_of_mem _ he')) i h
    intro k hk
    split at hk
    · rename_i hb
      obtain ⟨h1, h2⟩ := he e (by simp) hb
      simp only [Nat.testBit_or, Bool.or_eq_true] at hk
      rcases hk with (hk | hk) | hk
      · exact hs k hk
      · rw [Nat.testBit_two_pow] at hk
        have : e.on = k := by simpa using hk
        subst this
        exact h1
      · exact h2 k hk
    · exact hs k hk

theorem before_fold (L : Array Bool) : ∀ (l : List Oper) (pre : List Oper) (acc : Array Nat), acc.size = pre.length →
    (∀ k o, (pre ++ l)[k]? = some o → L.getD k false = true → ∀ e ∈ o.after, Region.binds .any e = true → L.getD e.on false = true) →
    (∀ j o, pre[j]? = some o → (∀ e ∈ o.after, Region.binds .any e = true → L.getD e.on false = true) → ∀ i, (acc.getD j 0).testBit i = true → L.getD i false = true) →
    ∀ j o, (pre ++ l)[j]? = some o → (∀ e ∈ o.after, Region.binds .any e = true → L.getD e.on false = true) →
      ∀ i, ((l.foldl (fun acc o => acc.push (o.after.foldl (fun s e => if Region.binds .any e then s ||| 2 ^ e.on ||| acc.getD e.on 0 else s) 0)) acc).getD j 0).testBit i = true → L.getD i false = true
  | [], pre, acc, _, _, h, j, o, hj, he, i, hi => h j o (by simpa using hj) he i hi
  | x :: l, pre, acc, hs, hcl, h, j, o, hj, he, i, hi => by
    have hxs : (pre ++ [x]) ++ l = pre ++ x :: l := by simp
    simp only [List.foldl_cons] at hi
    refine before_fold L l (pre ++ [x]) _ (by simp [hs]) (by rw [hxs]; exact hcl) ?_ j o (by rw [hxs]; exact hj) he i hi
    intro k ok hk hek m hm
    by_cases hkl : k < pre.length
    · rw [List.getElem?_append_left hkl] at hk
      have : ∀ z : Nat, (acc.push z).getD k 0 = acc.getD k 0 := fun z => by
        have hk' : k < acc.size := by omega
        simp [Array.getD, hk', Array.getElem_push_lt, show k < acc.size + 1 by omega]
      rw [this] at hm
      exact h k ok hk hek m hm
    · have hk2 : k = pre.length := by
        have := (List.getElem?_eq_some_iff.1 hk).1
        simp at this
        omega
      subst hk2
      have hok : x = ok := by
        rw [List.getElem?_append_right (Nat.le_refl _)] at hk
        simpa using hk
      subst hok
      have : ∀ z : Nat, (acc.push z).getD pre.length 0 = z := fun z => by
        rw [← hs]
        simp [Array.getD]
      rw [this] at hm
      rw [← Array.foldl_toList] at hm
      refine testBit_fold acc (fun i => L.getD i false = true) x.after.toList 0 (fun i h0 => by simp at h0) ?_ m hm
      intro e he' hb
      have hL := hek e (by simpa using he') hb
      refine ⟨hL, fun i hi => ?_⟩
      by_cases hel : e.on < pre.length
      · have hpe : pre[e.on]? = some pre[e.on] := by simp [hel]
        refine h e.on pre[e.on] hpe (fun e2 h2 hb2 => hcl e.on pre[e.on] ?_ hL e2 h2 hb2) i hi
        rw [List.getElem?_append_left hel]; exact hpe
      · have : acc.getD e.on 0 = 0 := by
          have : ¬ e.on < acc.size := by omega
          simp [Array.getD, this]
        rw [this] at hi
        simp at hi

/-- What comes before an operation that may come up has come up. -/
theorem before_listed {L : Array Bool} (hcl : Closed .any ops L) {j : Nat} (hj : j ∈ Region.ready .any ops L) {i : Nat} (hb : ((Region.before ops).getD j 0).testBit i = true) : L.getD i false = true := by
  obtain ⟨_, oj, hoj, hall⟩ := mem_ready.1 hj
  refine before_fold L ops.toList [] #[] rfl (fun k o hk => hcl k o (by simpa using hk)) (fun j o hj => by simp at hj) j oj (by simpa using hoj) hall i ?_
  rw [Region.before, ← Array.foldl_toList] at hb
  exact hb

theorem before_listed' {L : Array Bool} (hcl : Closed .any ops L) {j : Nat} (hj : j ∈ Region.ready .any ops L) {i : Nat} (hi : i ∈ Region.ready .any ops L) :
    ((Region.before ops).getD j 0).testBit i = false := by
  cases hb : ((Region.before ops).getD j 0).testBit i with
  | false => rfl
  | true =>
    have h1 := before_listed hcl hj hb
    have h0 := (mem_ready.1 hi).1
    rcases Nat.lt_or_ge i L.size with h' | h'
    · simp [Array.getD, h'] at h0 h1; rw [h0] at h1; cases h1
    · simp [Array.getD, Nat.not_lt.2 h'] at h1

end
end Go.Vx
