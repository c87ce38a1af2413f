/- The law TraceApart, over plain rows: what one object tells does not count for another one. -/
import Derived.Test.YtlfphbmbehbcjaaTm
set_option linter.unusedSimpArgs false
set_option linter.unusedVariables false
namespace Go.Proofs.Ytlfphbmbehbcjaa
open Go Go.Vx

section
variable {α : Type} (P : α → Bool)
theorem filter_rank : ∀ {l : List α} {i : Nat} {x : α}, l[i]? = some x → P x = true → (l.filter P)[(l.take i).countP P]? = some x
  | [], i, x, h, _ => by simp at h
  | y :: l, 0, x, h, hx => by
    simp only [List.getElem?_cons_zero, Option.some.injEq] at h
    subst h
    simp [List.filter_cons, hx]
  | y :: l, i + 1, x, h, hx => by
    have ih := filter_rank (l := l) (i := i) (by simpa using h) hx
    rw [List.take_succ_cons, List.countP_cons, List.filter_cons]
    cases hy : P y with
    | true => simpa [hy] using ih
    | false => simpa [hy] using ih
theorem filter_unrank : ∀ {l : List α} {j : Nat}, j < (l.filter P).length → ∃ i x, l[i]? = some x ∧ P x = true ∧ (l.take i).countP P = j
  | [], j, h => by simp at h
  | y :: l, j, h => by
    rw [List.filter_cons] at h
    cases hy : P y with
    | true =>
      cases j with
      | zero => exact ⟨0, y, rfl, hy, rfl⟩
      | succ j =>
        simp only [hy, if_true, List.length_cons] at h
        obtain ⟨i, x, h1, h2, h3⟩ := filter_unrank (l := l) (j := j) (by omega)
        exact ⟨i + 1, x, by simpa using h1, h2, by rw [List.take_succ_cons, List.countP_cons, h3]; simp [hy]⟩
    | false =>
      simp only [hy, Bool.false_eq_true, if_false] at h
      obtain ⟨i, x, h1, h2, h3⟩ := filter_unrank (l := l) (j := j) h
      exact ⟨i + 1, x, by simpa using h1, h2, by rw [List.take_succ_cons, List.countP_cons, h3]; simp [hy]⟩
theorem count_mono (l : List α) {i j : Nat} (h : i ≤ j) : (l.take i).countP P ≤ (l.take j).countP P := by
  have : (l.take i) = (l.take j).take i := by rw [List.take_take, Nat.min_eq_left h]
  rw [this]
  exact (List.take_sublist _ _).countP_le
theorem count_succ {l : List α} {i : Nat} {x : α} (h : l[i]? = some x) : (l.take (i + 1)).countP P = (l.take i).countP P + if P x then 1 else 0 := by
  have hlt := (List.getElem?_eq_some_iff.1 h).1
  have hx := (List.getElem?_eq_some_iff.1 h).2
  rw [List.take_succ_eq_append_getElem hlt, List.countP_append, hx]
  simp [List.countP_cons]
end

def isT (t : Int) (x : GSeen × List GKey) : Bool := decide (x.1.Thing = t)
/-- How many of an object's stand among the first p. -/
def rank (l : Row) (t : Int) (p : Int) : Int := ((l.take p.toNat).countP (isT t) : Nat)
/-- The row of one object alone. -/
def ownRow (l : Row) (t : Int) : Row := (l.filter (isT t)).map fun x => ({ x.1 with From := rank l t x.1.From }, x.2)

theorem rank_nonneg (l : Row) (t p : Int) : 0 ≤ rank l t p := by unfold rank; omega
theorem rank_mono (l : Row) (t : Int) {p q : Int} (h : p ≤ q) : rank l t p ≤ rank l t q := by
  unfold rank
  have := count_mono (isT t) l (i := p.toNat) (j := q.toNat) (by omega)
  omega
theorem rank_lt {l : Row} {t : Int} {p q : Int} (hp : 0 ≤ p) {x : GSeen × List GKey} (hx : l[p.toNat]? = some x) (ht : isT t x = true) : rank l t p < rank l t q ↔ p < q := by
  constructor
  · intro h
    rcases Int.lt_or_le p q with h1 | h1
    · exact h1
    · have := rank_mono l t h1
      omega
  · intro h
    have h1 := rank_mono l t (show p + 1 ≤ q by omega)
    have h2 : rank l t (p + 1) = rank l t p + 1 := by
      unfold rank
      rw [show (p + 1).toNat = p.toNat + 1 by omega, count_succ (isT t) hx]
      simp [ht]
    omega

theorem learnAll_append (t : Int) : ∀ (l : Row) (f : Fx) (i : Nat) (x : GSeen × List GKey), learnAll t f i (l ++ [x]) = (if x.1.Thing = t then learnP (learnAll t f i l) x.1 x.2 ((i + l.length : Nat) : Int) else learnAll t f i l)
  | [], f, i, x => by simp [learnAll]
  | y :: l, f, i, x => by
    simp only [List.cons_append, learnAll]
    rw [learnAll_append t l _ (i + 1) x]
    simp only [List.length_cons]
    rw [show i + 1 + l.length = i + (l.length + 1) by omega]
theorem state_succ {l : Row} {i : Nat} {x : GSeen × List GKey} (h : l[i]? = some x) (t : Int) : stateP l (i + 1) t = if x.1.Thing = t then learnP (stateP l i t) x.1 x.2 (i : Int) else stateP l i t := by
  have hlt := (List.getElem?_eq_some_iff.1 h).1
  have hx := (List.getElem?_eq_some_iff.1 h).2
  unfold stateP
  rw [List.take_succ_eq_append_getElem hlt, learnAll_append, hx, List.length_take, Nat.min_eq_left (Nat.le_of_lt hlt), Nat.zero_add]

theorem place_learn {f : Fx} {s : GSeen} {ks : List GKey} {i p : Int} (h : Place (learnP f s ks i) p) : Place f p ∨ p = i := by
  unfold learnP at h
  have key : ∀ {p : Int} {f1 f2 : Fx}, Place f1 p → (f1.closed = f2.closed ∨ f1.closed = i) → (f1.known = f2.known ∨ f1.known = i) → (∀ k p, (k, p) ∈ f1.gone → (k, p) ∈ f2.gone ∨ p = i) → (∀ p l, (p, l) ∈ f1.keys → (p, l) ∈ f2.keys ∨ p = i) →
      (∀ k l p d, (k, l) ∈ f1.fast → (p, d) ∈ l → (∃ l', (k, l') ∈ f2.fast ∧ (p, d) ∈ l') ∨ p = i) → Place f2 p ∨ p = i := by
    intro p f1 f2 hp h1 h2 h3 h4 h5
    rcases hp with ⟨h0, hp | hp⟩ | ⟨k, hp⟩ | ⟨l, hp⟩ | ⟨k, l, d, hp, hq⟩
    · rcases h1 with h1 | h1
      · exact .inl (.inl ⟨h0, .inl (hp.trans h1)⟩)
      · exact .inr (hp.trans h1)
    · rcases h2 with h1 | h1
      · exact .inl (.inl ⟨h0, .inr (hp.trans h1)⟩)
      · exact .inr (hp.trans h1)
    · rcases h3 k p hp with h | h
      · exact .inl (.inr (.inl ⟨k, h⟩))
      · exact .inr h
    · rcases h4 p l hp with h | h
      · exact .inl (.inr (.inr (.inl ⟨l, h⟩)))
      · exact .inr h
    · rcases h5 k l p d hp hq with ⟨l', h, h'⟩ | h
      · exact .inl (.inr (.inr (.inr ⟨k, l', d, h, h'⟩)))
      · exact .inr h
  have same : ∀ {f1 : Fx}, f1 = f → Place f1 p → Place f p ∨ p = i := fun e hp => .inl (e ▸ hp)
  split at h
  · split at h
    · exact key (f2 := f) h (.inr rfl) (.inl rfl) (fun _ _ h => .inl h) (fun _ _ h => .inl h) (fun _ l _ _ h h' => .inl ⟨l, h, h'⟩)
    · exact .inl h
  · split at h
    · split at h
      · exact key (f2 := f) h (.inl rfl) (.inr rfl) (fun _ _ h => .inl h) (fun _ _ h => .inl h) (fun _ l _ _ h h' => .inl ⟨l, h, h'⟩)
      · exact .inl h
    · split at h
      · have hf : ∀ {f1 : Fx}, f1 = (if s.Reply.Has && !s.Reply.Desc.Configurable then { f with fast := putA s.Ask.Key ((getA s.Ask.Key f.fast).getD [] ++ [(i, s.Reply.Desc)]) f.fast } else f) → Place f1 p → Place f p ∨ p = i := by
          intro f1 e hp
          subst e
          split at hp
          · refine key (f2 := f) hp (.inl rfl) (.inl rfl) (fun _ _ h => .inl h) (fun _ _ h => .inl h) (fun k l p d h h' => ?_)
            rcases mem_putA h with h | h
            · exact .inl ⟨l, h, h'⟩
            · simp only [Prod.mk.injEq] at h
              obtain ⟨rfl, rfl⟩ := h
              rcases List.mem_append.1 h' with h' | h'
              · cases hg : getA s.Ask.Key f.fast with
                | none => rw [hg] at h'; simp at h'
                | some l0 =>
                  rw [hg] at h'
                  exact .inl ⟨l0, getA_mem hg, h'⟩
              · simp only [List.mem_singleton, Prod.mk.injEq] at h'
                exact .inr h'.1
          · exact .inl hp
        simp only at h
        split at h
        · generalize hg : (if s.Reply.Has && !s.Reply.Desc.Configurable then { f with fast := putA s.Ask.Key ((getA s.Ask.Key f.fast).getD [] ++ [(i, s.Reply.Desc)]) f.fast } else f) = f1 at h
          rcases key (f2 := f1) h (.inl rfl) (.inl rfl) (fun k q h => by
            rcases mem_putA h with h | h
            · exact .inl h
            · simp only [Prod.mk.injEq] at h
              exact .inr h.2) (fun _ _ h => .inl h) (fun _ l _ _ h h' => .inl ⟨l, h, h'⟩) with h | h
          · exact hf hg.symm h
          · exact .inr h
        · exact hf rfl h
      · split at h
        · split at h
          · refine key (f2 := f) h (.inl rfl) (.inl rfl) (fun _ _ h => .inl h) (fun q l h => ?_) (fun _ l _ _ h h' => .inl ⟨l, h, h'⟩)
            rcases List.mem_append.1 h with h | h
            · exact .inl h
            · simp only [List.mem_singleton, Prod.mk.injEq] at h
              exact .inr h.1
          · exact .inl h
        · exact .inl h

theorem place_new {p : Int} (h : Place Fx.new p) : False := by
  rcases h with ⟨h0, hp | hp⟩ | ⟨k, hp⟩ | ⟨l, hp⟩ | ⟨k, l, d, hp, hq⟩
  · have : Fx.new.closed = -1 := rfl
    omega
  · have : Fx.new.known = -1 := rfl
    omega
  · cases hp
  · cases hp
  · cases hp
theorem place_state {l : Row} {t : Int} : ∀ {i : Nat}, i ≤ l.length → ∀ {p : Int}, Place (stateP l i t) p → 0 ≤ p ∧ p < (i : Int) ∧ ∃ x, l[p.toNat]? = some x ∧ isT t x = true
  | 0, _, p, h => (place_new (by simpa [stateP, learnAll] using h)).elim
  | i + 1, hi, p, h => by
    have hx : l[i]? = some l[i] := by simp [show i < l.length by omega]
    rw [state_succ hx] at h
    split at h
    · rename_i ht
      rcases place_learn h with h | h
      · obtain ⟨h1, h2, h3⟩ := place_state (by omega) h
        exact ⟨h1, by omega, h3⟩
      · subst h
        exact ⟨by omega, by omega, l[i], by simp [show i < l.length by omega], by simp [isT, ht]⟩
    · obtain ⟨h1, h2, h3⟩ := place_state (by omega) h
      exact ⟨h1, by omega, h3⟩

theorem own_at {l : Row} {t : Int} {i : Nat} {x : GSeen × List GKey} (h : l[i]? = some x) (ht : x.1.Thing = t) : (ownRow l t)[(l.take i).countP (isT t)]? = some ({ x.1 with From := rank l t x.1.From }, x.2) := by
  unfold ownRow
  rw [List.getElem?_map, filter_rank (isT t) h (by simp [isT, ht])]
  rfl
theorem own_thing {l : Row} {t : Int} {j : Nat} {x : GSeen × List GKey} (h : (ownRow l t)[j]? = some x) : x.1.Thing = t := by
  unfold ownRow at h
  rw [List.getElem?_map] at h
  cases hf : (l.filter (isT t))[j]? with
  | none => rw [hf] at h; cases h
  | some y =>
    rw [hf] at h
    simp only [Option.map_some, Option.some.injEq] at h
    have := (List.mem_filter.1 (List.mem_of_getElem? hf)).2
    simp only [isT, decide_eq_true_eq] at this
    rw [← h]
    exact this

/-- What is learned of an object from its own row is what is learned of it from the whole. -/
theorem own_state {l : Row} {t : Int} (hF : ∀ x ∈ l, 0 ≤ x.1.From) : ∀ {i : Nat}, i ≤ l.length → stateP (ownRow l t) ((l.take i).countP (isT t)) t = mapF (rank l t) (stateP l i t)
  | 0, _ => by simp [stateP, learnAll, mapF, Fx.new, atP]
  | i + 1, hi => by
    have hlt : i < l.length := by omega
    have hx : l[i]? = some l[i] := by simp [hlt]
    have ih := own_state hF (t := t) (i := i) (by omega)
    rw [state_succ hx, count_succ (isT t) hx]
    by_cases ht : l[i].1.Thing = t
    · have hT : isT t l[i] = true := by simp [isT, ht]
      simp only [hT, if_true, ht]
      rw [state_succ (own_at hx ht), if_pos (by exact ht), ih]
      have hp : ∀ q : Int, ∀ p, Place (stateP l i t) p → (rank l t p < rank l t q ↔ p < q) := by
        intro q p hp
        obtain ⟨h1, h2, x, h3, h4⟩ := place_state (by omega) hp
        exact rank_lt h1 h3 h4
      have hri : (((l.take i).countP (isT t) : Nat) : Int) = rank l t (i : Int) := by simp [rank]
      rw [hri]
      exact learn_map (hp _) (hp _) (fun p _ => rank_nonneg l t p) (by omega) _
    · have hT : isT t l[i] = false := by simp [isT, ht]
      simp only [hT, Bool.false_eq_true, if_false, ht, Nat.add_zero]
      exact ih

theorem own_breaks {l : Row} {t : Int} (hF : ∀ x ∈ l, 0 ≤ x.1.From) {i : Nat} {x : GSeen × List GKey} (h : l[i]? = some x) (ht : x.1.Thing = t) : breaksAt (ownRow l t) ((l.take i).countP (isT t)) = breaksAt l i := by
  have hlt := (List.getElem?_eq_some_iff.1 h).1
  have e0 : breaksAt (ownRow l t) ((l.take i).countP (isT t)) = breaksP (stateP (ownRow l t) ((l.take i).countP (isT t)) x.1.Thing) { x.1 with From := rank l t x.1.From } x.2 (min (rank l t x.1.From) ((l.take i).countP (isT t) : Nat)) := by
    unfold breaksAt
    rw [own_at h ht]
  have e1 : breaksAt l i = breaksP (stateP l i x.1.Thing) x.1 x.2 (min x.1.From i) := by
    unfold breaksAt
    rw [h]
  rw [e0, e1, ht, own_state hF (Nat.le_of_lt hlt)]
  have hp : ∀ q : Int, ∀ p, Place (stateP l i t) p → (rank l t p < rank l t q ↔ p < q) := by
    intro q p hp
    obtain ⟨h1, h2, x, h3, h4⟩ := place_state (by omega) hp
    exact rank_lt h1 h3 h4
  have hri : (((l.take i).countP (isT t) : Nat) : Int) = rank l t (i : Int) := by simp [rank]
  have hmin : min (rank l t x.1.From) (rank l t (i : Int)) = rank l t (min x.1.From i) := by
    rcases Int.le_total x.1.From i with h1 | h1
    · rw [Int.min_eq_left h1, Int.min_eq_left (rank_mono l t h1)]
    · rw [Int.min_eq_right h1, Int.min_eq_right (rank_mono l t h1)]
  rw [hri, hmin]
  exact breaks_map (hp _) (fun p _ => rank_nonneg l t p) _ _ _

/-- TraceApart, over plain rows. -/
theorem apart_plain (l : Row) (hF : ∀ x ∈ l, 0 ≤ x.1.From) (hT : ∀ x ∈ l, 0 ≤ x.1.Thing ∧ x.1.Thing ≤ 9) : (∀ t : Int, 0 ≤ t → t < 10 → firstP (ownRow l t) < 0) ↔ firstP l < 0 := by
  simp only [keeps_iff]
  constructor
  · intro h i hi
    have hx : l[i]? = some l[i] := by simp [hi]
    obtain ⟨h1, h2⟩ := hT _ (List.mem_of_getElem? hx)
    rw [← own_breaks hF hx rfl]
    refine h _ h1 (by omega) _ ?_
    exact (List.getElem?_eq_some_iff.1 (own_at hx rfl)).1
  · intro h t _ _ j hj
    have hj' : j < (l.filter (isT t)).length := by simpa [ownRow] using hj
    obtain ⟨i, x, h1, h2, h3⟩ := filter_unrank (isT t) hj'
    have ht : x.1.Thing = t := by simpa [isT] using h2
    rw [← h3, own_breaks hF h1 ht]
    exact h i (List.getElem?_eq_some_iff.1 h1).1
end Go.Proofs.Ytlfphbmbehbcjaa
