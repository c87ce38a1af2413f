/- The trace in plain data: what is learned of an object, which replies break a rule; the two laws over plain rows. -/
import Derived.Test.YtlfphbmbehbcjaaSt
set_option linter.unusedSimpArgs false
set_option linter.unusedVariables false
namespace Go.Proofs.Ytlfphbmbehbcjaa
open Go Go.Vx

/-! ### Rows of pairs -/
section
variable {α β γ : Type} [DecidableEq α]
def getA (x : α) : List (α × β) → Option β
  | [] => none
  | (k, v) :: r => if x = k then some v else getA x r
def putA (x : α) (v : β) : List (α × β) → List (α × β)
  | [] => [(x, v)]
  | (k, u) :: r => if x = k then (k, v) :: r else (k, u) :: putA x v r
theorem getA_map (g : β → γ) (x : α) : ∀ l : List (α × β), getA x (l.map fun p => (p.1, g p.2)) = (getA x l).map g
  | [] => rfl
  | (k, v) :: r => by
    simp only [List.map_cons, getA]
    split
    · rfl
    · exact getA_map g x r
theorem putA_map (g : β → γ) (x : α) (v : β) : ∀ l : List (α × β), putA x (g v) (l.map fun p => (p.1, g p.2)) = (putA x v l).map fun p => (p.1, g p.2)
  | [] => rfl
  | (k, u) :: r => by
    simp only [List.map_cons, putA]
    split
    · simp
    · simp [putA_map g x v r]
theorem mem_putA {x : α} {v : β} : ∀ {l : List (α × β)} {p : α × β}, p ∈ putA x v l → p ∈ l ∨ p = (x, v)
  | [], p, h => .inr (by simpa [putA] using h)
  | (k, u) :: r, p, h => by
    simp only [putA] at h
    split at h
    · rename_i hx
      subst hx
      rcases List.mem_cons.1 h with h | h
      · exact .inr h
      · exact .inl (List.mem_cons_of_mem _ h)
    · rcases List.mem_cons.1 h with h | h
      · exact .inl (by simp [h])
      · rcases mem_putA h with h | h
        · exact .inl (List.mem_cons_of_mem _ h)
        · exact .inr h
theorem getA_mem {x : α} {v : β} : ∀ {l : List (α × β)}, getA x l = some v → (x, v) ∈ l
  | (k, u) :: r, h => by
    simp only [getA] at h
    split at h
    · rename_i hx
      simp only [Option.some.injEq] at h
      subst hx; subst h
      simp
    · exact List.mem_cons_of_mem _ (getA_mem h)
end

/-! ### Descriptors -/
def noneV : GValue := ⟨0, 0, ⟨#[]⟩⟩
def dataD (d : GDesc) : Bool := d.HasValue || d.HasWritable
def accD (d : GDesc) : Bool := d.HasGet || d.HasSet
def funV (v : GValue) : Bool := v.Kind == 0 || v.Kind == 6
def rightD (d : GDesc) : Bool :=
  !(accD d && dataD d) && funV d.Get && funV d.Set && (d.HasValue || decide (d.Value = noneV)) && (d.HasGet || decide (d.Get = noneV)) && (d.HasSet || decide (d.Set = noneV)) &&
  (d.HasWritable || !d.Writable) && (d.HasEnumerable || !d.Enumerable) && (d.HasConfigurable || !d.Configurable)
def wholeD (d : GDesc) : Bool := rightD d && d.HasEnumerable && d.HasConfigurable && (d.HasValue && d.HasWritable || d.HasGet && d.HasSet)
def turnedD (d n : GDesc) : Bool :=
  if n.Configurable || n.Enumerable != d.Enumerable || dataD n != dataD d then true
  else if !dataD d then decide (n.Get ≠ d.Get) || decide (n.Set ≠ d.Set)
  else !d.Writable && (n.Writable || decide (n.Value ≠ d.Value))
def valueD (d : GDesc) (v side : GValue) (none : Bool) : Bool :=
  if dataD d then !d.Writable && decide (v ≠ d.Value) else side.Kind == 0 && none

/-! ### What is learned of an object -/
structure Fx where
  closed : Int
  known : Int
  proto : GValue
  gone : List (GKey × Int)
  keys : List (Int × List GKey)
  fast : List (GKey × List (Int × GDesc))
def Fx.new : Fx := ⟨-1, -1, noneV, [], [], []⟩
def fastStep (ahead : Int) (acc : Option GDesc) (h : Int × GDesc) : Option GDesc :=
  if decide (h.1 < ahead) && (match acc with | none => true | some d => dataD d && d.Writable && dataD h.2 && !h.2.Writable) then some h.2 else acc
def isFastP (f : Fx) (k : GKey) (ahead : Int) : Option GDesc := ((getA k f.fast).getD []).foldl (fastStep ahead) none
def isGoneP (f : Fx) (k : GKey) (ahead : Int) : Bool :=
  (match getA k f.gone with | some p => decide (p < ahead) | none => false) || f.keys.any fun t => decide (t.1 < ahead) && !decide (k ∈ t.2)
def twiceP (l : List GKey) : Bool := decide (¬ l.Nodup)
def keysBreakP (f : Fx) (l : List GKey) (ahead : Int) : Bool :=
  twiceP l || (l.any fun k => isGoneP f k ahead) || f.fast.any fun p => (isFastP f p.1 ahead).isSome && !decide (p.1 ∈ l)
def ownBreaksP (f : Fx) (s : GSeen) (ahead : Int) : Bool :=
  if !s.Reply.Has then (isFastP f s.Ask.Key ahead).isSome
  else if !wholeD s.Reply.Desc || isGoneP f s.Ask.Key ahead then true
  else match isFastP f s.Ask.Key ahead with | some d => turnedD d s.Reply.Desc | none => false
def closedP (f : Fx) (ahead : Int) : Bool := decide (0 ≤ f.closed) && decide (f.closed < ahead)
def knownP (f : Fx) (ahead : Int) : Bool := decide (0 ≤ f.known) && decide (f.known < ahead)
def breaksP (f : Fx) (s : GSeen) (ks : List GKey) (ahead : Int) : Bool :=
  if s.Method == 3 then s.Reply.OK && closedP f ahead
  else if s.Method == 1 then knownP f ahead && decide (s.Reply.Value ≠ f.proto)
  else if s.Method == 2 then s.Reply.OK && knownP f ahead && decide (s.Ask.Value ≠ f.proto)
  else if s.Method == 5 then ownBreaksP f s ahead
  else if s.Method == 7 then !s.Reply.OK && (isFastP f s.Ask.Key ahead).isSome
  else if s.Method == 10 then s.Reply.OK && (isFastP f s.Ask.Key ahead).isSome
  else if s.Method == 6 then s.Reply.OK && isGoneP f s.Ask.Key ahead
  else if s.Method == 8 then (match isFastP f s.Ask.Key ahead with | some d => valueD d s.Reply.Value d.Get (s.Reply.Value.Kind != 0) | none => false)
  else if s.Method == 9 then s.Reply.OK && (match isFastP f s.Ask.Key ahead with | some d => valueD d s.Ask.Value d.Set true | none => false)
  else if s.Method == 11 then keysBreakP f ks ahead
  else false
def behindP (f : Fx) (s : GSeen) (i : Int) : Bool := decide (0 ≤ f.closed) && decide (f.closed < s.From) && decide (f.closed < i)
def learnP (f : Fx) (s : GSeen) (ks : List GKey) (i : Int) : Fx :=
  if s.Method == 3 then (if !s.Reply.OK && decide (f.closed < 0) then { f with closed := i } else f)
  else if s.Method == 1 then (if behindP f s i && decide (f.known < 0) then { f with known := i, proto := s.Reply.Value } else f)
  else if s.Method == 5 then
    let f1 := if s.Reply.Has && !s.Reply.Desc.Configurable then { f with fast := putA s.Ask.Key ((getA s.Ask.Key f.fast).getD [] ++ [(i, s.Reply.Desc)]) f.fast } else f
    if behindP f s i && !s.Reply.Has && !(getA s.Ask.Key f.gone).isSome then { f1 with gone := putA s.Ask.Key i f1.gone } else f1
  else if s.Method == 11 then (if behindP f s i then { f with keys := f.keys ++ [(i, ks)] } else f)
  else f

abbrev Row := List (GSeen × List GKey)
/-- What has been learned of object t from the first ones of a row on, of which the first stands at place i. -/
def learnAll (t : Int) (f : Fx) (i : Nat) : Row → Fx
  | [] => f
  | x :: r => learnAll t (if x.1.Thing = t then learnP f x.1 x.2 i else f) (i + 1) r
def stateP (l : Row) (i : Nat) (t : Int) : Fx := learnAll t Fx.new 0 (l.take i)
def breaksAt (l : Row) (i : Nat) : Bool :=
  match l[i]? with
  | some x => breaksP (stateP l i x.1.Thing) x.1 x.2 (min x.1.From i)
  | none => false
/-- The place of the first one that breaks a rule, from place i on, of n. -/
def firstFrom (l : Row) (i : Nat) : Nat → Int
  | 0 => -1
  | n + 1 => if breaksAt l i then i else firstFrom l (i + 1) n
def firstP (l : Row) : Int := firstFrom l 0 l.length

/-! ### A row that begins another one -/
theorem breaksAt_take {l : Row} {n i : Nat} (h : i < n) : breaksAt (l.take n) i = breaksAt l i := by
  unfold breaksAt stateP
  rw [List.getElem?_take_of_lt h, List.take_take, Nat.min_eq_left (Nat.le_of_lt h)]
theorem firstFrom_spec (l : Row) : ∀ (n i : Nat), (firstFrom l i n = -1 ∧ ∀ j, i ≤ j → j < i + n → breaksAt l j = false) ∨ ∃ j : Nat, firstFrom l i n = (j : Int) ∧ i ≤ j ∧ j < i + n ∧ breaksAt l j = true ∧ ∀ k, i ≤ k → k < j → breaksAt l k = false
  | 0, i => .inl ⟨rfl, fun j h1 h2 => by omega⟩
  | n + 1, i => by
    simp only [firstFrom]
    cases hb : breaksAt l i with
    | true => exact .inr ⟨i, by simp, Nat.le_refl _, by omega, hb, fun k h1 h2 => by omega⟩
    | false =>
      simp only [Bool.false_eq_true, if_false]
      rcases firstFrom_spec l n (i + 1) with ⟨h1, h2⟩ | ⟨j, h1, h2, h3, h4, h5⟩
      · refine .inl ⟨h1, fun j h3 h4 => ?_⟩
        by_cases hj : j = i
        · rw [hj, hb]
        · exact h2 j (by omega) (by omega)
      · refine .inr ⟨j, h1, by omega, by omega, h4, fun k h6 h7 => ?_⟩
        by_cases hk : k = i
        · rw [hk, hb]
        · exact h5 k (by omega) h7
/-- TraceBegins, over plain rows. -/
theorem begins_plain (l : Row) (n : Nat) (hn : n ≤ l.length) : (if 0 ≤ firstP l ∧ firstP l < (n : Int) then firstP (l.take n) = firstP l else firstP (l.take n) < 0) := by
  have hl : (l.take n).length = n := by rw [List.length_take]; omega
  have h2 := firstFrom_spec (l.take n) n 0
  have h1 := firstFrom_spec l l.length 0
  unfold firstP
  rw [hl]
  rcases h1 with ⟨h1, h3⟩ | ⟨j, h1, h3, h4, h5, h6⟩
  · rw [h1]
    rw [if_neg (by omega)]
    rcases h2 with ⟨h2, _⟩ | ⟨j, h2, h7, h8, h9, h10⟩
    · rw [h2]; omega
    · rw [breaksAt_take (by omega)] at h9
      rw [h3 j (by omega) (by omega)] at h9
      cases h9
  · rw [h1]
    by_cases hj : j < n
    · rw [if_pos (by omega)]
      rcases h2 with ⟨h2, h7⟩ | ⟨k, h2, h7, h8, h9, h10⟩
      · have := h7 j (by omega) (by omega)
        rw [breaksAt_take hj, h5] at this
        cases this
      · rw [h2]
        rw [breaksAt_take (by omega)] at h9
        have hk1 : ¬ k < j := fun h => by rw [h6 k (by omega) h] at h9; cases h9
        have hk2 : ¬ j < k := fun h => by
          have := h10 j (by omega) h
          rw [breaksAt_take hj, h5] at this
          cases this
        have : k = j := by omega
        rw [this]
    · rw [if_neg (by omega)]
      rcases h2 with ⟨h2, _⟩ | ⟨k, h2, h7, h8, h9, h10⟩
      · rw [h2]; omega
      · rw [breaksAt_take (by omega), h6 k (by omega) (by omega)] at h9
        cases h9
theorem keeps_iff (l : Row) : firstP l < 0 ↔ ∀ i, i < l.length → breaksAt l i = false := by
  unfold firstP
  rcases firstFrom_spec l l.length 0 with ⟨h1, h2⟩ | ⟨j, h1, h2, h3, h4, h5⟩
  · rw [h1]
    exact ⟨fun _ i hi => h2 i (by omega) (by omega), fun _ => by omega⟩
  · rw [h1]
    refine ⟨fun h => by omega, fun h => ?_⟩
    rw [h j (by omega)] at h4
    cases h4

/-! ### Rows of one object -/
/-- The places of facts, moved. -/
def atP (ρ : Int → Int) (p : Int) : Int := if p < 0 then p else ρ p
def mapF (ρ : Int → Int) (f : Fx) : Fx :=
  { closed := atP ρ f.closed, known := atP ρ f.known, proto := f.proto, gone := f.gone.map fun p => (p.1, ρ p.2), keys := f.keys.map fun p => (ρ p.1, p.2), fast := f.fast.map fun p => (p.1, p.2.map fun h => (ρ h.1, h.2)) }
/-- Where something was learned. -/
def Place (f : Fx) (p : Int) : Prop := (0 ≤ p ∧ (p = f.closed ∨ p = f.known)) ∨ (∃ k, (k, p) ∈ f.gone) ∨ (∃ ks, (p, ks) ∈ f.keys) ∨ ∃ k l d, (k, l) ∈ f.fast ∧ (p, d) ∈ l

section
variable {ρ : Int → Int} {f : Fx} {a a' : Int}

theorem fold_map {l : List (Int × GDesc)} (h : ∀ p d, (p, d) ∈ l → (ρ p < a' ↔ p < a)) (acc : Option GDesc) : (l.map fun h => (ρ h.1, h.2)).foldl (fastStep a') acc = l.foldl (fastStep a) acc := by
  induction l generalizing acc with
  | nil => rfl
  | cons x l ih =>
    simp only [List.map_cons, List.foldl_cons]
    have hx : fastStep a' acc (ρ x.1, x.2) = fastStep a acc x := by
      unfold fastStep
      have : decide (ρ x.1 < a') = decide (x.1 < a) := by
        have := h x.1 x.2 (by simp)
        simp [this]
      simp only [this]
    rw [hx]
    exact ih (fun p d hp => h p d (List.mem_cons_of_mem _ hp)) _
theorem isFast_map (h : ∀ p, Place f p → (ρ p < a' ↔ p < a)) (k : GKey) : isFastP (mapF ρ f) k a' = isFastP f k a := by
  unfold isFastP mapF
  simp only
  rw [getA_map (fun l : List (Int × GDesc) => l.map fun h => (ρ h.1, h.2))]
  cases hg : getA k f.fast with
  | none => rfl
  | some l =>
    simp only [Option.map_some, Option.getD_some]
    exact fold_map (fun p d hp => h p (.inr (.inr (.inr ⟨k, l, d, getA_mem hg, hp⟩)))) none
theorem isGone_map (h : ∀ p, Place f p → (ρ p < a' ↔ p < a)) (k : GKey) : isGoneP (mapF ρ f) k a' = isGoneP f k a := by
  unfold isGoneP mapF
  simp only
  rw [getA_map ρ]
  congr 1
  · cases hg : getA k f.gone with
    | none => rfl
    | some p =>
      have := h p (.inr (.inl ⟨k, getA_mem hg⟩))
      simp [this]
  · rw [List.any_map, Bool.eq_iff_iff, List.any_eq_true, List.any_eq_true]
    have key : ∀ x ∈ f.keys, ((fun t : Int × List GKey => decide (t.1 < a') && !decide (k ∈ t.2)) ∘ fun p : Int × List GKey => (ρ p.1, p.2)) x = (decide (x.1 < a) && !decide (k ∈ x.2)) := by
      intro x hx
      have := h x.1 (.inr (.inr (.inl ⟨x.2, hx⟩)))
      simp [this]
    exact ⟨fun ⟨x, hx, e⟩ => ⟨x, hx, by rw [← key x hx]; exact e⟩, fun ⟨x, hx, e⟩ => ⟨x, hx, by rw [key x hx]; exact e⟩⟩
theorem at_map (h : ∀ p, Place f p → (ρ p < a' ↔ p < a)) (h0 : ∀ p, 0 ≤ p → 0 ≤ ρ p) {p : Int} (hp : p = f.closed ∨ p = f.known) : (decide (0 ≤ atP ρ p) && decide (atP ρ p < a')) = (decide (0 ≤ p) && decide (p < a)) := by
  unfold atP
  by_cases hn : p < 0
  · have h3 : ¬ 0 ≤ p := by omega
    simp [hn, h3]
  · have h1 := h p (.inl ⟨by omega, hp⟩)
    have h2 := h0 p (by omega)
    have h3 : 0 ≤ p := by omega
    simp [hn, h1, h2, h3]
theorem breaks_map (h : ∀ p, Place f p → (ρ p < a' ↔ p < a)) (h0 : ∀ p, 0 ≤ p → 0 ≤ ρ p) (s : GSeen) (from' : Int) (ks : List GKey) : breaksP (mapF ρ f) { s with From := from' } ks a' = breaksP f s ks a := by
  have e1 : closedP (mapF ρ f) a' = closedP f a := at_map h h0 (.inl rfl)
  have e2 : knownP (mapF ρ f) a' = knownP f a := at_map h h0 (.inr rfl)
  have e3 : keysBreakP (mapF ρ f) ks a' = keysBreakP f ks a := by
    unfold keysBreakP
    simp only [isGone_map h, isFast_map h]
    congr 1
    unfold mapF
    simp only [List.any_map]
    rfl
  have e4 : ownBreaksP (mapF ρ f) { s with From := from' } a' = ownBreaksP f s a := by
    unfold ownBreaksP
    simp only [isGone_map h, isFast_map h]
  have e5 : (mapF ρ f).proto = f.proto := rfl
  unfold breaksP
  simp only [e1, e2, e3, e4, e5, isGone_map h, isFast_map h]
theorem learn_map {s : GSeen} (h : ∀ p, Place f p → (ρ p < ρ s.From ↔ p < s.From)) {i : Int} (h' : ∀ p, Place f p → (ρ p < ρ i ↔ p < i)) (h0 : ∀ p, 0 ≤ p → 0 ≤ ρ p) (hi : 0 ≤ i) (ks : List GKey) :
    learnP (mapF ρ f) { s with From := ρ s.From } ks (ρ i) = mapF ρ (learnP f s ks i) := by
  have e1 : behindP (mapF ρ f) { s with From := ρ s.From } (ρ i) = behindP f s i := by
    unfold behindP
    have k1 := at_map (a' := ρ s.From) (a := s.From) h h0 (p := f.closed) (.inl rfl)
    have k2 := at_map (a' := ρ i) (a := i) h' h0 (p := f.closed) (.inl rfl)
    rw [Bool.eq_iff_iff] at k1 k2 ⊢
    simp only [Bool.and_eq_true, decide_eq_true_eq] at k1 k2 ⊢
    show (0 ≤ atP ρ f.closed ∧ atP ρ f.closed < ρ s.From) ∧ atP ρ f.closed < ρ i ↔ _
    constructor
    · rintro ⟨⟨g1, g2⟩, g3⟩
      exact ⟨⟨(k1.1 ⟨g1, g2⟩).1, (k1.1 ⟨g1, g2⟩).2⟩, (k2.1 ⟨g1, g3⟩).2⟩
    · rintro ⟨⟨g1, g2⟩, g3⟩
      exact ⟨⟨(k1.2 ⟨g1, g2⟩).1, (k1.2 ⟨g1, g2⟩).2⟩, (k2.2 ⟨g1, g3⟩).2⟩
  have neg : ∀ p : Int, decide (atP ρ p < 0) = decide (p < 0) := by
    intro p
    unfold atP
    by_cases hp : p < 0
    · simp [hp]
    · have := h0 p (by omega)
      simp [hp]
      omega
  have ati : atP ρ i = ρ i := by unfold atP; rw [if_neg (by omega)]
  unfold learnP
  simp only [e1]
  split
  · have : decide ((mapF ρ f).closed < 0) = decide (f.closed < 0) := neg _
    rw [this]
    split
    · simp [mapF, ati]
    · rfl
  · split
    · have : decide ((mapF ρ f).known < 0) = decide (f.known < 0) := neg _
      rw [this]
      split
      · simp [mapF, ati]
      · rfl
    · split
      · have g1 : getA s.Ask.Key (mapF ρ f).gone = (getA s.Ask.Key f.gone).map ρ := getA_map ρ _ _
        have g2 : ((getA s.Ask.Key (mapF ρ f).fast).getD [] ++ [(ρ i, s.Reply.Desc)]) = ((getA s.Ask.Key f.fast).getD [] ++ [(i, s.Reply.Desc)]).map (fun h => (ρ h.1, h.2)) := by
          have : getA s.Ask.Key (mapF ρ f).fast = (getA s.Ask.Key f.fast).map fun l => l.map fun h => (ρ h.1, h.2) := getA_map (fun l : List (Int × GDesc) => l.map fun h => (ρ h.1, h.2)) _ _
          rw [this]
          cases getA s.Ask.Key f.fast <;> simp
        have g3 : putA s.Ask.Key (((getA s.Ask.Key f.fast).getD [] ++ [(i, s.Reply.Desc)]).map (fun h => (ρ h.1, h.2))) (mapF ρ f).fast = (putA s.Ask.Key ((getA s.Ask.Key f.fast).getD [] ++ [(i, s.Reply.Desc)]) f.fast).map fun p => (p.1, p.2.map fun h => (ρ h.1, h.2)) :=
          putA_map (fun l : List (Int × GDesc) => l.map fun h => (ρ h.1, h.2)) _ _ _
        have g4 : putA s.Ask.Key (ρ i) (mapF ρ f).gone = (putA s.Ask.Key i f.gone).map fun p => (p.1, ρ p.2) := putA_map ρ _ _ _
        simp only [g1, g2, g3, Option.isSome_map]
        cases s.Reply.Has && !s.Reply.Desc.Configurable <;> cases behindP f s i && !s.Reply.Has && !(getA s.Ask.Key f.gone).isSome <;> simp [mapF, g4] <;> exact g4
      · split
        · split
          · simp [mapF]
          · rfl
        · rfl
end
end Go.Proofs.Ytlfphbmbehbcjaa
