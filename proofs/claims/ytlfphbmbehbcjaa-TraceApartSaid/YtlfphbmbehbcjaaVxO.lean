/- Vx, part O: loops: what goes round. -/
import Derived.Test.YtlfphbmbehbcjaaVxN
set_option linter.unusedSimpArgs false
set_option linter.unusedVariables false
namespace Go.Vx
open Go
section
variable {𝕋 : TTab} {P : Program} {R : Value → World → Prop}

/-- A value in the form in which a quantifier brings it. -/
def Canon : CK → SVal (Sh 𝕋 P R) → Prop
  | .int k, v => ∃ x : Int, v = .int k x
  | .bool, v => ∃ x : Bool, v = .bool x
  | .str, v => ∃ x : ByteArray, v = .str x
  | .ptr, v => ∃ x : Option Addr, v = .ptr x
  | .slice, v => ∃ (x : Option Addr) (l c : Nat), v = .slice x l c
  | .map, v => ∃ x : Option Nat, v = .map x
  | .val, v => ∃ x : Value, Flat x ∧ v = .val x

def CanonL : List CK → List (SVal (Sh 𝕋 P R)) → Prop
  | [], [] => True
  | k :: ks, v :: vs => Canon k v ∧ CanonL ks vs
  | _, _ => False
def CanonLL : List (List CK) → List (List (SVal (Sh 𝕋 P R))) → Prop
  | [], [] => True
  | k :: ks, v :: vs => CanonL k v ∧ CanonLL ks vs
  | _, _ => False

theorem mkC_all {k : CK} {K : SVal (Sh 𝕋 P R) → Prop} (h : mkC (𝔸 := Sh 𝕋 P R) allS k K) {v : SVal (Sh 𝕋 P R)} (hv : Canon k v) : K v := by
  cases k with
  | int q => obtain ⟨x, rfl⟩ := hv; exact h x
  | bool => obtain ⟨x, rfl⟩ := hv; exact h x
  | str => obtain ⟨x, rfl⟩ := hv; exact h x
  | ptr => obtain ⟨x, rfl⟩ := hv; exact h x
  | map => obtain ⟨x, rfl⟩ := hv; exact h x
  | val => obtain ⟨x, hf, rfl⟩ := hv; exact h x hf
  | slice => obtain ⟨x, l, c, rfl⟩ := hv; exact h x l c
theorem mkL_all : ∀ {ks : List CK} {K : List (SVal (Sh 𝕋 P R)) → Prop}, mkL (𝔸 := Sh 𝕋 P R) allS ks K → ∀ {vs : List (SVal (Sh 𝕋 P R))}, CanonL ks vs → K vs
  | [], K, h, [], _ => h
  | [], K, h, _ :: _, hv => hv.elim
  | _ :: _, K, h, [], hv => hv.elim
  | k :: ks, K, h, v :: vs, hv => by
    simp only [mkL] at h
    exact mkL_all (mkC_all h hv.1) hv.2
theorem mkLL_all : ∀ {ks : List (List CK)} {K : List (List (SVal (Sh 𝕋 P R))) → Prop}, mkLL (𝔸 := Sh 𝕋 P R) allS ks K → ∀ {vs : List (List (SVal (Sh 𝕋 P R)))}, CanonLL ks vs → K vs
  | [], K, h, [], _ => h
  | [], K, h, _ :: _, hv => hv.elim
  | _ :: _, K, h, [], hv => hv.elim
  | k :: ks, K, h, v :: vs, hv => by
    simp only [mkLL] at h
    exact mkLL_all (mkL_all h hv.1) hv.2

/-- What a value and its canonical form have in common. -/
structure Like (β : List Nat) (k : CK) (v : SVal (Sh 𝕋 P R)) (ats : List AtS) (u : SVal (Sh 𝕋 P R)) : Prop where
  canon : Canon k u
  atoms : ∀ β', atomsC (𝔸 := Sh 𝕋 P R) β' k u = some ats
  den : ∀ β', den (𝔸 := Sh 𝕋 P R) β' u = den (𝔸 := Sh 𝕋 P R) β v
  wf : ∀ n, wf n u
  flat : notAgg u = true

theorem canon_of {β : List Nat} {k : CK} {v : SVal (Sh 𝕋 P R)} {ats : List AtS} (h : atomsC (𝔸 := Sh 𝕋 P R) β k v = some ats) {n : Nat} (hw : wf n v) : ∃ u, Like β k v ats u := by
  unfold atomsC at h
  split at h <;> first
    | (split at h
       · rename_i hk
         subst hk
         simp only [Option.some.injEq] at h
         subst h
         exact ⟨.int _ _, ⟨_, rfl⟩, fun _ => by simp [atomsC], fun _ => rfl, fun _ => trivial, rfl⟩
       · cases h)
    | (simp only [Option.some.injEq] at h
       subst h
       first
         | exact ⟨.bool _, ⟨_, rfl⟩, fun _ => rfl, fun _ => rfl, fun _ => trivial, rfl⟩
         | exact ⟨.str _, ⟨_, rfl⟩, fun _ => rfl, fun _ => rfl, fun _ => trivial, rfl⟩
         | exact ⟨.ptr _, ⟨_, rfl⟩, fun _ => rfl, fun _ => rfl, fun _ => trivial, rfl⟩
         | exact ⟨.slice _ _ _, ⟨_, _, _, rfl⟩, fun _ => rfl, fun _ => rfl, fun _ => trivial, rfl⟩
         | exact ⟨.map _, ⟨_, rfl⟩, fun _ => rfl, fun _ => rfl, fun _ => trivial, rfl⟩
         | exact ⟨.val _, ⟨_, hw, rfl⟩, fun _ => rfl, fun _ => rfl, fun _ => hw, rfl⟩
         | (refine ⟨.val _, ⟨_, ?_, rfl⟩, fun _ => rfl, fun _ => rfl, fun _ => ?_, rfl⟩ <;> trivial))
    | cases h

structure LikeL (β : List Nat) (ks : List CK) (vs : List (SVal (Sh 𝕋 P R))) (ats : List AtS) (us : List (SVal (Sh 𝕋 P R))) : Prop where
  canon : CanonL ks us
  atoms : ∀ β', atomsL (𝔸 := Sh 𝕋 P R) β' ks us = some ats
  den : ∀ β', denL (𝔸 := Sh 𝕋 P R) β' us = denL (𝔸 := Sh 𝕋 P R) β vs
  wf : ∀ n, wfL n us
  flat : us.all notAgg = true

theorem canonL_of {β : List Nat} {n : Nat} : ∀ {ks : List CK} {vs : List (SVal (Sh 𝕋 P R))} {ats : List AtS}, atomsL (𝔸 := Sh 𝕋 P R) β ks vs = some ats → wfL n vs → ∃ us, LikeL β ks vs ats us
  | [], [], ats, h, _ => by
    simp only [atomsL, Option.some.injEq] at h
    subst h
    exact ⟨[], trivial, fun _ => rfl, fun _ => rfl, fun _ => trivial, rfl⟩
  | [], _ :: _, ats, h, _ => by simp [atomsL] at h
  | _ :: _, [], ats, h, _ => by simp [atomsL] at h
  | k :: ks, v :: vs, ats, h, hw => by
    simp only [atomsL] at h
    split at h
    · rename_i a b ha hb
      simp only [Option.some.injEq] at h
      subst h
      obtain ⟨u, h1⟩ := canon_of ha hw.1
      obtain ⟨us, h2⟩ := canonL_of hb hw.2
      refine ⟨u :: us, ⟨h1.canon, h2.canon⟩, fun β' => ?_, fun β' => ?_, fun n => ⟨h1.wf n, h2.wf n⟩, ?_⟩
      · simp only [atomsL, h1.atoms, h2.atoms]
      · simp only [denL, h1.den β', h2.den β']
      · simp [h1.flat, h2.flat]
    · cases h

def AllWf (n : Nat) : List (List (SVal (Sh 𝕋 P R))) → Prop
  | [] => True
  | v :: vs => wfL n v ∧ AllWf n vs

structure LikeLL (β : List Nat) (ks : List (List CK)) (vs : List (List (SVal (Sh 𝕋 P R)))) (ats : List AtS) (us : List (List (SVal (Sh 𝕋 P R)))) : Prop where
  canon : CanonLL ks us
  atoms : ∀ β', atomsLL (𝔸 := Sh 𝕋 P R) β' ks us = some ats
  den : ∀ β', us.map (denL (𝔸 := Sh 𝕋 P R) β') = vs.map (denL (𝔸 := Sh 𝕋 P R) β)
  wf : ∀ n, ∀ u ∈ us, wfL n u ∧ u.all notAgg = true

theorem canonLL_of {β : List Nat} {n : Nat} : ∀ {ks : List (List CK)} {vs : List (List (SVal (Sh 𝕋 P R)))} {ats : List AtS}, atomsLL (𝔸 := Sh 𝕋 P R) β ks vs = some ats → (∀ v ∈ vs, wfL n v) → ∃ us, LikeLL β ks vs ats us
  | [], [], ats, h, _ => by
    simp only [atomsLL, Option.some.injEq] at h
    subst h
    exact ⟨[], trivial, fun _ => rfl, fun _ => rfl, fun _ u hu => by cases hu⟩
  | [], _ :: _, ats, h, _ => by simp [atomsLL] at h
  | _ :: _, [], ats, h, _ => by simp [atomsLL] at h
  | k :: ks, v :: vs, ats, h, hw => by
    simp only [atomsLL] at h
    split at h
    · rename_i a b ha hb
      simp only [Option.some.injEq] at h
      subst h
      obtain ⟨u, h1⟩ := canonL_of ha (hw v (by simp))
      obtain ⟨us, h2⟩ := canonLL_of hb (fun x hx => hw x (List.mem_cons_of_mem _ hx))
      refine ⟨u :: us, ⟨h1.canon, h2.canon⟩, fun β' => ?_, fun β' => ?_, fun n x hx => ?_⟩
      · simp only [atomsLL, h1.atoms, h2.atoms]
      · simp only [List.map_cons, h1.den β', h2.den β']
      · rcases List.mem_cons.1 hx with rfl | hx
        · exact ⟨h1.wf n, h1.flat⟩
        · exact h2.wf n x hx
    · cases h

/-! ### Slots -/
theorem forget_get (asg : List (Nat × TypeId × Bool)) (l : List (Nat × Option (SVal (Sh 𝕋 P R)))) (t : Nat) : assoc (forget (𝔸 := Sh 𝕋 P R) asg l) t = if memA asg t then some none else assoc l t := by
  induction asg with
  | nil => rfl
  | cons x r ih =>
    obtain ⟨s, q, z⟩ := x
    simp only [forget, assoc, memA]
    by_cases h : Nat.beq s t = true
    · simp only [h, if_true, Bool.true_or]
    · have h : Nat.beq s t = false := Bool.eq_false_iff.2 h
      simp only [h, Bool.false_eq_true, if_false, Bool.false_or, ih]

theorem putAll_get {l : List (Nat × Option (SVal (Sh 𝕋 P R)))} {t : Nat} {v : SVal (Sh 𝕋 P R)} : ∀ {carry : List (Nat × CK)} {xs : List (SVal (Sh 𝕋 P R))}, xs.length = carry.length → assoc (putAll (𝔸 := Sh 𝕋 P R) carry xs l) t = some (some v) →
    (∃ (j : Nat) (c : Nat × CK), carry[j]? = some c ∧ c.1 = t ∧ xs[j]? = some v) ∨ (memN (carry.map (·.1)) t = false ∧ assoc l t = some (some v))
  | [], xs, _, h => .inr ⟨rfl, by cases xs <;> exact h⟩
  | c :: carry, [], hl, h => by simp at hl
  | c :: carry, x :: xs, hl, h => by
    obtain ⟨s, k⟩ := c
    simp only [putAll, assoc] at h
    cases hb : Nat.beq s t with
    | true =>
      simp only [hb, if_true, Option.some.injEq] at h
      subst h
      exact .inl ⟨0, (s, k), rfl, Nat.eq_of_beq_eq_true hb, rfl⟩
    | false =>
      simp only [hb, Bool.false_eq_true, if_false] at h
      rcases putAll_get (by simpa using hl) h with ⟨j, c, h1, h2, h3⟩ | ⟨h1, h2⟩
      · exact .inl ⟨j + 1, c, by simpa using h1, h2, by simpa using h3⟩
      · exact .inr ⟨by simp [memN, hb, h1], h2⟩

theorem putAll_miss {l : List (Nat × Option (SVal (Sh 𝕋 P R)))} {t : Nat} : ∀ {carry : List (Nat × CK)} {xs : List (SVal (Sh 𝕋 P R))}, memN (carry.map (·.1)) t = false → assoc (putAll (𝔸 := Sh 𝕋 P R) carry xs l) t = assoc l t
  | [], xs, _ => by cases xs <;> rfl
  | c :: carry, [], _ => rfl
  | (s, k) :: carry, x :: xs, h => by
    simp only [List.map_cons, memN, Bool.or_eq_false_iff] at h
    simp only [putAll, assoc, h.1, Bool.false_eq_true, if_false]
    exact putAll_miss h.2

theorem putAll_pre (l : List (Nat × Option (SVal (Sh 𝕋 P R)))) : ∀ (carry : List (Nat × CK)) (xs : List (SVal (Sh 𝕋 P R))), ∃ pre, putAll (𝔸 := Sh 𝕋 P R) carry xs l = pre ++ l
  | [], xs => ⟨[], by cases xs <;> rfl⟩
  | c :: carry, [] => ⟨[], rfl⟩
  | (s, k) :: carry, x :: xs => by
    obtain ⟨pre, hp⟩ := putAll_pre l carry xs
    exact ⟨(s, some x) :: pre, by simp only [putAll, hp]; rfl⟩
theorem forget_pre (l : List (Nat × Option (SVal (Sh 𝕋 P R)))) : ∀ (asg : List (Nat × TypeId × Bool)), ∃ pre, forget (𝔸 := Sh 𝕋 P R) asg l = pre ++ l
  | [] => ⟨[], rfl⟩
  | (s, q, z) :: asg => by
    obtain ⟨pre, hp⟩ := forget_pre l asg
    exact ⟨(s, none) :: pre, by simp only [forget, hp]; rfl⟩

theorem getAll_get {st : St (Sh 𝕋 P R)} : ∀ {carry : List (Nat × CK)} {vs : List (SVal (Sh 𝕋 P R))}, getAll st carry = some vs → vs.length = carry.length ∧ ∀ (j : Nat) (c : Nat × CK), carry[j]? = some c → ∃ v, vs[j]? = some v ∧ st.get c.1 = some v
  | [], vs, h => by
    simp only [getAll, Option.some.injEq] at h
    subst h
    exact ⟨rfl, fun j c hc => by simp at hc⟩
  | (s, k) :: carry, vs, h => by
    simp only [getAll] at h
    split at h
    · rename_i v us hv hus
      simp only [Option.some.injEq] at h
      subst h
      obtain ⟨h1, h2⟩ := getAll_get hus
      refine ⟨by simp [h1], fun j c hc => ?_⟩
      cases j with
      | zero =>
        simp only [List.getElem?_cons_zero, Option.some.injEq] at hc
        subst hc
        exact ⟨v, rfl, hv⟩
      | succ j => exact h2 j c (by simpa using hc)
    · cases h

theorem keysIn_get {asg : List (Nat × TypeId × Bool)} {t : Nat} (ht : memA asg t = false) (l : List (Nat × Option (SVal (Sh 𝕋 P R)))) : ∀ {pre : List (Nat × Option (SVal (Sh 𝕋 P R)))}, keysIn (𝔸 := Sh 𝕋 P R) asg pre = true → assoc (pre ++ l) t = assoc l t
  | [], _ => rfl
  | (k, x) :: pre, h => by
    simp only [keysIn, Bool.and_eq_true] at h
    have : Nat.beq k t = false := by
      cases hb : Nat.beq k t with
      | false => rfl
      | true =>
        have := Nat.eq_of_beq_eq_true hb
        subst this
        rw [ht] at h
        cases h.1
    simp only [List.cons_append, assoc, this, Bool.false_eq_true, if_false]
    exact keysIn_get ht l h.2

/-! ### Blocks -/
theorem canonLL_length : ∀ {ks : List (List CK)} {us : List (List (SVal (Sh 𝕋 P R)))}, CanonLL ks us → us.length = ks.length
  | [], [], _ => rfl
  | [], _ :: _, h => h.elim
  | _ :: _, [], h => h.elim
  | k :: ks, u :: us, h => by simp [canonLL_length h.2]

theorem havSet_get {st st' : St (Sh 𝕋 P R)} {c : Nat} {l : List (Nat × Blk (Sh 𝕋 P R))} {β : List Nat} {i : Nat} {b : Blk (Sh 𝕋 P R)} : ∀ {hav : List Nat} {blks blks' : List (Nat × Blk (Sh 𝕋 P R))} {yss : List (List (SVal (Sh 𝕋 P R)))},
    havBlks st hav = some blks → havBlks st' hav = some blks' → sameElems blks blks' = true → yss.map (denL (𝔸 := Sh 𝕋 P R) β) = (blkCells blks').map (denL (𝔸 := Sh 𝕋 P R) st'.bases) →
    assoc (havSet (𝔸 := Sh 𝕋 P R) c blks yss ++ l) i = some b →
    (∃ b', memN hav i = true ∧ st'.loc? i = some b' ∧ b.elem = b'.elem ∧ denL (𝔸 := Sh 𝕋 P R) β b.cells = denL (𝔸 := Sh 𝕋 P R) st'.bases b'.cells ∧ b.cells ∈ yss ∧ b.stamp = c ∧ (∃ b0, st.loc? i = some b0)) ∨ (memN hav i = false ∧ assoc l i = some b)
  | [], blks, blks', yss, h1, h2, h3, h4, h => by
    simp only [havBlks, Option.some.injEq] at h1
    subst h1
    exact .inr ⟨rfl, by cases yss <;> exact h⟩
  | k :: hav, blks, blks', yss, h1, h2, h3, h4, h => by
    simp only [havBlks] at h1 h2
    split at h1
    · rename_i b0 r0 hb0 hr0
      split at h2
      · rename_i b1 r1 hb1 hr1
        simp only [Option.some.injEq] at h1 h2
        subst h1
        subst h2
        simp only [sameElems, Bool.and_eq_true] at h3
        cases yss with
        | nil => simp [blkCells] at h4
        | cons ys yss =>
          simp only [blkCells, List.map_cons, List.cons.injEq] at h4
          simp only [havSet, List.cons_append, assoc] at h
          cases hbq : Nat.beq k i with
          | true =>
            have := Nat.eq_of_beq_eq_true hbq
            subst this
            simp only [hbq, if_true, Option.some.injEq] at h
            subst h
            exact .inl ⟨b1, by simp [memN], hb1, Nat.eq_of_beq_eq_true h3.1, h4.1, by simp, rfl, b0, hb0⟩
          | false =>
            simp only [hbq, Bool.false_eq_true, if_false] at h
            rcases havSet_get hr0 hr1 h3.2 h4.2 h with ⟨b', g1, g2, g3, g4, g5, g6, g7⟩ | ⟨g1, g2⟩
            · exact .inl ⟨b', by simp [memN, hbq, g1], g2, g3, g4, by simp [g5], g6, g7⟩
            · exact .inr ⟨by simp [memN, hbq, g1], g2⟩
      · cases h2
    · cases h1

theorem havBlks_cells {st : St (Sh 𝕋 P R)} {w : World} (hw : RelW st w) : ∀ {hav : List Nat} {blks : List (Nat × Blk (Sh 𝕋 P R))}, havBlks st hav = some blks → ∀ v ∈ blkCells blks, wfL st.bases.length v
  | [], blks, h, v, hv => by
    simp only [havBlks, Option.some.injEq] at h
    subst h
    cases hv
  | k :: hav, blks, h, v, hv => by
    simp only [havBlks] at h
    split at h
    · rename_i b r hb hr
      simp only [Option.some.injEq] at h
      subst h
      simp only [blkCells, List.mem_cons] at hv
      rcases hv with rfl | hv
      · exact (hw.locs k b hb).2.2.1
      · exact havBlks_cells hw hr v hv
    · cases h

theorem sameElems_refl : ∀ (l : List (Nat × Blk (Sh 𝕋 P R))), sameElems l l = true
  | [] => rfl
  | (_, b) :: l => by simp [sameElems, sameElems_refl l]

/-- The state in a round. -/
def roundSt (st : St (Sh 𝕋 P R)) (carry : List (Nat × CK)) (asg : List (Nat × TypeId × Bool)) (blks : List (Nat × Blk (Sh 𝕋 P R))) (xs : List (SVal (Sh 𝕋 P R))) (yss : List (List (SVal (Sh 𝕋 P R)))) (w : World) : St (Sh 𝕋 P R) :=
  { st with tmps := putAll carry xs (forget asg st.tmps), locs := havSet st.ctr blks yss ++ st.locs, ctr := st.ctr + 1, we := w, dirty := false }

theorem round_rel {st st' : St (Sh 𝕋 P R)} {a0 a' : Act} {w0 w' : World} (hA : RelA st a0) (hW : RelW st w0) (hA' : RelA st' a') (hW' : RelW st' w') {e : List Nat} (hbases : st'.bases = st.bases ++ e) (hnt : st'.nt = st.nt)
    {carry : List (Nat × CK)} {asg : List (Nat × TypeId × Bool)} {hav : List Nat}
    (htm : ∀ t v, memA asg t = false → memN (carry.map (·.1)) t = false → st.get t = some v → st'.get t = some v)
    (hlc : ∀ i b, memN hav i = false → st.loc? i = some b → st'.loc? i = some b)
    {vs' : List (SVal (Sh 𝕋 P R))} (hvs : getAll st' carry = some vs') {m1 m2 : List AtS} (hm1 : atomsL (𝔸 := Sh 𝕋 P R) st'.bases (carry.map (·.2)) vs' = some m1)
    {blks blks' : List (Nat × Blk (Sh 𝕋 P R))} (hb : havBlks st hav = some blks) (hb' : havBlks st' hav = some blks') (hse : sameElems blks blks' = true) {kss : List (List CK)}
    (hm2 : atomsLL (𝔸 := Sh 𝕋 P R) st'.bases kss (blkCells blks') = some m2) :
    ∃ xs yss, CanonL (carry.map (·.2)) xs ∧ CanonLL kss yss ∧ (∀ β, atomsL (𝔸 := Sh 𝕋 P R) β (carry.map (·.2)) xs = some m1) ∧ (∀ β, atomsLL (𝔸 := Sh 𝕋 P R) β kss yss = some m2) ∧
      RelA (roundSt st carry asg blks xs yss w') a' ∧ RelW (roundSt st carry asg blks xs yss w') w' := by
  obtain ⟨hlen, hget⟩ := getAll_get hvs
  have hwvs : wfL st'.bases.length vs' := by
    rw [wfL_iff]
    intro v hv
    obtain ⟨j, hj, hjv⟩ := List.getElem_of_mem hv
    have hjc : j < carry.length := by omega
    obtain ⟨u, hu1, hu2⟩ := hget j carry[j] (by simp [hjc])
    have : u = v := by
      rw [List.getElem?_eq_getElem hj] at hu1
      simp only [Option.some.injEq] at hu1
      rw [← hu1, hjv]
    subst this
    exact (hA'.tmps _ _ hu2).2.2
  obtain ⟨xs, hx⟩ := canonL_of hm1 hwvs
  obtain ⟨yss, hy⟩ := canonLL_of hm2 (havBlks_cells hW' hb')
  have hxlen : xs.length = carry.length := by
    have := congrArg List.length (hx.den st'.bases)
    rw [denL_length, denL_length] at this
    omega
  refine ⟨xs, yss, hx.canon, hy.canon, hx.atoms, hy.atoms, ⟨?_, ?_, hA'.defers⟩, ⟨hW.relb, ?_, hW.inj, ?_, ?_⟩⟩
  · exact hA'.size.trans hnt
  · intro t v hv
    have hv' : assoc (putAll carry xs (forget asg st.tmps)) t = some (some v) := by
      have : (assoc (putAll carry xs (forget asg st.tmps)) t).bind id = some v := hv
      cases hq : assoc (putAll carry xs (forget asg st.tmps)) t with
      | none => rw [hq] at this; cases this
      | some x => rw [hq] at this; simp only [Option.bind_some, id] at this; rw [this]
    rcases putAll_get hxlen hv' with ⟨j, c, h1, h2, h3⟩ | ⟨h1, h2⟩
    · obtain ⟨u, hu1, hu2⟩ := hget j c h1
      rw [h2] at hu2
      obtain ⟨g1, g2, g3⟩ := hA'.tmps t u hu2
      refine ⟨by rw [hnt] at g1; exact g1, ?_, ?_⟩
      · rw [g2]
        have hd : (denL (𝔸 := Sh 𝕋 P R) st.bases xs)[j]? = (denL (𝔸 := Sh 𝕋 P R) st'.bases vs')[j]? := by rw [hx.den]
        rw [denL_get, denL_get, h3, hu1] at hd
        exact hd.symm
      · have := hx.wf st.bases.length
        rw [wfL_iff] at this
        exact this v (List.mem_of_getElem? h3)
    · rw [forget_get] at h2
      split at h2
      · cases h2
      · rename_i hma
        have hma : memA asg t = false := by simpa using hma
        have hg : st.get t = some v := by unfold St.get; rw [h2]; rfl
        obtain ⟨k1, k2, k3⟩ := hA.tmps t v hg
        obtain ⟨g1, g2, g3⟩ := hA'.tmps t v (htm t v hma h1 hg)
        refine ⟨k1, ?_, k3⟩
        rw [g2, hbases, den_append _ _ _ k3]
        rfl
  · intro b hbm
    exact hW'.dom b (by rw [hbases]; exact List.mem_append_left _ hbm)
  · intro i b hib
    have hib2 : memN st.rel i = false ∧ assoc (havSet st.ctr blks yss ++ st.locs) i = some b := by
      unfold St.loc? at hib
      cases hm : memN st.rel i with
      | true => simp [roundSt, hm] at hib
      | false => exact ⟨rfl, by simpa [roundSt, hm] using hib⟩
    have hbase : ∀ i, i < st.bases.length → st'.base i = st.base i := by
      intro i hi
      unfold St.base
      rw [hbases]
      exact getD_append_left _ _ _ _ hi
    rcases havSet_get hb hb' hse (hy.den st.bases) hib2.2 with ⟨b', g1, g2, g3, g4, g5, g6, b0, g7⟩ | ⟨g1, g2⟩
    · have hi := (hW.locs i b0 g7).1
      obtain ⟨k1, k2, k3, k4, k5⟩ := hW'.locs i b' g2
      refine ⟨hi, ?_, (hy.wf _ _ g5).1, (hy.wf 0 _ g5).2, ?_⟩
      · show w'.heap[st.base i]? = _
        rw [← hbase i hi, k2, ← g4, g3]
        rfl
      · show b.stamp < st.ctr + 1
        rw [g6]
        exact Nat.lt_succ_self _
    · have hlo : st.loc? i = some b := by
        unfold St.loc?
        simp only [hib2.1, Bool.false_eq_true, if_false]
        exact g2
      obtain ⟨k1, k2, k3, k4, k5⟩ := hW.locs i b hlo
      obtain ⟨j1, j2, j3, j4, j5⟩ := hW'.locs i b (hlc i b g1 hlo)
      refine ⟨k1, ?_, k3, k4, Nat.lt_succ_of_lt k5⟩
      show w'.heap[st.base i]? = _
      rw [← hbase i k1, j2, hbases, denL_append _ _ _ k3]
      rfl
  · simp [roundSt]

theorem round_hist {st : St (Sh 𝕋 P R)} {carry : List (Nat × CK)} {asg : List (Nat × TypeId × Bool)} {hav : List Nat} {blks : List (Nat × Blk (Sh 𝕋 P R))} (hb : havBlks st hav = some blks) {xs : List (SVal (Sh 𝕋 P R))} {yss : List (List (SVal (Sh 𝕋 P R)))} {w : World} :
    Hist st (roundSt st carry asg blks xs yss w) := by
  refine ⟨rfl, ⟨[], by simp [roundSt]⟩, Nat.le_succ _, ?_, ?_⟩
  · obtain ⟨p1, h1⟩ := forget_pre st.tmps asg
    obtain ⟨p2, h2⟩ := putAll_pre (forget asg st.tmps) carry xs
    exact ⟨p2 ++ p1, by show putAll carry xs (forget asg st.tmps) = _; rw [h2, h1, List.append_assoc]⟩
  · intro i b' hi hl hs
    unfold St.loc? at hl ⊢
    cases hm : memN st.rel i with
    | true => simp [roundSt, hm] at hl
    | false =>
      have hl : assoc (havSet st.ctr blks yss ++ st.locs) i = some b' := by simpa [roundSt, hm] using hl
      simp only [Bool.false_eq_true, if_false]
      have key : ∀ (blks : List (Nat × Blk (Sh 𝕋 P R))) (yss : List (List (SVal (Sh 𝕋 P R)))), assoc (havSet st.ctr blks yss ++ st.locs) i = some b' → assoc st.locs i = some b' := by
        intro blks
        induction blks with
        | nil => intro yss h; cases yss <;> exact h
        | cons x blks ih =>
          intro yss h
          obtain ⟨k, b⟩ := x
          cases yss with
          | nil => exact h
          | cons ys yss =>
            simp only [havSet, List.cons_append, assoc] at h
            split at h
            · simp only [Option.some.injEq] at h
              subst h
              exact absurd hs (Nat.lt_irrefl _)
            · exact ih yss h
      exact key _ _ hl

theorem sameLocs_ok {st st' : St (Sh 𝕋 P R)} {hav : List Nat} {c : Nat} : ∀ {n : Nat}, sameLocs st st' hav c n = true → ∀ i b, i < n → memN hav i = false → st.loc? i = some b → ∃ b', st'.loc? i = some b' ∧ b'.stamp < c
  | 0, _, i, b, hi, _, _ => by omega
  | n + 1, h, i, b, hi, hm, hb => by
    simp only [sameLocs, Bool.and_eq_true, Bool.or_eq_true] at h
    by_cases hin : i = n
    · subst hin
      rcases h.1 with h1 | h1
      · rw [hm] at h1; cases h1
      · rw [hb] at h1
        simp only at h1
        split at h1
        · rename_i b' hb'
          exact ⟨b', hb', Nat.le_of_ble_eq_true h1⟩
        · cases h1
    · exact sameLocs_ok h.2 i b (by omega) hm hb

end
end Go.Vx
