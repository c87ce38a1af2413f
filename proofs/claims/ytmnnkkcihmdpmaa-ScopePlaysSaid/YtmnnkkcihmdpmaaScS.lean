/- What the program's own scopes do, call by call. -/
import Derived.Test.YtmnnkkcihmdpmaaSc
set_option linter.unusedSimpArgs false
set_option linter.unusedVariables false
namespace Go.Proofs.Ytmnnkkcihmdpmaa
open Go Go.Vx

/-- What a call that may turn the scopes leaves. -/
def PostS (O : Owner) (id : Nat) (w : World) (x0 : Addr) (A' : Ab) (r : Value) : Value → World → Prop := fun v w' => v = r ∧ ∃ O' C', Step O O' id w w' ∧ RepS O' id w' x0 C' ∧ absS C' = A'

theorem PostS.same {O : Owner} {id : Nat} {w w' : World} {x0 : Addr} {C : List SSc} (h : RepS O id w x0 C) (hd : Dom O w) (hq : Quiet w w') (r : Value) : PostS O id w x0 (absS C) r r w' :=
  ⟨rfl, O, C, hq.step hd id, h.quiet hd hq, rfl⟩

theorem entsAt_abs {C : List SSc} {i : Nat} {sc : SSc} (h : C[i]? = some sc) : entsAt (absS C) i = sc.ents.map absE := by
  unfold entsAt
  rw [absS_get, h]
  rfl
theorem parAt_abs {C : List SSc} {i : Nat} {sc : SSc} (h : C[i]? = some sc) : parAt (absS C) i = sc.parent := by
  unfold parAt
  rw [absS_get, h]
  rfl
theorem varAt_abs {C : List SSc} {i j : Nat} {sc : SSc} {e : SEnt} (h : C[i]? = some sc) (he : sc.ents[j]? = some e) : varAt (absS C) i j = e.v := by
  unfold varAt
  rw [entsAt_abs h, List.getElem?_map, he]
  rfl

theorem find_none {A : Ab} {x : ByteArray} {e : Int} (h : inA A.length e = false) : ∀ n, findA A x n e = none
  | 0 => rfl
  | n + 1 => by simp [findA, h]

/-- The nearest variable of a name. -/
def FindPost (O : Owner) (id : Nat) (w : World) (C : List SSc) (x : ByteArray) (e : Int) : Value → World → Prop := fun v w' =>
  w' = w ∧ ((findA (absS C) x (C.length + 1) e = none ∧ v = .pointer none) ∨ ∃ i j sc en, findA (absS C) x (C.length + 1) e = some (i, j) ∧ C[i]? = some sc ∧ sc.ents[j]? = some en ∧ v = .pointer (some ⟨en.blk, 0, none⟩))

theorem find_S {O : Owner} {id : Nat} {w : World} {x0 : Addr} {C : List SSc} (h : RepS O id w x0 C) (hold : Old (absS C)) (e : Int) (x : ByteArray) :
    Calls Try.prog 20 [(.pointer (some x0)), (.int .i64 e), (.string x)].toArray w fun en w' => ∃ v, en = .returned v ∧ FindPost O id w C x e v w' := by
  refine calls20 _ _ _ _ _ ?_
  unfold NF20
  obtain ⟨p, c, hp, hcell⟩ := h.cells
  refine ⟨fun i w' => w' = w ∧ ∃ n : Nat, (i < (n : Int) ∨ inA C.length i = false) ∧ findA (absS C) x n i = findA (absS C) x (C.length + 1) e, fun i _ => (i + 1).toNat, ⟨rfl, C.length + 1, ?_, rfl⟩, ?_⟩
  · by_cases hi : inA C.length e = true
    · have := (inA_iff.1 hi).2
      left; omega
    · right; simpa using hi
  · rintro i w' _ ⟨rfl, n, hn, hf⟩
    refine ⟨fun h0 => ⟨p, _, c, hp, fun h1 => ?_, fun h1 => ?_⟩, fun h0 => ?_⟩
    · simp only [decide_eq_true_eq] at h0 h1
      have hin : inA C.length i = true := inA_iff.2 ⟨h0, h1⟩
      obtain ⟨a, sc, rfl, hc, hpar, hmap⟩ := hcell i h0 h1
      rw [hin] at hn
      have hn1 : i < (n : Int) := by
        rcases hn with hn | hn
        · exact hn
        · cases hn
      obtain ⟨m, rfl⟩ : ∃ m, n = m + 1 := ⟨n - 1, by omega⟩
      have hstep : findA (absS C) x (m + 1) i = match look x (sc.ents.map absE) with
          | some j => some (i.toNat, j)
          | none => findA (absS C) x m sc.parent := by
        simp only [findA, absS_length, hin, if_true, entsAt_abs hc, parAt_abs hc]
        cases look x (sc.ents.map absE) <;> rfl
      refine ⟨_, _, c, hp, a, rfl, ⟨h0, h1⟩, some sc.map, hmap, ?_⟩
      rcases h.lookup hc x with ⟨h2, h3, h4⟩ | ⟨j, en, h2, h3, h4⟩
      · refine ⟨none, w', h4, ⟨Nat.le_refl _, fun _ hb => by cases hb⟩, fun hx => by simp at hx, fun _ => ?_⟩
        rw [h2] at hstep
        have hpo : sc.parent < i := by
          have := hold i.toNat (sc.parent, sc.ents.map absE) (by rw [absS_get, hc]; rfl)
          simp only at this
          omega
        refine ⟨_, _, c, hp, a, rfl, ⟨h0, h1⟩, sc.parent, hpar, ⟨rfl, m, ?_, ?_⟩, ?_⟩
        · left; omega
        · rw [← hf, hstep]
        · show (sc.parent + 1).toNat < (i + 1).toNat
          omega
      · refine ⟨some ⟨en.blk, 0, none⟩, w', h4, ⟨Nat.le_refl _, fun _ hb => by cases hb⟩, fun _ => ?_, fun hx => by simp at hx⟩
        rw [h2] at hstep
        exact ⟨rfl, .inr ⟨i.toNat, j, sc, en, by rw [← hf, hstep], hc, h3, rfl⟩⟩
    · simp only [decide_eq_false_iff_not] at h1
      have : inA C.length i = false := by
        cases hb : inA C.length i with
        | false => rfl
        | true => exact absurd (inA_iff.1 hb).2 h1
      exact ⟨rfl, .inl ⟨by rw [← hf, find_none (by rw [absS_length]; exact this)], rfl⟩⟩
    · simp only [decide_eq_false_iff_not] at h0
      have : inA C.length i = false := by
        cases hb : inA C.length i with
        | false => rfl
        | true => exact absurd (inA_iff.1 hb).1 h0
      exact ⟨rfl, .inl ⟨by rw [← hf, find_none (by rw [absS_length]; exact this)], rfl⟩⟩

theorem storeAt_quiet_dom {O : Owner} {w : World} {a : Addr} {off : Nat} {vs : List Value} (hd : Dom O w) : Dom O (storeAt w a off vs) := fun k hk => by rw [(storeAt_same w a off vs).2.2.2]; exact hd k hk

theorem var_store {w : World} {b : Nat} {v : Var} (h : w.heap[b]? = some (.cells (scells v) 52 (0, 0))) (a c : Int) (s : ByteArray) :
    (storeAt w ⟨b, 0, none⟩ 0 [(.int .i64 a), (.int .i64 c), (.string s)]).heap[b]? = some (.cells (scells ⟨a, c, s, v.begun, v.fixed⟩) 52 (0, 0)) := by
  rw [storeAt_blk h (by simp [scells])]
  rfl
theorem var_begin {w : World} {b : Nat} {v : Var} (h : w.heap[b]? = some (.cells (scells v) 52 (0, 0))) :
    (storeAt w ⟨b, 0, none⟩ 3 [(.bool true)]).heap[b]? = some (.cells (scells ⟨v.a, v.b, v.s, true, v.fixed⟩) 52 (0, 0)) := by
  rw [storeAt_blk h (by simp [scells])]
  rfl

def setEnt (C : List SSc) (i j : Nat) (f : Var → Var) : List SSc := C.modify i fun c => { c with ents := c.ents.modify j fun e => { e with v := f e.v } }

theorem map_modify' {α β : Type} {g : α → β} {f : α → α} {h : β → β} (hfg : ∀ x, g (f x) = h (g x)) : ∀ (l : List α) (i : Nat), (l.modify i f).map g = (l.map g).modify i h
  | [], i => by simp
  | x :: l, 0 => by simp [hfg]
  | x :: l, i + 1 => by simp [map_modify' hfg l i]

theorem absS_setEnt (C : List SSc) (i j : Nat) (f : Var → Var) : absS (setEnt C i j f) = setV (absS C) i j f := by
  unfold absS setEnt setV
  refine map_modify' (fun c => ?_) _ _
  simp only [Prod.mk.injEq, true_and]
  exact map_modify' (g := absE) (f := fun e => { e with v := f e.v }) (h := fun p => (p.1, f p.2)) (fun e => rfl) _ _

/-- One variable turned. -/
theorem RepS.setVar {O : Owner} {id : Nat} {w w' : World} {x0 : Addr} {C : List SSc} (h : RepS O id w x0 C) {i j : Nat} {sc : SSc} {e : SEnt} (hc : C[i]? = some sc) (he : sc.ents[j]? = some e) (f : Var → Var)
    (hsame : ∀ k, k ≠ e.blk → w'.heap[k]? = w.heap[k]?) (hnew : w'.heap[e.blk]? = some (.cells (scells (f e.v)) 52 (0, 0))) : RepS O id w' x0 (setEnt C i j f) := by
  have hown := (h.vars i sc j e hc he).1
  have hne : ∀ k t, O k = some (id, t) → t.1 ≠ 3 → k ≠ e.blk := by
    intro k t hk ht hke
    rw [hke, hown] at hk
    simp only [Option.some.injEq, Prod.mk.injEq] at hk
    rw [← hk.2] at ht
    exact ht rfl
  have hflat : ∀ (C : List SSc), (setEnt C i j f).flatMap srow = C.flatMap srow := by
    intro C
    have : ∀ (C : List SSc) (i : Nat), (C.modify i fun c => { c with ents := c.ents.modify j fun e => { e with v := f e.v } }).flatMap srow = C.flatMap srow := by
      intro C
      induction C with
      | nil => intro i; simp
      | cons c C ih =>
        intro i
        cases i with
        | zero => simp [List.modify_zero_cons, List.flatMap_cons, srow]
        | succ i => rw [List.modify_succ_cons, List.flatMap_cons, List.flatMap_cons, ih]
    exact this C i
  refine ⟨?_, fun i' c' hc' => ?_, fun i' c' j' e' hc' he' => ?_⟩
  · obtain ⟨sb, v, g, h1, h2, h3, h4, h5, h6⟩ := h.head
    refine ⟨sb, v, g, h1, h2, by rw [hsame _ (hne _ _ h2 (by simp)), h3], ?_, h5, h6⟩
    rw [hflat]
    have hl : (setEnt C i j f).length = C.length := by simp [setEnt]
    rw [hl]
    refine row_kept h4 (fun g' hg' => ?_)
    rw [h5, Option.some.injEq] at hg'
    subst hg'
    exact hsame _ (hne _ _ h6 (by simp))
  · unfold setEnt at hc'
    rw [List.getElem?_modify] at hc'
    have key : ∃ c, C[i']? = some c ∧ c'.map = c.map ∧ mrow c' = mrow c := by
      by_cases hii : i = i'
      · subst hii
        rw [hc] at hc'
        simp only [if_true, Option.map_eq_map, Option.map_some, Option.some.injEq] at hc'
        subst hc'
        refine ⟨sc, hc, rfl, ?_⟩
        unfold mrow
        have : ∀ (l : List SEnt) (j : Nat), (l.modify j fun e => { e with v := f e.v }).map (fun e => (e.name, (.pointer (some ⟨e.blk, 0, none⟩) : Value))) = l.map (fun e => (e.name, (.pointer (some ⟨e.blk, 0, none⟩) : Value))) := by
          intro l
          induction l with
          | nil => intro j; simp
          | cons e l ih =>
            intro j
            cases j with
            | zero => simp
            | succ j => simp [ih]
        exact this _ _
      · simp only [hii, if_false, Option.map_eq_map] at hc'
        have hc'' : C[i']? = some c' := by simpa using hc'
        exact ⟨c', hc'', rfl, rfl⟩
    obtain ⟨c, k1, k2, k3⟩ := key
    obtain ⟨m1, m2⟩ := h.maps i' c k1
    rw [k2, k3]
    exact ⟨m1, mapAt_kept m2 (hsame _ (hne _ _ m1 (by simp)))⟩
  · unfold setEnt at hc'
    rw [List.getElem?_modify] at hc'
    by_cases hii : i = i'
    · subst hii
      rw [hc] at hc'
      simp only [if_true, Option.map_eq_map, Option.map_some, Option.some.injEq] at hc'
      subst hc'
      simp only at he'
      rw [List.getElem?_modify] at he'
      by_cases hjj : j = j'
      · subst hjj
        rw [he] at he'
        simp only [if_true, Option.map_eq_map, Option.map_some, Option.some.injEq] at he'
        subst he'
        exact ⟨hown, hnew⟩
      · have he2 : sc.ents[j']? = some e' := by simpa [hjj] using he'
        obtain ⟨m1, m2⟩ := h.vars i sc j' e' hc he2
        refine ⟨m1, ?_⟩
        rw [hsame _ (fun hk => ?_), m2]
        rw [hk, hown] at m1
        simp only [Option.some.injEq, Prod.mk.injEq] at m1
        exact hjj m1.2.2.2
    · have hc'' : C[i']? = some c' := by simpa [hii] using hc'
      obtain ⟨m1, m2⟩ := h.vars i' c' j' e' hc'' he'
      refine ⟨m1, ?_⟩
      rw [hsame _ (fun hk => ?_), m2]
      rw [hk, hown] at m1
      simp only [Option.some.injEq, Prod.mk.injEq] at m1
      exact hii m1.2.2.1

theorem begin_S {O : Owner} {id : Nat} {w : World} {x0 : Addr} {C : List SSc} (h : RepS O id w x0 C) (hd : Dom O w) (e : Int) (x : ByteArray) (a b : Int) (s : ByteArray) :
    Calls Try.prog 11 [(.pointer (some x0)), (.int .i64 e), (.string x), (.agg #[(.int .i64 a), (.int .i64 b), (.string s)])].toArray w fun en w' => ∃ v, en = .returned v ∧ PostS O id w x0 (beginA (absS C) e x a b s).1 (.bool (beginA (absS C) e x a b s).2) v w' := by
  refine calls11 _ _ _ _ _ _ _ _ ?_
  unfold NF11
  intro k0 hk0
  refine ⟨fun h0 w1 hw1 => ?_, fun h0 w1 hw1 => ?_⟩
  · have hq : Quiet w w1 := hw1.quiet (fun k hk => by simp only [List.mem_singleton] at hk; subst hk; exact hk0.size)
    have h1 := h.quiet hd hq
    obtain ⟨p, c, hp, hcell⟩ := h1.cells
    simp only [decide_eq_true_eq] at h0
    refine ⟨p, _, c, hp, fun hx => ?_, fun hx => ?_⟩
    · simp only [Bool.not_eq_true', decide_eq_false_iff_not] at hx
      have : inA (absS C).length e = false := by
        rw [absS_length]
        cases hb : inA C.length e with
        | false => rfl
        | true => exact absurd (inA_iff.1 hb).2 hx
      simp only [beginA, this, Bool.false_eq_true, if_false]
      exact PostS.same h hd hq _
    · simp only [Bool.not_eq_false', decide_eq_true_eq] at hx
      have hin : inA (absS C).length e = true := by rw [absS_length]; exact inA_iff.2 ⟨h0, hx⟩
      obtain ⟨ad, sc, rfl, hc, hpar, hmap⟩ := hcell e h0 hx
      refine ⟨_, _, c, hp, ad, rfl, ⟨h0, hx⟩, some sc.map, hmap, ?_⟩
      have hk : Kept [k0] w1 w1 := ⟨Nat.le_refl _, fun _ _ => rfl⟩
      rcases h1.lookup hc x with ⟨h2, h3, h4⟩ | ⟨j, en, h2, h3, h4⟩
      · refine ⟨none, w1, h4, hk, fun hx => by simp at hx, fun _ => ?_⟩
        simp only [beginA, hin, if_true, entsAt_abs hc, h2]
        exact PostS.same h hd hq _
      · obtain ⟨hown, hblk⟩ := h1.vars _ sc j en hc h3
        have hk0b : en.blk ≠ k0 := fun e => by
          have := hd en.blk (by rw [hown]; simp)
          have := hk0.size
          omega
        refine ⟨_, w1, h4, hk, fun _ => ⟨_, rfl, en.v.begun, cellsAt_blk hblk rfl, fun hb => ?_, fun hb => ?_⟩, fun hx => by simp at hx⟩
        · simp only [beginA, hin, if_true, entsAt_abs hc, h2, varAt_abs hc h3, hb]
          exact PostS.same h hd hq _
        · have hs1 := var_store hblk a b s
          refine ⟨_, rfl, canStore_blk hblk (by simp [scells]) (by simpa using hk0b), _, rfl, canStore_blk hs1 (by simp [scells]) (by simpa using hk0b), ?_⟩
          simp only [beginA, hin, if_true, entsAt_abs hc, h2, varAt_abs hc h3, hb, Bool.false_eq_true, if_false]
          have hd1 : Dom O w1 := hq.dom hd
          refine ⟨rfl, O, setEnt C e.toNat j fun v => ⟨a, b, s, true, v.fixed⟩, ?_, ?_, absS_setEnt _ _ _ _⟩
          · exact (hq.step hd id).trans (((storeAt_upd hown).step hd1).trans ((storeAt_upd hown).step (storeAt_quiet_dom hd1)))
          · refine h1.setVar hc h3 _ (fun k hk => ?_) (var_begin hs1)
            rw [storeAt_far hk, storeAt_far hk]
  · simp only [decide_eq_false_iff_not] at h0
    have hq : Quiet w w1 := hw1.quiet (fun k hk => by simp only [List.mem_singleton] at hk; subst hk; exact hk0.size)
    have : inA (absS C).length e = false := by
      cases hb : inA (absS C).length e with
      | false => rfl
      | true => exact absurd (inA_iff.1 hb).1 h0
    simp only [beginA, this, Bool.false_eq_true, if_false]
    exact PostS.same h hd hq _


theorem noA {A : Ab} {e : Int} (h : ¬ (0 ≤ e ∧ e < (A.length : Int))) : inA A.length e = false := by
  cases hb : inA A.length e with
  | false => rfl
  | true => exact absurd (inA_iff.1 hb) h

theorem get_S {O : Owner} {id : Nat} {w : World} {x0 : Addr} {C : List SSc} (h : RepS O id w x0 C) (hd : Dom O w) (hold : Old (absS C)) (e : Int) (x : ByteArray) :
    Calls Try.prog 13 [(.pointer (some x0)), (.int .i64 e), (.string x)].toArray w fun en w' => ∃ v, en = .returned v ∧
      PostS O id w x0 (absS C) (.tuple #[.agg #[.int .i64 (getA (absS C) e x).1.1, .int .i64 (getA (absS C) e x).1.2.1, .string (getA (absS C) e x).1.2.2], .int .i64 (getA (absS C) e x).2]) v w' := by
  refine calls13 _ _ _ _ _ ?_
  unfold NF13
  intro k0 hk0 w1 hw1
  have hq : Quiet w w1 := hw1.quiet (fun k hk => by simp only [List.mem_singleton] at hk; subst hk; exact hk0.size)
  have h1 := h.quiet hd hq
  have hd1 := hq.dom hd
  refine CallsV.of (find_S h1 hold e x) ?_
  rintro v w2 ⟨rfl, hv⟩
  refine ⟨⟨Nat.le_refl _, fun _ _ => rfl⟩, ?_⟩
  have fin : ∀ w4, Framed [k0] w2 w4 → Quiet w w4 := fun w4 hw4 => ⟨hw4.os.trans hq.os, hw4.tape.trans hq.tape, hw4.output.trans hq.output, Nat.le_trans hq.size hw4.size, fun k hk => (hw4.same k (Nat.lt_of_lt_of_le hk hq.size) (by
    simp only [List.mem_singleton]
    have := hk0.size
    omega)).trans (hq.same k hk)⟩
  rcases hv with ⟨hf, rfl⟩ | ⟨i, j, sc, en, hf, hc, he, rfl⟩
  · refine ⟨none, rfl, fun _ w4 hw4 => ?_, fun hx => by simp at hx⟩
    simp only [getA, absS_length, hf]
    exact PostS.same h hd (fin w4 hw4) _
  · obtain ⟨hown, hblk⟩ := h1.vars _ sc j en hc he
    refine ⟨_, rfl, fun hx => by simp at hx, fun _ => ⟨_, rfl, en.v.begun, cellsAt_blk hblk rfl, fun hb w4 hw4 => ?_, fun hb => ⟨_, rfl, en.v.a, en.v.b, en.v.s, cellsAt_blk hblk rfl, fun w4 hw4 => ?_⟩⟩⟩
    · simp only [Bool.not_eq_true'] at hb
      simp only [getA, absS_length, hf, varAt_abs hc he, hb, Bool.false_eq_true, if_false]
      exact PostS.same h hd (fin w4 hw4) _
    · simp only [Bool.not_eq_false'] at hb
      simp only [getA, absS_length, hf, varAt_abs hc he, hb, if_true]
      exact PostS.same h hd (fin w4 hw4) _

theorem set_S {O : Owner} {id : Nat} {w : World} {x0 : Addr} {C : List SSc} (h : RepS O id w x0 C) (hd : Dom O w) (hold : Old (absS C)) (e : Int) (x : ByteArray) (a b : Int) (s : ByteArray) :
    Calls Try.prog 15 [(.pointer (some x0)), (.int .i64 e), (.string x), (.agg #[(.int .i64 a), (.int .i64 b), (.string s)])].toArray w fun en w' => ∃ v, en = .returned v ∧
      PostS O id w x0 (setA (absS C) e x a b s).1 (.int .i64 (setA (absS C) e x a b s).2) v w' := by
  refine calls15 _ _ _ _ _ _ _ _ ?_
  unfold NF15
  intro k0 hk0 w1 hw1
  have hq : Quiet w w1 := hw1.quiet (fun k hk => by simp only [List.mem_singleton] at hk; subst hk; exact hk0.size)
  have h1 := h.quiet hd hq
  have hd1 := hq.dom hd
  refine CallsV.of (find_S h1 hold e x) ?_
  rintro v w2 ⟨rfl, hv⟩
  refine ⟨⟨Nat.le_refl _, fun _ _ => rfl⟩, ?_⟩
  rcases hv with ⟨hf, rfl⟩ | ⟨i, j, sc, en, hf, hc, he, rfl⟩
  · refine ⟨none, rfl, fun _ => ?_, fun hx => by simp at hx⟩
    simp only [setA, absS_length, hf]
    exact PostS.same h hd hq _
  · obtain ⟨hown, hblk⟩ := h1.vars _ sc j en hc he
    have hk0b : en.blk ≠ k0 := fun e => by
      have := hd en.blk (by rw [hown]; simp)
      have := hk0.size
      omega
    refine ⟨_, rfl, fun hx => by simp at hx, fun _ => ⟨_, rfl, en.v.begun, cellsAt_blk hblk rfl, fun hb => ?_, fun hb => ⟨_, rfl, en.v.fixed, cellsAt_blk hblk rfl, fun hfx => ?_, fun hfx => ⟨_, rfl, canStore_blk hblk (by simp [scells]) (by simpa using hk0b), ?_⟩⟩⟩⟩
    · simp only [Bool.not_eq_true'] at hb
      simp only [setA, absS_length, hf, varAt_abs hc he, hb, Bool.false_eq_true, if_false]
      exact PostS.same h hd hq _
    · simp only [Bool.not_eq_false'] at hb
      simp only [setA, absS_length, hf, varAt_abs hc he, hb, hfx, if_true]
      exact PostS.same h hd hq _
    · simp only [Bool.not_eq_false'] at hb
      simp only [setA, absS_length, hf, varAt_abs hc he, hb, hfx, if_true, Bool.false_eq_true, if_false]
      refine ⟨rfl, O, setEnt C i j fun v => ⟨a, b, s, v.begun, v.fixed⟩, ?_, ?_, absS_setEnt _ _ _ _⟩
      · exact (hq.step hd id).trans ((storeAt_upd hown).step hd1)
      · exact h1.setVar hc he _ (fun k hk => storeAt_far hk) (var_store hblk a b s)

end Go.Proofs.Ytmnnkkcihmdpmaa
