/- Vx, part S: a call that only adds to the world: what stands behind its steps. -/
import Derived.Test.YtlfphbmbehbcjaaVxR
set_option linter.unusedSimpArgs false
set_option linter.unusedVariables false
namespace Go.Vx
open Go

/-- From world w on nothing old has changed; the blocks listed are new. -/
structure Pt (w : World) (L : List Nat) (w' : World) : Prop where
  quiet : Quiet w w'
  new : ∀ k ∈ L, w.heap.size ≤ k
  live : ∀ k ∈ L, k < w'.heap.size

theorem Pt.start (w : World) : Pt w [] w := ⟨.refl w, by simp, by simp⟩
theorem Pt.frame {w w1 w2 : World} {L L' : List Nat} (h : Pt w L w1) (hn : ∀ k ∈ L', k ∈ L ∨ w1.heap.size ≤ k) (hf : Framed L' w1 w2) : Pt w L' w2 := by
  have hnew : ∀ k ∈ L', w.heap.size ≤ k := fun k hk => by
    rcases hn k hk with h1 | h1
    · exact h.new k h1
    · exact Nat.le_trans h.quiet.size h1
  refine ⟨⟨hf.os.trans h.quiet.os, hf.tape.trans h.quiet.tape, hf.output.trans h.quiet.output, Nat.le_trans h.quiet.size hf.size, fun k hk => ?_⟩, hnew, hf.live⟩
  rw [hf.same k (Nat.lt_of_lt_of_le hk h.quiet.size) (fun hm => by have := hnew k hm; omega)]
  exact h.quiet.same k hk
theorem Pt.move {w w1 w2 : World} {L : List Nat} (h : Pt w L w1) (hq : Quiet w1 w2) : Pt w L w2 := ⟨h.quiet.trans hq, h.new, fun k hk => Nat.lt_of_lt_of_le (h.live k hk) hq.size⟩
theorem Pt.sub {w w1 : World} {L L' : List Nat} (h : Pt w L w1) (hs : ∀ k ∈ L', k ∈ L) : Pt w L' w1 := ⟨h.quiet, fun k hk => h.new k (hs k hk), fun k hk => h.live k (hs k hk)⟩
theorem Pt.within {w w1 : World} {L : List Nat} (h : Pt w L w1) : Within L w1 := h.live
/-- Pt a loop's head. -/
theorem Pt.of_within {w w1 : World} {L : List Nat} (hq : Quiet w w1) (hn : ∀ k ∈ L, w.heap.size ≤ k) (hw : Within L w1) : Pt w L w1 := ⟨hq, hn, hw⟩

/-- A call that answers this, and only adds to the world. -/
def Pur (P : Program) (f : FuncId) (args : List Value) (r : Value) : Prop := ∀ w, Calls P f args.toArray w fun e w' => ∃ v, e = .returned v ∧ v = r ∧ Quiet w w'
/-- The same from one world on, and what is answered is one of several. -/
def PurIn (P : Program) (f : FuncId) (args : List Value) (w : World) (Q : Value → World → Prop) : Prop := Calls P f args.toArray w fun e w' => ∃ v, e = .returned v ∧ Q v w' ∧ Quiet w w'
theorem Pur.in {P : Program} {f : FuncId} {args : List Value} {r : Value} (h : Pur P f args r) (w : World) : PurIn P f args w (fun v _ => v = r) :=
  (h w).mono fun _ _ ⟨v, e, hv, hq⟩ => ⟨v, e, hv, hq⟩
theorem Pt.pur {P : Program} {f : FuncId} {args : List Value} {r : Value} {w w1 : World} {L : List Nat} {K : Value → World → Prop} (h : Pt w L w1) (hp : Pur P f args r) (hK : ∀ w2, Pt w L w2 → Quiet w1 w2 → K r w2) : CallsV P f args w1 L K := by
  refine CallsV.of (hp w1) ?_
  rintro v w2 ⟨rfl, hq⟩
  exact ⟨hq.kept h.live, hK w2 (h.move hq) hq⟩
theorem Pt.purIn {P : Program} {f : FuncId} {args : List Value} {Q : Value → World → Prop} {w w1 : World} {L : List Nat} {K : Value → World → Prop} (h : Pt w L w1) (hp : PurIn P f args w1 Q) (hK : ∀ v w2, Q v w2 → Pt w L w2 → Quiet w1 w2 → K v w2) : CallsV P f args w1 L K := by
  refine CallsV.of hp ?_
  rintro v w2 ⟨hQ, hq⟩
  exact ⟨hq.kept h.live, hK v w2 hQ (h.move hq) hq⟩
/-- An operation that leaves the world. -/
theorem Pt.keptRefl {w w1 : World} {L : List Nat} (h : Pt w L w1) : Kept L w1 w1 := ⟨Nat.le_refl _, fun _ _ => rfl⟩
theorem Kept.refl (L : List Nat) (w : World) : Kept L w w := ⟨Nat.le_refl _, fun _ _ => rfl⟩

/-- A new map. -/
theorem run_makeMap0 {P : Program} (t : TypeId) (w : World) : Sem.run P (GOp.sem (.makeMap t)) w = .ok (.map (some w.heap.size)) (w.alloc (.map #[] 0)) := rfl
theorem quiet_alloc (w : World) (o : Obj) : Quiet w (w.alloc o) :=
  ⟨rfl, rfl, rfl, by show w.heap.size ≤ (w.heap.push o).size; simp, fun k hk => by show (w.heap.push o)[k]? = _; rw [Array.getElem?_push_lt hk, Array.getElem?_eq_getElem hk]⟩

/-! ### Going over a map -/
theorem run_rangeK {P : Program} {t kt et : TypeId} {w : World} {b : Nat} {es : Array MapEntry} {clock : Nat} (ht : P.underlying t = some (.map kt et)) (hb : w.heap[b]? = some (.map es clock)) :
    Sem.run P (GOp.sem (.range t (.map (some b)))) w = .ok (.pointer (some ⟨w.heap.size, 0, none⟩)) (w.alloc (.mapIter (some b) clock #[] clock)) := by
  simp only [GOp.sem, Instr.range, Sem.run_bind, run_underlying ht, Result.andThen_ok, Go.MapKept.run_getObj_map hb, Sem.run_pure]
  rfl
theorem run_nextK {P : Program} {w : World} {r b clock : Nat} {seen : Array Nat} {es : Array MapEntry} (hr : w.heap[r]? = some (.mapIter (some b) clock seen clock)) (hb : w.heap[b]? = some (.map es clock)) (hold : ∀ x ∈ es.toList, x.born < clock) (ty : TypeId) :
    ((∀ e ∈ es.toList, e.born ∈ seen) ∧ Sem.run P (GOp.sem (.next (.pointer (some ⟨r, 0, none⟩)) false ty)) w = .ok (.tuple #[.bool false]) w) ∨
    ∃ e ∈ es.toList, e.born ∉ seen ∧ ∃ w', Sem.run P (GOp.sem (.next (.pointer (some ⟨r, 0, none⟩)) false ty)) w = .ok (.tuple #[.bool true, e.key, e.val]) w' ∧
      w'.heap[r]? = some (.mapIter (some b) clock (seen.push e.born) clock) ∧ Only r w w' ∧ w'.heap.size = w.heap.size := by
  have hlt : r < w.heap.size := (Array.getElem?_eq_some_iff.1 hr).1
  rcases run_next_at (P := P) w ty r b clock clock seen es clock hr hb hold (Nat.le_refl _) with ⟨h1, h2⟩ | ⟨e, he, w1, hw1, h2⟩
  · refine .inl ⟨fun e he => ?_, h2⟩
    have : leftOf es seen = #[] := Array.eq_empty_of_size_eq_zero h1
    unfold leftOf at this
    rw [Array.filter_eq_empty_iff] at this
    have := this e (by simpa using he)
    simpa using this
  · refine .inr ⟨e, ?_, ?_, _, h2, ?_, ⟨?_, ?_, ?_, ?_, fun k hk hne => ?_⟩, ?_⟩
    · unfold leftOf at he
      simp only [Array.toList_filter, List.mem_filter] at he
      exact he.1
    · unfold leftOf at he
      simp only [Array.toList_filter, List.mem_filter] at he
      simpa using he.2
    · rcases hw1 with rfl | rfl
      · simp [Go.ChangeMaps.setBlock, hlt]
      · show (w.heap.setIfInBounds r _)[r]? = _
        simp [hlt]
    · rcases hw1 with rfl | rfl <;> rfl
    · rcases hw1 with rfl | rfl <;> rfl
    · rcases hw1 with rfl | rfl <;> rfl
    · rcases hw1 with rfl | rfl
      · simp [Go.ChangeMaps.setBlock]
      · show w.heap.size ≤ (w.heap.setIfInBounds r _).size
        simp
    · rcases hw1 with rfl | rfl
      · simp [Go.ChangeMaps.setBlock, Array.getElem?_setIfInBounds_ne (Ne.symm hne)]
      · show (w.heap.setIfInBounds r _)[k]? = _
        rw [Array.getElem?_setIfInBounds_ne (Ne.symm hne)]
    · rcases hw1 with rfl | rfl
      · simp [Go.ChangeMaps.setBlock]
      · show (w.heap.setIfInBounds r _).size = _
        simp
theorem run_entryIt {P : Program} {w : World} {r b clock : Nat} {seen : Array Nat} {es : Array MapEntry} {e : MapEntry} (hr : w.heap[r]? = some (.mapIter (some b) clock (seen.push e.born) clock)) (hb : w.heap[b]? = some (.map es clock)) (he : e ∈ es.toList)
    (hn : es.toList.Pairwise (fun x y => x.born < y.born)) : Sem.run P (GOp.sem (.entry (.pointer (some ⟨r, 0, none⟩)))) w = .ok (.tuple #[e.key, e.val]) w := by
  refine run_entry_at w r b clock seen es clock e hr hb he ?_
  unfold List.Nodup
  rw [List.pairwise_map]
  exact hn.imp fun h => Nat.ne_of_lt h
/-- How many have not come out. -/
def leftK (es : Array MapEntry) (seen : Array Nat) : Nat := (es.toList.filter fun e => !decide (e.born ∈ seen)).length
theorem leftK_push {es : Array MapEntry} {seen : Array Nat} {e : MapEntry} (he : e ∈ es.toList) (hn : e.born ∉ seen) : leftK es (seen.push e.born) < leftK es seen := by
  unfold leftK
  have key : ∀ l : List MapEntry, (l.filter fun x => !decide (x.born ∈ seen.push e.born)).length ≤ (l.filter fun x => !decide (x.born ∈ seen)).length ∧ (e ∈ l → (l.filter fun x => !decide (x.born ∈ seen.push e.born)).length < (l.filter fun x => !decide (x.born ∈ seen)).length) := by
    intro l
    induction l with
    | nil => exact ⟨by simp, fun h => by cases h⟩
    | cons x l ih =>
      simp only [List.filter_cons]
      by_cases hx : x.born ∈ seen
      · have h1 : x.born ∈ seen.push e.born := by simp [hx]
        simp only [hx, h1, decide_true, Bool.not_true, Bool.false_eq_true, if_false]
        refine ⟨ih.1, fun h => ih.2 ?_⟩
        rcases List.mem_cons.1 h with h | h
        · rw [h] at hn; exact absurd hx hn
        · exact h
      · by_cases hxe : x.born = e.born
        · have h1 : x.born ∈ seen.push e.born := by simp [hxe]
          simp only [hx, h1, decide_true, decide_false, Bool.not_true, Bool.not_false, Bool.false_eq_true, if_false, if_true, List.length_cons]
          exact ⟨by omega, fun _ => by omega⟩
        · have h1 : x.born ∉ seen.push e.born := by simp [hx, hxe]
          simp only [hx, h1, decide_false, Bool.not_false, if_true, List.length_cons]
          refine ⟨by omega, fun h => ?_⟩
          rcases List.mem_cons.1 h with h | h
          · rw [h] at hxe; exact absurd rfl hxe
          · have := ih.2 h; omega
  exact (key _).2 he
/-- Which entry it is. -/
theorem entry_of {α : Type} {val : α → Value} : ∀ {es : List MapEntry} {l : List (α × Value)}, es.map (fun e => (e.key, e.val)) = l.map (fun x => (val x.1, x.2)) → ∀ {e : MapEntry}, e ∈ es → ∃ (i : Nat) (x : α × Value), l[i]? = some x ∧ e.key = val x.1 ∧ e.val = x.2
  | [], _, _, e, he => by cases he
  | e :: es, [], h, _, _ => by simp at h
  | e :: es, y :: l, h, e', he => by
    simp only [List.map_cons, List.cons.injEq, Prod.mk.injEq] at h
    rcases List.mem_cons.1 he with rfl | he
    · exact ⟨0, y, rfl, h.1.1, h.1.2⟩
    · obtain ⟨i, x, h1, h2⟩ := entry_of h.2 he
      exact ⟨i + 1, x, by simpa using h1, h2⟩
theorem of_entry {α : Type} {val : α → Value} : ∀ {es : List MapEntry} {l : List (α × Value)}, es.map (fun e => (e.key, e.val)) = l.map (fun x => (val x.1, x.2)) → ∀ {x : α × Value}, x ∈ l → ∃ e ∈ es, e.key = val x.1 ∧ e.val = x.2
  | _, [], _, x, hx => by cases hx
  | [], y :: l, h, _, _ => by simp at h
  | e :: es, y :: l, h, x, hx => by
    simp only [List.map_cons, List.cons.injEq, Prod.mk.injEq] at h
    rcases List.mem_cons.1 hx with rfl | hx
    · exact ⟨e, by simp, h.1.1, h.1.2⟩
    · obtain ⟨e', h1, h2⟩ := of_entry h.2 hx
      exact ⟨e', List.mem_cons_of_mem _ h1, h2⟩

/-! ### What a step of a number's own leaves of the other blocks -/
/-- Only blocks of one tag have changed. -/
structure Tch (O O' : Owner) (T : Tag) (w w' : World) : Prop where
  step : ∀ {id : Nat} {t : Nat × Nat × Nat}, T = (id, t) → Step O O' id w w'
  dom : Dom O' w'
  other : ∀ k t, O k = some t → t ≠ T → O' k = some t ∧ w'.heap[k]? = w.heap[k]?
  free : ∀ k, k < w.heap.size → O k = none → O' k = none ∧ w'.heap[k]? = w.heap[k]?

theorem Only.touch {b : Nat} {w w' : World} (h : Only b w w') {O : Owner} {T : Tag} (hd : Dom O w) (hb : O b = some T) : Tch O O T w w' where
  step := fun {id t} e => h.step hd (e ▸ hb)
  dom := fun k hk => Nat.lt_of_lt_of_le (hd k hk) h.size
  other := fun k t hk hne => ⟨hk, h.same k (hd k (by rw [hk]; simp)) (fun e => by rw [e, hb] at hk; exact hne (Option.some.inj hk).symm)⟩
  free := fun k hk hn => ⟨hn, h.same k hk (fun e => by rw [e, hb] at hn; cases hn)⟩

theorem mem_snoc_new {L : List Nat} {b n : Nat} (h : n ≤ b) : ∀ k ∈ L ++ [b], k ∈ L ∨ n ≤ k := by
  intro k hk
  rcases List.mem_append.1 hk with h1 | h1
  · exact .inl h1
  · simp only [List.mem_singleton] at h1; subst h1; exact .inr h

/-- append of one element to a row of a tag's own. -/
theorem row_grow {P : Program} {O : Owner} {w : World} {t e size : Nat} (hok : appOk P t e size = true) {v : Value} {n : Nat} {xs : List Value} (hown : w.ownsRow 0 e size v n xs) {T : Tag} (ho : ∀ k, v.ownBlock = some k → O k = some T) (hd : Dom O w)
    {k : Nat} {fr : Nat × Nat} {news : List Value} {te : TypeId} (hk : w.heap[k]? = some (.cells news.toArray te fr)) (hl : news.length = size) (h1 : ∀ u ∈ news, u.oneCell' = true) (h63 : n + 1 ≤ 1000000) (ty : TypeId) :
    ∃ p c w' O', Sem.run P (GOp.sem (.builtin .append #[t, t] ty [v, .slice (some ⟨k, 0, none⟩) 1 1])) w = .ok (.slice p (n + 1) c) w' ∧ w'.ownsRow 0 e size (.slice p (n + 1) c) (n + 1) (xs ++ news) ∧
      (∀ b, (Value.slice p (n + 1) c).ownBlock = some b → O' b = some T) ∧ Tch O O' T w w' ∧ (∀ b, w.heap.size ≤ b → O' b = none ∨ O' b = some T) := by
  obtain ⟨p, c, w', hrun, hrow, hgrow, g, hg, hgg⟩ := run_app hok hown hk hl h1 h63 ty
  have hnotnew : ∀ {b : Nat} {u : Tag}, O b = some u → b < w.heap.size := fun {b u} hb => hd b (by rw [hb]; simp)
  have hupd : ∀ {id : Nat} {u : Nat × Nat × Nat}, T = (id, u) → Upd O id w w' := fun {id u} e => ⟨hgrow.os, hgrow.tape, hgrow.output, hgrow.size, fun b hb hne => hgrow.block b hb (fun e' => hne u (by rw [ho b e'.symm, e]))⟩
  have hst : ∀ {id : Nat} {u : Nat × Nat × Nat}, T = (id, u) → Step O O id w w' := fun {id u} e => (hupd e).step hd
  rcases hgg with hgg | ⟨hgg, hgl⟩
  · have hgT := ho g hgg
    refine ⟨p, c, w', O, hrun, hrow, fun b hb => ?_, ⟨hst, fun b hb => Nat.lt_of_lt_of_le (hd b hb) hgrow.size, fun b u hb hne => ⟨hb, hgrow.block b (hnotnew hb) (fun e => ?_)⟩, fun b hb hn => ⟨hn, hgrow.block b hb (fun e => ?_)⟩⟩, fun b hb => .inl ?_⟩
    · rw [hg, Option.some.injEq] at hb
      rw [← hb]; exact hgT
    · rw [ho b e.symm] at hb
      exact hne (Option.some.inj hb).symm
    · rw [ho b e.symm] at hn; cases hn
    · cases hO : O b with
      | none => rfl
      | some u => have := hnotnew hO; omega
  · refine ⟨p, c, w', O.give g T, hrun, hrow, fun b hb => ?_, ⟨fun {id u} e => by rw [e]; exact (hst e).give (by omega) hgl u, fun b hb => ?_, fun b u hb hne => ⟨?_, hgrow.block b (hnotnew hb) (fun e => ?_)⟩, fun b hb hn => ⟨?_, hgrow.block b hb (fun e => ?_)⟩⟩, fun b hb => ?_⟩
    · rw [hg, Option.some.injEq] at hb
      rw [← hb]; exact Owner.give_same _ _ _
    · by_cases hbg : b = g
      · rw [hbg]; exact hgl
      · rw [Owner.give_ne _ _ hbg] at hb
        exact Nat.lt_of_lt_of_le (hd b hb) hgrow.size
    · rw [Owner.give_ne _ _ (by have := hnotnew hb; omega)]; exact hb
    · rw [ho b e.symm] at hb
      exact hne (Option.some.inj hb).symm
    · rw [Owner.give_ne _ _ (by omega)]; exact hn
    · rw [ho b e.symm] at hn; cases hn
    · by_cases hbg : b = g
      · rw [hbg]; exact .inr (Owner.give_same _ _ _)
      · rw [Owner.give_ne _ _ hbg]
        cases hO : O b with
        | none => exact .inl rfl
        | some u => have := hnotnew hO; omega
/-- A store into a block of a tag's own. -/
theorem store_touch {O : Owner} {w : World} {a : Addr} {off : Nat} {vs : List Value} {T : Tag} (hd : Dom O w) (hb : O a.block = some T) : Tch O O T w (storeAt w a off vs) := (storeAt_only w a off vs).touch hd hb

/-! ### A call on something of a number's own -/
/-- From world w on only what number id owns has changed; the blocks listed are new and nobody's. -/
structure Ps (O : Owner) (id : Nat) (w : World) (L : List Nat) (O' : Owner) (w' : World) : Prop where
  step : Step O O' id w w'
  dom : Dom O' w'
  new : ∀ k ∈ L, w.heap.size ≤ k
  live : ∀ k ∈ L, k < w'.heap.size
  none : ∀ k ∈ L, O' k = none
theorem Ps.start {O : Owner} {w : World} (hd : Dom O w) (id : Nat) : Ps O id w [] O w := ⟨(Quiet.refl w).step hd id, hd, by simp, by simp, by simp⟩
theorem Step.modNew {O O' : Owner} {id : Nat} {w w1 w2 : World} (h : Step O O' id w w1) (hd : Dom O' w1) (ho : w2.os = w1.os) (ht : w2.tape = w1.tape) (hp : w2.output = w1.output) (hs : w1.heap.size ≤ w2.heap.size)
    (hk : ∀ k, k < w.heap.size → w2.heap[k]? = w1.heap[k]?) : Step O O' id w w2 :=
  ⟨⟨ho.trans h.upd.os, ht.trans h.upd.tape, hp.trans h.upd.output, Nat.le_trans h.upd.size hs, fun k hk' hne => (hk k hk').trans (h.upd.same k hk' hne)⟩, h.old, fun k hk' hne => ⟨(h.new k hk' hne).1, Nat.lt_of_lt_of_le (h.new k hk' hne).2 hs⟩⟩
theorem Ps.frame {O O' : Owner} {id : Nat} {w w1 w2 : World} {L L' : List Nat} (h : Ps O id w L O' w1) (hn : ∀ k ∈ L', k ∈ L ∨ w1.heap.size ≤ k) (hf : Framed L' w1 w2) : Ps O id w L' O' w2 := by
  have hnew : ∀ k ∈ L', w.heap.size ≤ k := fun k hk => by
    rcases hn k hk with h1 | h1
    · exact h.new k h1
    · exact Nat.le_trans h.step.upd.size h1
  refine ⟨h.step.modNew h.dom hf.os hf.tape hf.output hf.size (fun k hk => hf.same k (Nat.lt_of_lt_of_le hk h.step.upd.size) (fun hm => by have := hnew k hm; omega)), fun k hk => Nat.lt_of_lt_of_le (h.dom k hk) hf.size, hnew, hf.live, fun k hk => ?_⟩
  rcases hn k hk with h1 | h1
  · exact h.none k h1
  · cases hO : O' k with
    | none => rfl
    | some t => have := h.dom k (by rw [hO]; simp); omega
/-- What a frame leaves of what is owned. -/
theorem Ps.owned {O O' : Owner} {id : Nat} {w w1 w2 : World} {L L' : List Nat} (h : Ps O id w L O' w1) (hn : ∀ k ∈ L', k ∈ L ∨ w1.heap.size ≤ k) (hf : Framed L' w1 w2) {k : Nat} {t : Tag} (hk : O' k = some t) : O' k = some t ∧ w2.heap[k]? = w1.heap[k]? := by
  have hlt : k < w1.heap.size := h.dom k (by rw [hk]; simp)
  refine ⟨hk, hf.same k hlt (fun hm => ?_)⟩
  rcases hn k hm with h1 | h1
  · rw [h.none k h1] at hk; cases hk
  · omega
/-- What it leaves of what is nobody's, but for the blocks listed. -/
theorem Ps.free {O O' : Owner} {id : Nat} {w w1 w2 : World} {L L' : List Nat} (h : Ps O id w L O' w1) (hn : ∀ k ∈ L', k ∈ L ∨ w1.heap.size ≤ k) (hf : Framed L' w1 w2) {k : Nat} (hk : k < w1.heap.size) (hL : k ∉ L) : w2.heap[k]? = w1.heap[k]? := by
  refine hf.same k hk (fun hm => ?_)
  rcases hn k hm with h1 | h1
  · exact hL h1
  · omega
theorem Ps.move {O O1 O2 : Owner} {id : Nat} {w w1 w2 : World} {L : List Nat} (h : Ps O id w L O1 w1) (hs : Step O1 O2 id w1 w2) : Ps O id w L O2 w2 :=
  ⟨h.step.trans hs, hs.dom h.dom, h.new, fun k hk => Nat.lt_of_lt_of_le (h.live k hk) hs.upd.size, fun k hk => (hs.unowned (h.none k hk) (h.live k hk)).1⟩
theorem Ps.kept {O O1 O2 : Owner} {id id' : Nat} {w w1 w2 : World} {L : List Nat} (h : Ps O id w L O1 w1) (hs : Step O1 O2 id' w1 w2) : Kept L w1 w2 := hs.kept fun k hk => ⟨h.none k hk, h.live k hk⟩
theorem Ps.quiet {O O' : Owner} {id : Nat} {w w1 w2 : World} {L : List Nat} (h : Ps O id w L O' w1) (hq : Quiet w1 w2) : Ps O id w L O' w2 := h.move (hq.step h.dom id)
theorem Ps.sub {O O' : Owner} {id : Nat} {w w1 : World} {L L' : List Nat} (h : Ps O id w L O' w1) (hs : ∀ k ∈ L', k ∈ L) : Ps O id w L' O' w1 := ⟨h.step, h.dom, fun k hk => h.new k (hs k hk), fun k hk => h.live k (hs k hk), fun k hk => h.none k (hs k hk)⟩
theorem Ps.pur {P : Program} {f : FuncId} {args : List Value} {r : Value} {O O' : Owner} {id : Nat} {w w1 : World} {L : List Nat} {K : Value → World → Prop} (h : Ps O id w L O' w1) (hp : Pur P f args r) (hK : ∀ w2, Ps O id w L O' w2 → Quiet w1 w2 → K r w2) : CallsV P f args w1 L K := by
  refine CallsV.of (hp w1) ?_
  rintro v w2 ⟨rfl, hq⟩
  exact ⟨hq.kept h.live, hK w2 (h.quiet hq) hq⟩
theorem Ps.purIn {P : Program} {f : FuncId} {args : List Value} {Q : Value → World → Prop} {O O' : Owner} {id : Nat} {w w1 : World} {L : List Nat} {K : Value → World → Prop} (h : Ps O id w L O' w1) (hp : PurIn P f args w1 Q) (hK : ∀ v w2, Q v w2 → Ps O id w L O' w2 → Quiet w1 w2 → K v w2) : CallsV P f args w1 L K := by
  refine CallsV.of hp ?_
  rintro v w2 ⟨hQ, hq⟩
  exact ⟨hq.kept h.live, hK v w2 hQ (h.quiet hq) hq⟩

/-! ### What stays as it was -/
/-- What has one of these tags stays, and what was nobody's. -/
structure Ext (S : Tag → Prop) (O : Owner) (w : World) (O' : Owner) (w' : World) : Prop where
  os : w'.os = w.os
  tape : w'.tape = w.tape
  output : w'.output = w.output
  size : w.heap.size ≤ w'.heap.size
  dom : Dom O' w'
  kept : ∀ k t, O k = some t → S t → O' k = some t ∧ w'.heap[k]? = w.heap[k]?
  free : ∀ k, k < w.heap.size → O k = none → O' k = none ∧ w'.heap[k]? = w.heap[k]?
theorem Ext.refl {S : Tag → Prop} {O : Owner} {w : World} (hd : Dom O w) : Ext S O w O w := ⟨rfl, rfl, rfl, Nat.le_refl _, hd, fun k t h _ => ⟨h, rfl⟩, fun k _ h => ⟨h, rfl⟩⟩
theorem Ext.trans {S : Tag → Prop} {O O1 O2 : Owner} {w w1 w2 : World} (h : Ext S O w O1 w1) (k : Ext S O1 w1 O2 w2) : Ext S O w O2 w2 where
  os := k.os.trans h.os
  tape := k.tape.trans h.tape
  output := k.output.trans h.output
  size := Nat.le_trans h.size k.size
  dom := k.dom
  kept := fun b t hb hs => by
    obtain ⟨h1, h2⟩ := h.kept b t hb hs
    obtain ⟨h3, h4⟩ := k.kept b t h1 hs
    exact ⟨h3, h4.trans h2⟩
  free := fun b hb hn => by
    obtain ⟨h1, h2⟩ := h.free b hb hn
    obtain ⟨h3, h4⟩ := k.free b (Nat.lt_of_lt_of_le hb h.size) h1
    exact ⟨h3, h4.trans h2⟩
theorem Ext.mono {S S' : Tag → Prop} {O O' : Owner} {w w' : World} (h : Ext S O w O' w') (hs : ∀ t, S' t → S t) : Ext S' O w O' w' := ⟨h.os, h.tape, h.output, h.size, h.dom, fun k t hk ht => h.kept k t hk (hs t ht), h.free⟩
theorem Ext.quiet {S : Tag → Prop} {O O' : Owner} {w w1 w2 : World} (h : Ext S O w O' w1) (hq : Quiet w1 w2) : Ext S O w O' w2 :=
  h.trans ⟨hq.os, hq.tape, hq.output, hq.size, hq.dom h.dom, fun k t hk _ => ⟨hk, hq.same k (h.dom k (by rw [hk]; simp))⟩, fun k hk hn => ⟨hn, hq.same k hk⟩⟩
/-- A frame: the blocks listed are new since w, and nobody's. -/
theorem Ext.frame {S : Tag → Prop} {O O' : Owner} {w w1 w2 : World} {L : List Nat} (h : Ext S O w O' w1) (hL : ∀ k ∈ L, w.heap.size ≤ k) (hf : Framed L w1 w2) : Ext S O w O' w2 where
  os := hf.os.trans h.os
  tape := hf.tape.trans h.tape
  output := hf.output.trans h.output
  size := Nat.le_trans h.size hf.size
  dom := fun k hk => Nat.lt_of_lt_of_le (h.dom k hk) hf.size
  kept := fun k t hk hs => by
    obtain ⟨h1, h2⟩ := h.kept k t hk hs
    have hlt : k < w.heap.size ∨ w.heap.size ≤ k := Nat.lt_or_ge _ _
    rcases hlt with hlt | hge
    · exact ⟨h1, (hf.same k (Nat.lt_of_lt_of_le hlt h.size) (fun hm => by have := hL k hm; omega)).trans h2⟩
    · -- a block that was not there can't have been owned
      rw [Array.getElem?_eq_none hge] at h2
      have hlt1 : k < w1.heap.size := h.dom k (by rw [h1]; simp)
      rw [Array.getElem?_eq_getElem hlt1] at h2
      cases h2
  free := fun k hk hn => by
    obtain ⟨h1, h2⟩ := h.free k hk hn
    exact ⟨h1, (hf.same k (Nat.lt_of_lt_of_le hk h.size) (fun hm => by have := hL k hm; omega)).trans h2⟩
theorem Ext.step {S : Tag → Prop} {O O1 O2 : Owner} {w w1 w2 : World} {id : Nat} (h : Ext S O w O1 w1) (hs : Step O1 O2 id w1 w2) (hne : ∀ t, S t → t.1 ≠ id) : Ext S O w O2 w2 :=
  h.trans ⟨hs.upd.os, hs.upd.tape, hs.upd.output, hs.upd.size, hs.dom h.dom, fun k t hk ht => hs.other hk (hne t ht) h.dom, fun k hk hn => hs.unowned hn hk⟩
theorem Ext.tch {S : Tag → Prop} {O O1 O2 : Owner} {w w1 w2 : World} {T : Tag} (h : Ext S O w O1 w1) (ht : Tch O1 O2 T w1 w2) (hne : ∀ t, S t → t ≠ T) : Ext S O w O2 w2 :=
  h.trans ⟨(ht.step (id := T.1) (t := T.2) rfl).upd.os, (ht.step (id := T.1) (t := T.2) rfl).upd.tape, (ht.step (id := T.1) (t := T.2) rfl).upd.output, (ht.step (id := T.1) (t := T.2) rfl).upd.size, ht.dom, fun k t hk hs => ht.other k t hk (hne t hs), ht.free⟩
/-- A block that is new since w is given an owner. -/
theorem Ext.give {S : Tag → Prop} {O O1 : Owner} {w w1 : World} (h : Ext S O w O1 w1) (hd : Dom O w) {b : Nat} (hb : w.heap.size ≤ b) (hb' : b < w1.heap.size) (T : Tag) : Ext S O w (O1.give b T) w1 where
  os := h.os
  tape := h.tape
  output := h.output
  size := h.size
  dom := fun k hk => by
    by_cases hkb : k = b
    · rw [hkb]; exact hb'
    · rw [Owner.give_ne _ _ hkb] at hk
      exact h.dom k hk
  kept := fun k t hk hs => by
    have hlt : k < w.heap.size := hd k (by rw [hk]; simp)
    rw [Owner.give_ne _ _ (by omega)]
    exact h.kept k t hk hs
  free := fun k hk hn => by
    rw [Owner.give_ne _ _ (by omega)]
    exact h.free k hk hn
theorem Since.ext {S : Tag → Prop} {O O' : Owner} {w0 w w' : World} (h : Since O w0 w) (k : Ext S O w O' w') : Since O' w0 w' :=
  ⟨k.os.trans h.os, k.tape.trans h.tape, k.output.trans h.output, Nat.le_trans h.size k.size, fun b hb => (k.free b (Nat.lt_of_lt_of_le hb h.size) (h.own b hb)).1,
    fun b hb => ((k.free b (Nat.lt_of_lt_of_le hb h.size) (h.own b hb)).2).trans (h.same b hb)⟩
theorem Imm.since {α : Type} {O O' : Owner} {w0 w : World} {p : Option Addr} {n : Nat} {f : α → List Value} {k : Nat} {xs : List α} (h : Imm O w0 p n f k xs) (hs : Since O' w0 w) : Imm O' w p n f k xs :=
  h.move hs.size fun b hb _ => ⟨hs.own b hb, hs.same b hb⟩
end Go.Vx
