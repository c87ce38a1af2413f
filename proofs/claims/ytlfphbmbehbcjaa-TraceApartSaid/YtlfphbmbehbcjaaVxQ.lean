/- Vx, part Q: words on memory: who owns a block, what a step leaves, rows, maps of strings. -/
import Derived.Test.YtlfphbmbehbcjaaVxP
import Derived.Maps.AppendAt
import Derived.MapKept
import Derived.Carry
import Derived.Below
set_option linter.unusedSimpArgs false
set_option linter.unusedVariables false
namespace Go.Vx
open Go Go.MapKept Go.RowKit

abbrev Tag := Nat × Nat × Nat × Nat
abbrev Owner := Nat → Option Tag

/-- Only blocks of the world are owned. -/
def Dom (O : Owner) (w : World) : Prop := ∀ k, O k ≠ none → k < w.heap.size

/-- The old blocks that are not owned by number id are as they were. -/
structure Upd (O : Owner) (id : Nat) (w w' : World) : Prop where
  os : w'.os = w.os
  tape : w'.tape = w.tape
  output : w'.output = w.output
  size : w.heap.size ≤ w'.heap.size
  same : ∀ k, k < w.heap.size → (∀ t, O k ≠ some (id, t)) → w'.heap[k]? = w.heap[k]?

/-- Who owns what behind a step of number id. -/
structure Step (O O' : Owner) (id : Nat) (w w' : World) : Prop where
  upd : Upd O id w w'
  old : ∀ k, k < w.heap.size → O' k = O k
  new : ∀ k, w.heap.size ≤ k → O' k ≠ none → (∃ t, O' k = some (id, t)) ∧ k < w'.heap.size

/-- All old blocks are as they were. -/
structure Quiet (w w' : World) : Prop where
  os : w'.os = w.os
  tape : w'.tape = w.tape
  output : w'.output = w.output
  size : w.heap.size ≤ w'.heap.size
  same : ∀ k, k < w.heap.size → w'.heap[k]? = w.heap[k]?

theorem Quiet.refl (w : World) : Quiet w w := ⟨rfl, rfl, rfl, Nat.le_refl _, fun _ _ => rfl⟩
theorem Quiet.trans {a b c : World} (h : Quiet a b) (k : Quiet b c) : Quiet a c :=
  ⟨k.os.trans h.os, k.tape.trans h.tape, k.output.trans h.output, Nat.le_trans h.size k.size, fun i hi => (k.same i (Nat.lt_of_lt_of_le hi h.size)).trans (h.same i hi)⟩
theorem Quiet.upd {w w' : World} (h : Quiet w w') (O : Owner) (id : Nat) : Upd O id w w' := ⟨h.os, h.tape, h.output, h.size, fun k hk _ => h.same k hk⟩
theorem Quiet.step {w w' : World} (h : Quiet w w') {O : Owner} (hd : Dom O w) (id : Nat) : Step O O id w w' :=
  ⟨h.upd O id, fun _ _ => rfl, fun k hk hne => absurd (hd k hne) (by omega)⟩
theorem Quiet.dom {w w' : World} (h : Quiet w w') {O : Owner} (hd : Dom O w) : Dom O w' := fun k hk => Nat.lt_of_lt_of_le (hd k hk) h.size
theorem Framed.quiet {L : List Nat} {w w' : World} (h : Framed L w w') (hL : ∀ k ∈ L, w.heap.size ≤ k) : Quiet w w' :=
  ⟨h.os, h.tape, h.output, h.size, fun k hk => h.same k hk (fun hm => by have := hL k hm; omega)⟩
theorem Framed.quiet0 {w w' : World} (h : Framed [] w w') : Quiet w w' := h.quiet (fun k hk => by cases hk)

theorem Upd.trans {O O' : Owner} {id : Nat} {a b c : World} (h : Upd O id a b) (ho : ∀ k, k < a.heap.size → O' k = O k) (k : Upd O' id b c) : Upd O id a c :=
  ⟨k.os.trans h.os, k.tape.trans h.tape, k.output.trans h.output, Nat.le_trans h.size k.size, fun i hi hne =>
    (k.same i (Nat.lt_of_lt_of_le hi h.size) (fun t => by rw [ho i hi]; exact hne t)).trans (h.same i hi hne)⟩
theorem Step.trans {O O' O'' : Owner} {id : Nat} {a b c : World} (h : Step O O' id a b) (k : Step O' O'' id b c) : Step O O'' id a c := by
  refine ⟨h.upd.trans h.old k.upd, fun i hi => (k.old i (Nat.lt_of_lt_of_le hi h.upd.size)).trans (h.old i hi), fun i hi hne => ?_⟩
  by_cases hb : i < b.heap.size
  · rw [k.old i hb] at hne ⊢
    obtain ⟨h1, h2⟩ := h.new i hi hne
    exact ⟨h1, Nat.lt_of_lt_of_le h2 k.upd.size⟩
  · exact k.new i (by omega) hne
theorem Step.dom {O O' : Owner} {id : Nat} {w w' : World} (h : Step O O' id w w') (hd : Dom O w) : Dom O' w' := by
  intro k hk
  by_cases hb : k < w.heap.size
  · exact Nat.lt_of_lt_of_le hb h.upd.size
  · exact (h.new k (by omega) hk).2
/-- What is not owned by that number is as it was. -/
theorem Step.other {O O' : Owner} {id : Nat} {w w' : World} (h : Step O O' id w w') {k : Nat} {t : Tag} (hk : O k = some t) (hne : t.1 ≠ id) (hd : Dom O w) : O' k = some t ∧ w'.heap[k]? = w.heap[k]? := by
  have hlt : k < w.heap.size := hd k (by rw [hk]; simp)
  refine ⟨by rw [h.old k hlt, hk], h.upd.same k hlt (fun u hu => ?_)⟩
  rw [hk, Option.some.injEq] at hu
  rw [hu] at hne
  exact hne rfl
theorem Step.unowned {O O' : Owner} {id : Nat} {w w' : World} (h : Step O O' id w w') {k : Nat} (hk : O k = none) (hlt : k < w.heap.size) : O' k = none ∧ w'.heap[k]? = w.heap[k]? :=
  ⟨by rw [h.old k hlt, hk], h.upd.same k hlt (fun u hu => by rw [hk] at hu; cases hu)⟩
theorem Step.kept {O O' : Owner} {id : Nat} {w w' : World} (h : Step O O' id w w') {L : List Nat} (hL : ∀ k ∈ L, O k = none ∧ k < w.heap.size) : Kept L w w' :=
  ⟨h.upd.size, fun k hk => (h.unowned (hL k hk).1 (hL k hk).2).2⟩
theorem Quiet.kept {w w' : World} (h : Quiet w w') {L : List Nat} (hL : ∀ k ∈ L, k < w.heap.size) : Kept L w w' := ⟨h.size, fun k hk => h.same k (hL k hk)⟩

/-- A block given to an owner. -/
def Owner.give (O : Owner) (b : Nat) (t : Tag) : Owner := fun k => if k = b then some t else O k
theorem Owner.give_same (O : Owner) (b : Nat) (t : Tag) : O.give b t b = some t := by simp [Owner.give]
theorem Owner.give_ne (O : Owner) {b k : Nat} (t : Tag) (h : k ≠ b) : O.give b t k = O k := by simp [Owner.give, h]
theorem Step.give {O O' : Owner} {id : Nat} {w w' : World} (h : Step O O' id w w') {b : Nat} (hb : w.heap.size ≤ b) (hb' : b < w'.heap.size) (t : Nat × Nat × Nat) : Step O (O'.give b (id, t)) id w w' := by
  refine ⟨h.upd, fun k hk => ?_, fun k hk hne => ?_⟩
  · rw [Owner.give_ne _ _ (by omega)]; exact h.old k hk
  · by_cases hkb : k = b
    · subst hkb; exact ⟨⟨t, Owner.give_same _ _ _⟩, hb'⟩
    · rw [Owner.give_ne _ _ hkb] at hne ⊢
      exact h.new k hk hne

/-! ### Calls -/
theorem CallsV.of {P : Program} {f : FuncId} {args : List Value} {w : World} {L : List Nat} {K Post : Value → World → Prop} (h : Calls P f args.toArray w fun e w' => ∃ v, e = .returned v ∧ Post v w') (hK : ∀ v w', Post v w' → Kept L w w' ∧ K v w') : CallsV P f args w L K := by
  refine h.mono ?_
  rintro e w' ⟨v, rfl, hp⟩
  exact ⟨v, rfl, (hK v w' hp).1, (hK v w' hp).2⟩

/-! ### Cells -/
theorem cellsAt_blk {w : World} {b o off : Nat} {cur : Array Value} {e : TypeId} {fr : Nat × Nat} (h : w.heap[b]? = some (.cells cur e fr)) {vs : List Value} (hv : (cur.toList.drop (o + off)).take vs.length = vs) : CellsAt w ⟨b, o, none⟩ off vs := by
  intro j v hj
  rw [add_mid]
  unfold World.cell?
  simp only [h, Option.isSome_none, Bool.false_eq_true, if_false]
  have hlt := (List.getElem?_eq_some_iff.1 hj).1
  rw [← hv, List.getElem?_take_of_lt hlt, List.getElem?_drop] at hj
  rw [← Array.getElem?_toList, ← hj]
  congr 1
  omega

theorem canStore_blk {L : List Nat} {w : World} {b o off n : Nat} {cur : Array Value} {e : TypeId} (h : w.heap[b]? = some (.cells cur e (0, 0))) (hn : o + off + n ≤ cur.size) (hL : b ∉ L) : CanStore L w ⟨b, o, none⟩ off n := by
  refine ⟨rfl, fun j hj => ?_, fun j hj => ?_, hL⟩
  · unfold World.cell?
    simp only [h, Option.isSome_none, Bool.false_eq_true, if_false]
    have : o + off + j < cur.size := by omega
    simp [this]
  · unfold World.frozen?
    simp only [h]
    simp

theorem storeAt_far {w : World} {a : Addr} {off : Nat} {vs : List Value} {k : Nat} (hk : k ≠ a.block) : (storeAt w a off vs).heap[k]? = w.heap[k]? := by
  have key : ∀ (vs : List Value) (o : Nat) (w : World), (w.setCells a.block o vs).heap[k]? = w.heap[k]? := by
    intro vs
    induction vs with
    | nil => intro o w; rfl
    | cons v vs ih =>
      intro o w
      rw [World.setCells, ih]
      exact Below.heap_setCell w ⟨a.block, o, none⟩ v k hk
  exact key _ _ _
theorem storeAt_same (w : World) (a : Addr) (off : Nat) (vs : List Value) : (storeAt w a off vs).os = w.os ∧ (storeAt w a off vs).tape = w.tape ∧ (storeAt w a off vs).output = w.output ∧ (storeAt w a off vs).heap.size = w.heap.size := by
  have key : ∀ (vs : List Value) (o : Nat) (w : World), (w.setCells a.block o vs).os = w.os ∧ (w.setCells a.block o vs).tape = w.tape ∧ (w.setCells a.block o vs).output = w.output ∧ (w.setCells a.block o vs).heap.size = w.heap.size := by
    intro vs
    induction vs with
    | nil => intro o w; exact ⟨rfl, rfl, rfl, rfl⟩
    | cons v vs ih =>
      intro o w
      obtain ⟨h1, h2, h3, h4⟩ := ih (o + 1) (w.setCell ⟨a.block, o, none⟩ v)
      rw [World.setCells]
      exact ⟨h1, h2, h3, by rw [h4]; simp [World.setCell]⟩
  exact key _ _ _

theorem setCell_blk {w : World} {b o : Nat} {cur : Array Value} {e : TypeId} {fr : Nat × Nat} (h : w.heap[b]? = some (.cells cur e fr)) (v : Value) : (w.setCell ⟨b, o, none⟩ v).heap[b]? = some (.cells (cur.setIfInBounds o v) e fr) := by
  have hlt : b < w.heap.size := (Array.getElem?_eq_some_iff.1 h).1
  have hv : w.heap[b] = .cells cur e fr := (Array.getElem?_eq_some_iff.1 h).2
  unfold World.setCell
  rw [Array.getElem?_eq_getElem (by simpa using hlt), Array.getElem_modify]
  simp [hv]

/-- The block behind a store. -/
theorem storeAt_blk {w : World} {b o off : Nat} {cur : Array Value} {e : TypeId} {vs : List Value} (h : w.heap[b]? = some (.cells cur e (0, 0))) (hn : o + off + vs.length ≤ cur.size) :
    (storeAt w ⟨b, o, none⟩ off vs).heap[b]? = some (.cells (cur.toList.take (o + off) ++ vs ++ cur.toList.drop (o + off + vs.length)).toArray e (0, 0)) := by
  have key : ∀ (vs : List Value) (p : Nat) (w : World) (cur : Array Value), w.heap[b]? = some (.cells cur e (0, 0)) → p + vs.length ≤ cur.size →
      (w.setCells b p vs).heap[b]? = some (.cells (cur.toList.take p ++ vs ++ cur.toList.drop (p + vs.length)).toArray e (0, 0)) := by
    intro vs
    induction vs with
    | nil => intro p w cur h hl; simp [World.setCells, h]
    | cons v vs ih =>
      intro p w cur h hl
      simp only [List.length_cons] at hl
      rw [World.setCells, ih (p + 1) _ _ (setCell_blk h v) (by simp; omega)]
      congr 2
      rw [Array.toList_setIfInBounds]
      have ho : p < cur.toList.length := by rw [Array.length_toList]; omega
      rw [List.take_set, List.drop_set_of_lt (by omega)]
      simp only [List.length_cons]
      rw [show p + 1 + vs.length = p + (vs.length + 1) by omega]
      congr 1
      rw [List.take_succ_eq_append_getElem ho, List.set_append_right _ _ (by rw [List.length_take]; omega)]
      have ho' : p < cur.size := by omega
      simp [Nat.min_eq_left (Nat.le_of_lt ho')]
  exact key vs (o + off) w cur h hn

theorem storeAt_upd {O : Owner} {id : Nat} {w : World} {a : Addr} {off : Nat} {vs : List Value} {t : Nat × Nat × Nat} (h : O a.block = some (id, t)) : Upd O id w (storeAt w a off vs) := by
  obtain ⟨h1, h2, h3, h4⟩ := storeAt_same w a off vs
  exact ⟨h1, h2, h3, by omega, fun k hk hne => storeAt_far (fun e => hne t (by rw [e]; exact h))⟩
theorem Upd.step {O : Owner} {id : Nat} {w w' : World} (h : Upd O id w w') (hd : Dom O w) : Step O O id w w' := ⟨h, fun _ _ => rfl, fun k hk hne => absurd (hd k hne) (by omega)⟩

/-! ### Rows -/
theorem row_kept {w w' : World} {e : TypeId} {size n : Nat} {v : Value} {xs : List Value} (h : w.ownsRow 0 e size v n xs) (hk : ∀ g, v.ownBlock = some g → w'.heap[g]? = w.heap[g]?) : w'.ownsRow 0 e size v n xs := by
  refine ⟨h.1, ?_⟩
  rcases h.2 with hn | ⟨g, cap, cur, rfl, hb, hgg, rest⟩
  · exact .inl hn
  · exact .inr ⟨g, cap, cur, rfl, hb, by rw [hk g rfl]; exact hgg, rest⟩

/-- A row's slice. -/
theorem row_slice {w : World} {e : TypeId} {size n : Nat} {v : Value} {xs : List Value} (h : w.ownsRow 0 e size v n xs) : ∃ p c, v = .slice p n c := by
  rcases h.2 with ⟨rfl, rfl⟩ | ⟨g, cap, cur, rfl, _⟩
  · exact ⟨none, 0, rfl⟩
  · exact ⟨_, cap, rfl⟩

/-- A row's block, where there is one. -/
theorem row_blk {w : World} {e : TypeId} {size n : Nat} {v : Value} {xs : List Value} (h : w.ownsRow 0 e size v n xs) (hn : 0 < n) : ∃ g c cur, v = .slice (some ⟨g, 0, none⟩) n c ∧ v.ownBlock = some g ∧ w.heap[g]? = some (.cells cur e (0, 0)) ∧ n * size ≤ cur.size ∧ cur.toList.take (n * size) = xs := by
  rcases h.2 with ⟨rfl, rfl⟩ | ⟨g, cap, cur, rfl, hb, hgg, hc, _, hs, ht⟩
  · omega
  · exact ⟨g, cap, cur, rfl, rfl, hgg, by rw [hs]; exact Nat.mul_le_mul_right _ hc, ht⟩

theorem row_cells {w : World} {e : TypeId} {size n : Nat} {v : Value} {xs : List Value} (h : w.ownsRow 0 e size v n xs) {g : Nat} (hg : v.ownBlock = some g) {o off : Nat} {vs : List Value} (hv : (xs.drop (o + off)).take vs.length = vs) : CellsAt w ⟨g, o, none⟩ off vs := by
  intro j u hj
  have hlt := (List.getElem?_eq_some_iff.1 hj).1
  have := h.cells hg (o + off + j) u (by rw [← hv, List.getElem?_take_of_lt hlt, List.getElem?_drop] at hj; exact hj)
  rw [add_mid] at this ⊢
  rw [show o + (off + j) = 0 + (o + off + j) by omega]
  exact this

/-- A row's cells written over. -/
theorem row_store {w : World} {e : TypeId} {size n : Nat} {v : Value} {xs : List Value} (h : w.ownsRow 0 e size v n xs) {g : Nat} (hg : v.ownBlock = some g) {o off : Nat} {vs : List Value} (hv : o + off + vs.length ≤ xs.length) (L : List Nat) (hL : g ∉ L) :
    CanStore L w ⟨g, o, none⟩ off vs.length ∧ (storeAt w ⟨g, o, none⟩ off vs).ownsRow 0 e size v n (xs.take (o + off) ++ vs ++ xs.drop (o + off + vs.length)) := by
  rcases h.2 with ⟨rfl, rfl⟩ | ⟨g', cap, cur, rfl, hb, hgg, hc, hm, hs, ht⟩
  · simp [Value.ownBlock] at hg
  · simp only [Value.ownBlock, Option.some.injEq] at hg
    subst hg
    have hlen : xs.length ≤ cur.size := by rw [h.1, hs]; exact Nat.mul_le_mul_right _ hc
    refine ⟨canStore_blk hgg (by omega) hL, ?_, .inr ⟨g', cap, _, rfl, hb, storeAt_blk hgg (by omega), hc, hm, ?_, ?_⟩⟩
    · simp only [List.length_append, List.length_take, List.length_drop]
      rw [← h.1]
      omega
    · simp only [List.size_toArray, List.length_append, List.length_take, List.length_drop, Array.length_toList]
      omega
    · rw [List.toList_toArray]
      have hxl := h.1
      have e1 : cur.toList = xs ++ cur.toList.drop (n * size) := by rw [← ht, List.take_append_drop]
      have e2 : cur.toList.take (o + off) = xs.take (o + off) := by rw [e1, List.take_append_of_le_length (by omega)]
      have e3 : cur.toList.drop (o + off + vs.length) = xs.drop (o + off + vs.length) ++ cur.toList.drop (n * size) := by
        conv => lhs; rw [e1]
        rw [List.drop_append_of_le_length (by omega)]
      rw [e2, e3, ← List.append_assoc]
      apply List.take_left'
      simp only [List.length_append, List.length_take, List.length_drop]
      omega

/-- append of one element. -/
theorem run_append1 {P : Program} {w : World} {t e : TypeId} {i : TypeInfo} {z : Value} {size bytes : Nat} (ht : P.underlying t = some (.slice e)) (hi : P.info? e = some i) (hz : i.zero = some z) (hsize : i.size = size) (hby : i.bytes = bytes) (hzs : z.cells.size = size) (hsz : 0 < size)
    {v : Value} {n : Nat} {xs : List Value} (hown : w.ownsRow 0 e size v n xs) {k : Nat} {fr : Nat × Nat} {news : List Value} {te : TypeId} (hk : w.heap[k]? = some (.cells news.toArray te fr)) (hl : news.length = size) (h1 : ∀ u ∈ news, u.oneCell' = true)
    (h63 : n + 1 ≤ 1000000) (hb : bytes ≤ 100000000) (ty : TypeId) :
    ∃ p c w', Sem.run P (GOp.sem (.builtin .append #[t, t] ty [v, .slice (some ⟨k, 0, none⟩) 1 1])) w = .ok (.slice p (n + 1) c) w' ∧ w'.ownsRow 0 e size (.slice p (n + 1) c) (n + 1) (xs ++ news) ∧ w.grownBy w' v.ownBlock ∧
      (∃ g, (Value.slice p (n + 1) c).ownBlock = some g ∧ (v.ownBlock = some g ∨ (g = w.heap.size ∧ g < w'.heap.size))) := by
  obtain ⟨v', w', hr, h2, h3, h4, h5⟩ := run_append_own_at (P := P) w 0 t ty e i z size bytes ht hi hz hsize hby hzs hsz v n xs hown ⟨k, 0, none⟩ 1 1 news (by omega)
    (fun j u hj => by
      rw [add_mid]
      unfold World.cell?
      simp only [hk, Option.isSome_none, Bool.false_eq_true, if_false]
      rw [Nat.zero_add, List.getElem?_toArray]
      exact hj) h1 (by simp only [maxLen]; omega) (by
        have : (n + 1) * bytes ≤ 1000000 * 100000000 := Nat.mul_le_mul h63 hb
        omega) (Nat.zero_le _)
  obtain ⟨g, c, cur, e1, e2, e3, _⟩ := row_blk h2 (by omega)
  subst e1
  refine ⟨_, _, w', ?_, h2, h3, g, rfl, ?_⟩
  · simp only [GOp.sem, Go.builtin, Sem.run_bind]
    have : [v, Value.slice (some ⟨k, 0, none⟩) 1 1].toArray = #[v, .slice (some ⟨k, 0, none⟩) 1 1] := rfl
    rw [this]
    simp [hr]
  · rcases h5 with h5 | h5
    · exact .inl (by rw [← h5]; rfl)
    · simp only [Value.ownBlock, Option.some.injEq] at h5
      exact .inr ⟨h5, (Array.getElem?_eq_some_iff.1 e3).1⟩

/-! ### Maps of strings -/
/-- Block b is a map with these entries, in their order. -/
def MapAt (w : World) (b : Nat) (l : List (ByteArray × Value)) : Prop := ∃ es clock, w.heap[b]? = some (.map es clock) ∧ es.toList.map (fun e => (e.key, e.val)) = l.map fun x => (.string x.1, x.2)

def getS (x : ByteArray) : List (ByteArray × Value) → Option Value
  | [] => none
  | (k, v) :: r => if k = x then some v else getS x r

theorem mapAt_kept {w w' : World} {b : Nat} {l : List (ByteArray × Value)} (h : MapAt w b l) (hk : w'.heap[b]? = w.heap[b]?) : MapAt w' b l := by
  obtain ⟨es, clock, h1, h2⟩ := h
  exact ⟨es, clock, by rw [hk, h1], h2⟩

theorem findNow_str (x : ByteArray) : ∀ (es : List MapEntry) (l : List (ByteArray × Value)) (i : Nat), es.map (fun e => (e.key, e.val)) = l.map (fun x => (.string x.1, x.2)) →
    (Instr.findNow .string (.string x) es i = some none ∧ getS x l = none) ∨ ∃ j v, Instr.findNow .string (.string x) es i = some (some (j, v)) ∧ getS x l = some v
  | [], [], i, _ => .inl ⟨rfl, rfl⟩
  | [], _ :: _, i, h => by simp at h
  | _ :: _, [], i, h => by simp at h
  | e :: es, (k, v) :: l, i, h => by
    simp only [List.map_cons, List.cons.injEq, Prod.mk.injEq] at h
    obtain ⟨⟨h1, h2⟩, h3⟩ := h
    have hs : Instr.sameNow .string (.string x) e.key = some (x == k) := by rw [h1]; rfl
    simp only [Instr.findNow, hs, getS]
    by_cases hxk : x = k
    · subst hxk
      have : (x == x) = true := (bytes_beq x x).2 rfl
      simp only [this, if_true]
      exact .inr ⟨i, v, by rw [h2], rfl⟩
    · have : (x == k) = false := by
        cases hb : x == k with
        | false => rfl
        | true => exact absurd ((bytes_beq x k).1 hb) hxk
      have hkx : ¬ k = x := fun e => hxk e.symm
      simp only [this, hkx, if_false]
      exact findNow_str x es l (i + 1) h3

theorem run_lookupS {P : Program} {w : World} {t kt et : TypeId} {b : Nat} {l : List (ByteArray × Value)} (ht : P.underlying t = some (.map kt et)) (hk : P.underlying kt = some .string) (hm : MapAt w b l) {z : Value} (hz : ∀ w, (zeroValue et).run P w = .ok z w) (x : ByteArray) :
    Sem.run P (GOp.sem (.lookup t (.map (some b)) (.string x) false)) w = .ok ((getS x l).getD z) w := by
  obtain ⟨es, clock, h1, h2⟩ := hm
  simp only [GOp.sem, Instr.lookup, Sem.run_bind, run_underlying ht, Result.andThen_ok, Go.MapKept.run_getObj_map h1, Sem.run_pure]
  rw [show (10000 : Nat) = 9999 + 1 from rfl, run_checkKey hk (by trivial)]
  simp only [Result.andThen_ok]
  rcases findNow_str x es.toList l 0 h2 with ⟨h3, h4⟩ | ⟨j, v, h3, h4⟩
  · rw [run_findKey hk h3, h4]
    simp [hz]
  · rw [run_findKey hk h3, h4]
    simp

theorem run_updateS {P : Program} {w : World} {t kt et : TypeId} {b : Nat} {l : List (ByteArray × Value)} (ht : P.underlying t = some (.map kt et)) (hk : P.underlying kt = some .string) (hm : MapAt w b l) {x : ByteArray} (hx : getS x l = none) (v : Value) :
    ∃ w', Sem.run P (GOp.sem (.mapUpdate t (.map (some b)) (.string x) v)) w = .ok (.tuple #[]) w' ∧ MapAt w' b (l ++ [(x, v)]) ∧ w'.os = w.os ∧ w'.tape = w.tape ∧ w'.output = w.output ∧ w'.heap.size = w.heap.size ∧ ∀ k, k ≠ b → w'.heap[k]? = w.heap[k]? := by
  obtain ⟨es, clock, h1, h2⟩ := hm
  rcases findNow_str x es.toList l 0 h2 with ⟨h3, h4⟩ | ⟨j, v, h3, h4⟩
  · refine ⟨{ w with heap := w.heap.setIfInBounds b (.map (es.push { key := .string x, val := v, born := clock }) (clock + 1)) }, ?_, ⟨_, _, (heap_set h1).1, ?_⟩, rfl, rfl, rfl, by simp, fun k hk => (heap_set h1).2 k hk⟩
    · simp only [GOp.sem, Instr.mapUpdate, Sem.run_bind, run_underlying ht, Result.andThen_ok, Go.MapKept.run_getObj_map h1, Sem.run_pure]
      rw [show (10000 : Nat) = 9999 + 1 from rfl, run_checkKey hk (by trivial)]
      simp only [Result.andThen_ok]
      rw [run_findKey hk h3]
      simp only [Result.andThen_ok, Go.MapKept.run_setObj_map _ h1]
      rfl
    · simp [h2]
  · rw [hx] at h4; cases h4

/-! ### Lists of parts of one length -/
theorem flat_get {α β : Type} {f : α → List β} {k : Nat} (hf : ∀ a, (f a).length = k) : ∀ {C : List α} {i : Nat} {c : α}, C[i]? = some c → ∀ {off n : Nat}, off + n ≤ k → ((C.flatMap f).drop (i * k + off)).take n = ((f c).drop off).take n
  | [], i, c, h, _, _, _ => by simp at h
  | x :: C, 0, c, h, off, n, hn => by
    simp only [List.getElem?_cons_zero, Option.some.injEq] at h
    subst h
    rw [List.flatMap_cons, Nat.zero_mul, Nat.zero_add, List.drop_append_of_le_length (by rw [hf]; omega), List.take_append_of_le_length (by rw [List.length_drop, hf]; omega)]
  | x :: C, i + 1, c, h, off, n, hn => by
    rw [List.flatMap_cons]
    have e : (i + 1) * k + off = (f x).length + (i * k + off) := by rw [hf, Nat.succ_mul]; omega
    rw [e, List.drop_length_add_append]
    exact flat_get hf (by simpa using h) hn
theorem flat_len {α β : Type} {f : α → List β} {k : Nat} (hf : ∀ a, (f a).length = k) : ∀ (C : List α), (C.flatMap f).length = C.length * k
  | [] => by simp
  | x :: C => by rw [List.flatMap_cons, List.length_append, hf, flat_len hf C, List.length_cons, Nat.succ_mul]; omega
theorem flat_set {α β : Type} {f : α → List β} {k : Nat} (hf : ∀ a, (f a).length = k) (g : α → α) {off : Nat} {vs : List β} (hl : off + vs.length ≤ k) : ∀ {C : List α} {i : Nat} {c : α}, C[i]? = some c → f (g c) = (f c).take off ++ vs ++ (f c).drop (off + vs.length) →
    (C.flatMap f).take (i * k + off) ++ vs ++ (C.flatMap f).drop (i * k + off + vs.length) = (C.modify i g).flatMap f
  | [], i, c, h, _ => by simp at h
  | x :: C, 0, c, h, hg => by
    simp only [List.getElem?_cons_zero, Option.some.injEq] at h
    subst h
    rw [List.modify_zero_cons, List.flatMap_cons, List.flatMap_cons, Nat.zero_mul, Nat.zero_add, hg, List.take_append_of_le_length (by rw [hf]; omega), List.drop_append_of_le_length (by rw [hf]; omega)]
    simp only [List.append_assoc]
  | x :: C, i + 1, c, h, hg => by
    rw [List.modify_succ_cons, List.flatMap_cons, List.flatMap_cons, ← flat_set hf g hl (by simpa using h) hg]
    have e : (i + 1) * k + off = (f x).length + (i * k + off) := by rw [hf, Nat.succ_mul]; omega
    have e2 : (i + 1) * k + off + vs.length = (f x).length + (i * k + off + vs.length) := by rw [hf, Nat.succ_mul]; omega
    rw [e2, List.drop_length_add_append, e, List.take_length_add_append]
    simp only [List.append_assoc]

/-! ### What a program's types allow, for the kernel to look up -/
def appOk (P : Program) (t e size : Nat) : Bool :=
  match P.underlying t, P.info? e with
  | some (.slice e'), some i => Nat.beq e' e && Nat.beq i.size size && Nat.ble i.bytes 100000000 && Nat.blt 0 size && (match i.zero with | some z => Nat.beq z.cells.size size | none => false)
  | _, _ => false
theorem run_app {P : Program} {w : World} {t e size : Nat} (hok : appOk P t e size = true) {v : Value} {n : Nat} {xs : List Value} (hown : w.ownsRow 0 e size v n xs) {k : Nat} {fr : Nat × Nat} {news : List Value} {te : TypeId} (hk : w.heap[k]? = some (.cells news.toArray te fr)) (hl : news.length = size) (h1 : ∀ u ∈ news, u.oneCell' = true)
    (h63 : n + 1 ≤ 1000000) (ty : TypeId) :
    ∃ p c w', Sem.run P (GOp.sem (.builtin .append #[t, t] ty [v, .slice (some ⟨k, 0, none⟩) 1 1])) w = .ok (.slice p (n + 1) c) w' ∧ w'.ownsRow 0 e size (.slice p (n + 1) c) (n + 1) (xs ++ news) ∧ w.grownBy w' v.ownBlock ∧
      (∃ g, (Value.slice p (n + 1) c).ownBlock = some g ∧ (v.ownBlock = some g ∨ (g = w.heap.size ∧ g < w'.heap.size))) := by
  unfold appOk at hok
  split at hok
  · rename_i e' i hu hi
    simp only [Bool.and_eq_true] at hok
    obtain ⟨⟨⟨⟨h2, h3⟩, h4⟩, h5⟩, h6⟩ := hok
    have : e' = e := Nat.eq_of_beq_eq_true h2
    subst this
    split at h6
    · rename_i z hz
      exact run_append1 hu hi hz (Nat.eq_of_beq_eq_true h3) rfl (Nat.eq_of_beq_eq_true h6) (Nat.le_of_ble_eq_true h5) hown hk hl h1 h63 (Nat.le_of_ble_eq_true h4) ty
    · cases h6
  · cases hok

def mapOk (P : Program) (t : Nat) : Bool :=
  match P.underlying t with
  | some (.map kt et) => (match P.underlying kt with | some .string => true | _ => false) && (match P.info? et with | some i => (match i.zero with | some (.pointer none) => true | _ => false) | none => false)
  | _ => false
theorem mapOk_ok {P : Program} {t : Nat} (h : mapOk P t = true) : ∃ kt et, P.underlying t = some (.map kt et) ∧ P.underlying kt = some .string ∧ ∀ w, (zeroValue et).run P w = .ok (.pointer none) w := by
  unfold mapOk at h
  split at h
  · rename_i kt et ht
    simp only [Bool.and_eq_true] at h
    obtain ⟨h1, h2⟩ := h
    split at h1
    · rename_i hk
      split at h2
      · rename_i i hi
        split at h2
        · rename_i hz
          exact ⟨kt, et, ht, hk, fun w => by simp [zeroValue, typeInfo, hi, hz]⟩
        · cases h2
      · cases h2
    · cases h1
  · cases h

theorem mapAt_made {w : World} : MapAt (w.alloc (.map #[] 0)) w.heap.size [] := ⟨#[], 0, heap_alloc_new w _, rfl⟩

end Go.Vx
