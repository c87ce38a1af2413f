/- Vx, part R: words on memory: slices that are only read; maps with keys of any plain kind; what was there since the start. -/
import Derived.Test.YtlfphbmbehbcjaaVxQ
import Derived.Maps.RangeRun
set_option linter.unusedSimpArgs false
set_option linter.unusedVariables false
namespace Go.Vx
open Go Go.MapKept Go.RowKit

theorem strB_iff (a b : ByteArray) : strB .eql a b = true ↔ a = b := by
  show (a.toList == b.toList) = true ↔ _
  rw [← beq_toListBytes]
  exact Go.MapKept.bytes_beq a b

/-! ### Slices that are only read -/
/-- A slice reads as these parts, each of k cells, in memory that nobody owns. -/
def Imm {α : Type} (O : Owner) (w : World) (p : Option Addr) (n : Nat) (f : α → List Value) (k : Nat) (xs : List α) : Prop :=
  n = xs.length ∧ (xs = [] ∨ ∃ a, p = some a ∧ O a.block = none ∧ a.block < w.heap.size ∧ ∀ i x, xs[i]? = some x → CellsAt w (Addr.add a (0 + i * k)) 0 (f x))

theorem add_block (a : Addr) (n : Nat) : (a.add n).block = a.block := by unfold Addr.add; split <;> rfl
theorem CellsAt.kept {w w' : World} {a : Addr} {off : Nat} {vs : List Value} (h : CellsAt w a off vs) (hk : w'.heap[a.block]? = w.heap[a.block]?) : CellsAt w' a off vs := by
  intro j v hj
  have h1 := h j v hj
  unfold World.cell? at h1 ⊢
  rw [add_block] at h1 ⊢
  rw [hk]
  exact h1
theorem CellsAt.off {w : World} {a : Addr} {vs us : List Value} (h : CellsAt w a 0 vs) (off : Nat) (hu : (vs.drop off).take us.length = us) : CellsAt w a off us := by
  intro j v hj
  have hlt := (List.getElem?_eq_some_iff.1 hj).1
  rw [← hu, List.getElem?_take_of_lt hlt, List.getElem?_drop] at hj
  have := h _ _ hj
  rw [Nat.zero_add] at this
  exact this
theorem Imm.move {α : Type} {O O' : Owner} {w w' : World} {p : Option Addr} {n : Nat} {f : α → List Value} {k : Nat} {xs : List α} (h : Imm O w p n f k xs)
    (hs : w.heap.size ≤ w'.heap.size) (hk : ∀ b, b < w.heap.size → O b = none → O' b = none ∧ w'.heap[b]? = w.heap[b]?) : Imm O' w' p n f k xs := by
  refine ⟨h.1, ?_⟩
  rcases h.2 with h | ⟨a, e, ho, hl, hc⟩
  · exact .inl h
  · obtain ⟨h1, h2⟩ := hk _ hl ho
    exact .inr ⟨a, e, h1, Nat.lt_of_lt_of_le hl hs, fun i x hx => (hc i x hx).kept (by rw [add_block]; exact h2)⟩
theorem Imm.step {α : Type} {O O' : Owner} {id : Nat} {w w' : World} {p : Option Addr} {n : Nat} {f : α → List Value} {k : Nat} {xs : List α} (h : Imm O w p n f k xs) (hs : Step O O' id w w') : Imm O' w' p n f k xs :=
  h.move hs.upd.size fun b hb ho => hs.unowned ho hb
theorem Imm.quiet {α : Type} {O : Owner} {w w' : World} {p : Option Addr} {n : Nat} {f : α → List Value} {k : Nat} {xs : List α} (h : Imm O w p n f k xs) (hq : Quiet w w') : Imm O w' p n f k xs :=
  h.move hq.size fun b hb ho => ⟨ho, hq.same b hb⟩
theorem Imm.nil {α : Type} (O : Owner) (w : World) (p : Option Addr) (f : α → List Value) (k : Nat) : Imm O w p 0 f k ([] : List α) := ⟨rfl, .inl rfl⟩
/-- What is read of it at a place. -/
theorem Imm.at {α : Type} {O : Owner} {w : World} {p : Option Addr} {n : Nat} {f : α → List Value} {k : Nat} {xs : List α} (h : Imm O w p n f k xs) {i : Int} (h0 : 0 ≤ i) (h1 : i < ((n : Nat) : Int)) :
    ∃ a x, p = some a ∧ xs[i.toNat]? = some x ∧ CellsAt w (Addr.add a (0 + Int.toNat i * k)) 0 (f x) := by
  have hlt : i.toNat < xs.length := by have := h.1; omega
  rcases h.2 with e | ⟨a, e, _, _, hc⟩
  · rw [e] at hlt; simp at hlt
  · exact ⟨a, xs[i.toNat], e, by simp [hlt], hc _ _ (by simp [hlt])⟩

/-! ### Maps -/
/-- What the model needs to know of a type of keys: how it compares, that it can be hashed. -/
structure KeyFit (P : Program) (kt : TypeId) {α : Type} [DecidableEq α] (val : α → Value) : Prop where
  eq : ∃ kd, P.underlying kt = some kd ∧ ((∀ a b, Instr.sameNow kd (val a) (val b) = some (decide (a = b))) ∨
    ((∀ a b, Instr.sameNow kd (val a) (val b) = none) ∧ ∀ a b w, (Op.equal kt (val a) (val b)).run P w = .ok (decide (a = b)) w))
  check : ∀ em a w, (Instr.checkKey em 10000 kt (val a)).run P w = .ok () w
  stays : ∀ a, Instr.sameBits 10000 (val a) (val a) = true

/-- Block b is a map with these entries, in the order in which they came in. -/
def MapK {α : Type} (val : α → Value) (w : World) (b : Nat) (l : List (α × Value)) : Prop :=
  ∃ es clock, w.heap[b]? = some (.map es clock) ∧ es.toList.map (fun e => (e.key, e.val)) = l.map (fun x => (val x.1, x.2)) ∧ es.toList.Pairwise (fun x y => x.born < y.born) ∧ ∀ e ∈ es.toList, e.born < clock
/-- The same, and the entry at a place bears a stamp. -/
def MapKs {α : Type} (val : α → Value) (w : World) (b : Nat) (l : List (α × Value)) (j stamp : Nat) : Prop :=
  ∃ es clock, w.heap[b]? = some (.map es clock) ∧ es.toList.map (fun e => (e.key, e.val)) = l.map (fun x => (val x.1, x.2)) ∧ es.toList.Pairwise (fun x y => x.born < y.born) ∧ (∀ e ∈ es.toList, e.born < clock) ∧
    (es.toList[j]?).map (·.born) = some stamp

section
variable {α : Type} {val : α → Value}

theorem MapK.kept {w w' : World} {b : Nat} {l : List (α × Value)} (h : MapK val w b l) (hk : w'.heap[b]? = w.heap[b]?) : MapK val w' b l := by
  obtain ⟨es, c, h1, h2⟩ := h
  exact ⟨es, c, by rw [hk, h1], h2⟩
theorem MapKs.kept {w w' : World} {b : Nat} {l : List (α × Value)} {j s : Nat} (h : MapKs val w b l j s) (hk : w'.heap[b]? = w.heap[b]?) : MapKs val w' b l j s := by
  obtain ⟨es, c, h1, h2⟩ := h
  exact ⟨es, c, by rw [hk, h1], h2⟩
theorem MapKs.map {w : World} {b : Nat} {l : List (α × Value)} {j s : Nat} (h : MapKs val w b l j s) : MapK val w b l := by
  obtain ⟨es, c, h1, h2, h3, h4, _⟩ := h
  exact ⟨es, c, h1, h2, h3, h4⟩
theorem mapK_made {w : World} : MapK val (w.alloc (.map #[] 0)) w.heap.size [] := ⟨#[], 0, heap_alloc_new w _, rfl, by simp, by simp⟩

theorem map_set_keys {es : List MapEntry} {l : List (α × Value)} (h : es.map (fun e => (e.key, e.val)) = l.map (fun x => (val x.1, x.2))) {j : Nat} {e : MapEntry} (he : es[j]? = some e) (x : α) (v : Value) (e' : MapEntry) (h1 : e'.key = val x) (h2 : e'.val = v) :
    (es.set j e').map (fun e => (e.key, e.val)) = (l.set j (x, v)).map (fun x => (val x.1, x.2)) := by
  rw [List.map_set, List.map_set, h, h1, h2]
theorem entry_at {es : List MapEntry} {l : List (α × Value)} (h : es.map (fun e => (e.key, e.val)) = l.map (fun x => (val x.1, x.2))) {j : Nat} {x : α} {v : Value} (hl : l[j]? = some (x, v)) : ∃ e, es[j]? = some e ∧ e.key = val x ∧ e.val = v := by
  have : (es.map (fun e => (e.key, e.val)))[j]? = some (val x, v) := by rw [h, List.getElem?_map, hl]; rfl
  rw [List.getElem?_map] at this
  cases he : es[j]? with
  | none => rw [he] at this; cases this
  | some e =>
    rw [he] at this
    simp only [Option.map_some, Option.some.injEq, Prod.mk.injEq] at this
    exact ⟨e, rfl, this.1, this.2⟩
theorem born_set {es : List MapEntry} (h : es.Pairwise (fun x y => x.born < y.born)) {j : Nat} {e e' : MapEntry} (he : es[j]? = some e) (hb : e'.born = e.born) : (es.set j e').Pairwise (fun x y => x.born < y.born) := by
  have key : (es.set j e').map (·.born) = es.map (·.born) := by
    rw [List.map_set, hb]
    refine List.ext_getElem? fun i => ?_
    rw [List.getElem?_set]
    split
    · rename_i hij
      subst hij
      have hlt := (List.getElem?_eq_some_iff.1 he).1
      simp only [List.length_map, hlt, if_true, List.getElem?_map, he, Option.map_some]
    · rfl
  rw [← List.pairwise_map (R := (· < ·)), key, List.pairwise_map]
  exact h
theorem born_lt_set {es : List MapEntry} {c : Nat} (h : ∀ e ∈ es, e.born < c) {j : Nat} {e e' : MapEntry} (he : es[j]? = some e) (hb : e'.born = e.born) : ∀ x ∈ es.set j e', x.born < c := by
  intro x hx
  rcases List.mem_or_eq_of_mem_set hx with hx | hx
  · exact h x hx
  · rw [hx, hb]
    exact h e (List.mem_of_getElem? he)

theorem modify_list {es : Array MapEntry} {j : Nat} {e : MapEntry} (he : es.toList[j]? = some e) (f : MapEntry → MapEntry) : (es.modify j f).toList = es.toList.set j (f e) := by
  rw [Array.toList_modify]
  exact Go.ChangeMaps.modify_eq_set _ _ _ _ he

end

section
variable {α : Type} [DecidableEq α] {val : α → Value}

/-- The place of a key. -/
def findK (x : α) : List (α × Value) → Option Nat
  | [] => none
  | (k, _) :: r => if x = k then some 0 else (findK x r).map (· + 1)
def getK (x : α) : List (α × Value) → Option Value
  | [] => none
  | (k, v) :: r => if x = k then some v else getK x r
def putK (x : α) (v : Value) : List (α × Value) → List (α × Value)
  | [] => [(x, v)]
  | (k, u) :: r => if x = k then (k, v) :: r else (k, u) :: putK x v r

theorem findK_some {x : α} : ∀ {l : List (α × Value)} {j : Nat}, findK x l = some j → ∃ v, l[j]? = some (x, v) ∧ getK x l = some v
  | (k, v) :: r, j, h => by
    simp only [findK] at h
    by_cases hx : x = k
    · simp only [hx, if_true, Option.some.injEq] at h
      subst h
      exact ⟨v, by simp [hx], by simp [getK, hx]⟩
    · simp only [hx, if_false] at h
      cases hf : findK x r with
      | none => rw [hf] at h; cases h
      | some i =>
        rw [hf] at h
        simp only [Option.map_some, Option.some.injEq] at h
        subst h
        obtain ⟨v, h1, h2⟩ := findK_some hf
        exact ⟨v, by simpa using h1, by simp [getK, hx, h2]⟩
theorem findK_none {x : α} : ∀ {l : List (α × Value)}, findK x l = none → getK x l = none ∧ ∀ v, putK x v l = l ++ [(x, v)]
  | [], _ => ⟨rfl, fun _ => rfl⟩
  | (k, v) :: r, h => by
    simp only [findK] at h
    by_cases hx : x = k
    · simp [hx] at h
    · simp only [hx, if_false, Option.map_eq_none_iff] at h
      obtain ⟨h1, h2⟩ := findK_none h
      exact ⟨by simp [getK, hx, h1], fun v => by simp [putK, hx, h2]⟩
theorem putK_at {x : α} {v : Value} : ∀ {l : List (α × Value)} {j : Nat}, findK x l = some j → putK x v l = l.set j (x, v)
  | (k, u) :: r, j, h => by
    simp only [findK] at h
    by_cases hx : x = k
    · simp only [hx, if_true, Option.some.injEq] at h
      subst h
      simp [putK, hx]
    · simp only [hx, if_false] at h
      cases hf : findK x r with
      | none => rw [hf] at h; cases h
      | some i =>
        rw [hf] at h
        simp only [Option.map_some, Option.some.injEq] at h
        subst h
        simp [putK, hx, putK_at hf]

theorem findNow_keys {kd : TypeDesc} (hs : ∀ a b, Instr.sameNow kd (val a) (val b) = some (decide (a = b))) (x : α) : ∀ (es : List MapEntry) (l : List (α × Value)) (i : Nat), es.map (fun e => (e.key, e.val)) = l.map (fun x => (val x.1, x.2)) →
    Instr.findNow kd (val x) es i = some ((findK x l).map fun j => (i + j, ((l[j]?).map (·.2)).getD undef))
  | [], [], i, _ => rfl
  | [], _ :: _, i, h => by simp at h
  | _ :: _, [], i, h => by simp at h
  | e :: es, (k, v) :: l, i, h => by
    simp only [List.map_cons, List.cons.injEq, Prod.mk.injEq] at h
    obtain ⟨⟨h1, h2⟩, h3⟩ := h
    simp only [Instr.findNow, h1, hs, findK]
    by_cases hx : x = k
    · simp [hx, h2]
    · simp only [hx, decide_false, if_false]
      rw [findNow_keys hs x es l (i + 1) h3]
      cases findK x l with
      | none => rfl
      | some j => simp; omega

theorem findAsk_keys {P : Program} {kt : TypeId} {w : World} (hs : ∀ a b w, (Op.equal kt (val a) (val b)).run P w = .ok (decide (a = b)) w) (x : α) : ∀ (es : List MapEntry) (l : List (α × Value)) (i : Nat), es.map (fun e => (e.key, e.val)) = l.map (fun x => (val x.1, x.2)) →
    (Instr.findAsking kt (val x) es i).run P w = .ok ((findK x l).map fun j => (i + j, ((l[j]?).map (·.2)).getD undef)) w
  | [], [], i, _ => rfl
  | [], _ :: _, i, h => by simp at h
  | _ :: _, [], i, h => by simp at h
  | e :: es, (k, v) :: l, i, h => by
    simp only [List.map_cons, List.cons.injEq, Prod.mk.injEq] at h
    obtain ⟨⟨h1, h2⟩, h3⟩ := h
    simp only [Instr.findAsking, Sem.run_bind, h1, hs, Result.andThen_ok, findK]
    by_cases hx : x = k
    · simp [hx, h2]
    · simp only [hx, decide_false, if_false, Bool.false_eq_true]
      rw [findAsk_keys hs x es l (i + 1) h3]
      cases findK x l with
      | none => rfl
      | some j => simp; omega

theorem run_find {P : Program} {kt : TypeId} (K : KeyFit P kt val) (w : World) (x : α) {es : List MapEntry} {l : List (α × Value)} (h : es.map (fun e => (e.key, e.val)) = l.map (fun x => (val x.1, x.2))) :
    (Instr.findKey kt (val x) es).run P w = .ok ((findK x l).map fun j => (j, ((l[j]?).map (·.2)).getD undef)) w := by
  obtain ⟨kd, hu, hs | ⟨hn, hs⟩⟩ := K.eq
  · simp only [Instr.findKey, Sem.run_bind, run_underlying hu, Result.andThen_ok, findNow_keys hs x es l 0 h]
    simp
  · simp only [Instr.findKey, Sem.run_bind, run_underlying hu, Result.andThen_ok]
    cases es with
    | nil =>
      cases l with
      | nil => rfl
      | cons y l => simp at h
    | cons e es =>
      cases l with
      | nil => simp at h
      | cons y l =>
        have h' := h
        simp only [List.map_cons, List.cons.injEq, Prod.mk.injEq] at h'
        have : Instr.findNow kd (val x) (e :: es) 0 = none := by simp only [Instr.findNow, h'.1.1, hn]
        rw [this]
        simp only
        rw [findAsk_keys hs x _ _ 0 h]
        simp

/-- A look-up. -/
theorem run_lookupK {P : Program} {w : World} {t kt et : TypeId} {b : Nat} {l : List (α × Value)} (K : KeyFit P kt val) (ht : P.underlying t = some (.map kt et)) (hm : MapK val w b l) {z : Value} (hz : (zeroValue et).run P w = .ok z w) (x : α) (ok : Bool) :
    Sem.run P (GOp.sem (.lookup t (.map (some b)) (val x) ok)) w = .ok (if ok then .tuple #[(getK x l).getD z, .bool (getK x l).isSome] else (getK x l).getD z) w := by
  obtain ⟨es, clock, h1, h2, _⟩ := hm
  simp only [GOp.sem, Instr.lookup, Sem.run_bind, run_underlying ht, Result.andThen_ok, Go.MapKept.run_getObj_map h1, Sem.run_pure, K.check, run_find K w x h2]
  cases hf : findK x l with
  | none =>
    rw [(findK_none hf).1]
    simp [hz]
  | some j =>
    obtain ⟨v, hv1, hv2⟩ := findK_some hf
    rw [hv2]
    simp [hv1]
/-- The same of a map that is nil. -/
theorem run_lookupN {P : Program} {w : World} {t kt et : TypeId} (K : KeyFit P kt val) (ht : P.underlying t = some (.map kt et)) {z : Value} (hz : (zeroValue et).run P w = .ok z w) (x : α) (ok : Bool) :
    Sem.run P (GOp.sem (.lookup t (.map none) (val x) ok)) w = .ok (if ok then .tuple #[z, .bool false] else z) w := by
  simp only [GOp.sem, Instr.lookup, Sem.run_bind, run_underlying ht, Result.andThen_ok, Sem.run_pure, K.check]
  have := run_find (l := []) K w x (es := []) rfl
  simp only [Array.toList_empty, findK, Option.map_none] at this
  simp [this, hz]

theorem run_stays (P : Program) {kt : TypeId} (K : KeyFit P kt val) (x : α) (w : World) : (Instr.keyThatStays (val x) (val x)).run P w = .ok (val x) w := by
  simp [Instr.keyThatStays, K.stays]

/-- 'm[x] = v'. -/
theorem run_updateK {P : Program} {w : World} {t kt et : TypeId} {b : Nat} {l : List (α × Value)} (K : KeyFit P kt val) (ht : P.underlying t = some (.map kt et)) (hm : MapK val w b l) (x : α) (v : Value) :
    ∃ w', Sem.run P (GOp.sem (.mapUpdate t (.map (some b)) (val x) v)) w = .ok (.tuple #[]) w' ∧ MapK val w' b (putK x v l) ∧ w'.os = w.os ∧ w'.tape = w.tape ∧ w'.output = w.output ∧ w'.heap.size = w.heap.size ∧ ∀ k, k ≠ b → w'.heap[k]? = w.heap[k]? := by
  obtain ⟨es, clock, h1, h2, h3, h4⟩ := hm
  cases hf : findK x l with
  | none =>
    refine ⟨{ w with heap := w.heap.setIfInBounds b (.map (es.push { key := val x, val := v, born := clock }) (clock + 1)) }, ?_, ⟨_, _, (heap_set h1).1, ?_, ?_, ?_⟩, rfl, rfl, rfl, by simp, fun k hk => (heap_set h1).2 k hk⟩
    · simp only [GOp.sem, Instr.mapUpdate, Sem.run_bind, run_underlying ht, Result.andThen_ok, Go.MapKept.run_getObj_map h1, Sem.run_pure, K.check, run_find K w x h2, hf, Option.map_none, Go.MapKept.run_setObj_map _ h1]
      rfl
    · rw [(findK_none hf).2]
      simp [h2]
    · rw [Array.toList_push, List.pairwise_append]
      exact ⟨h3, by simp, fun a ha c hc => by simp only [List.mem_singleton] at hc; subst hc; exact h4 a ha⟩
    · intro e he
      rw [Array.toList_push, List.mem_append] at he
      rcases he with he | he
      · have := h4 e he; omega
      · simp only [List.mem_singleton] at he; subst he; simp
  | some j =>
    obtain ⟨u, hu1, hu2⟩ := findK_some hf
    obtain ⟨e, he, hek, hev⟩ := entry_at h2 hu1
    have he' : es[j]? = some e := by simpa using he
    refine ⟨{ w with heap := w.heap.setIfInBounds b (.map (es.modify j fun e => { e with key := val x, val := v }) clock) }, ?_, ⟨_, _, (heap_set h1).1, ?_, ?_, ?_⟩, rfl, rfl, rfl, by simp, fun k hk => (heap_set h1).2 k hk⟩
    · simp only [GOp.sem, Instr.mapUpdate, Sem.run_bind, run_underlying ht, Result.andThen_ok, Go.MapKept.run_getObj_map h1, Sem.run_pure, K.check, run_find K w x h2, hf, Option.map_some, he', Option.getD_some, hek, run_stays P K, Go.MapKept.run_setObj_map _ h1]
      rfl
    · rw [modify_list he, putK_at hf]
      exact map_set_keys h2 he x v _ rfl rfl
    · rw [modify_list he]
      exact born_set h3 he rfl
    · rw [modify_list he]
      exact born_lt_set h4 he rfl

/-- The entry of a key, made if it is not there. -/
def entK (x : α) (z : Value) (l : List (α × Value)) : List (α × Value) := if (findK x l).isSome then l else l ++ [(x, z)]
def idxK (x : α) (l : List (α × Value)) : Nat := (findK x l).getD l.length
theorem run_entryK {P : Program} {w : World} {t kt et : TypeId} {b : Nat} {l : List (α × Value)} (K : KeyFit P kt val) (ht : P.underlying t = some (.map kt et)) (hm : MapK val w b l) {z : Value} (hz : ∀ w, (zeroValue et).run P w = .ok z w) (x : α) :
    ∃ (s : Nat) (w' : World), Sem.run P (GOp.sem (.mapEntry t (.map (some b)) (val x))) w = .ok (.tuple #[(getK x l).getD z, .int .i64 s]) w' ∧ MapKs val w' b (entK x z l) (idxK x l) s ∧
      w'.os = w.os ∧ w'.tape = w.tape ∧ w'.output = w.output ∧ w'.heap.size = w.heap.size ∧ ∀ k, k ≠ b → w'.heap[k]? = w.heap[k]? := by
  obtain ⟨es, clock, h1, h2, h3, h4⟩ := hm
  cases hf : findK x l with
  | none =>
    refine ⟨clock, { w with heap := w.heap.setIfInBounds b (.map (es.push { key := val x, val := z, born := clock }) (clock + 1)) }, ?_, ⟨_, _, (heap_set h1).1, ?_, ?_, ?_, ?_⟩, rfl, rfl, rfl, by simp, fun k hk => (heap_set h1).2 k hk⟩
    · simp only [GOp.sem, Instr.mapEntry, Sem.run_bind, run_underlying ht, Result.andThen_ok, Go.MapKept.run_getObj_map h1, Sem.run_pure, K.check, run_find K w x h2, hf, Option.map_none, hz, Go.MapKept.run_setObj_map _ h1, (findK_none hf).1]
      rfl
    · simp [entK, hf, h2]
    · rw [Array.toList_push, List.pairwise_append]
      exact ⟨h3, by simp, fun a ha c hc => by simp only [List.mem_singleton] at hc; subst hc; exact h4 a ha⟩
    · intro e he
      rw [Array.toList_push, List.mem_append] at he
      rcases he with he | he
      · have := h4 e he; omega
      · simp only [List.mem_singleton] at he; subst he; simp
    · have hlen : es.toList.length = l.length := by have := congrArg List.length h2; simpa using this
      simp [idxK, hf, ← hlen]
  | some j =>
    obtain ⟨u, hu1, hu2⟩ := findK_some hf
    obtain ⟨e, he, hek, hev⟩ := entry_at h2 hu1
    have he' : es[j]? = some e := by simpa using he
    refine ⟨e.born, { w with heap := w.heap.setIfInBounds b (.map (es.modify j fun e => { e with key := val x }) clock) }, ?_, ⟨_, _, (heap_set h1).1, ?_, ?_, ?_, ?_⟩, rfl, rfl, rfl, by simp, fun k hk => (heap_set h1).2 k hk⟩
    · simp only [GOp.sem, Instr.mapEntry, Sem.run_bind, run_underlying ht, Result.andThen_ok, Go.MapKept.run_getObj_map h1, Sem.run_pure, K.check, run_find K w x h2, hf, Option.map_some, he', Option.getD_some, hek, run_stays P K, Go.MapKept.run_setObj_map _ h1, hu1, hu2]
      rfl
    · rw [modify_list he]
      have := map_set_keys h2 he x u { e with key := val x } rfl hev
      rw [this]
      simp only [entK, hf, Option.isSome_some, if_true]
      congr 1
      obtain ⟨hlt, hv⟩ := List.getElem?_eq_some_iff.1 hu1
      rw [← hv]
      exact List.set_getElem_self hlt
    · rw [modify_list he]
      exact born_set h3 he rfl
    · rw [modify_list he]
      exact born_lt_set h4 he rfl
    · rw [modify_list he]
      have hlt := (List.getElem?_eq_some_iff.1 he).1
      have : idxK x l = j := by simp [idxK, hf]
      rw [this, List.getElem?_set_self hlt]
      rfl

end
section
variable {α : Type} {val : α → Value}
theorem run_entryStore {P : Program} {w : World} {t : TypeId} {b : Nat} {l : List (α × Value)} {j s : Nat} (hm : MapKs val w b l j s) {x : α} {u : Value} (hl : l[j]? = some (x, u)) (v : Value) :
    ∃ w', Sem.run P (GOp.sem (.entryStore t (.map (some b)) (.int .i64 s) v)) w = .ok (.tuple #[]) w' ∧ MapK val w' b (l.set j (x, v)) ∧ w'.os = w.os ∧ w'.tape = w.tape ∧ w'.output = w.output ∧ w'.heap.size = w.heap.size ∧ ∀ k, k ≠ b → w'.heap[k]? = w.heap[k]? := by
  obtain ⟨es, clock, h1, h2, h3, h4, h5⟩ := hm
  obtain ⟨e, he, hek, hev⟩ := entry_at h2 hl
  rw [he] at h5
  simp only [Option.map_some, Option.some.injEq] at h5
  have hfi : es.findIdx? (fun e => (e.born : Int) == (s : Int)) = some j := by
    rw [Array.findIdx?_eq_some_iff_getElem]
    have hlt := (List.getElem?_eq_some_iff.1 he).1
    have hge := (List.getElem?_eq_some_iff.1 he).2
    have hge' : es[j]'(by simpa using hlt) = e := by simpa using hge
    refine ⟨by simpa using hlt, by rw [hge']; simp [h5], fun i hi => ?_⟩
    have := List.pairwise_iff_getElem.1 h3 i j (by omega) hlt hi
    rw [hge] at this
    have hi' : es.toList[i]'(by omega) = es[i]'(by have : es.toList.length = es.size := by simp
                                                   omega) := by simp
    rw [hi'] at this
    simp only [beq_iff_eq, Bool.not_eq_true]
    omega
  refine ⟨{ w with heap := w.heap.setIfInBounds b (.map (es.modify j fun e => { e with val := v }) clock) }, ?_, ⟨_, _, (heap_set h1).1, ?_, ?_, ?_⟩, rfl, rfl, rfl, by simp, fun k hk => (heap_set h1).2 k hk⟩
  · simp only [GOp.sem, Instr.entryStore, Sem.run_bind, Result.andThen_ok, Go.MapKept.run_getObj_map h1, Sem.run_pure, asInt, asIntOf, hfi, Go.MapKept.run_setObj_map _ h1]
    rfl
  · rw [modify_list he]
    exact map_set_keys h2 he x v _ hek rfl
  · rw [modify_list he]
    exact born_set h3 he rfl
  · rw [modify_list he]
    exact born_lt_set h4 he rfl

/-- An iterator over a map: the places that have come out. -/
def IterK (w : World) (r b : Nat) (done : List Nat) : Prop :=
  ∃ es clock c0 seen, w.heap[b]? = some (.map es clock) ∧ w.heap[r]? = some (.mapIter (some b) clock seen c0) ∧ clock ≤ c0 ∧ seen.toList = done.filterMap fun i => (es.toList[i]?).map (·.born)
end

/-! ### Since the start -/
/-- What was there at first is as it was, and owned by nobody. -/
structure Since (O : Owner) (w0 w : World) : Prop where
  os : w.os = w0.os
  tape : w.tape = w0.tape
  output : w.output = w0.output
  size : w0.heap.size ≤ w.heap.size
  own : ∀ k, k < w0.heap.size → O k = none
  same : ∀ k, k < w0.heap.size → w.heap[k]? = w0.heap[k]?
theorem Since.refl {O : Owner} {w : World} (h : ∀ k, k < w.heap.size → O k = none) : Since O w w := ⟨rfl, rfl, rfl, Nat.le_refl _, h, fun _ _ => rfl⟩
theorem Since.step {O O' : Owner} {id : Nat} {w0 w w' : World} (h : Since O w0 w) (hs : Step O O' id w w') : Since O' w0 w' :=
  ⟨hs.upd.os.trans h.os, hs.upd.tape.trans h.tape, hs.upd.output.trans h.output, Nat.le_trans h.size hs.upd.size, fun k hk => (hs.unowned (h.own k hk) (Nat.lt_of_lt_of_le hk h.size)).1,
    fun k hk => ((hs.unowned (h.own k hk) (Nat.lt_of_lt_of_le hk h.size)).2).trans (h.same k hk)⟩
theorem Since.quiet {O : Owner} {w0 w : World} (h : Since O w0 w) : Quiet w0 w := ⟨h.os, h.tape, h.output, h.size, h.same⟩
theorem Since.move {O : Owner} {w0 w w' : World} (h : Since O w0 w) (hq : Quiet w w') : Since O w0 w' :=
  ⟨hq.os.trans h.os, hq.tape.trans h.tape, hq.output.trans h.output, Nat.le_trans h.size hq.size, h.own, fun k hk => (hq.same k (Nat.lt_of_lt_of_le hk h.size)).trans (h.same k hk)⟩
theorem Since.framed {O : Owner} {w0 w w' : World} {L : List Nat} (h : Since O w0 w) (hf : Framed L w w') (hL : ∀ k ∈ L, w0.heap.size ≤ k) : Since O w0 w' :=
  ⟨hf.os.trans h.os, hf.tape.trans h.tape, hf.output.trans h.output, Nat.le_trans h.size hf.size, h.own, fun k hk => (hf.same k (Nat.lt_of_lt_of_le hk h.size) (fun hm => by have := hL k hm; omega)).trans (h.same k hk)⟩

/-- A block of the call's own. -/
def Loc (O : Owner) (w0 w : World) (k : Nat) : Prop := O k = none ∧ w0.heap.size ≤ k ∧ k < w.heap.size
theorem Loc.step {O O' : Owner} {id : Nat} {w0 w w' : World} {k : Nat} (h : Loc O w0 w k) (hs : Step O O' id w w') : Loc O' w0 w' k :=
  ⟨(hs.unowned h.1 h.2.2).1, h.2.1, Nat.lt_of_lt_of_le h.2.2 hs.upd.size⟩

/-- Only what is new, or owned by nobody and named, has changed. -/
theorem Framed.dom {O : Owner} {w w' : World} {L : List Nat} (hf : Framed L w w') (hd : Dom O w) : Dom O w' := fun k hk => Nat.lt_of_lt_of_le (hd k hk) hf.size
theorem Framed.owned {O : Owner} {w w' : World} {L : List Nat} (hf : Framed L w w') (hd : Dom O w) (hL : ∀ k ∈ L, O k = none) {k : Nat} {t : Tag} (hk : O k = some t) : O k = some t ∧ w'.heap[k]? = w.heap[k]? :=
  ⟨hk, hf.same k (hd k (by rw [hk]; simp)) (fun hm => by rw [hL k hm] at hk; cases hk)⟩

/-- One block of a number's own is written, nothing else. -/
structure Only (b : Nat) (w w' : World) : Prop where
  os : w'.os = w.os
  tape : w'.tape = w.tape
  output : w'.output = w.output
  size : w.heap.size ≤ w'.heap.size
  same : ∀ k, k < w.heap.size → k ≠ b → w'.heap[k]? = w.heap[k]?
theorem Only.upd {b : Nat} {w w' : World} (h : Only b w w') {O : Owner} {id : Nat} {t : Nat × Nat × Nat} (hb : O b = some (id, t)) : Upd O id w w' :=
  ⟨h.os, h.tape, h.output, h.size, fun k hk hne => h.same k hk (fun e => hne t (by rw [e]; exact hb))⟩
theorem Only.step {b : Nat} {w w' : World} (h : Only b w w') {O : Owner} {id : Nat} {t : Nat × Nat × Nat} (hd : Dom O w) (hb : O b = some (id, t)) : Step O O id w w' := (h.upd hb).step hd
theorem Only.of_eq {b : Nat} {w w' : World} (h1 : w'.os = w.os) (h2 : w'.tape = w.tape) (h3 : w'.output = w.output) (h4 : w'.heap.size = w.heap.size) (h5 : ∀ k, k ≠ b → w'.heap[k]? = w.heap[k]?) : Only b w w' :=
  ⟨h1, h2, h3, by omega, fun k _ hk => h5 k hk⟩
theorem storeAt_only (w : World) (a : Addr) (off : Nat) (vs : List Value) : Only a.block w (storeAt w a off vs) := by
  obtain ⟨h1, h2, h3, h4⟩ := storeAt_same w a off vs
  exact ⟨h1, h2, h3, by omega, fun k _ hk => storeAt_far hk⟩
end Go.Vx
