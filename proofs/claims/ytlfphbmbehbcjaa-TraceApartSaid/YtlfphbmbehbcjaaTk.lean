/- The law TraceApart answers true, and leaves what was there as it was. -/
import Derived.Test.YtlfphbmbehbcjaaTi
set_option linter.unusedSimpArgs false
set_option linter.unusedVariables false
namespace Go.Proofs.Ytlfphbmbehbcjaa
open Go Go.Vx

theorem app22 : appOk Try.prog 22 37 55 = true := by kernel_rfl
def seenL (x : GSeen × List GKey) : List Value := GSeen.cells x.1
theorem seenL_len (x : GSeen × List GKey) : (seenL x).length = 55 := rfl
theorem imm_nobody {α : Type} {O : Owner} {w0 w : World} {p : Option Addr} {n : Nat} {f : α → List Value} {k : Nat} {xs : List α} (hs : Since O w0 w) (h : Imm nobody w0 p n f k xs) : Imm nobody w p n f k xs :=
  h.move hs.size fun b hb _ => ⟨rfl, hs.same b hb⟩
theorem RowIn.since {O : Owner} {w0 w : World} {s : Sl} {L : Row} (h : RowIn w0 s L) (hs : Since O w0 w) : RowIn w s L := ⟨imm_nobody hs h.1, fun x hx => imm_nobody hs (h.2.1 x hx), h.2.2⟩

/-- What the guard lets in. -/
def Let (L : Row) (x : GSeen × List GKey) : Prop := 0 ≤ x.1.Thing ∧ x.1.Thing ≤ 9 ∧ 0 ≤ x.1.From ∧ x.1.From ≤ (L.length : Int) ∧ x.2.length ≤ 20

/-- The row of numbers: how many of object t's stand ahead of each place. -/
def RankAt (L : Row) (t : Int) (w : World) (ga : Nat) (n : Nat) : Prop := ∃ cur : Array Value, w.heap[ga]? = some (.cells cur 3 (0, 0)) ∧ L.length + 1 ≤ cur.size ∧ ∀ j : Nat, j < n → cur.toList[j]? = some (.int .i64 (rank L t j))
theorem RankAt.kept {L : Row} {t : Int} {w w' : World} {ga n : Nat} (h : RankAt L t w ga n) (hk : w'.heap[ga]? = w.heap[ga]?) : RankAt L t w' ga n := by
  obtain ⟨cur, h1, h2⟩ := h
  exact ⟨cur, by rw [hk, h1], h2⟩
theorem RankAt.put {L : Row} {t : Int} {w : World} {ga n : Nat} (h : RankAt L t w ga n) (hn : n ≤ L.length) (v : Int) (hv : v = rank L t n) :
    CanStore [] w (Addr.add ⟨ga, 0, none⟩ (0 + n * 1)) 0 1 ∧ RankAt L t (storeAt w (Addr.add ⟨ga, 0, none⟩ (0 + n * 1)) 0 [.int .i64 v]) ga (n + 1) := by
  obtain ⟨cur, h1, h2, h3⟩ := h
  rw [add_mid]
  refine ⟨canStore_blk h1 (by omega) (by simp), _, storeAt_blk (vs := [.int .i64 v]) (off := 0) h1 (by simp; omega), ?_, fun j hj => ?_⟩
  · simp
    omega
  · simp only [List.toList_toArray, List.length_cons, List.length_nil]
    rw [show 0 + (0 + n * 1) + 0 = n by omega]
    have hcl : cur.toList.length = cur.size := by simp
    by_cases hjn : j < n
    · rw [List.append_assoc, List.getElem?_append_left (by rw [List.length_take]; omega), List.getElem?_take_of_lt hjn]
      exact h3 j hjn
    · have : j = n := by omega
      subst this
      rw [List.append_assoc, List.getElem?_append_right (by rw [List.length_take]; omega), List.length_take, Nat.min_eq_left (by omega), Nat.sub_self]
      simp [hv]
theorem RankAt.get {L : Row} {t : Int} {w : World} {ga n : Nat} (h : RankAt L t w ga n) {j : Int} (h0 : 0 ≤ j) (hj : j < (n : Int)) : CellsAt w (Addr.add ⟨ga, 0, none⟩ (0 + Int.toNat j * 1)) 0 [.int .i64 (rank L t j)] := by
  obtain ⟨cur, h1, h2, h3⟩ := h
  rw [add_mid]
  refine cellsAt_blk h1 ?_
  rw [show 0 + (0 + j.toNat * 1) + 0 = j.toNat by omega]
  have := h3 j.toNat (by omega)
  rw [Int.toNat_of_nonneg h0] at this
  obtain ⟨hlt, hv⟩ := List.getElem?_eq_some_iff.1 this
  rw [List.drop_eq_getElem_cons hlt, hv]
  rfl

/-- The rows of one object's, as far as they have been gathered. -/
structure Gath (L : Row) (t : Int) (w0 : World) (ga n : Nat) (O : Owner) (w : World) (p : Option Addr) (l c : Nat) (E : Row) : Prop where
  since : Since O w0 w
  dom : Dom O w
  ownA : O ga = some (1, 0, 0, 0)
  ranks : RankAt L t w ga n
  row : w.ownsRow 0 37 55 (.slice p l c) l (E.flatMap seenL)
  ownE : ∀ k, (Value.slice p l c).ownBlock = some k → O k = some (2, 0, 0, 0)
  len : l = E.length

theorem Gath.next {L : Row} {t : Int} {w0 w : World} {ga n : Nat} {O : Owner} {p : Option Addr} {l c : Nat} {E : Row} (h : Gath L t w0 ga n O w p l c E) (hn : n ≤ L.length) (hl : (l : Int) = rank L t n) :
    CanStore [] w (Addr.add ⟨ga, 0, none⟩ (0 + n * 1)) 0 1 ∧ Gath L t w0 ga (n + 1) O (storeAt w (Addr.add ⟨ga, 0, none⟩ (0 + n * 1)) 0 [.int .i64 (l : Int)]) p l c E := by
  obtain ⟨h1, h2⟩ := h.ranks.put hn l hl
  have hb : (Addr.add ⟨ga, 0, none⟩ (0 + n * 1)).block = ga := by rw [add_block]
  have T : Tch O O (1, 0, 0, 0) w (storeAt w (Addr.add ⟨ga, 0, none⟩ (0 + n * 1)) 0 [.int .i64 (l : Int)]) := store_touch h.dom (by rw [hb]; exact h.ownA)
  have E1 : Ext (fun t => t ≠ (1, 0, 0, 0)) O w O (storeAt w (Addr.add ⟨ga, 0, none⟩ (0 + n * 1)) 0 [.int .i64 (l : Int)]) := (Ext.refl h.dom).tch T fun t ht => ht
  exact ⟨h1, h.since.ext E1, T.dom, h.ownA, h2, row_kept h.row fun k hk => (T.other k _ (h.ownE k hk) (by simp)).2, h.ownE, h.len⟩

/-- One more is gathered. -/
theorem Gath.add {L : Row} {t : Int} {w0 w : World} {ga n : Nat} {O : Owner} {p : Option Addr} {l c : Nat} {E : Row} (h : Gath L t w0 ga n O w p l c E) (hl : E.length ≤ 900000) (x : GSeen × List GKey) {k24 k25 : Nat} (f24 : w.heap.size ≤ k24) (f25 : w.heap.size ≤ k25) (hne : k25 ≠ k24) {w26 : World}
    (g : Framed [k24, k25] w w26) (hk : w26.heap[k25]? = some (.cells (GSeen.cells x.1).toArray 37 (0, 0))) :
    ∃ p27 n28 n29 w30, Sem.run Try.prog (GOp.sem (.builtin .append #[22, 22] 22 [(.slice p l c), (.slice (some ⟨k25, 0, none⟩) 1 1)])) w26 = .ok (.slice p27 n28 n29) w30 ∧ Kept [k24] w26 w30 ∧ ∃ O', Gath L t w0 ga n O' w30 p27 n28 n29 (E ++ [x]) := by
  have E26 : Ext (fun _ => True) O w O w26 := (Ext.refl h.dom).frame (by simp <;> omega) g
  have hown : ∀ {k : Nat} {u : Tag}, O k = some u → w26.heap[k]? = w.heap[k]? := fun {k u} hk => (E26.kept k u hk trivial).2
  have hrow := row_kept h.row fun k hk => hown (h.ownE k hk)
  obtain ⟨p', c', w30, O', a1, a2, a3, T, a5⟩ := row_grow app22 hrow h.ownE E26.dom (k := k25) (news := seenL x) hk rfl (by
    intro u hu
    have : ∀ y : GSeen, (GSeen.cells y).all Value.oneCell' = true := fun y => rfl
    exact List.all_eq_true.1 (this x.1) u hu) (by have := h.len; omega) 22
  have hk24 : k24 < w26.heap.size := g.live k24 (by simp)
  have hn24 : O k24 = none := by
    cases hO : O k24 with
    | none => rfl
    | some u => have := h.dom k24 (by rw [hO]; simp); omega
  have ha := T.other ga _ h.ownA (by simp)
  refine ⟨p', l + 1, c', w30, a1, ⟨(T.step (id := 2) rfl).upd.size, fun b hb => by simp only [List.mem_singleton] at hb; rw [hb]; exact (T.free k24 hk24 hn24).2⟩, O', h.since.ext (E26.mono (S' := fun u => u ≠ (2, 0, 0, 0)) (fun _ _ => trivial) |>.tch T fun u hu => hu), T.dom, ha.1, h.ranks.kept (ha.2.trans (hown h.ownA)), ?_, a3, by simp [h.len]⟩
  have : (E ++ [x]).flatMap seenL = E.flatMap seenL ++ seenL x := by simp
  rw [this]
  exact a2

def remap (L : Row) (t : Int) (x : GSeen × List GKey) : GSeen × List GKey := ({ x.1 with From := rank L t x.1.From }, x.2)
theorem ownRow_eq (L : Row) (t : Int) : ownRow L t = (L.filter (isT t)).map (remap L t) := rfl

theorem modify_at {α : Type} (A B : List α) (x : α) (f : α → α) : (A ++ x :: B).modify A.length f = A ++ f x :: B := by
  induction A with
  | nil => rfl
  | cons a A ih => simpa using ih

/-- A row of its own, read. -/
theorem Gath.rowAt {L : Row} {t : Int} {w0 w : World} {ga n : Nat} {O : Owner} {p : Option Addr} {l c : Nat} {E : Row} (h : Gath L t w0 ga n O w p l c E) (hk : ∀ x ∈ E, Imm nobody w x.1.Reply.Keys.p x.1.Reply.Keys.l GKey.cells 2 x.2 ∧ x.2.length ≤ 1000000) : RowAt nobody w p l E := by
  refine ⟨⟨h.len, ?_⟩, hk⟩
  cases hE : E with
  | nil => exact .inl rfl
  | cons y ys =>
    have hl : 0 < l := by rw [h.len, hE]; simp
    obtain ⟨g, c', cur, e1, e2, e3, _⟩ := row_blk h.row hl
    simp only [Value.slice.injEq] at e1
    refine .inr ⟨⟨g, 0, none⟩, e1.1, rfl, (Array.getElem?_eq_some_iff.1 e3).1, fun i x hx => ?_⟩
    rw [← hE] at hx
    rw [add_mid]
    refine row_cells h.row e2 ?_
    rw [show 0 + (0 + i * 55) + 0 = i * 55 + 0 by omega, flat_get seenL_len hx (by show 0 + 55 ≤ 55; omega)]
    rfl

/-- A place is written over. -/
theorem Gath.set {L : Row} {t : Int} {w0 w : World} {ga n : Nat} {O : Owner} {p : Option Addr} {l c : Nat} {E : Row} (h : Gath L t w0 ga n O w p l c E) {i : Int} (h0 : 0 ≤ i) (h1 : i < (l : Int)) {x : GSeen × List GKey} (hx : E[i.toNat]? = some x) (r : Int) :
    ∃ a, p = some a ∧ CellsAt w (Addr.add a (0 + Int.toNat i * 55)) 2 [.int .i64 x.1.From] ∧ CanStore [] w (Addr.add a (0 + Int.toNat i * 55)) 2 1 ∧
      Gath L t w0 ga n O (storeAt w (Addr.add a (0 + Int.toNat i * 55)) 2 [.int .i64 r]) p l c (E.modify i.toNat fun x => ({ x.1 with From := r }, x.2)) := by
  have hl : 0 < l := by omega
  obtain ⟨g, c', cur, e1, e2, e3, _⟩ := row_blk h.row hl
  simp only [Value.slice.injEq] at e1
  have hlen : (E.flatMap seenL).length = E.length * 55 := flat_len seenL_len E
  have hil : i.toNat < E.length := (List.getElem?_eq_some_iff.1 hx).1
  refine ⟨⟨g, 0, none⟩, e1.1, ?_, ?_⟩
  · rw [add_mid]
    refine row_cells h.row e2 ?_
    rw [show 0 + (0 + i.toNat * 55) + 2 = i.toNat * 55 + 2 by omega]
    have := flat_get seenL_len hx (off := 2) (n := 1) (by omega)
    simp only [List.length_cons, List.length_nil]
    rw [this]
    rfl
  · rw [add_mid]
    have := row_store h.row e2 (o := 0 + (0 + i.toNat * 55)) (off := 2) (vs := [.int .i64 r]) (by rw [hlen]; simp only [List.length_cons, List.length_nil]; omega) [] (by simp)
    obtain ⟨s1, s2⟩ := this
    have hg := h.ownE g e2
    have T : Tch O O (2, 0, 0, 0) w (storeAt w ⟨g, 0 + (0 + i.toNat * 55), none⟩ 2 [.int .i64 r]) := store_touch (a := ⟨g, 0 + (0 + i.toNat * 55), none⟩) h.dom hg
    have E1 : Ext (fun u => u ≠ (2, 0, 0, 0)) O w O (storeAt w ⟨g, 0 + (0 + i.toNat * 55), none⟩ 2 [.int .i64 r]) := (Ext.refl h.dom).tch T fun u hu => hu
    refine ⟨s1, h.since.ext E1, T.dom, h.ownA, h.ranks.kept (T.other ga _ h.ownA (by simp)).2, ?_, h.ownE, by rw [List.length_modify]; exact h.len⟩
    have hset := flat_set seenL_len (fun x : GSeen × List GKey => (({ x.1 with From := r }, x.2) : GSeen × List GKey)) (off := 2) (vs := [.int .i64 r]) (by simp) hx rfl
    rw [show 0 + (0 + i.toNat * 55) + 2 = i.toNat * 55 + 2 by omega, hset] at s2
    exact s2

theorem make38 (w : World) (n : Nat) (hn : n ≤ 1000) : ∃ w', Sem.run Try.prog (GOp.sem (.makeSlice 38 (.int .i64 (n : Int)) (.int .i64 (n : Int)))) w = .ok (.slice (some ⟨w.heap.size, 0, none⟩) n n) w' ∧ w.grownBy w' none ∧ (0 < n → ∃ cur : Array Value, w'.heap[w.heap.size]? = some (.cells cur 3 (0, 0)) ∧ n ≤ cur.size) := by
  have hi : ∃ i, Try.prog.info? 3 = some i ∧ i.zero = some (.int .i64 0) ∧ i.size = 1 ∧ i.bytes = 8 := by
    have h : (Try.prog.info? 3).map (fun i => (i.zero, i.size, i.bytes)) = some (some (.int .i64 0), 1, 8) := by kernel_rfl
    obtain ⟨i, hi, hzz⟩ := Option.map_eq_some_iff.1 h
    simp only [Prod.mk.injEq] at hzz
    exact ⟨i, hi, hzz.1, hzz.2.1, hzz.2.2⟩
  obtain ⟨i, h1, h2, h3, h4⟩ := hi
  obtain ⟨w', hr, ho, hg⟩ := run_makeSlice_full (P := Try.prog) (w := w) 0 38 3 i (.int .i64 0) 1 Try.underlying38 h1 h2 h3 .i64 .i64 n (by omega) (by rw [h4]; omega) (by unfold maxLen; omega) (Nat.zero_le _)
  refine ⟨w', hr, hg, fun hn0 => ?_⟩
  obtain ⟨g, c, cur, e1, e2, e3, e4, _⟩ := row_blk ho hn0
  simp only [Value.slice.injEq, Option.some.injEq, Addr.mk.injEq] at e1
  refine ⟨cur, ?_, by omega⟩
  rw [e1.1.1]
  exact e3

theorem apart_ok {w : World} {s : Sl} {L : Row} (h : RowIn w s L) : PurIn Try.prog 3 [.slice s.p s.l s.c] w (fun v _ => v = .bool true) := by
  refine calls3 (fun v w' => v = .bool true ∧ Quiet w w') s w ?_
  unfold NF3
  refine (Pt.start w).purIn (alive_ok w) ?_
  rintro v w0 rfl A0 _
  have hl := h.1.1
  refine ⟨_, rfl, fun _ => ⟨fun _ => ⟨rfl, A0.quiet⟩, fun h40 => ?_⟩, fun hf => by cases hf⟩
  simp only [decide_eq_false_iff_not] at h40
  refine ⟨fun i w' => Quiet w w' ∧ 0 ≤ i ∧ i ≤ (L.length : Int) ∧ ∀ (j : Nat) x, (j : Int) < i → L[j]? = some x → Let L x, fun i _ => (L.length - i).toNat, ⟨A0.quiet, by omega, by omega, fun j x hj => by omega⟩, ?_⟩
  rintro i w4 _ ⟨hq, hi0, hi1, hall⟩
  refine ⟨fun hi => ?_, fun hi => ?_⟩
  · simp only [decide_eq_true_eq] at hi
    obtain ⟨a, x, e1, e2, e3⟩ := (h.1.quiet hq).at hi0 hi
    have hkl := (h.2.1 x (List.mem_of_getElem? e2)).1
    have cT := seen_read e3 1 [.int .i64 x.1.Thing] rfl
    have cF := seen_read e3 2 [.int .i64 x.1.From] rfl
    refine ⟨a, e1, ⟨hi0, hi⟩, _, cT, fun t0 => ⟨a, e1, ⟨hi0, hi⟩, _, cT, fun t9 => ⟨a, e1, ⟨hi0, hi⟩, _, cF, fun p0 => ⟨a, e1, ⟨hi0, hi⟩, _, cF, fun p1 => ⟨a, e1, ⟨hi0, hi⟩, _, _, _, seen_read e3 54 [.slice x.1.Reply.Keys.p x.1.Reply.Keys.l x.1.Reply.Keys.c] rfl, fun _ => ⟨rfl, hq⟩, fun h20 => ?_⟩, fun _ => ⟨rfl, hq⟩⟩, fun _ => ⟨rfl, hq⟩⟩, fun _ => ⟨rfl, hq⟩⟩, fun _ => ⟨rfl, hq⟩⟩
    simp only [decide_eq_false_iff_not] at h20 t0 t9 p0 p1
    rw [IntWalk.i64_in _ (by omega)]
    refine ⟨⟨hq, by omega, by omega, fun j y hj hy => ?_⟩, ?_⟩
    · by_cases hji : (j : Int) < i
      · exact hall j y hji hy
      · have : j = i.toNat := by omega
        subst this
        rw [e2, Option.some.injEq] at hy
        rw [← hy]
        exact ⟨by omega, by omega, by omega, by omega, by omega⟩
    · show (L.length - (i + 1) : Int).toNat < (L.length - i : Int).toNat
      omega
  · simp only [decide_eq_false_iff_not] at hi
    have hlet : ∀ x ∈ L, Let L x := fun x hx => by
      obtain ⟨j, hj⟩ := List.getElem?_of_mem hx
      exact hall j x (by have := (List.getElem?_eq_some_iff.1 hj).1; omega) hj
    have hL : L.length ≤ 40 := by omega
    have hplain := apart_plain L (fun x hx => (hlet x hx).2.2.1) (fun x hx => ⟨(hlet x hx).1, (hlet x hx).2.1⟩)
    refine ⟨fun b i w' => Quiet w w' ∧ 0 ≤ i ∧ i ≤ 10 ∧ (b = true ↔ ∀ t : Int, 0 ≤ t → t < i → firstP (ownRow L t) < 0), fun _ i _ => (10 - i).toNat, ⟨hq, by omega, by omega, by simp; intro t h1 h2; omega⟩, ?_⟩
    rintro b t w8 _ ⟨hq8, ht0, ht1, hb⟩
    refine ⟨fun ht => ?_, fun ht => ?_⟩
    · simp only [decide_eq_true_eq] at ht
      rw [IntWalk.i64_in ((s.l : Int) + 1) (by omega), show ((s.l : Int) + 1) = ((s.l + 1 : Nat) : Int) by omega]
      obtain ⟨w12, hmk, hgr, hcur⟩ := make38 w8 (s.l + 1) (by omega)
      refine ⟨_, _, _, w12, hmk, ⟨hgr.size, by simp⟩, ?_⟩
      obtain ⟨cur, hc1, hc2⟩ := hcur (by omega)
      have hs8 := hq8.size
      have hga : w8.heap.size < w12.heap.size := (Array.getElem?_eq_some_iff.1 hc1).1
      have hq12 : Quiet w w12 := hq8.trans ⟨hgr.os, hgr.tape, hgr.output, hgr.size, fun k hk => hgr.block k hk (by simp)⟩
      generalize w8.heap.size = ga at hs8 hga hc1
      refine ⟨fun p n c i w' => 0 ≤ i ∧ i ≤ (L.length : Int) ∧ ∃ O, Gath L t w ga i.toNat O w' p n c ((L.take i.toNat).filter (isT t)), fun _ _ _ i _ => (L.length - i).toNat,
        ⟨by omega, by omega, (fun k => if k = ga then some (1, 0, 0, 0) else none), ⟨⟨hq12.os, hq12.tape, hq12.output, hq12.size, fun k hk => by simp; omega, hq12.same⟩, fun k hk => ?_, by simp, ⟨cur, hc1, by omega, fun j hj => by simp at hj⟩, ⟨by simp, .inl ⟨rfl, rfl⟩⟩, fun k hk => (by cases hk), by simp⟩⟩, ?_⟩
      · by_cases hkg : k = ga
        · rw [hkg]; exact hga
        · simp [hkg] at hk
      rintro p n c i w18 _ ⟨hj0, hj1, O, hG⟩
      obtain ⟨j, rfl⟩ : ∃ m : Nat, i = (m : Int) := ⟨i.toNat, by omega⟩
      simp only [Int.toNat_natCast] at hG
      have hrk : ∀ j : Nat, rank L t (j : Int) = (((L.take j).filter (isT t)).length : Nat) := fun j => by
        unfold rank
        rw [Int.toNat_natCast, List.countP_eq_length_filter]
      have hnr : (n : Int) = rank L t (j : Int) := by rw [hrk, hG.len]
      refine ⟨fun hjl => ?_, fun hjl => ?_⟩
      · simp only [decide_eq_true_eq] at hjl
        obtain ⟨c1, hG1⟩ := hG.next (by omega) hnr
        refine ⟨⟨ga, 0, none⟩, rfl, ⟨hj0, by omega⟩, c1, ?_⟩
        simp only [Int.toNat_natCast]
        generalize storeAt w18 (Addr.add ⟨ga, 0, none⟩ (0 + j * 1)) 0 [.int .i64 (n : Int)] = ws at hG1
        obtain ⟨a, x, e1, e2, e3⟩ := (h.since hG1.since).1.at hj0 hjl
        simp only [Int.toNat_natCast] at e2 e3
        have htk : L.take (j + 1) = L.take j ++ [x] := by rw [List.take_succ_eq_append_getElem (by omega), (List.getElem?_eq_some_iff.1 e2).2]
        have hnext : ∀ {p' n' c' w' O'}, Gath L t w ga (j + 1) O' w' p' n' c' ((L.take (j + 1)).filter (isT t)) → (0 ≤ IntKind.wrap .i64 ((j : Int) + 1) ∧ IntKind.wrap .i64 ((j : Int) + 1) ≤ (L.length : Int) ∧ ∃ O, Gath L t w ga (IntKind.wrap .i64 ((j : Int) + 1)).toNat O w' p' n' c' ((L.take (IntKind.wrap .i64 ((j : Int) + 1)).toNat).filter (isT t))) ∧ ((L.length : Int) - IntKind.wrap .i64 ((j : Int) + 1)).toNat < ((L.length : Int) - (j : Int)).toNat := by
          intro p' n' c' w' O' hG'
          rw [IntWalk.i64_in _ (by omega), show ((j : Int) + 1).toNat = j + 1 by omega]
          exact ⟨⟨by omega, by omega, O', hG'⟩, by omega⟩
        refine ⟨a, e1, ⟨hj0, hjl⟩, _, seen_read e3 1 [.int .i64 x.1.Thing] rfl, fun hT => ⟨a, e1, ⟨hj0, hjl⟩, x.1, e3, ?_⟩, fun hT => ?_⟩
        · rintro k24 ⟨f24, n24⟩ k25 ⟨f25, n25⟩ w26 g26 hk25
          obtain ⟨p27, n28, n29, w30, r1, r2, O', hG'⟩ := hG1.add (by have := List.length_filter_le (isT t) (L.take j); rw [List.length_take] at this; omega) x f24 f25 (by simpa using n25) g26 hk25
          refine ⟨p27, n28, n29, w30, r1, r2, hnext (O' := O') ?_⟩
          have : (L.take (j + 1)).filter (isT t) = (L.take j).filter (isT t) ++ [x] := by
            rw [htk, List.filter_append]
            have : isT t x = true := by simpa [isT] using hT
            simp [List.filter_cons, this]
          rw [this]
          exact hG'
        · refine hnext (O' := O) ?_
          have : (L.take (j + 1)).filter (isT t) = (L.take j).filter (isT t) := by
            rw [htk, List.filter_append]
            have : isT t x = false := by simpa [isT] using hT
            simp [List.filter_cons, this]
          rw [this]
          exact hG1
      · simp only [decide_eq_false_iff_not] at hjl
        have hjL : j = L.length := by omega
        subst hjL
        obtain ⟨c1, hG1⟩ := hG.next (Nat.le_refl _) hnr
        rw [List.take_length] at hG1
        refine ⟨⟨ga, 0, none⟩, rfl, ⟨by omega, by omega⟩, ?_, ?_⟩
        · rw [hl]; exact c1
        rw [hl]
        simp only [Int.toNat_natCast]
        generalize storeAt w18 (Addr.add ⟨ga, 0, none⟩ (0 + L.length * 1)) 0 [.int .i64 (n : Int)] = ws at hG1
        generalize hF : L.filter (isT t) = F at hG1
        refine ⟨fun i w' => 0 ≤ i ∧ i ≤ (F.length : Int) ∧ ∃ O, Gath L t w ga (L.length + 1) O w' p n c ((F.take i.toNat).map (remap L t) ++ F.drop i.toNat), fun i _ => (F.length - i).toNat, ⟨by omega, by omega, O, by simpa using hG1⟩, ?_⟩
        rintro i w22 _ ⟨hk0, hk1, O2, hG2⟩
        obtain ⟨k, rfl⟩ : ∃ m : Nat, i = (m : Int) := ⟨i.toNat, by omega⟩
        simp only [Int.toNat_natCast] at hG2
        have hFL : F.length ≤ L.length := by rw [← hF]; exact List.length_filter_le _ _
        have hnF : n = F.length := by have := hG1.len; exact this
        refine ⟨fun hkn => ?_, fun hkn => ?_⟩
        · simp only [decide_eq_true_eq] at hkn
          have hkF : k < F.length := by omega
          have hx : F[k]? = some F[k] := by simp [hkF]
          have hxE : ((F.take k).map (remap L t) ++ F.drop k)[(k : Int).toNat]? = some F[k] := by
            rw [Int.toNat_natCast, List.getElem?_append_right (by rw [List.length_map, List.length_take]; omega), List.length_map, List.length_take, Nat.min_eq_left (by omega), Nat.sub_self, List.getElem?_drop]
            simp [hkF]
          have hmem : F[k] ∈ L := by
            have : F[k] ∈ L.filter (isT t) := by rw [hF]; exact List.getElem_mem _
            exact (List.mem_filter.1 this).1
          have hlx := hlet _ hmem
          obtain ⟨a, q1, q2, q3, q4⟩ := hG2.set hk0 (by omega) hxE (rank L t F[k].1.From)
          refine ⟨a, q1, ⟨hk0, hkn⟩, _, q2, ⟨ga, 0, none⟩, rfl, ⟨hlx.2.2.1, by have := hlx.2.2.2.1; omega⟩, _, hG2.ranks.get hlx.2.2.1 (by have := hlx.2.2.2.1; omega), a, q1, ⟨hk0, hkn⟩, q3, ?_⟩
          show (_ ∧ _ ∧ ∃ O, _) ∧ _
          rw [IntWalk.i64_in ((k : Int) + 1) (by omega), show ((k : Int) + 1).toNat = k + 1 by omega]
          refine ⟨⟨by omega, by omega, O2, ?_⟩, by show ((F.length : Int) - ((k : Int) + 1)).toNat < ((F.length : Int) - (k : Int)).toNat; omega⟩
          have : ((F.take k).map (remap L t) ++ F.drop k).modify (k : Int).toNat (fun x => ({ x.1 with From := rank L t F[k].1.From }, x.2)) = (F.take (k + 1)).map (remap L t) ++ F.drop (k + 1) := by
            have hm := modify_at (F.take k |>.map (remap L t)) (F.drop (k + 1)) F[k] (fun x : GSeen × List GKey => (({ x.1 with From := rank L t F[k].1.From }, x.2) : GSeen × List GKey))
            rw [List.length_map, List.length_take, Nat.min_eq_left (by omega)] at hm
            rw [Int.toNat_natCast, List.drop_eq_getElem_cons hkF, hm, List.take_succ_eq_append_getElem hkF, List.map_append]
            simp [remap]
          rw [this] at q4
          exact q4
        · simp only [decide_eq_false_iff_not] at hkn
          have hkF : F.length ≤ k := by omega
          rw [List.take_of_length_le hkF, List.drop_eq_nil_of_le hkF, List.append_nil, ← hF, ← ownRow_eq] at hG2
          have hq22 := hG2.since.quiet
          refine ⟨fun hbt => ?_, fun hbf => ?_⟩
          · have hrow := hG2.rowAt (fun x hx => by
              rw [ownRow_eq] at hx
              obtain ⟨y, hy, rfl⟩ := List.mem_map.1 hx
              have hyL := (List.mem_filter.1 hy).1
              exact ⟨(h.2.1 y hyL).quiet hq22, by have := (hlet y hyL).2.2.2.2; show y.2.length ≤ _; omega⟩)
            refine (⟨hq22, by simp, by simp⟩ : Pt w [] w22).purIn (keeps_ok (s := ⟨p, n, c⟩) hrow (by rw [ownRow_eq, List.length_map, hF]; omega)) ?_
            rintro v w23 rfl A23 _
            refine ⟨_, rfl, ?_⟩
            rw [IntWalk.i64_in _ (by omega)]
            refine ⟨⟨A23.quiet, by omega, by omega, ?_⟩, by omega⟩
            rw [decide_eq_true_eq]
            constructor
            · intro hf u hu0 hu1
              by_cases hut : u < t
              · exact (hb.1 hbt) u hu0 hut
              · have : u = t := by omega
                rw [this]; exact hf
            · intro hf
              exact hf t ht0 (by omega)
          · rw [IntWalk.i64_in _ (by omega)]
            refine ⟨⟨hq22, by omega, by omega, ?_⟩, by omega⟩
            constructor
            · intro hf; cases hf
            · intro hf
              have := hb.2 fun u hu0 hu1 => hf u hu0 (by omega)
              rw [hbf] at this
              exact this
    · simp only [decide_eq_false_iff_not] at ht
      have hrow : RowAt nobody w8 s.p s.l L := ⟨h.1.quiet hq8, fun x hx => ⟨(h.2.1 x hx).quiet hq8, by have := (hlet x hx).2.2.2.2; omega⟩⟩
      refine (⟨hq8, by simp, by simp⟩ : Pt w [] w8).purIn (keeps_ok (s := s) hrow (by omega)) ?_
      rintro v w9 rfl A9 _
      refine ⟨_, rfl, ?_, A9.quiet⟩
      have ht10 : t = 10 := by omega
      subst ht10
      rw [hplain] at hb
      congr 1
      by_cases hf : firstP L < 0
      · rw [hb.2 hf]
        simp [hf]
      · cases b with
        | true => exact absurd (hb.1 rfl) hf
        | false => simp [hf]
end Go.Proofs.Ytlfphbmbehbcjaa
