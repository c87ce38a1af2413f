/- The law about scopes: whatever row of calls comes in, it answers true, and what was there stays as it was. -/
import Derived.Test.YtmnnkkcihmdpmaaRi
set_option linter.unusedSimpArgs false
set_option linter.unusedVariables false
namespace Go.Proofs.Ytmnnkkcihmdpmaa
open Go Go.Vx

/-- What was there at first is as it was, and owned by nobody. -/
structure Since (O : Owner) (w0 w : World) : Prop where
  os : w.os = w0.os
  tape : w.tape = w0.tape
  output : w.output = w0.output
  size : w0.heap.size ≤ w.heap.size
  own : ∀ k, k < w0.heap.size → O k = none
  same : ∀ k, k < w0.heap.size → w.heap[k]? = w0.heap[k]?

theorem Since.step {O O' : Owner} {id : Nat} {w0 w w' : World} (h : Since O w0 w) (hs : Step O O' id w w') : Since O' w0 w' :=
  ⟨hs.upd.os.trans h.os, hs.upd.tape.trans h.tape, hs.upd.output.trans h.output, Nat.le_trans h.size hs.upd.size, fun k hk => (hs.unowned (h.own k hk) (Nat.lt_of_lt_of_le hk h.size)).1,
    fun k hk => ((hs.unowned (h.own k hk) (Nat.lt_of_lt_of_le hk h.size)).2).trans (h.same k hk)⟩
theorem Since.quiet {O : Owner} {w0 w : World} (h : Since O w0 w) : Quiet w0 w := ⟨h.os, h.tape, h.output, h.size, h.same⟩

/-- A block of the call's own. -/
def Loc (O : Owner) (w0 w : World) (k : Nat) : Prop := O k = none ∧ w0.heap.size ≤ k ∧ k < w.heap.size
theorem Loc.step {O O' : Owner} {id : Nat} {w0 w w' : World} {k : Nat} (h : Loc O w0 w k) (hs : Step O O' id w w') : Loc O' w0 w' k :=
  ⟨(hs.unowned h.1 h.2.2).1, h.2.1, Nat.lt_of_lt_of_le h.2.2 hs.upd.size⟩

theorem Since.framed {O : Owner} {w0 w w' : World} {L : List Nat} (h : Since O w0 w) (hf : Framed L w w') (hL : ∀ k ∈ L, w0.heap.size ≤ k) : Since O w0 w' :=
  ⟨hf.os.trans h.os, hf.tape.trans h.tape, hf.output.trans h.output, Nat.le_trans h.size hf.size, h.own, fun k hk => (hf.same k (Nat.lt_of_lt_of_le hk h.size) (fun hm => by have := hL k hm; omega)).trans (h.same k hk)⟩
theorem dom_framed {O : Owner} {w w' : World} {L : List Nat} (hd : Dom O w) (hf : Framed L w w') : Dom O w' := fun k hk => Nat.lt_of_lt_of_le (hd k hk) hf.size
theorem own_framed {O : Owner} {w w' : World} {L : List Nat} (hd : Dom O w) (hf : Framed L w w') (hL : ∀ k ∈ L, O k = none) (k : Nat) (t : Tag) (hk : O k = some t) : O k = some t ∧ w'.heap[k]? = w.heap[k]? :=
  ⟨hk, hf.same k (hd k (by rw [hk]; simp)) (fun hm => by rw [hL k hm] at hk; cases hk)⟩

theorem callS {O : Owner} {id : Nat} {w0 w : World} {x : Addr} {A' : Ab} {res : Value} {f : FuncId} {args : List Value} {L : List Nat} {K : Value → World → Prop} (hd : Dom O w) (hs : Since O w0 w)
    (hc : Calls Try.prog f args.toArray w fun en w' => ∃ v, en = .returned v ∧ PostS O id w x A' res v w') (hL : ∀ k ∈ L, Loc O w0 w k)
    (hK : ∀ O' C' w', Step O O' id w w' → RepS O' id w' x C' → absS C' = A' → Dom O' w' → Since O' w0 w' → K res w') : CallsV Try.prog f args w L K := by
  refine CallsV.of hc ?_
  rintro v w' ⟨rfl, O', C', h1, h2, h3⟩
  exact ⟨h1.kept (fun k hk => ⟨(hL k hk).1, (hL k hk).2.2⟩), hK O' C' w' h1 h2 h3 (h1.dom hd) (hs.step h1)⟩
theorem callR {O : Owner} {id : Nat} {w0 w : World} {x : Addr} {A' : Ab} {res : Value} {f : FuncId} {args : List Value} {L : List Nat} {K : Value → World → Prop} (hd : Dom O w) (hs : Since O w0 w)
    (hc : Calls Try.prog f args.toArray w fun en w' => ∃ v, en = .returned v ∧ PostR O id w x A' res v w') (hL : ∀ k ∈ L, Loc O w0 w k)
    (hK : ∀ O' C' w', Step O O' id w w' → RepR O' id w' x C' → absR C' = A' → Dom O' w' → Since O' w0 w' → K res w') : CallsV Try.prog f args w L K := by
  refine CallsV.of hc ?_
  rintro v w' ⟨rfl, O', C', h1, h2, h3⟩
  exact ⟨h1.kept (fun k hk => ⟨(hL k hk).1, (hL k hk).2.2⟩), hK O' C' w' h1 h2 h3 (h1.dom hd) (hs.step h1)⟩

theorem old_first : Old [(-1, [])] := by
  intro i s h
  cases i with
  | zero => simp at h; subst h; decide
  | succ i => simp at h

theorem old_modify {A : Ab} (h : Old A) (i : Nat) (f : Int × List (ByteArray × Var) → Int × List (ByteArray × Var)) (hf : ∀ s, (f s).1 = s.1) : Old (A.modify i f) := by
  intro j s hs
  rw [List.getElem?_modify] at hs
  cases hj : A[j]? with
  | none => rw [hj] at hs; cases hs
  | some t =>
    rw [hj] at hs
    have ht := h j t hj
    by_cases hij : i = j
    · simp only [hij, if_true, Option.map_eq_map, Option.map_some, Option.some.injEq] at hs
      rw [← hs, hf]
      exact ht
    · simp only [hij, if_false, Option.map_eq_map, Option.map_some, Option.some.injEq] at hs
      rw [← hs]
      exact ht

/-- Not too many of them. -/
def Bd (A : Ab) (n : Nat) : Prop := A.length ≤ n + 1 ∧ ∀ s ∈ A, s.2.length ≤ n
theorem Bd.mono {A : Ab} {n m : Nat} (h : Bd A n) (hm : n ≤ m) : Bd A m := ⟨by have := h.1; omega, fun s hs => by have := h.2 s hs; omega⟩
theorem bd_modify {A : Ab} {n : Nat} (h : Bd A n) (i : Nat) (f : Int × List (ByteArray × Var) → Int × List (ByteArray × Var)) (hf : ∀ s, (f s).2.length ≤ s.2.length + 1) : Bd (A.modify i f) (n + 1) := by
  refine ⟨by rw [List.length_modify]; have := h.1; omega, fun s hs => ?_⟩
  obtain ⟨j, hj⟩ := List.getElem?_of_mem hs
  rw [List.getElem?_modify] at hj
  cases ha : A[j]? with
  | none => rw [ha] at hj; cases hj
  | some t =>
    rw [ha] at hj
    have ht := h.2 t (List.mem_of_getElem? ha)
    by_cases hij : i = j
    · simp only [hij, if_true, Option.map_eq_map, Option.map_some, Option.some.injEq] at hj
      rw [← hj]
      have := hf t
      omega
    · simp only [hij, if_false, Option.map_eq_map, Option.map_some, Option.some.injEq] at hj
      rw [← hj]
      show t.2.length ≤ n + 1
      omega

/-- What every call keeps. -/
def Fine (A : Ab) (n : Nat) : Prop := Old A ∧ Bd A n
theorem Fine.mono {A : Ab} {n m : Nat} (h : Fine A n) (hm : n ≤ m) : Fine A m := ⟨h.1, h.2.mono hm⟩
theorem fine_addE {A : Ab} {n : Nat} (h : Fine A n) (i : Nat) (p : ByteArray × Var) : Fine (addE A i p) (n + 1) :=
  ⟨old_modify h.1 _ _ (fun _ => rfl), bd_modify h.2 _ _ (fun s => by simp)⟩
theorem fine_setV {A : Ab} {n : Nat} (h : Fine A n) (i j : Nat) (f : Var → Var) : Fine (setV A i j f) (n + 1) :=
  ⟨old_modify h.1 _ _ (fun _ => rfl), bd_modify h.2 _ _ (fun s => by simp)⟩
theorem fine_make {A : Ab} {n : Nat} (h : Fine A n) (e : Int) : Fine (makeA A e).1 (n + 1) := by
  unfold makeA
  by_cases hi : inA A.length e = true
  · simp only [hi, if_true]
    refine ⟨fun i s hs => ?_, ?_, fun s hs => ?_⟩
    · by_cases hlt : i < A.length
      · rw [List.getElem?_append_left hlt] at hs
        exact h.1 i s hs
      · have hi2 : i = A.length := by
          have := (List.getElem?_eq_some_iff.1 hs).1
          simp at this
          omega
        subst hi2
        rw [List.getElem?_append_right (Nat.le_refl _), Nat.sub_self] at hs
        simp only [List.getElem?_cons_zero, Option.some.injEq] at hs
        subst hs
        exact (inA_iff.1 hi).2
    · rw [List.length_append]
      have := h.2.1
      simp only [List.length_cons, List.length_nil]
      omega
    · rcases List.mem_append.1 hs with hs | hs
      · have := h.2.2 s hs
        omega
      · simp only [List.mem_singleton] at hs
        subst hs
        simp
  · simp only [hi, if_false]
    exact h.mono (by omega)
theorem fine_let {A : Ab} {n : Nat} (h : Fine A n) (e : Int) (x : ByteArray) (fx : Bool) : Fine (letA A e x fx).1 (n + 1) := by
  unfold letA
  split
  · split
    · exact fine_addE h _ _
    · exact h.mono (by omega)
  · exact h.mono (by omega)
theorem fine_begin {A : Ab} {n : Nat} (h : Fine A n) (e : Int) (x : ByteArray) (a b : Int) (s : ByteArray) : Fine (beginA A e x a b s).1 (n + 1) := by
  unfold beginA
  split
  · split
    · exact h.mono (by omega)
    · split
      · exact h.mono (by omega)
      · dsimp only
        exact fine_setV h _ _ _
  · exact h.mono (by omega)
theorem fine_set {A : Ab} {n : Nat} (h : Fine A n) (e : Int) (x : ByteArray) (a b : Int) (s : ByteArray) : Fine (setA A e x a b s).1 (n + 1) := by
  unfold setA
  split
  · exact h.mono (by omega)
  · split
    · split
      · exact h.mono (by omega)
      · dsimp only
        exact fine_setV h _ _ _
    · exact h.mono (by omega)

theorem fine_len {C : List SSc} {n : Nat} (h : Fine (absS C) n) (hn : n ≤ 1000) : C.length + 1 ≤ 1000000 := by have := h.2.1; rw [absS_length] at this; omega
theorem fine_lenR {C : List RSc} {n : Nat} (h : Fine (absR C) n) (hn : n ≤ 1000) : C.length + 1 ≤ 1000000 := by have := h.2.1; rw [absR_length] at this; omega
theorem fine_few {C : List RSc} {n : Nat} (h : Fine (absR C) n) (hn : n ≤ 1000) : ∀ c ∈ C, c.ents.length + 1 ≤ 1000000 := by
  intro c hc
  have := h.2.2 (c.parent, c.ents) (List.mem_map.2 ⟨c, hc, rfl⟩)
  simp only at this
  omega

def nobody : Owner := fun _ => none
theorem dom_nobody (w : World) : Dom nobody w := fun k hk => absurd rfl hk
theorem since_start (w : World) : Since nobody w w := ⟨rfl, rfl, rfl, Nat.le_refl _, fun _ _ => rfl, fun _ _ => rfl⟩

theorem alive_ok (w : World) : Calls Try.prog 4 [].toArray w fun en w' => ∃ v, en = .returned v ∧ v = .bool true ∧ Quiet w w' := by
  refine calls4 _ _ ?_
  unfold NF4
  refine CallsV.of (new_S nobody 1 w (dom_nobody w)) ?_
  rintro v w0 ⟨x0, rfl, O0, C0, s0, r0, a0⟩
  have d0 := s0.dom (dom_nobody w)
  have n0 := (since_start w).step s0
  refine ⟨s0.kept (fun k hk => by cases hk), some x0, rfl, fun hx => by simp at hx, fun _ => ?_⟩
  refine callS d0 n0 (get_S r0 d0 (by rw [a0]; exact old_first) 0 ⟨#[97]⟩) (fun k hk => by cases hk) ?_
  intro O1 C1 w2 s1 r1 a1 d1 n1
  rw [a0] at a1
  have g1 : getA (absS C0) 0 ⟨#[97]⟩ = ((0, 0, ⟨#[]⟩), 1) := by rw [a0]; rfl
  rw [g1]
  refine ⟨_, _, _, _, rfl, ?_⟩
  intro k7 hk7 w8 hw8
  have hk7s := hk7.size
  have hk7n := not_owned d1 hk7s
  have n8 := n1.framed hw8 (fun k hk => by simp only [List.mem_singleton] at hk; subst hk; have := n1.size; omega)
  have d8 := dom_framed d1 hw8
  have r8 : RepS O1 1 w8 x0 C1 := r1.move fun k t hk => own_framed d1 hw8 (fun k hk => by simp only [List.mem_singleton] at hk; subst hk; exact hk7n) k _ hk
  have loc7 : Loc O1 w w8 k7 := ⟨hk7n, by have := n1.size; omega, hw8.live k7 (by simp)⟩
  refine callS d8 n8 (let_S r8 d8 0 ⟨#[97]⟩ false) (fun k hk => by simp only [List.mem_singleton] at hk; subst hk; exact loc7) ?_
  intro O2 C2 w9 s2 r2 a2 d2 n2
  rw [a1] at a2
  have g2 : letA (absS C1) 0 ⟨#[97]⟩ false = ([(-1, [(⟨#[97]⟩, ⟨0, 0, ⟨#[]⟩, false, false⟩)])], true) := by rw [a1]; rfl
  rw [g2]
  refine ⟨_, rfl, ?_⟩
  have a2' : absS C2 = [(-1, [(⟨#[97]⟩, ⟨0, 0, ⟨#[]⟩, false, false⟩)])] := by rw [a2]; rfl
  refine callS d2 n2 (begin_S r2 d2 0 ⟨#[97]⟩ 1 0 ⟨#[]⟩) (fun k hk => by simp only [List.mem_singleton] at hk; subst hk; exact loc7.step s2) ?_
  intro O3 C3 w11 s3 r3 a3 d3 n3
  have g3 : beginA (absS C2) 0 ⟨#[97]⟩ 1 0 ⟨#[]⟩ = ([(-1, [(⟨#[97]⟩, ⟨1, 0, ⟨#[]⟩, true, false⟩)])], true) := by rw [a2']; rfl
  rw [g3] at a3 ⊢
  refine ⟨_, rfl, ?_⟩
  have o3 : Old (absS C3) := by
    rw [a3]
    intro i s h
    cases i with
    | zero => simp at h; subst h; decide
    | succ i => simp at h
  refine callS d3 n3 (get_S r3 d3 o3 0 ⟨#[97]⟩) (fun k hk => by simp only [List.mem_singleton] at hk; subst hk; exact (loc7.step s2).step s3) ?_
  intro O4 C4 w13 s4 r4 a4 d4 n4
  have g4 : getA (absS C3) 0 ⟨#[97]⟩ = ((1, 0, ⟨#[]⟩), 0) := by rw [a3]; rfl
  rw [g4]
  refine ⟨_, _, _, _, rfl, ?_⟩
  intro k18 hk18
  refine ⟨fun _ => ⟨fun _ => ⟨fun _ => ⟨fun _ w19 hw19 => ⟨rfl, ?_⟩, fun hx => by simp at hx⟩, fun hx => by simp at hx⟩, fun hx => by simp at hx⟩, fun hx => by simp at hx⟩
  refine (n4.framed hw19 (fun k hk => ?_)).quiet
  simp only [List.mem_cons, List.not_mem_nil, or_false] at hk
  rcases hk with rfl | rfl
  · exact loc7.2.1
  · have := hk18.size
    have := n4.size
    omega


/-- What the law reads of its argument. -/
def Acts (w : World) (x0 : Option Addr) (l0 : Nat) : Prop := ∀ i : Nat, i < l0 → ∃ a, x0 = some a ∧ ∃ (i12 i13 : Int) (s14 : ByteArray) (b15 : Bool) (i16 i17 : Int) (s18 : ByteArray),
  CellsAt w (Addr.add a (0 + i * 7)) 0 [(.int .i64 i12), (.int .i64 i13), (.string s14), (.bool b15), (.int .i64 i16), (.int .i64 i17), (.string s18)]

theorem acts_since {O : Owner} {w0 w : World} {a : Addr} {off : Nat} {vs : List Value} (h : CellsAt w0 a off vs) (hs : Since O w0 w) : CellsAt w a off vs := by
  intro j u hj
  have := h j u hj
  rw [← this]
  exact World.cell?_of_block (hs.same _ (World.block_lt_of_cell? w0 _ this))

/-- Between two calls. -/
def Inv (w0 : World) (s o r : Addr) (n : Nat) (w : World) : Prop :=
  ∃ O CS CO CR, Dom O w ∧ RepS O 1 w s CS ∧ RepS O 2 w o CO ∧ RepR O 3 w r CR ∧ absS CS = absR CR ∧ Fine (absS CS) n ∧ Fine (absS CO) (2 * n) ∧ Since O w0 w

theorem plays_ok {x0 : Option Addr} {l0 c0 : Nat} (w : World) (hacts : Acts w x0 l0) :
    Calls Try.prog 3 [(.slice x0 l0 c0)].toArray w fun en w' => ∃ v, en = .returned v ∧ v = .bool true ∧ Quiet w w' := by
  refine calls3 _ _ _ _ _ ?_
  unfold NF3
  refine CallsV.of (alive_ok w) ?_
  rintro v wa ⟨rfl, hqa⟩
  refine ⟨hqa.kept (fun k hk => by cases hk), true, rfl, fun _ => ⟨fun _ => ⟨rfl, hqa⟩, fun hl => ?_⟩, fun hx => by simp at hx⟩
  simp only [decide_eq_false_iff_not] at hl
  have hl100 : l0 ≤ 100 := by omega
  -- the three
  refine CallsV.of (new_S nobody 1 wa (dom_nobody wa)) ?_
  rintro v w1 ⟨s, rfl, O1, CS, s1, rs1, as1⟩
  have d1 := s1.dom (dom_nobody wa)
  have na : Since nobody w wa := ⟨hqa.os, hqa.tape, hqa.output, hqa.size, fun _ _ => rfl, hqa.same⟩
  have n1 := na.step s1
  refine ⟨s1.kept (fun k hk => by cases hk), some s, rfl, ?_⟩
  refine CallsV.of (new_S O1 2 w1 d1) ?_
  rintro v w2 ⟨o, rfl, O2, CO, s2, ro2, ao2⟩
  have d2 := s2.dom d1
  have n2 := n1.step s2
  have rs2 := rs1.step d1 s2 (by decide)
  refine ⟨s2.kept (fun k hk => by cases hk), some o, rfl, ?_⟩
  refine CallsV.of (new_R O2 3 w2 d2) ?_
  rintro v w3 ⟨r, rfl, O3, CR, s3, rr3, ar3⟩
  have d3 := s3.dom d2
  have n3 := n2.step s3
  have rs3 := rs2.step d2 s3 (by decide)
  have ro3 := ro2.step d2 s3 (by decide)
  have fine0 : ∀ n, Fine [(-1, [])] n := fun n => ⟨old_first, by simp, fun s hs => by simp at hs; subst hs; simp⟩
  refine ⟨s3.kept (fun k hk => by cases hk), some r, rfl, fun i w' => 0 ≤ i ∧ i ≤ (l0 : Int) ∧ Inv w s o r i.toNat w', fun i _ => ((l0 : Int) - i).toNat, ⟨Int.le_refl _, by omega, O3, CS, CO, CR, d3, rs3, ro3, rr3, by rw [as1, ar3], by rw [as1]; exact fine0 _, by rw [ao2]; exact fine0 _, n3⟩, ?_⟩
  clear s1 s2 s3 rs1 rs2 rs3 ro2 ro3 rr3 d1 d2 d3 n1 n2 n3 as1 ao2 ar3
  rintro i w10 _ ⟨hi0, hi1, O, CS, CO, CR, d, rs, ro, rr, hab, hfs, hfo, hn⟩
  refine ⟨fun hi => ?_, fun hi => ⟨rfl, hn.quiet⟩⟩
  simp only [decide_eq_true_eq] at hi
  obtain ⟨a, rfl, i12, i13, s14, b15, i16, i17, s18, hcell⟩ := hacts i.toNat (by omega)
  refine ⟨a, rfl, ⟨hi0, hi⟩, i12, i13, s14, b15, i16, i17, s18, acts_since hcell hn, ?_⟩
  intro k19 hk19 w20 hw20
  have hk19n := not_owned d hk19.size
  have hk19s : w.heap.size ≤ k19 := Nat.le_trans hn.size hk19.size
  have n20 := hn.framed hw20 (fun k hk => by simp only [List.mem_singleton] at hk; subst hk; exact hk19s)
  have d20 := dom_framed d hw20
  have mv20 := own_framed d hw20 (fun k hk => by simp only [List.mem_singleton] at hk; subst hk; exact hk19n)
  have rs20 := rs.move fun k t hk => mv20 k _ hk
  have ro20 := ro.move fun k t hk => mv20 k _ hk
  have rr20 := rr.move fun k t hk => mv20 k _ hk
  have loc20 : Loc O w w20 k19 := ⟨hk19n, hk19s, hw20.live k19 (by simp)⟩
  have hbi : i.toNat ≤ 100 := by omega
  have l1 : ∀ {O : Owner} {w' : World}, Loc O w w' k19 → ∀ k ∈ [k19], Loc O w w' k := fun h k hk => by simp only [List.mem_singleton] at hk; subst hk; exact h
  -- the other one's two calls
  refine callS d20 n20 (let_S ro20 d20 0 ⟨#[111]⟩ true) (l1 loc20) ?_
  intro O1 CO1 w21 s1 ro1 ao1 d1 n1
  have rs1 := rs20.step d20 s1 (by decide)
  have rr1 := rr20.step d20 s1 (by decide)
  have loc1 := loc20.step s1
  have hfo1 : Fine (absS CO1) (2 * i.toNat + 1) := by rw [ao1]; exact fine_let hfo _ _ _
  refine ⟨_, rfl, ?_⟩
  refine callS d1 n1 (make_S ro1 d1 (fine_len hfo1 (by omega)) 0) (l1 loc1) ?_
  intro O2 CO2 w23 s2 ro2 ao2 d2 n2
  have rs2 := rs1.step d1 s2 (by decide)
  have rr2 := rr1.step d1 s2 (by decide)
  have loc2 := loc1.step s2
  have hfo2 : Fine (absS CO2) (2 * i.toNat + 2) := by rw [ao2]; exact fine_make hfo1 _
  refine ⟨_, rfl, ?_⟩
  clear s1 s2 ro1 rs1 rr1 d1 n1 ao1 ao2 loc1 hfo1 rs20 ro20 rr20 d20 n20 loc20 mv20
  have hi' : IntKind.wrap .i64 (i + 1) = i + 1 := IntWalk.i64_in _ (by omega)
  have hto : (i + 1).toNat = i.toNat + 1 := by omega
  have hmu : ((l0 : Int) - (i + 1)).toNat < ((l0 : Int) - i).toNat := by omega
  -- the round's end
  have close : ∀ {O : Owner} {w' : World} {CS : List SSc} {CO : List SSc} {CR : List RSc}, Dom O w' → RepS O 1 w' s CS → RepS O 2 w' o CO → RepR O 3 w' r CR → absS CS = absR CR → Fine (absS CS) (i.toNat + 1) → Fine (absS CO) (2 * i.toNat + 2) → Since O w w' →
      (0 ≤ IntKind.wrap .i64 (i + 1) ∧ IntKind.wrap .i64 (i + 1) ≤ (l0 : Int) ∧ Inv w s o r (IntKind.wrap .i64 (i + 1)).toNat w') ∧ ((l0 : Int) - IntKind.wrap .i64 (i + 1)).toNat < ((l0 : Int) - i).toNat := by
    intro O w' CS CO CR h1 h2 h3 h4 h5 h6 h7 h8
    rw [hi', hto]
    exact ⟨⟨by omega, by omega, O, CS, CO, CR, h1, h2, h3, h4, h5, h6, h7.mono (by omega), h8⟩, hmu⟩
  -- a world in which only the call's own blocks were written
  have fr : ∀ {L : List Nat} {O : Owner} {w' w'' : World}, Dom O w' → Since O w w' → Framed L w' w'' → (∀ k ∈ L, O k = none ∧ w.heap.size ≤ k) → Dom O w'' ∧ Since O w w'' ∧ (∀ {id x C}, RepS O id w' x C → RepS O id w'' x C) ∧ (∀ {id x C}, RepR O id w' x C → RepR O id w'' x C) := by
    intro L O w' w'' hd hs hf hL
    have mv := own_framed hd hf (fun k hk => (hL k hk).1)
    exact ⟨dom_framed hd hf, hs.framed hf (fun k hk => (hL k hk).2), fun h => h.move fun k t hk => mv k _ hk, fun h => h.move fun k t hk => mv k _ hk⟩
  have fr2 : ∀ {w'' : World}, Framed [k19] w23 w'' → Dom O2 w'' ∧ Since O2 w w'' ∧ (∀ {id x C}, RepS O2 id w23 x C → RepS O2 id w'' x C) ∧ (∀ {id x C}, RepR O2 id w23 x C → RepR O2 id w'' x C) ∧ Loc O2 w w'' k19 := by
    intro w'' hf
    obtain ⟨h1, h2, h3, h4⟩ := fr d2 n2 hf (fun k hk => by simp only [List.mem_singleton] at hk; subst hk; exact ⟨loc2.1, loc2.2.1⟩)
    exact ⟨h1, h2, h3, h4, loc2.1, loc2.2.1, Nat.lt_of_lt_of_le loc2.2.2 hf.size⟩
  refine ⟨fun _ w25 hw25 => ?_, fun _ => ⟨fun _ w25 hw25 => ?_, fun _ => ⟨fun _ w25 hw25 => ?_, fun _ => ⟨fun _ => ?_, fun _ => ⟨fun _ w25 hw25 => ?_, fun _ => ?_⟩⟩⟩⟩⟩
  · -- Make
    obtain ⟨e1, e2, e3, e4, e5⟩ := fr2 hw25
    refine callS e1 e2 (make_S (e3 rs2) e1 (fine_len hfs (by omega)) i13) (l1 e5) ?_
    intro O3 CS3 w26 s3 rs3 as3 d3 n3
    refine ⟨_, rfl, ?_⟩
    refine callR d3 n3 (make_R ((e4 rr2).step e1 s3 (by decide)) d3 (fine_lenR (by rw [← hab]; exact hfs) (by omega)) i13) (l1 (e5.step s3)) ?_
    intro O4 CR4 w28 s4 rr4 ar4 d4 n4
    refine ⟨_, rfl, fun hx => ?_, fun _ => ?_⟩
    · rw [hab] at hx; simp at hx
    · exact close d4 (rs3.step d3 s4 (by decide)) (((e3 ro2).step e1 s3 (by decide)).step d3 s4 (by decide)) rr4 (by rw [as3, ar4, hab]) (by rw [as3]; exact fine_make hfs _) hfo2 n4
  · -- Let
    obtain ⟨e1, e2, e3, e4, e5⟩ := fr2 hw25
    refine callS e1 e2 (let_S (e3 rs2) e1 i13 s14 b15) (l1 e5) ?_
    intro O3 CS3 w26 s3 rs3 as3 d3 n3
    refine ⟨_, rfl, ?_⟩
    refine callR d3 n3 (let_R ((e4 rr2).step e1 s3 (by decide)) d3 (fine_few (by rw [← hab]; exact hfs) (by omega)) i13 s14 b15) (l1 (e5.step s3)) ?_
    intro O4 CR4 w28 s4 rr4 ar4 d4 n4
    refine ⟨_, rfl, fun hx => ?_, fun _ => ?_⟩
    · rw [hab] at hx; simp at hx
    · exact close d4 (rs3.step d3 s4 (by decide)) (((e3 ro2).step e1 s3 (by decide)).step d3 s4 (by decide)) rr4 (by rw [as3, ar4, hab]) (by rw [as3]; exact fine_let hfs _ _ _) hfo2 n4
  · -- Begin
    obtain ⟨e1, e2, e3, e4, e5⟩ := fr2 hw25
    refine callS e1 e2 (begin_S (e3 rs2) e1 i13 s14 i16 i17 s18) (l1 e5) ?_
    intro O3 CS3 w26 s3 rs3 as3 d3 n3
    refine ⟨_, rfl, ?_⟩
    refine callR d3 n3 (begin_R ((e4 rr2).step e1 s3 (by decide)) d3 (fun c hc => by have := fine_few (C := CR) (by rw [← hab]; exact hfs) (by omega) c hc; omega) i13 s14 i16 i17 s18) (l1 (e5.step s3)) ?_
    intro O4 CR4 w28 s4 rr4 ar4 d4 n4
    refine ⟨_, rfl, fun hx => ?_, fun _ => ?_⟩
    · rw [hab] at hx; simp at hx
    · exact close d4 (rs3.step d3 s4 (by decide)) (((e3 ro2).step e1 s3 (by decide)).step d3 s4 (by decide)) rr4 (by rw [as3, ar4, hab]) (by rw [as3]; exact fine_begin hfs _ _ _ _ _) hfo2 n4
  · -- Get
    refine callS d2 n2 (get_S rs2 d2 hfs.1 i13 s14) (l1 loc2) ?_
    intro O3 CS3 w25 s3 rs3 as3 d3 n3
    refine ⟨_, _, _, _, rfl, ?_⟩
    intro k30 hk30 w31 hw31
    have loc3 := loc2.step s3
    have hk30n := not_owned d3 hk30.size
    have hk30s : w.heap.size ≤ k30 := Nat.le_trans n3.size hk30.size
    have hL : ∀ k ∈ [k19, k30], O3 k = none ∧ w.heap.size ≤ k := fun k hk => by
      simp only [List.mem_cons, List.not_mem_nil, or_false] at hk
      rcases hk with rfl | rfl
      · exact ⟨loc3.1, loc3.2.1⟩
      · exact ⟨hk30n, hk30s⟩
    obtain ⟨e1, e2, e3, e4⟩ := fr d3 n3 hw31 hL
    have hlive : ∀ k ∈ [k19, k30], Loc O3 w w31 k := fun k hk => ⟨(hL k hk).1, (hL k hk).2, hw31.live k hk⟩
    refine callR e1 e2 (get_R (e4 (rr2.step d2 s3 (by decide))) e1 (fun c hc => by have := fine_few (C := CR) (by rw [← hab]; exact hfs) (by omega) c hc; omega) (by rw [← hab]; exact hfs.1) i13 s14) hlive ?_
    intro O4 CR4 w32 s4 rr4 ar4 d4 n4
    refine ⟨_, _, _, _, rfl, ?_⟩
    intro k37 hk37
    have hk37n := not_owned d4 hk37.size
    have hL2 : ∀ k ∈ [k19, k30, k37], O4 k = none ∧ w.heap.size ≤ k := fun k hk => by
      simp only [List.mem_cons, List.not_mem_nil, or_false] at hk
      rcases hk with rfl | rfl | rfl
      · exact ⟨((hlive _ (by simp)).step s4).1, loc3.2.1⟩
      · exact ⟨((hlive _ (by simp)).step s4).1, hk30s⟩
      · exact ⟨hk37n, Nat.le_trans n4.size hk37.size⟩
    have hss : ∀ s : ByteArray, strB .eql s s = true := fun s => (strB_eql s s).2 rfl
    refine ⟨fun _ => ⟨fun hx => ?_, fun _ w38 hw38 => ?_⟩, fun hx => ?_⟩
    · rw [hab] at hx; simp at hx
    · obtain ⟨f1, f2, f3, f4⟩ := fr d4 n4 hw38 hL2
      exact close f1 (f3 ((e3 rs3).step e1 s4 (by decide))) (f3 ((e3 (ro2.step d2 s3 (by decide))).step e1 s4 (by decide))) (f4 rr4) (by rw [as3, ar4, hab]) (by rw [as3]; exact hfs.mono (by omega)) hfo2 f2
    · rw [hab] at hx; simp [hss] at hx
  · -- Set
    obtain ⟨e1, e2, e3, e4, e5⟩ := fr2 hw25
    refine callS e1 e2 (set_S (e3 rs2) e1 hfs.1 i13 s14 i16 i17 s18) (l1 e5) ?_
    intro O3 CS3 w26 s3 rs3 as3 d3 n3
    refine ⟨_, rfl, ?_⟩
    refine callR d3 n3 (set_R ((e4 rr2).step e1 s3 (by decide)) d3 (fun c hc => by have := fine_few (C := CR) (by rw [← hab]; exact hfs) (by omega) c hc; omega) (by rw [← hab]; exact hfs.1) i13 s14 i16 i17 s18) (l1 (e5.step s3)) ?_
    intro O4 CR4 w28 s4 rr4 ar4 d4 n4
    refine ⟨_, rfl, fun hx => ?_, fun _ => ?_⟩
    · rw [hab] at hx; simp at hx
    · exact close d4 (rs3.step d3 s4 (by decide)) (((e3 ro2).step e1 s3 (by decide)).step d3 s4 (by decide)) rr4 (by rw [as3, ar4, hab]) (by rw [as3]; exact fine_set hfs _ _ _ _ _) hfo2 n4
  · exact close d2 rs2 ro2 rr2 hab (hfs.mono (by omega)) hfo2 n2

end Go.Proofs.Ytmnnkkcihmdpmaa
