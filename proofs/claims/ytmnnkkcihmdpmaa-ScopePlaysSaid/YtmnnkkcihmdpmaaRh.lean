/- What the document's own scopes do, call by call: those that make memory. -/
import Derived.Test.YtmnnkkcihmdpmaaRg
set_option linter.unusedSimpArgs false
set_option linter.unusedVariables false
namespace Go.Proofs.Ytmnnkkcihmdpmaa
open Go Go.Vx

theorem app45 : appOk Try.prog 45 3 1 = true := by kernel_rfl
theorem app46 : appOk Try.prog 46 54 1 = true := by kernel_rfl
theorem app54 : appOk Try.prog 54 56 6 = true := by kernel_rfl

def addEntR (C : List RSc) (i : Nat) (v : Value) (en : ByteArray × Var) : List RSc := C.modify i fun c => { parent := c.parent, v := v, ents := c.ents ++ [en] }
theorem absR_addEntR (C : List RSc) (i : Nat) (v : Value) (en : ByteArray × Var) : absR (addEntR C i v en) = addE (absR C) i en := by
  unfold absR addEntR addE
  exact map_modify' (g := fun c : RSc => (c.parent, c.ents)) (f := fun c => { parent := c.parent, v := v, ents := c.ents ++ [en] }) (h := fun s => (s.1, s.2 ++ [en])) (fun c => rfl) _ _

theorem flat_prow_add (v : Value) (en : ByteArray × Var) : ∀ (C : List RSc) (i : Nat), (addEntR C i v en).flatMap prow = C.flatMap prow
  | [], i => by simp [addEntR]
  | c :: C, 0 => by simp [addEntR, prow]
  | c :: C, i + 1 => by
    have := flat_prow_add v en C i
    simp only [addEntR] at this ⊢
    rw [List.modify_succ_cons, List.flatMap_cons, List.flatMap_cons, this]

/-- The end of a name's being let. -/
theorem let_tail {O : Owner} {id : Nat} {w W : World} {x0 : Addr} {C : List RSc} (hd0 : Dom O w) (hq : Quiet w W) (h : RepR O id W x0 C) (hb : Few C) {e : Int} (he0 : 0 ≤ e) (he1 : e < (C.length : Int)) {sc : RSc} (hc : C[e.toNat]? = some sc) (hlt : sc.ents.length + 1 ≤ 1000000)
    {p : Option Addr} {c : Nat} (hv : sc.v = .slice p sc.ents.length c) {al : Addr} {cl : Nat} (hl : CellsAt W x0 1 [.slice (some al) C.length cl]) {k : Nat} (hk : w.heap.size ≤ k) (en : ByteArray × Var) (hblk : W.heap[k]? = some (.cells (erow en).toArray 56 (0, 0))) :
    ∃ p' c' w21, Sem.run Try.prog (GOp.sem (.builtin .append #[54, 54] 54 [(.slice p sc.ents.length c), (.slice (some ⟨k, 0, none⟩) 1 1)])) W = .ok (.slice p' (sc.ents.length + 1) c') w21 ∧ Kept [] W w21 ∧
      CellsAt w21 x0 1 [.slice (some al) C.length cl] ∧ CanStore [] w21 (Addr.add al (0 + Int.toNat e * 1)) 0 1 ∧
      PostR O id w x0 (addE (absR C) e.toNat en) (.bool true) (.bool true) (storeAt w21 (Addr.add al (0 + Int.toNat e * 1)) 0 [.slice p' (sc.ents.length + 1) c']) := by
  have hd := hq.dom hd0
  obtain ⟨r1, r2⟩ := h.rows _ sc hc
  rw [hv] at r1
  obtain ⟨p', c', w21, hrun, hrow, hgrow, g, hg, hgg⟩ := run_app app54 r1 hblk rfl (by
    intro u hu
    simp only [erow, List.mem_cons, List.not_mem_nil, or_false] at hu
    rcases hu with rfl | rfl | rfl | rfl | rfl | rfl <;> rfl) hlt 54
  rw [← hv] at hgrow hgg
  obtain ⟨rb, vp, vl, gp, gl, rfl, k2, k3, k4, k5, k6, k7, k8, k9⟩ := h.head
  have hnone := not_owned hd0 (Nat.le_refl w.heap.size)
  have hbound : ∀ k' t, O k' = some t → k' < W.heap.size := fun k' t hk' => hd k' (by rw [hk']; simp)
  have hsame21 : ∀ k' t, O k' = some (id, t) → (t.1 ≠ 2 ∨ t.2.1 ≠ e.toNat) → w21.heap[k']? = W.heap[k']? := by
    intro k' t hk' ht
    refine hgrow.block k' (hbound _ _ hk') (fun e' => ?_)
    have := r2 k' e'.symm
    rw [this] at hk'
    simp only [Option.some.injEq, Prod.mk.injEq] at hk'
    rw [← hk'.2] at ht
    simp at ht
  have hupd21 : Upd O id W w21 := by
    refine ⟨hgrow.os, hgrow.tape, hgrow.output, hgrow.size, fun k' hk' hne => hgrow.block k' hk' (fun e' => ?_)⟩
    exact hne _ (r2 k' e'.symm)
  have hlt0 : e.toNat < C.length := by omega
  obtain ⟨gl', cl', cur, e1, e2, _⟩ := row_blk k7 (by omega)
  rw [e1] at k8
  simp only [Value.ownBlock, Option.some.injEq] at k8
  subst k8
  have hal : al = ⟨gl', 0, none⟩ := by
    have hx := hl 0 _ rfl
    rw [add_mid] at hx
    unfold World.cell? at hx
    rw [k3, e1] at hx
    simp at hx
    exact hx.1.symm
  subst hal
  have hl21 : CellsAt w21 ⟨rb, 0, none⟩ 1 [.slice (some ⟨gl', 0, none⟩) C.length cl] := by
    intro j u hj
    have := hl j u hj
    rw [add_mid] at this ⊢
    have hcell : w21.cell? ⟨rb, 0 + (1 + j), none⟩ = W.cell? ⟨rb, 0 + (1 + j), none⟩ := World.cell?_of_block (hsame21 rb _ k2 (.inl (by simp)))
    rw [hcell]
    exact this
  have k7' : w21.ownsRow 0 54 1 vl C.length (C.flatMap lrow) := row_kept k7 (fun g' hg' => by
    rw [e2, Option.some.injEq] at hg'
    subst hg'
    exact hsame21 _ _ k9 (.inl (by simp)))
  rw [add_mid]
  have hflen : (C.flatMap lrow).length = C.length * 1 := flat_len lrow_len C
  obtain ⟨s1, s2⟩ := row_store k7' e2 (o := 0 + (0 + e.toNat * 1)) (off := 0) (vs := [.slice p' (sc.ents.length + 1) c']) (by rw [hflen]; simp only [List.length_cons, List.length_nil]; omega) [] (by simp)
  have hfs := flat_set lrow_len (fun c : RSc => ({ parent := c.parent, v := .slice p' (sc.ents.length + 1) c', ents := c.ents ++ [en] } : RSc)) (off := 0) (vs := [.slice p' (sc.ents.length + 1) c']) (by simp) hc rfl
  have e0 : 0 + (0 + e.toNat * 1) + 0 = e.toNat * 1 + 0 := by omega
  rw [e0, hfs] at s2
  refine ⟨p', c', w21, hrun, ⟨hgrow.size, fun _ hb => by cases hb⟩, hl21, s1, rfl, ?_⟩
  have hgO : O g = some (id, 2, e.toNat, 0) ∨ (g = W.heap.size ∧ g < w21.heap.size) := by
    rcases hgg with hgg | hgg
    · exact .inl (r2 g hgg)
    · exact .inr hgg
  have hown : ∀ k' t, O k' = some (id, t) → (t.1 ≠ 2 ∨ t.2.1 ≠ e.toNat) → (O.give g (id, 2, e.toNat, 0)) k' = some (id, t) := by
    intro k' t hk' ht
    rw [Owner.give_ne _ _ (fun e' => ?_), hk']
    subst e'
    rcases hgO with hgO | hgO
    · rw [hgO] at hk'
      simp only [Option.some.injEq, Prod.mk.injEq] at hk'
      rw [← hk'.2] at ht
      simp at ht
    · have := hbound _ _ hk'
      omega
  have hggl : g ≠ gl' := by
    intro e'
    rcases hgO with hgO | hgO
    · rw [e', k9] at hgO; simp at hgO
    · have := hbound _ _ k9
      omega
  have hfsame : ∀ k' t, O k' = some (id, t) → (t.1 ≠ 2 ∨ t.2.1 ≠ e.toNat) → (t.1 ≠ 1 ∨ t.2.1 ≠ 1) → (storeAt w21 ⟨gl', 0 + (0 + e.toNat * 1), none⟩ 0 [.slice p' (sc.ents.length + 1) c']).heap[k']? = W.heap[k']? := by
    intro k' t hk' ht ht2
    rw [storeAt_far (fun e' => ?_), hsame21 k' t hk' ht]
    have e' : k' = gl' := e'
    rw [e', k9] at hk'
    simp only [Option.some.injEq, Prod.mk.injEq] at hk'
    rw [← hk'.2] at ht2
    simp at ht2
  have hsz : (storeAt w21 ⟨gl', 0 + (0 + e.toNat * 1), none⟩ 0 [.slice p' (sc.ents.length + 1) c']).heap.size = w21.heap.size := (storeAt_same _ _ _ _).2.2.2
  have hstep : Step O O id w (storeAt w21 ⟨gl', 0 + (0 + e.toNat * 1), none⟩ 0 [.slice p' (sc.ents.length + 1) c']) :=
    (((hq.upd O id).trans (fun _ _ => rfl) hupd21).trans (fun _ _ => rfl) (storeAt_upd k9)).step hd0
  have hlC : (addEntR C e.toNat (.slice p' (sc.ents.length + 1) c') en).length = C.length := by simp [addEntR]
  refine ⟨O.give g (id, 2, e.toNat, 0), addEntR C e.toNat (.slice p' (sc.ents.length + 1) c') en, hstep.giveAt ?_, ⟨?_, ?_⟩, absR_addEntR _ _ _ _⟩
  · rcases hgO with hgO | hgO
    · exact .inl hgO
    · exact .inr ⟨by have := hq.size; omega, by rw [hsz]; exact hgO.2⟩
  · refine ⟨rb, vp, vl, gp, gl', rfl, hown _ _ k2 (.inl (by simp)), by rw [hfsame _ _ k2 (.inl (by simp)) (.inl (by simp)), k3], ?_, k5, hown _ _ k6 (.inl (by simp)), ?_, e2, hown _ _ k9 (.inl (by simp))⟩
    · rw [hlC, flat_prow_add]
      refine row_kept k4 (fun g' hg' => ?_)
      rw [k5, Option.some.injEq] at hg'
      subst hg'
      exact hfsame _ _ k6 (.inl (by simp)) (.inr (by simp))
    · rw [hlC]
      exact s2
  · intro i cc hcc
    unfold addEntR at hcc
    rw [List.getElem?_modify] at hcc
    by_cases hii : e.toNat = i
    · subst hii
      rw [hc] at hcc
      simp only [if_true, Option.map_eq_map, Option.map_some, Option.some.injEq] at hcc
      subst hcc
      refine ⟨?_, fun g' hg' => ?_⟩
      · simp only [List.length_append, List.length_cons, List.length_nil, List.flatMap_append, List.flatMap_cons, List.flatMap_nil, List.append_nil]
        refine row_kept hrow (fun g' hg' => ?_)
        rw [hg, Option.some.injEq] at hg'
        subst hg'
        exact storeAt_far hggl
      · simp only at hg'
        rw [hg, Option.some.injEq] at hg'
        subst hg'
        exact Owner.give_same _ _ _
    · have hcc' : C[i]? = some cc := by simpa [hii] using hcc
      obtain ⟨q1, q2⟩ := h.rows i cc hcc'
      exact ⟨row_kept q1 (fun g' hg' => hfsame _ _ (q2 g' hg') (.inr (fun e => hii e.symm)) (.inl (by simp))), fun g' hg' => hown _ _ (q2 g' hg') (.inr (fun e => hii e.symm))⟩

theorem let_R {O : Owner} {id : Nat} {w : World} {x0 : Addr} {C : List RSc} (h : RepR O id w x0 C) (hd : Dom O w) (hb : ∀ c ∈ C, c.ents.length + 1 ≤ 1000000) (e : Int) (x : ByteArray) (fx : Bool) :
    Calls Try.prog 10 [(.pointer (some x0)), (.int .i64 e), (.string x), (.bool fx)].toArray w fun en w' => ∃ v, en = .returned v ∧ PostR O id w x0 (letA (absR C) e x fx).1 (.bool (letA (absR C) e x fx).2) v w' := by
  have hfew : Few C := fun c hc => by have := hb c hc; omega
  refine calls10 _ _ _ _ _ _ ?_
  unfold NF10
  obtain ⟨pp, cp, pl, cl, hp, hl, hcell⟩ := h.cells
  refine ⟨fun h0 => ⟨pl, _, cl, hl, fun hx => ?_, fun hx => ?_⟩, fun h0 => ?_⟩
  · simp only [decide_eq_true_eq] at h0
    simp only [Bool.not_eq_false', decide_eq_true_eq] at hx
    have hin : inA (absR C).length e = true := by rw [absR_length]; exact inA_iff.2 ⟨h0, hx⟩
    obtain ⟨ap, al, sc, rfl, rfl, hc, hpar, hlv⟩ := hcell e h0 hx
    refine CallsV.of (at_R h hfew h0 hx hc x) ?_
    rintro v w3 ⟨rfl, rfl⟩
    refine ⟨⟨Nat.le_refl _, fun _ _ => rfl⟩, _, rfl, fun hi => ?_, fun hi => ?_⟩
    · simp only [decide_eq_true_eq] at hi
      cases hlk : look x sc.ents with
      | none => unfold lookI at hi; rw [hlk] at hi; simp at hi
      | some j =>
        simp only [letA, hin, if_true, entsAt_absR hc, hlk]
        exact PostR.same h hd (.refl _) _
    · simp only [decide_eq_false_iff_not] at hi
      cases hlk : look x sc.ents with
      | some j => unfold lookI at hi; rw [hlk] at hi; simp only at hi; omega
      | none =>
        simp only [letA, hin, if_true, entsAt_absR hc, hlk]
        obtain ⟨p, c, hv, _⟩ := h.ent hc
        have hlt := hb sc (List.mem_of_getElem? hc)
        rw [hv] at hlv
        -- what is read in a world behind, where only new blocks have come
        have rd : ∀ W, Quiet w3 W → RepR O id W x0 C ∧ CellsAt W x0 1 [.slice (some al) C.length cl] ∧ CellsAt W (Addr.add al (0 + Int.toNat e * 1)) 0 [.slice p sc.ents.length c] := by
          intro W hq
          refine ⟨h.quiet hd hq, ?_, ?_⟩
          · intro j u hj
            have := hl j u hj
            have hbl : (Addr.add x0 (1 + j)).block < w3.heap.size := World.block_lt_of_cell? w3 _ this
            rw [← this]
            exact World.cell?_of_block (hq.same _ hbl)
          · intro j u hj
            have := hlv j u hj
            have hbl := World.block_lt_of_cell? w3 _ this
            rw [← this]
            exact World.cell?_of_block (hq.same _ hbl)
        have qn : ∀ W k, Fresh w3 [] k → Framed [k] w3 W → Quiet w3 W := fun W k hk hW => hW.quiet (fun k' hk' => by simp only [List.mem_singleton] at hk'; subst hk'; exact hk.size)
        have qn5 : ∀ w5 W k, Framed [] w3 w5 → Fresh w5 [] k → Framed [k] w5 W → Quiet w3 W ∧ w3.heap.size ≤ k := fun w5 W k h5 hk hW => ⟨h5.quiet0.trans (hW.quiet (fun k' hk' => by simp only [List.mem_singleton] at hk'; subst hk'; exact hk.size)), Nat.le_trans h5.size hk.size⟩
        have hix : (0 : Int) ≤ e ∧ e < ((C.length : Nat) : Int) := ⟨h0, hx⟩
        -- the end, wherever it is come to
        have tail : ∀ W k, Quiet w3 W → w3.heap.size ≤ k → W.heap[(k : Nat)]? = some (.cells #[(.string x), (.bool fx), (.bool false), (.int .i64 0), (.int .i64 0), (.string ⟨#[]⟩)] 56 (0, 0)) → _ :=
          fun W k hq hk hblk => let_tail hd hq (rd W hq).1 hfew h0 hx hc hlt hv (rd W hq).2.1 hk (x, ⟨0, 0, ⟨#[]⟩, false, fx⟩) hblk
        refine ⟨fun w5 h5 => ?_, ?_, ?_⟩
        · obtain ⟨_, a1, a2⟩ := rd w5 h5.quiet0
          refine ⟨_, _, _, a1, ⟨_, _, _, a1, al, rfl, hix, ⟨_, _, _, a2, ?_⟩, ?_⟩, ?_⟩
          · intro k hk W hW hblk
            obtain ⟨q1, q2⟩ := qn5 _ _ _ h5 hk hW
            obtain ⟨p', c', w21, t1, t2, t3, t4, t5⟩ := tail W k q1 q2 hblk
            exact ⟨_, _, _, _, t1, t2, al, rfl, hix, t4, t5⟩
          · intro k hk W hW
            obtain ⟨q1, q2⟩ := qn5 _ _ _ h5 hk hW
            obtain ⟨_, b1, b2⟩ := rd W q1
            refine ⟨_, _, _, b2, fun hblk => ?_⟩
            obtain ⟨p', c', w21, t1, t2, t3, t4, t5⟩ := tail W k q1 q2 hblk
            exact ⟨_, _, _, _, t1, t2, al, rfl, hix, t4, t5⟩
          · intro k hk W hW
            obtain ⟨q1, q2⟩ := qn5 _ _ _ h5 hk hW
            obtain ⟨_, b1, b2⟩ := rd W q1
            refine ⟨_, _, _, b1, al, rfl, hix, _, _, _, b2, fun hblk => ?_⟩
            obtain ⟨p', c', w21, t1, t2, t3, t4, t5⟩ := tail W k q1 q2 hblk
            exact ⟨_, _, _, _, t1, t2, al, rfl, hix, t4, t5⟩
        · intro w5 h5
          obtain ⟨_, a1, a2⟩ := rd w5 h5.quiet0
          refine ⟨_, _, _, a1, al, rfl, hix, ⟨_, _, _, a1, ⟨_, _, _, a2, ?_⟩, ?_⟩, ⟨_, _, _, a2, ⟨_, _, _, a1, ?_⟩, ?_⟩, ?_⟩
          · intro k hk W hW hblk
            obtain ⟨q1, q2⟩ := qn5 _ _ _ h5 hk hW
            obtain ⟨p', c', w21, t1, t2, t3, t4, t5⟩ := tail W k q1 q2 hblk
            exact ⟨_, _, _, _, t1, t2, al, rfl, hix, t4, t5⟩
          · intro k hk W hW
            obtain ⟨q1, q2⟩ := qn5 _ _ _ h5 hk hW
            obtain ⟨_, b1, b2⟩ := rd W q1
            refine ⟨_, _, _, b2, fun hblk => ?_⟩
            obtain ⟨p', c', w21, t1, t2, t3, t4, t5⟩ := tail W k q1 q2 hblk
            exact ⟨_, _, _, _, t1, t2, al, rfl, hix, t4, t5⟩
          · intro k hk W hW hblk
            obtain ⟨q1, q2⟩ := qn5 _ _ _ h5 hk hW
            obtain ⟨p', c', w21, t1, t2, t3, t4, t5⟩ := tail W k q1 q2 hblk
            exact ⟨_, _, _, _, t1, t2, al, rfl, hix, t4, t5⟩
          · intro k hk
            refine ⟨fun W hW => ?_, fun W hW hblk => ?_⟩
            · obtain ⟨q1, q2⟩ := qn5 _ _ _ h5 hk hW
              obtain ⟨_, b1, b2⟩ := rd W q1
              refine ⟨_, _, _, b1, fun hblk => ?_⟩
              obtain ⟨p', c', w21, t1, t2, t3, t4, t5⟩ := tail W k q1 q2 hblk
              exact ⟨_, _, _, _, t1, t2, al, rfl, hix, t4, t5⟩
            · obtain ⟨q1, q2⟩ := qn5 _ _ _ h5 hk hW
              obtain ⟨p', c', w21, t1, t2, t3, t4, t5⟩ := tail W k q1 q2 hblk
              exact ⟨_, _, _, _, t1, t2, _, _, _, t3, al, rfl, hix, t4, t5⟩
          · intro k hk W hW
            obtain ⟨q1, q2⟩ := qn5 _ _ _ h5 hk hW
            obtain ⟨_, b1, b2⟩ := rd W q1
            refine ⟨_, _, _, b2, ⟨_, _, _, b1, fun hblk => ?_⟩, fun hblk => ?_⟩
            · obtain ⟨p', c', w21, t1, t2, t3, t4, t5⟩ := tail W k q1 q2 hblk
              exact ⟨_, _, _, _, t1, t2, al, rfl, hix, t4, t5⟩
            · obtain ⟨p', c', w21, t1, t2, t3, t4, t5⟩ := tail W k q1 q2 hblk
              exact ⟨_, _, _, _, t1, t2, _, _, _, t3, al, rfl, hix, t4, t5⟩
        · intro k hk W hW
          have q1 := qn W k hk hW
          have q2 := hk.size
          obtain ⟨_, b1, b2⟩ := rd W q1
          refine ⟨_, _, _, b1, al, rfl, hix, _, _, _, b2, ⟨_, _, _, b1, fun hblk => ?_⟩, fun hblk => ?_⟩
          · obtain ⟨p', c', w21, t1, t2, t3, t4, t5⟩ := tail W k q1 q2 hblk
            exact ⟨_, _, _, _, t1, t2, al, rfl, hix, t4, t5⟩
          · obtain ⟨p', c', w21, t1, t2, t3, t4, t5⟩ := tail W k q1 q2 hblk
            exact ⟨_, _, _, _, t1, t2, _, _, _, t3, al, rfl, hix, t4, t5⟩
  · simp only [Bool.not_eq_true', decide_eq_false_iff_not] at hx
    simp only [letA, noA (A := absR C) (e := e) (by rw [absR_length]; exact fun hh => hx hh.2), Bool.false_eq_true, if_false]
    exact PostR.same h hd (.refl _) _
  · simp only [decide_eq_false_iff_not] at h0
    simp only [letA, noA (A := absR C) (e := e) (fun hh => h0 hh.1), Bool.false_eq_true, if_false]
    exact PostR.same h hd (.refl _) _

end Go.Proofs.Ytmnnkkcihmdpmaa
