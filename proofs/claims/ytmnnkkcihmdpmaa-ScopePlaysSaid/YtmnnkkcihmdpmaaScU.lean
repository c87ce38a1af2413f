/- What the program's own scopes do: a name is let. -/
import Derived.Test.YtmnnkkcihmdpmaaScT
set_option linter.unusedSimpArgs false
set_option linter.unusedVariables false
namespace Go.Proofs.Ytmnnkkcihmdpmaa
open Go Go.Vx

def addEnt (C : List SSc) (i : Nat) (e : SEnt) : List SSc := C.modify i fun c => { c with ents := c.ents ++ [e] }

theorem absS_addEnt (C : List SSc) (i : Nat) (e : SEnt) : absS (addEnt C i e) = addE (absS C) i (e.name, e.v) := by
  unfold absS addEnt addE
  refine map_modify' (fun c => ?_) _ _
  simp only [Prod.mk.injEq, true_and]
  rw [List.map_append]
  rfl

theorem let_S {O : Owner} {id : Nat} {w : World} {x0 : Addr} {C : List SSc} (h : RepS O id w x0 C) (hd : Dom O w) (e : Int) (x : ByteArray) (fx : Bool) :
    Calls Try.prog 7 [(.pointer (some x0)), (.int .i64 e), (.string x), (.bool fx)].toArray w fun en w' => ∃ v, en = .returned v ∧ PostS O id w x0 (letA (absS C) e x fx).1 (.bool (letA (absS C) e x fx).2) v w' := by
  refine calls7 _ _ _ _ _ _ ?_
  unfold NF7
  obtain ⟨p, c, hp, hcell⟩ := h.cells
  refine ⟨fun h0 => ⟨p, _, c, hp, fun hx => ?_, fun hx => ?_⟩, fun h0 => ?_⟩
  · simp only [decide_eq_true_eq] at h0
    simp only [Bool.not_eq_false', decide_eq_true_eq] at hx
    have hin : inA (absS C).length e = true := by rw [absS_length]; exact inA_iff.2 ⟨h0, hx⟩
    obtain ⟨ad, sc, rfl, hc, hpar, hmap⟩ := hcell e h0 hx
    refine ⟨_, _, c, hp, ad, rfl, ⟨h0, hx⟩, some sc.map, hmap, ?_⟩
    have hk : Kept [] w w := ⟨Nat.le_refl _, fun _ _ => rfl⟩
    rcases h.lookup hc x with ⟨h2, h3, h4⟩ | ⟨j, en, h2, h3, h4⟩
    · refine ⟨none, w, h4, hk, fun hx => by simp at hx, fun _ => ⟨_, _, c, hp, ad, rfl, ⟨h0, hx⟩, some sc.map, hmap, ?_⟩⟩
      intro k hk0 w16 hw16 hblk
      have ek := hk0.size
      have hq : Quiet w w16 := hw16.quiet (fun k hk => by simp only [List.mem_singleton] at hk; subst hk; exact ek)
      have h16 := h.quiet hd hq
      have hd16 := hq.dom hd
      have hlk : k < w16.heap.size := (Array.getElem?_eq_some_iff.1 hblk).1
      obtain ⟨kt, et, u1, u2, _⟩ := mapOk_ok map39
      obtain ⟨m1, m2⟩ := h16.maps _ sc hc
      obtain ⟨w17, hrun, hm17, e1, e2, e3, e4, e5⟩ := run_updateS u1 u2 m2 h3 (.pointer (some ⟨k, 0, none⟩))
      have hkm : k ≠ sc.map := fun e => by
        have := hd sc.map (by rw [m1]; simp)
        omega
      refine ⟨w17, hrun, ⟨by omega, fun _ hb => by cases hb⟩, ?_⟩
      simp only [letA, hin, if_true, entsAt_abs hc, h2]
      have hnk : O k = none := by
        cases hb : O k with
        | none => rfl
        | some t => exact absurd (hd k (by rw [hb]; simp)) (by omega)
      have hupd : Upd O id w16 w17 := ⟨e1, e2, e3, by omega, fun k' _ hne => e5 k' (fun e => by rw [e] at hne; exact hne _ m1)⟩
      have hstep : Step O O id w w17 := (hq.step hd id).trans (hupd.step hd16)
      have hown : ∀ k' t, O k' = some t → (O.give k (id, 3, e.toNat, sc.ents.length)) k' = some t := fun k' t hk' => by
        rw [Owner.give_ne _ _ (fun e => by rw [e, hnk] at hk'; cases hk'), hk']
      have hsame : ∀ k' t, O k' = some (id, t) → (t.1 ≠ 2 ∨ t.2.1 ≠ e.toNat) → w17.heap[k']? = w16.heap[k']? := fun k' t hk' ht => e5 k' (fun e' => by
        rw [e', m1] at hk'
        simp only [Option.some.injEq, Prod.mk.injEq] at hk'
        rw [← hk'.2] at ht
        simp at ht)
      refine ⟨rfl, O.give k (id, 3, e.toNat, sc.ents.length), addEnt C e.toNat ⟨x, k, ⟨0, 0, ⟨#[]⟩, false, fx⟩⟩, hstep.give ek (by omega) _, ⟨?_, ?_, ?_⟩, absS_addEnt _ _ _⟩
      · obtain ⟨sb, v, g, rfl, t1, t2, t3, t4, t5⟩ := h16.head
        refine ⟨sb, v, g, rfl, hown _ _ t1, by rw [hsame _ _ t1 (.inl (by simp)), t2], ?_, t4, hown _ _ t5⟩
        have hl : (addEnt C e.toNat ⟨x, k, ⟨0, 0, ⟨#[]⟩, false, fx⟩⟩).length = C.length := by simp [addEnt]
        have hf : ∀ (C : List SSc) (i : Nat) (en : SEnt), (addEnt C i en).flatMap srow = C.flatMap srow := by
          intro C
          induction C with
          | nil => intro i en; simp [addEnt]
          | cons c C ih =>
            intro i en
            cases i with
            | zero => simp [addEnt, List.flatMap_cons, srow]
            | succ i =>
              have := ih i en
              simp only [addEnt] at this ⊢
              rw [List.modify_succ_cons, List.flatMap_cons, List.flatMap_cons, this]
        rw [hl, hf]
        refine row_kept t3 (fun g' hg' => ?_)
        rw [t4, Option.some.injEq] at hg'
        subst hg'
        exact hsame _ _ t5 (.inl (by simp))
      · intro i cc hcc
        unfold addEnt at hcc
        rw [List.getElem?_modify] at hcc
        by_cases hii : e.toNat = i
        · subst hii
          rw [hc] at hcc
          simp only [if_true, Option.map_eq_map, Option.map_some, Option.some.injEq] at hcc
          subst hcc
          refine ⟨hown _ _ m1, ?_⟩
          have : mrow { sc with ents := sc.ents ++ [⟨x, k, ⟨0, 0, ⟨#[]⟩, false, fx⟩⟩] } = mrow sc ++ [(x, .pointer (some ⟨k, 0, none⟩))] := by simp [mrow]
          rw [this]
          exact hm17
        · have hcc' : C[i]? = some cc := by simpa [hii] using hcc
          obtain ⟨n1, n2⟩ := h16.maps i cc hcc'
          exact ⟨hown _ _ n1, mapAt_kept n2 (hsame _ _ n1 (.inr (fun e => hii e.symm)))⟩
      · intro i cc j en hcc hen
        unfold addEnt at hcc
        rw [List.getElem?_modify] at hcc
        have old : ∀ cc, C[i]? = some cc → cc.ents[j]? = some en → (O.give k (id, 3, e.toNat, sc.ents.length)) en.blk = some (id, 3, i, j) ∧ w17.heap[en.blk]? = some (.cells (scells en.v) 52 (0, 0)) := by
          intro cc hcc hen
          obtain ⟨n1, n2⟩ := h16.vars i cc j en hcc hen
          exact ⟨hown _ _ n1, by rw [hsame _ _ n1 (.inl (by simp)), n2]⟩
        by_cases hii : e.toNat = i
        · subst hii
          rw [hc] at hcc
          simp only [if_true, Option.map_eq_map, Option.map_some, Option.some.injEq] at hcc
          subst hcc
          simp only at hen
          by_cases hj : j < sc.ents.length
          · rw [List.getElem?_append_left hj] at hen
            exact old sc hc hen
          · have hj2 : j = sc.ents.length := by
              have := (List.getElem?_eq_some_iff.1 hen).1
              simp at this
              omega
            subst hj2
            rw [List.getElem?_append_right (Nat.le_refl _), Nat.sub_self] at hen
            simp only [List.getElem?_cons_zero, Option.some.injEq] at hen
            subst hen
            exact ⟨Owner.give_same _ _ _, by rw [e5 k hkm]; exact hblk⟩
        · exact old cc (by simpa [hii] using hcc) hen
    · refine ⟨_, w, h4, hk, fun _ => ?_, fun hx => by simp at hx⟩
      simp only [letA, hin, if_true, entsAt_abs hc, h2]
      exact PostS.same h hd (.refl _) _
  · simp only [Bool.not_eq_true', decide_eq_false_iff_not] at hx
    simp only [letA, noA (A := absS C) (e := e) (by rw [absS_length]; exact fun hh => hx hh.2), Bool.false_eq_true, if_false]
    exact PostS.same h hd (.refl _) _
  · simp only [decide_eq_false_iff_not] at h0
    simp only [letA, noA (A := absS C) (e := e) (fun hh => h0 hh.1), Bool.false_eq_true, if_false]
    exact PostS.same h hd (.refl _) _

end Go.Proofs.Ytmnnkkcihmdpmaa
