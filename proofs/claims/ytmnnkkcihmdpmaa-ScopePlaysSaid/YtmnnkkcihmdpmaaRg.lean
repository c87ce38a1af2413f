/- What the document's own scopes do, call by call: a value begun, a value set. -/
import Derived.Test.YtmnnkkcihmdpmaaRf
set_option linter.unusedSimpArgs false
set_option linter.unusedVariables false
namespace Go.Proofs.Ytmnnkkcihmdpmaa
open Go Go.Vx

theorem upd_framed {O : Owner} {id : Nat} {w w2 w4 : World} {k0 : Nat} (h : Upd O id w w2) (hf : Framed [k0] w2 w4) (hk : w.heap.size ≤ k0) : Upd O id w w4 :=
  ⟨hf.os.trans h.os, hf.tape.trans h.tape, hf.output.trans h.output, Nat.le_trans h.size hf.size, fun k hlt hne => (hf.same k (Nat.lt_of_lt_of_le hlt h.size) (by simp only [List.mem_singleton]; omega)).trans (h.same k hlt hne)⟩
theorem rep_framed {O : Owner} {id : Nat} {w2 w4 : World} {x0 : Addr} {C : List RSc} {k0 : Nat} (h : RepR O id w2 x0 C) (hd : Dom O w2) (hf : Framed [k0] w2 w4) (hk : O k0 = none) : RepR O id w4 x0 C :=
  h.move fun k t ht => ⟨ht, hf.same k (hd k (by rw [ht]; simp)) (by
    simp only [List.mem_singleton]
    exact fun e => by rw [e, hk] at ht; cases ht)⟩
theorem not_owned {O : Owner} {w : World} {k : Nat} (hd : Dom O w) (hk : w.heap.size ≤ k) : O k = none := by
  cases hb : O k with
  | none => rfl
  | some t => exact absurd (hd k (by rw [hb]; simp)) (by omega)

theorem set_get {C : List RSc} {i j : Nat} {sc : RSc} {en : ByteArray × Var} (hc : C[i]? = some sc) (he : sc.ents[j]? = some en) (f : Var → Var) :
    ∃ sc', (setEntR C i j f)[i]? = some sc' ∧ sc'.v = sc.v ∧ sc'.ents.length = sc.ents.length ∧ sc'.ents[j]? = some (en.1, f en.2) := by
  refine ⟨{ sc with ents := sc.ents.modify j fun p => (p.1, f p.2) }, ?_, rfl, by simp, ?_⟩
  · unfold setEntR
    rw [List.getElem?_modify, hc]
    simp
  · simp only
    rw [List.getElem?_modify, he]
    simp

theorem begin_R {O : Owner} {id : Nat} {w : World} {x0 : Addr} {C : List RSc} (h : RepR O id w x0 C) (hd : Dom O w) (hb : Few C) (e : Int) (x : ByteArray) (a b : Int) (s : ByteArray) :
    Calls Try.prog 12 [(.pointer (some x0)), (.int .i64 e), (.string x), (.agg #[(.int .i64 a), (.int .i64 b), (.string s)])].toArray w fun en w' => ∃ v, en = .returned v ∧ PostR O id w x0 (beginA (absR C) e x a b s).1 (.bool (beginA (absR C) e x a b s).2) v w' := by
  refine calls12 _ _ _ _ _ _ _ _ ?_
  unfold NF12
  intro k0 hk0
  have ek := hk0.size
  have hnk := not_owned hd ek
  refine ⟨fun h0 w1 hw1 => ?_, fun h0 w1 hw1 => ?_⟩
  · have hq : Quiet w w1 := hw1.quiet (fun k hk => by simp only [List.mem_singleton] at hk; subst hk; exact ek)
    have h1 := h.quiet hd hq
    have hd1 := hq.dom hd
    obtain ⟨pp, cp, pl, cl, hp, hl, hcell⟩ := h1.cells
    simp only [decide_eq_true_eq] at h0
    refine ⟨pl, _, cl, hl, fun hx => ?_, fun hx => ?_⟩
    · simp only [Bool.not_eq_true', decide_eq_false_iff_not] at hx
      simp only [beginA, noA (A := absR C) (e := e) (by rw [absR_length]; exact fun hh => hx hh.2), Bool.false_eq_true, if_false]
      exact PostR.same h hd hq _
    · simp only [Bool.not_eq_false', decide_eq_true_eq] at hx
      have hin : inA (absR C).length e = true := by rw [absR_length]; exact inA_iff.2 ⟨h0, hx⟩
      obtain ⟨ap, al, sc, rfl, rfl, hc, hpar, hlv⟩ := hcell e h0 hx
      refine CallsV.of (at_R h1 hb h0 hx hc x) ?_
      rintro v w5 ⟨rfl, rfl⟩
      refine ⟨⟨Nat.le_refl _, fun _ _ => rfl⟩, _, rfl, fun hi => ?_, fun hi => ?_⟩
      · simp only [decide_eq_false_iff_not] at hi
        cases hlk : look x sc.ents with
        | none => unfold lookI at hi; rw [hlk] at hi; simp at hi
        | some j =>
          have hli : lookI x sc.ents = (j : Int) := by unfold lookI; rw [hlk]
          rw [hli]
          obtain ⟨en, hen, _⟩ := look_some hlk
          have hj : j < sc.ents.length := (List.getElem?_eq_some_iff.1 hen).1
          have hjx : (0 : Int) ≤ j ∧ (j : Int) < ((sc.ents.length : Nat) : Int) := ⟨by omega, by omega⟩
          obtain ⟨p, c, hvv, hent⟩ := h1.ent hc
          have hlv' := hlv
          rw [hvv] at hlv'
          obtain ⟨g, rfl, hg, hcells⟩ := hent _ _ hen
          have hgk : g ≠ k0 := fun e' => by
            have := (h1.rows _ sc hc).2 g hg
            rw [e', hnk] at this
            cases this
          refine ⟨_, _, cl, hl, al, rfl, ⟨h0, hx⟩, _, _, c, hlv', _, rfl, hjx, en.2.begun, ?_, fun hbg => ?_, fun hbg => ?_⟩
          · rw [Int.toNat_natCast]
            exact hcells 2 _ rfl (by simp)
          · simp only [beginA, hin, if_true, entsAt_absR hc, hlk, varAt_absR hc hen, hbg]
            exact PostR.same h hd hq _
          · obtain ⟨s1, s2, s3⟩ := h1.setVar (vs := [.bool true]) hc hen (fun v => ⟨v.a, v.b, v.s, true, v.fixed⟩) (off := 2) hg (by simp) rfl [k0] (by simpa using hgk)
            rw [Int.toNat_natCast]
            refine ⟨_, _, cl, hl, al, rfl, ⟨h0, hx⟩, _, _, c, hlv', _, rfl, hjx, s1, ?_⟩
            intro w24 hw24
            have hd2 := storeAt_quiet_dom (a := Addr.add ⟨g, 0, none⟩ (0 + j * 6)) (off := 2) (vs := [.bool true]) hd1
            have h24 := rep_framed s2 hd2 hw24 hnk
            obtain ⟨sc', hc', hv', hlen', hen'⟩ := set_get hc hen (fun v => ⟨v.a, v.b, v.s, true, v.fixed⟩)
            obtain ⟨pp', cp', pl', cl', hp', hl', hcell'⟩ := h24.cells
            have hlC : (setEntR C e.toNat j fun v => ⟨v.a, v.b, v.s, true, v.fixed⟩).length = C.length := by simp [setEntR]
            obtain ⟨ap', al', sc'', rfl, rfl, hc'', hpar', hlv''⟩ := hcell' e h0 (by rw [hlC]; exact hx)
            rw [hc', Option.some.injEq] at hc''
            subst hc''
            rw [hv', hvv] at hlv''
            obtain ⟨t1, t2, t3⟩ := h24.setVar (vs := [(.int .i64 a), (.int .i64 b), (.string s)]) hc' hen' (fun v => ⟨a, b, s, v.begun, v.fixed⟩) (off := 3) (by rw [hv']; exact hg) (by simp) rfl [k0] (by simpa using hgk)
            refine ⟨_, _, cl', hl', al', rfl, ⟨h0, by rw [hlC]; exact hx⟩, _, _, c, hlv'', _, rfl, hjx, t1, ?_⟩
            simp only [beginA, hin, if_true, entsAt_absR hc, hlk, varAt_absR hc hen, hbg, Bool.false_eq_true, if_false]
            refine ⟨rfl, O, _, ?_, t2, ?_⟩
            · exact ((upd_framed ((hq.upd O id).trans (fun _ _ => rfl) s3) hw24 ek).trans (fun _ _ => rfl) t3).step hd
            · rw [absR_setEntR, absR_setEntR]
              unfold setV
              have hmm : ∀ {α : Type} (l : List α) (i : Nat) (f g : α → α), (l.modify i f).modify i g = l.modify i (g ∘ f) := by
                intro α l
                induction l with
                | nil => intro i f g; simp
                | cons y l ihl =>
                  intro i f g
                  cases i with
                  | zero => simp
                  | succ i => simp [ihl]
              rw [hmm]
              congr 1
              funext st
              simp only [Function.comp_apply, hmm, Prod.mk.injEq, true_and]
              rfl
      · simp only [decide_eq_true_eq] at hi
        cases hlk : look x sc.ents with
        | some j => unfold lookI at hi; rw [hlk] at hi; simp only at hi; omega
        | none =>
          simp only [beginA, hin, if_true, entsAt_absR hc, hlk]
          exact PostR.same h hd hq _
  · simp only [decide_eq_false_iff_not] at h0
    have hq : Quiet w w1 := hw1.quiet (fun k hk => by simp only [List.mem_singleton] at hk; subst hk; exact ek)
    simp only [beginA, noA (A := absR C) (e := e) (fun hh => h0 hh.1), Bool.false_eq_true, if_false]
    exact PostR.same h hd hq _

theorem set_R {O : Owner} {id : Nat} {w : World} {x0 : Addr} {C : List RSc} (h : RepR O id w x0 C) (hd : Dom O w) (hb : Few C) (hold : Old (absR C)) (e : Int) (x : ByteArray) (a b : Int) (s : ByteArray) :
    Calls Try.prog 16 [(.pointer (some x0)), (.int .i64 e), (.string x), (.agg #[(.int .i64 a), (.int .i64 b), (.string s)])].toArray w fun en w' => ∃ v, en = .returned v ∧
      PostR O id w x0 (setA (absR C) e x a b s).1 (.int .i64 (setA (absR C) e x a b s).2) v w' := by
  refine calls16 _ _ _ _ _ _ _ _ ?_
  unfold NF16
  intro k0 hk0 w1 hw1
  have ek := hk0.size
  have hnk := not_owned hd ek
  have hq : Quiet w w1 := hw1.quiet (fun k hk => by simp only [List.mem_singleton] at hk; subst hk; exact hk0.size)
  have h1 := h.quiet hd hq
  have hd1 := hq.dom hd
  refine CallsV.of (find_R h1 hb hold e x) ?_
  rintro v w2 ⟨rfl, hv⟩
  refine ⟨⟨Nat.le_refl _, fun _ _ => rfl⟩, ?_⟩
  rcases hv with ⟨hf, rfl⟩ | ⟨i, j, sc, en, hf, hc, he, rfl⟩
  · refine ⟨-1, -1, rfl, fun _ => ?_, fun hx => by simp at hx⟩
    simp only [setA, absR_length, hf]
    exact PostR.same h hd hq _
  · obtain ⟨pp, cp, pl, cl, hp, hl, hcell⟩ := h1.cells
    have hi : i < C.length := (List.getElem?_eq_some_iff.1 hc).1
    have hj : j < sc.ents.length := (List.getElem?_eq_some_iff.1 he).1
    obtain ⟨ap, al, sc', rfl, rfl, hc', hpar, hlv⟩ := hcell i (by omega) (by omega)
    rw [Int.toNat_natCast, hc, Option.some.injEq] at hc'
    subst hc'
    obtain ⟨p, c, hvv, hent⟩ := h1.ent hc
    rw [hvv] at hlv
    obtain ⟨g, rfl, hg, hcells⟩ := hent _ _ he
    have hgk : g ≠ k0 := fun e' => by
      have := (h1.rows _ sc hc).2 g hg
      rw [e', hnk] at this
      cases this
    have hix : (0 : Int) ≤ i ∧ (i : Int) < ((C.length : Nat) : Int) := ⟨by omega, by omega⟩
    have hjx : (0 : Int) ≤ j ∧ (j : Int) < ((sc.ents.length : Nat) : Int) := ⟨by omega, by omega⟩
    refine ⟨i, j, rfl, fun hx => by simp at hx; omega, fun _ => ⟨_, _, cl, hl, al, rfl, hix, _, _, c, hlv, _, rfl, hjx, en.2.begun, ?_, fun hbg => ?_, fun hbg => ⟨_, _, cl, hl, al, rfl, hix, _, _, c, hlv, _, rfl, hjx, en.2.fixed, ?_, fun hfx => ?_, fun hfx w23 hw23 => ?_⟩⟩⟩
    · rw [Int.toNat_natCast]
      exact hcells 2 _ rfl (by simp)
    · simp only [Bool.not_eq_true'] at hbg
      simp only [setA, absR_length, hf, varAt_absR hc he, hbg, Bool.false_eq_true, if_false]
      exact PostR.same h hd hq _
    · rw [Int.toNat_natCast]
      exact hcells 1 _ rfl (by simp)
    · simp only [Bool.not_eq_false'] at hbg
      simp only [setA, absR_length, hf, varAt_absR hc he, hbg, hfx, if_true]
      exact PostR.same h hd hq _
    · simp only [Bool.not_eq_false'] at hbg
      have h23 := rep_framed h1 hd1 hw23 hnk
      obtain ⟨pp', cp', pl', cl', hp', hl', hcell'⟩ := h23.cells
      obtain ⟨ap', al', sc'', rfl, rfl, hc'', hpar', hlv''⟩ := hcell' i (by omega) (by omega)
      rw [Int.toNat_natCast, hc, Option.some.injEq] at hc''
      subst hc''
      rw [hvv] at hlv''
      obtain ⟨t1, t2, t3⟩ := h23.setVar (vs := [(.int .i64 a), (.int .i64 b), (.string s)]) hc he (fun v => ⟨a, b, s, v.begun, v.fixed⟩) (off := 3) hg (by simp) rfl [k0] (by simpa using hgk)
      rw [Int.toNat_natCast]
      rw [Int.toNat_natCast] at hlv''
      refine ⟨_, _, cl', hl', al', rfl, hix, _, _, c, hlv'', _, rfl, hjx, t1, ?_⟩
      simp only [setA, absR_length, hf, varAt_absR hc he, hbg, hfx, if_true, Bool.false_eq_true, if_false]
      exact ⟨rfl, O, _, ((upd_framed (hq.upd O id) hw23 ek).trans (fun _ _ => rfl) t3).step hd, t2, absR_setEntR _ _ _ _⟩

end Go.Proofs.Ytmnnkkcihmdpmaa
