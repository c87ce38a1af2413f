/- What the document's own scopes do, call by call: those that look and those that turn a variable. -/
import Derived.Test.YtmnnkkcihmdpmaaRe
set_option linter.unusedSimpArgs false
set_option linter.unusedVariables false
namespace Go.Proofs.Ytmnnkkcihmdpmaa
open Go Go.Vx

def Few (C : List RSc) : Prop := ∀ c ∈ C, c.ents.length ≤ 1000000

def FindR (C : List RSc) (x : ByteArray) (e : Int) (w : World) : Value → World → Prop := fun v w' =>
  w' = w ∧ ((findA (absR C) x (C.length + 1) e = none ∧ v = .tuple #[.int .i64 (-1), .int .i64 (-1)]) ∨ ∃ (i j : Nat) (sc : RSc) (en : ByteArray × Var), findA (absR C) x (C.length + 1) e = some (i, j) ∧ C[i]? = some sc ∧ sc.ents[j]? = some en ∧ v = .tuple #[.int .i64 (i : Int), .int .i64 (j : Int)])

theorem find_R {O : Owner} {id : Nat} {w : World} {x0 : Addr} {C : List RSc} (h : RepR O id w x0 C) (hb : Few C) (hold : Old (absR C)) (e : Int) (x : ByteArray) :
    Calls Try.prog 22 [(.pointer (some x0)), (.int .i64 e), (.string x)].toArray w fun en w' => ∃ v, en = .returned v ∧ FindR C x e w v w' := by
  refine calls22 _ _ _ _ _ ?_
  unfold NF22
  obtain ⟨pp, cp, pl, cl, hp, hl, hcell⟩ := h.cells
  refine ⟨fun i w' => w' = w ∧ ∃ n : Nat, (i < (n : Int) ∨ inA C.length i = false) ∧ findA (absR C) x n i = findA (absR C) x (C.length + 1) e, fun i _ => (i + 1).toNat, ⟨rfl, C.length + 1, ?_, rfl⟩, ?_⟩
  · by_cases hi : inA C.length e = true
    · have := (inA_iff.1 hi).2
      left; omega
    · right; simpa using hi
  · rintro i w' _ ⟨rfl, n, hn, hf⟩
    refine ⟨fun h0 => ⟨pl, _, cl, hl, fun h1 => ?_, fun h1 => ?_⟩, fun h0 => ?_⟩
    · simp only [decide_eq_true_eq] at h0 h1
      have hin : inA C.length i = true := inA_iff.2 ⟨h0, h1⟩
      obtain ⟨ap, al, sc, rfl, rfl, hc, hpar, hlv⟩ := hcell i h0 h1
      rw [hin] at hn
      have hn1 : i < (n : Int) := by
        rcases hn with hn | hn
        · exact hn
        · cases hn
      obtain ⟨m, rfl⟩ : ∃ m, n = m + 1 := ⟨n - 1, by omega⟩
      have hstep : findA (absR C) x (m + 1) i = match look x sc.ents with
          | some j => some (i.toNat, j)
          | none => findA (absR C) x m sc.parent := by
        simp only [findA, absR_length, hin, if_true, entsAt_absR hc, parAt_absR hc]
        cases look x sc.ents <;> rfl
      refine CallsV.of (at_R h hb h0 h1 hc x) ?_
      rintro v w6 ⟨rfl, rfl⟩
      refine ⟨⟨Nat.le_refl _, fun _ _ => rfl⟩, _, rfl, fun hx => ?_, fun hx => ?_⟩
      · simp only [decide_eq_true_eq] at hx
        cases hlk : look x sc.ents with
        | none => unfold lookI at hx; rw [hlk] at hx; simp at hx
        | some j =>
          rw [hlk] at hstep
          obtain ⟨en, hen, _⟩ := look_some hlk
          refine ⟨rfl, .inr ⟨i.toNat, j, sc, en, by rw [← hf, hstep], hc, hen, ?_⟩⟩
          unfold lookI
          rw [hlk]
          simp only
          congr 4
          omega
      · simp only [decide_eq_false_iff_not] at hx
        cases hlk : look x sc.ents with
        | some j => unfold lookI at hx; rw [hlk] at hx; simp only at hx; omega
        | none =>
          rw [hlk] at hstep
          have hpo : sc.parent < i := by
            have := hold i.toNat (sc.parent, sc.ents) (by rw [absR_get, hc]; rfl)
            simp only at this
            omega
          refine ⟨_, _, cp, hp, ap, rfl, ⟨h0, h1⟩, sc.parent, hpar, ⟨rfl, m, ?_, ?_⟩, ?_⟩
          · left; omega
          · rw [← hf, hstep]
          · show (sc.parent + 1).toNat < (i + 1).toNat
            omega
    · simp only [decide_eq_false_iff_not] at h1
      have : inA C.length i = false := by
        cases hb : inA C.length i with
        | false => rfl
        | true => exact absurd (inA_iff.1 hb).2 h1
      exact ⟨rfl, .inl ⟨by rw [← hf, find_none (by rw [absR_length]; exact this)], rfl⟩⟩
    · simp only [decide_eq_false_iff_not] at h0
      have : inA C.length i = false := by
        cases hb : inA C.length i with
        | false => rfl
        | true => exact absurd (inA_iff.1 hb).1 h0
      exact ⟨rfl, .inl ⟨by rw [← hf, find_none (by rw [absR_length]; exact this)], rfl⟩⟩

def setEntR (C : List RSc) (i j : Nat) (f : Var → Var) : List RSc := C.modify i fun c => { c with ents := c.ents.modify j fun p => (p.1, f p.2) }
theorem absR_setEntR (C : List RSc) (i j : Nat) (f : Var → Var) : absR (setEntR C i j f) = setV (absR C) i j f := by
  unfold absR setEntR setV
  exact map_modify' (g := fun c : RSc => (c.parent, c.ents)) (f := fun c => { c with ents := c.ents.modify j fun p => (p.1, f p.2) }) (h := fun s => (s.1, s.2.modify j fun p => (p.1, f p.2))) (fun c => rfl) _ _

/-- Cells of one variable written over. -/
theorem RepR.setVar {O : Owner} {id : Nat} {w : World} {x0 : Addr} {C : List RSc} (h : RepR O id w x0 C) {i j : Nat} {sc : RSc} {en : ByteArray × Var} (hc : C[i]? = some sc) (he : sc.ents[j]? = some en) (f : Var → Var) {off : Nat} {vs : List Value} {g : Nat} (hg : sc.v.ownBlock = some g)
    (ho : off + vs.length ≤ 6) (hf : erow (en.1, f en.2) = (erow en).take off ++ vs ++ (erow en).drop (off + vs.length)) (L : List Nat) (hL : g ∉ L) :
    CanStore L w (Addr.add ⟨g, 0, none⟩ (0 + j * 6)) off vs.length ∧ RepR O id (storeAt w (Addr.add ⟨g, 0, none⟩ (0 + j * 6)) off vs) x0 (setEntR C i j f) ∧ Upd O id w (storeAt w (Addr.add ⟨g, 0, none⟩ (0 + j * 6)) off vs) := by
  obtain ⟨r1, r2⟩ := h.rows i sc hc
  have hown := r2 g hg
  have hlt := (List.getElem?_eq_some_iff.1 he).1
  rw [add_mid]
  have hlen : 0 + (0 + j * 6) + off + vs.length ≤ (sc.ents.flatMap erow).length := by
    rw [flat_len erow_len]
    have : (j + 1) * 6 ≤ sc.ents.length * 6 := Nat.mul_le_mul_right _ hlt
    omega
  obtain ⟨s1, s2⟩ := row_store r1 hg (o := 0 + (0 + j * 6)) (off := off) (vs := vs) hlen L hL
  refine ⟨s1, ?_, storeAt_upd hown⟩
  have hsame : ∀ k, k ≠ g → (storeAt w ⟨g, 0 + (0 + j * 6), none⟩ off vs).heap[k]? = w.heap[k]? := fun k hk => storeAt_far hk
  have hne : ∀ k t, O k = some (id, t) → (t.1 ≠ 2 ∨ t.2.1 ≠ i) → k ≠ g := by
    intro k t hk ht e
    rw [e, hown] at hk
    simp only [Option.some.injEq, Prod.mk.injEq] at hk
    rw [← hk.2] at ht
    simp at ht
  have hflat : ∀ (F : RSc → List Value), (∀ c ents, F { c with ents := ents } = F c) → (setEntR C i j f).flatMap F = C.flatMap F := by
    intro F hF
    have : ∀ (C : List RSc) (i : Nat), (C.modify i fun c => { c with ents := c.ents.modify j fun p => (p.1, f p.2) }).flatMap F = C.flatMap F := by
      intro C
      induction C with
      | nil => intro i; simp
      | cons c C ih =>
        intro i
        cases i with
        | zero => rw [List.modify_zero_cons, List.flatMap_cons, List.flatMap_cons, hF]
        | succ i => rw [List.modify_succ_cons, List.flatMap_cons, List.flatMap_cons, ih]
    exact this C i
  have hl : (setEntR C i j f).length = C.length := by simp [setEntR]
  refine ⟨?_, fun i' c' hc' => ?_⟩
  · obtain ⟨rb, vp, vl, gp, gl, k1, k2, k3, k4, k5, k6, k7, k8, k9⟩ := h.head
    refine ⟨rb, vp, vl, gp, gl, k1, k2, by rw [hsame _ (hne _ _ k2 (.inl (by simp))), k3], ?_, k5, k6, ?_, k8, k9⟩
    · rw [hl, hflat prow (fun c e => rfl)]
      refine row_kept k4 (fun g' hg' => ?_)
      rw [k5, Option.some.injEq] at hg'
      subst hg'
      exact hsame _ (hne _ _ k6 (.inl (by simp)))
    · rw [hl, hflat lrow (fun c e => rfl)]
      refine row_kept k7 (fun g' hg' => ?_)
      rw [k8, Option.some.injEq] at hg'
      subst hg'
      exact hsame _ (hne _ _ k9 (.inl (by simp)))
  · unfold setEntR at hc'
    rw [List.getElem?_modify] at hc'
    by_cases hii : i = i'
    · subst hii
      rw [hc] at hc'
      simp only [if_true, Option.map_eq_map, Option.map_some, Option.some.injEq] at hc'
      subst hc'
      refine ⟨?_, fun g' hg' => r2 g' hg'⟩
      simp only [List.length_modify]
      rw [← flat_set erow_len (fun p => (p.1, f p.2)) ho he hf]
      have e1 : 0 + (0 + j * 6) + off = j * 6 + off := by omega
      rw [e1] at s2
      exact s2
    · have hc2 : C[i']? = some c' := by simpa [hii] using hc'
      obtain ⟨q1, q2⟩ := h.rows i' c' hc2
      exact ⟨row_kept q1 (fun g' hg' => hsame _ (hne _ _ (q2 g' hg') (.inr (fun e => hii e.symm)))), q2⟩

theorem get_R {O : Owner} {id : Nat} {w : World} {x0 : Addr} {C : List RSc} (h : RepR O id w x0 C) (hd : Dom O w) (hb : Few C) (hold : Old (absR C)) (e : Int) (x : ByteArray) :
    Calls Try.prog 14 [(.pointer (some x0)), (.int .i64 e), (.string x)].toArray w fun en w' => ∃ v, en = .returned v ∧
      PostR O id w x0 (absR C) (.tuple #[.agg #[.int .i64 (getA (absR C) e x).1.1, .int .i64 (getA (absR C) e x).1.2.1, .string (getA (absR C) e x).1.2.2], .int .i64 (getA (absR C) e x).2]) v w' := by
  refine calls14 _ _ _ _ _ ?_
  unfold NF14
  intro k0 hk0 w1 hw1
  have hq : Quiet w w1 := hw1.quiet (fun k hk => by simp only [List.mem_singleton] at hk; subst hk; exact hk0.size)
  have h1 := h.quiet hd hq
  have hd1 := hq.dom hd
  refine CallsV.of (find_R h1 hb hold e x) ?_
  rintro v w2 ⟨rfl, hv⟩
  refine ⟨⟨Nat.le_refl _, fun _ _ => rfl⟩, ?_⟩
  have fin : ∀ w4, Framed [k0] w2 w4 → Quiet w w4 := fun w4 hw4 => ⟨hw4.os.trans hq.os, hw4.tape.trans hq.tape, hw4.output.trans hq.output, Nat.le_trans hq.size hw4.size, fun k hk => (hw4.same k (Nat.lt_of_lt_of_le hk hq.size) (by
    simp only [List.mem_singleton]
    have := hk0.size
    omega)).trans (hq.same k hk)⟩
  rcases hv with ⟨hf, rfl⟩ | ⟨i, j, sc, en, hf, hc, he, rfl⟩
  · refine ⟨-1, -1, rfl, fun _ w4 hw4 => ?_, fun hx => by simp at hx⟩
    simp only [getA, absR_length, hf]
    exact PostR.same h hd (fin w4 hw4) _
  · obtain ⟨pp, cp, pl, cl, hp, hl, hcell⟩ := h1.cells
    have hi : i < C.length := (List.getElem?_eq_some_iff.1 hc).1
    have hj : j < sc.ents.length := (List.getElem?_eq_some_iff.1 he).1
    obtain ⟨ap, al, sc', rfl, rfl, hc', hpar, hlv⟩ := hcell i (by omega) (by omega)
    rw [Int.toNat_natCast, hc, Option.some.injEq] at hc'
    subst hc'
    obtain ⟨p, c, hvv, hent⟩ := h1.ent hc
    rw [hvv] at hlv
    obtain ⟨g, rfl, hg, hcells⟩ := hent _ _ he
    have hix : (0 : Int) ≤ i ∧ (i : Int) < ((C.length : Nat) : Int) := ⟨by omega, by omega⟩
    have hjx : (0 : Int) ≤ j ∧ (j : Int) < ((sc.ents.length : Nat) : Int) := ⟨by omega, by omega⟩
    refine ⟨i, j, rfl, fun hx => by simp at hx; omega, fun _ => ⟨_, _, cl, hl, al, rfl, hix, _, _, c, hlv, _, rfl, hjx, en.2.begun, ?_, fun hbg w4 hw4 => ?_, fun hbg => ⟨_, _, cl, hl, al, rfl, hix, _, _, c, hlv, _, rfl, hjx, en.2.a, en.2.b, en.2.s, ?_, fun w4 hw4 => ?_⟩⟩⟩
    · rw [Int.toNat_natCast]
      exact hcells 2 _ rfl (by simp)
    · simp only [Bool.not_eq_true'] at hbg
      simp only [getA, absR_length, hf, varAt_absR hc he, hbg, Bool.false_eq_true, if_false]
      exact PostR.same h hd (fin w4 hw4) _
    · rw [Int.toNat_natCast]
      exact hcells 3 _ rfl (by simp)
    · simp only [Bool.not_eq_false'] at hbg
      simp only [getA, absR_length, hf, varAt_absR hc he, hbg, if_true]
      exact PostR.same h hd (fin w4 hw4) _

end Go.Proofs.Ytmnnkkcihmdpmaa
