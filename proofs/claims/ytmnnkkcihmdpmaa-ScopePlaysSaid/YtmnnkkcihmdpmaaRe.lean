/- What the document's own scopes hold in memory, and what they do, call by call. -/
import Derived.Test.YtmnnkkcihmdpmaaScU
import Derived.Laws.StructEq
set_option linter.unusedSimpArgs false
set_option linter.unusedVariables false
namespace Go.Proofs.Ytmnnkkcihmdpmaa
open Go Go.Vx

structure RSc where
  parent : Int
  v : Value
  ents : List (ByteArray × Var)
def absR (C : List RSc) : Ab := C.map fun c => (c.parent, c.ents)
def prow (c : RSc) : List Value := [.int .i64 c.parent]
def lrow (c : RSc) : List Value := [c.v]
def erow (p : ByteArray × Var) : List Value := [.string p.1, .bool p.2.fixed, .bool p.2.begun, .int .i64 p.2.a, .int .i64 p.2.b, .string p.2.s]
theorem prow_len (c : RSc) : (prow c).length = 1 := rfl
theorem lrow_len (c : RSc) : (lrow c).length = 1 := rfl
theorem erow_len (p : ByteArray × Var) : (erow p).length = 6 := rfl

structure RepR (O : Owner) (id : Nat) (w : World) (x0 : Addr) (C : List RSc) : Prop where
  head : ∃ rb vp vl gp gl, x0 = ⟨rb, 0, none⟩ ∧ O rb = some (id, 0, 0, 0) ∧ w.heap[rb]? = some (.cells #[vp, vl] 48 (0, 0)) ∧
    w.ownsRow 0 3 1 vp C.length (C.flatMap prow) ∧ vp.ownBlock = some gp ∧ O gp = some (id, 1, 0, 0) ∧
    w.ownsRow 0 54 1 vl C.length (C.flatMap lrow) ∧ vl.ownBlock = some gl ∧ O gl = some (id, 1, 1, 0)
  rows : ∀ i c, C[i]? = some c → w.ownsRow 0 56 6 c.v c.ents.length (c.ents.flatMap erow) ∧ ∀ g, c.v.ownBlock = some g → O g = some (id, 2, i, 0)

theorem RepR.move {O O' : Owner} {id : Nat} {w w' : World} {x0 : Addr} {C : List RSc} (h : RepR O id w x0 C) (hk : ∀ k t, O k = some (id, t) → O' k = some (id, t) ∧ w'.heap[k]? = w.heap[k]?) : RepR O' id w' x0 C := by
  refine ⟨?_, fun i c hc => ?_⟩
  · obtain ⟨rb, vp, vl, gp, gl, h1, h2, h3, h4, h5, h6, h7, h8, h9⟩ := h.head
    refine ⟨rb, vp, vl, gp, gl, h1, (hk _ _ h2).1, by rw [(hk _ _ h2).2, h3], row_kept h4 (fun g' hg' => ?_), h5, (hk _ _ h6).1, row_kept h7 (fun g' hg' => ?_), h8, (hk _ _ h9).1⟩
    · rw [h5, Option.some.injEq] at hg'
      subst hg'
      exact (hk _ _ h6).2
    · rw [h8, Option.some.injEq] at hg'
      subst hg'
      exact (hk _ _ h9).2
  · obtain ⟨h1, h2⟩ := h.rows i c hc
    exact ⟨row_kept h1 (fun g hg => (hk _ _ (h2 g hg)).2), fun g hg => (hk _ _ (h2 g hg)).1⟩
theorem RepR.step {O O' : Owner} {id id' : Nat} {w w' : World} {x0 : Addr} {C : List RSc} (h : RepR O id w x0 C) (hd : Dom O w) (hs : Step O O' id' w w') (hne : id ≠ id') : RepR O' id w' x0 C :=
  h.move fun k t hk => hs.other hk hne hd
theorem RepR.quiet {O : Owner} {id : Nat} {w w' : World} {x0 : Addr} {C : List RSc} (h : RepR O id w x0 C) (hd : Dom O w) (hq : Quiet w w') : RepR O id w' x0 C :=
  h.move fun k t hk => ⟨hk, hq.same k (hd k (by rw [hk]; simp))⟩

def PostR (O : Owner) (id : Nat) (w : World) (x0 : Addr) (A' : Ab) (r : Value) : Value → World → Prop := fun v w' => v = r ∧ ∃ O' C', Step O O' id w w' ∧ RepR O' id w' x0 C' ∧ absR C' = A'
theorem PostR.same {O : Owner} {id : Nat} {w w' : World} {x0 : Addr} {C : List RSc} (h : RepR O id w x0 C) (hd : Dom O w) (hq : Quiet w w') (r : Value) : PostR O id w x0 (absR C) r r w' :=
  ⟨rfl, O, C, hq.step hd id, h.quiet hd hq, rfl⟩

theorem absR_length (C : List RSc) : (absR C).length = C.length := by simp [absR]
theorem absR_get (C : List RSc) (i : Nat) : (absR C)[i]? = (C[i]?).map fun c => (c.parent, c.ents) := by simp [absR]
theorem entsAt_absR {C : List RSc} {i : Nat} {sc : RSc} (h : C[i]? = some sc) : entsAt (absR C) i = sc.ents := by
  unfold entsAt
  rw [absR_get, h]
  rfl
theorem parAt_absR {C : List RSc} {i : Nat} {sc : RSc} (h : C[i]? = some sc) : parAt (absR C) i = sc.parent := by
  unfold parAt
  rw [absR_get, h]
  rfl
theorem varAt_absR {C : List RSc} {i j : Nat} {sc : RSc} {p : ByteArray × Var} (h : C[i]? = some sc) (he : sc.ents[j]? = some p) : varAt (absR C) i j = p.2 := by
  unfold varAt
  rw [entsAt_absR h, he]

theorem strB_eql (a b : ByteArray) : strB .eql a b = true ↔ a = b := by
  show (a.toList == b.toList) = true ↔ _
  rw [← beq_toListBytes]
  exact Go.MapKept.bytes_beq a b

/-- What is read of the rows. -/
theorem RepR.cells {O : Owner} {id : Nat} {w : World} {x0 : Addr} {C : List RSc} (h : RepR O id w x0 C) : ∃ pp cp pl cl, CellsAt w x0 0 [.slice pp C.length cp] ∧ CellsAt w x0 1 [.slice pl C.length cl] ∧
    ∀ e : Int, 0 ≤ e → e < (C.length : Int) → ∃ ap al sc, pp = some ap ∧ pl = some al ∧ C[e.toNat]? = some sc ∧ CellsAt w (Addr.add ap (0 + Int.toNat e * 1)) 0 [.int .i64 sc.parent] ∧ CellsAt w (Addr.add al (0 + Int.toNat e * 1)) 0 [sc.v] := by
  obtain ⟨rb, vp, vl, gp, gl, rfl, h2, h3, h4, h5, h6, h7, h8, h9⟩ := h.head
  obtain ⟨pp, cp, rfl⟩ := row_slice h4
  obtain ⟨pl, cl, rfl⟩ := row_slice h7
  refine ⟨pp, cp, pl, cl, cellsAt_blk h3 rfl, cellsAt_blk h3 rfl, fun e he1 he2 => ?_⟩
  have hlt : e.toNat < C.length := by omega
  obtain ⟨g1, c1, cur1, e1, e2, _⟩ := row_blk h4 (by omega)
  obtain ⟨g2, c2, cur2, f1, f2, _⟩ := row_blk h7 (by omega)
  simp only [Value.slice.injEq] at e1 f1
  obtain ⟨rfl, _, rfl⟩ := e1
  obtain ⟨rfl, _, rfl⟩ := f1
  have hc : C[e.toNat]? = some C[e.toNat] := by simp [hlt]
  refine ⟨_, _, C[e.toNat], rfl, rfl, hc, ?_, ?_⟩
  · rw [add_mid]
    refine row_cells h4 e2 ?_
    rw [show 0 + (0 + e.toNat * 1) + 0 = e.toNat * 1 + 0 by omega, flat_get prow_len hc (by simp)]
    rfl
  · rw [add_mid]
    refine row_cells h7 f2 ?_
    rw [show 0 + (0 + e.toNat * 1) + 0 = e.toNat * 1 + 0 by omega, flat_get lrow_len hc (by simp)]
    rfl

/-- What is read of a variable. -/
theorem RepR.ent {O : Owner} {id : Nat} {w : World} {x0 : Addr} {C : List RSc} (h : RepR O id w x0 C) {i : Nat} {sc : RSc} (hc : C[i]? = some sc) : ∃ p c, sc.v = .slice p sc.ents.length c ∧
    ∀ (j : Nat) en, sc.ents[j]? = some en → ∃ g, p = some ⟨g, 0, none⟩ ∧ sc.v.ownBlock = some g ∧ ∀ off vs, ((erow en).drop off).take vs.length = vs → off + vs.length ≤ 6 → CellsAt w (Addr.add ⟨g, 0, none⟩ (0 + j * 6)) off vs := by
  obtain ⟨h1, h2⟩ := h.rows i sc hc
  obtain ⟨p, c, hv⟩ := row_slice h1
  refine ⟨p, c, hv, fun j en hen => ?_⟩
  have hlt := (List.getElem?_eq_some_iff.1 hen).1
  obtain ⟨g, c', cur, e1, e2, _⟩ := row_blk h1 (by omega)
  rw [hv] at e1
  simp only [Value.slice.injEq] at e1
  obtain ⟨rfl, _, _⟩ := e1
  refine ⟨g, rfl, e2, fun off vs hvs ho => ?_⟩
  rw [add_mid]
  refine row_cells h1 e2 ?_
  rw [show 0 + (0 + j * 6) + off = j * 6 + off by omega, flat_get erow_len hen ho]
  exact hvs

theorem look_none_iff (x : ByteArray) : ∀ l : List (ByteArray × Var), look x l = none ↔ ∀ p ∈ l, p.1 ≠ x
  | [] => by simp [look]
  | p :: l => by
    simp only [look]
    by_cases h : p.1 = x
    · simp [h]
    · simp only [h, if_false, Option.map_eq_none_iff, look_none_iff x l, List.mem_cons, forall_eq_or_imp, ne_eq, not_false_eq_true, true_and]
theorem look_at (x : ByteArray) : ∀ (l : List (ByteArray × Var)) (i : Nat) p, l[i]? = some p → p.1 = x → (∀ j q, j < i → l[j]? = some q → q.1 ≠ x) → look x l = some i
  | [], i, p, h, _, _ => by simp at h
  | q :: l, 0, p, h, hp, _ => by
    simp only [List.getElem?_cons_zero, Option.some.injEq] at h
    subst h
    simp [look, hp]
  | q :: l, i + 1, p, h, hp, hn => by
    have hq : q.1 ≠ x := hn 0 q (by omega) rfl
    simp only [look, hq, if_false]
    rw [look_at x l i p (by simpa using h) hp (fun j r hj hr => hn (j + 1) r (by omega) (by simpa using hr))]
    rfl
theorem look_some {x : ByteArray} : ∀ {l : List (ByteArray × Var)} {i : Nat}, look x l = some i → ∃ p, l[i]? = some p ∧ p.1 = x
  | [], i, h => by simp [look] at h
  | q :: l, i, h => by
    simp only [look] at h
    split at h
    · rename_i hq
      simp only [Option.some.injEq] at h
      subst h
      exact ⟨q, rfl, hq⟩
    · cases hl : look x l with
      | none => rw [hl] at h; cases h
      | some j =>
        rw [hl] at h
        simp only [Option.map_some, Option.some.injEq] at h
        subst h
        obtain ⟨p, h1, h2⟩ := look_some hl
        exact ⟨p, by simpa using h1, h2⟩

def lookI (x : ByteArray) (l : List (ByteArray × Var)) : Int := match look x l with | some j => (j : Int) | none => -1

theorem at_R {O : Owner} {id : Nat} {w : World} {x0 : Addr} {C : List RSc} (h : RepR O id w x0 C) (hb : ∀ c ∈ C, c.ents.length ≤ 1000000) {e : Int} (he0 : 0 ≤ e) (he1 : e < (C.length : Int)) {sc : RSc} (hc : C[e.toNat]? = some sc) (x : ByteArray) :
    Calls Try.prog 19 [(.pointer (some x0)), (.int .i64 e), (.string x)].toArray w fun en w' => ∃ v, en = .returned v ∧ w' = w ∧ v = .int .i64 (lookI x sc.ents) := by
  refine calls19 _ _ _ _ _ ?_
  unfold NF19
  obtain ⟨pp, cp, pl, cl, hp, hl, hcell⟩ := h.cells
  obtain ⟨ap, al, sc', rfl, rfl, hc', hpar, hlv⟩ := hcell e he0 he1
  rw [hc, Option.some.injEq] at hc'
  subst hc'
  obtain ⟨p, c, hv, hent⟩ := h.ent hc
  rw [hv] at hlv
  have hbl := hb sc (List.mem_of_getElem? hc)
  refine ⟨fun i w' => w' = w ∧ 0 ≤ i ∧ i ≤ (sc.ents.length : Int) ∧ ∀ (j : Nat) q, (j : Int) < i → sc.ents[j]? = some q → q.1 ≠ x, fun i _ => (sc.ents.length - i).toNat, ⟨rfl, Int.le_refl _, by omega, fun j q hj => by omega⟩, ?_⟩
  rintro i w' _ ⟨rfl, hi0, hi1, hno⟩
  refine ⟨_, _, cl, hl, al, rfl, ⟨he0, he1⟩, p, _, c, hlv, fun hx => ?_, fun hx => ?_⟩
  · simp only [decide_eq_true_eq] at hx
    have hlt : i.toNat < sc.ents.length := by omega
    have hen : sc.ents[i.toNat]? = some sc.ents[i.toNat] := by simp [hlt]
    obtain ⟨g, rfl, hg, hcells⟩ := hent _ _ hen
    refine ⟨_, _, cl, hl, al, rfl, ⟨he0, he1⟩, _, _, c, hlv, _, rfl, ⟨hi0, hx⟩, sc.ents[i.toNat].1, hcells 0 _ rfl (by simp), fun hs => ?_, fun hs => ?_⟩
    · have hs := (strB_eql _ _).1 hs
      refine ⟨rfl, ?_⟩
      unfold lookI
      rw [look_at x _ _ _ hen hs (fun j q hj hq => hno j q (by omega) hq)]
      simp only
      congr 1
      omega
    · have hs : sc.ents[i.toNat].1 ≠ x := fun e => by rw [(strB_eql _ _).2 e] at hs; cases hs
      rw [IntWalk.i64_in _ (by omega)]
      refine ⟨⟨rfl, by omega, by omega, fun j q hj hq => ?_⟩, ?_⟩
      · by_cases hji : (j : Int) < i
        · exact hno j q hji hq
        · have : j = i.toNat := by omega
          subst this
          rw [hen, Option.some.injEq] at hq
          rw [← hq]
          exact hs
      · show (sc.ents.length - (i + 1) : Int).toNat < (sc.ents.length - i : Int).toNat
        omega
  · simp only [decide_eq_false_iff_not] at hx
    refine ⟨rfl, ?_⟩
    unfold lookI
    have : look x sc.ents = none := by
      rw [look_none_iff]
      intro q hq
      obtain ⟨j, hj⟩ := List.getElem?_of_mem hq
      exact hno j q (by have := (List.getElem?_eq_some_iff.1 hj).1; omega) hj
    rw [this]

end Go.Proofs.Ytmnnkkcihmdpmaa
