/- The scopes of the document as plain data, and what the program's own scopes hold of them in memory. -/
import Derived.Test.YtmnnkkcihmdpmaaVxQ
import Derived.Test.YtmnnkkcihmdpmaaNf
set_option linter.unusedSimpArgs false
set_option linter.unusedVariables false
namespace Go.Proofs.Ytmnnkkcihmdpmaa
open Go Go.Vx

structure Var where
  a : Int
  b : Int
  s : ByteArray
  begun : Bool
  fixed : Bool

/-- The scopes: each one's parent, and its names with what they stand for. -/
abbrev Ab := List (Int × List (ByteArray × Var))

def look (x : ByteArray) : List (ByteArray × Var) → Option Nat
  | [] => none
  | p :: r => if p.1 = x then some 0 else (look x r).map (· + 1)

def inA (n : Nat) (e : Int) : Bool := decide (0 ≤ e) && decide (e < (n : Int))
def entsAt (A : Ab) (i : Nat) : List (ByteArray × Var) := match A[i]? with | some s => s.2 | none => []
def parAt (A : Ab) (i : Nat) : Int := match A[i]? with | some s => s.1 | none => -1
def addE (A : Ab) (i : Nat) (p : ByteArray × Var) : Ab := A.modify i fun s => (s.1, s.2 ++ [p])
def setV (A : Ab) (i j : Nat) (f : Var → Var) : Ab := A.modify i fun s => (s.1, s.2.modify j fun p => (p.1, f p.2))
def varAt (A : Ab) (i j : Nat) : Var := match (entsAt A i)[j]? with | some p => p.2 | none => ⟨0, 0, ⟨#[]⟩, false, false⟩

def makeA (A : Ab) (e : Int) : Ab × Int := if inA A.length e then (A ++ [(e, [])], (A.length : Int)) else (A, -1)
def letA (A : Ab) (e : Int) (x : ByteArray) (fx : Bool) : Ab × Bool :=
  if inA A.length e then
    match look x (entsAt A e.toNat) with
    | none => (addE A e.toNat (x, ⟨0, 0, ⟨#[]⟩, false, fx⟩), true)
    | some _ => (A, false)
  else (A, false)
def beginA (A : Ab) (e : Int) (x : ByteArray) (a b : Int) (s : ByteArray) : Ab × Bool :=
  if inA A.length e then
    match look x (entsAt A e.toNat) with
    | none => (A, false)
    | some j => if (varAt A e.toNat j).begun then (A, false) else (setV A e.toNat j fun v => ⟨a, b, s, true, v.fixed⟩, true)
  else (A, false)
def findA (A : Ab) (x : ByteArray) : Nat → Int → Option (Nat × Nat)
  | 0, _ => none
  | n + 1, e =>
    if inA A.length e then
      match look x (entsAt A e.toNat) with
      | some j => some (e.toNat, j)
      | none => findA A x n (parAt A e.toNat)
    else none
def getA (A : Ab) (e : Int) (x : ByteArray) : (Int × Int × ByteArray) × Int :=
  match findA A x (A.length + 1) e with
  | none => ((0, 0, ⟨#[]⟩), 1)
  | some (i, j) => if (varAt A i j).begun then (((varAt A i j).a, (varAt A i j).b, (varAt A i j).s), 0) else ((0, 0, ⟨#[]⟩), 2)
def setA (A : Ab) (e : Int) (x : ByteArray) (a b : Int) (s : ByteArray) : Ab × Int :=
  match findA A x (A.length + 1) e with
  | none => (A, 1)
  | some (i, j) => if (varAt A i j).begun then (if (varAt A i j).fixed then (A, 3) else (setV A i j fun v => ⟨a, b, s, v.begun, v.fixed⟩, 0)) else (A, 2)

/-- Parents come before. -/
def Old (A : Ab) : Prop := ∀ (i : Nat) s, A[i]? = some s → s.1 < (i : Int)

/-! ### The program's scopes in memory -/
structure SEnt where
  name : ByteArray
  blk : Nat
  v : Var
structure SSc where
  parent : Int
  map : Nat
  ents : List SEnt
def absE (e : SEnt) : ByteArray × Var := (e.name, e.v)
def absS (C : List SSc) : Ab := C.map fun c => (c.parent, c.ents.map absE)
def srow (c : SSc) : List Value := [.int .i64 c.parent, .map (some c.map)]
theorem srow_len (c : SSc) : (srow c).length = 2 := rfl
def scells (v : Var) : Array Value := #[.int .i64 v.a, .int .i64 v.b, .string v.s, .bool v.begun, .bool v.fixed]
def mrow (c : SSc) : List (ByteArray × Value) := c.ents.map fun e => (e.name, .pointer (some ⟨e.blk, 0, none⟩))

structure RepS (O : Owner) (id : Nat) (w : World) (x0 : Addr) (C : List SSc) : Prop where
  head : ∃ sb v g, x0 = ⟨sb, 0, none⟩ ∧ O sb = some (id, 0, 0, 0) ∧ w.heap[sb]? = some (.cells #[v] 44 (0, 0)) ∧ w.ownsRow 0 41 2 v C.length (C.flatMap srow) ∧ v.ownBlock = some g ∧ O g = some (id, 1, 0, 0)
  maps : ∀ i c, C[i]? = some c → O c.map = some (id, 2, i, 0) ∧ MapAt w c.map (mrow c)
  vars : ∀ i c j e, C[i]? = some c → c.ents[j]? = some e → O e.blk = some (id, 3, i, j) ∧ w.heap[e.blk]? = some (.cells (scells e.v) 52 (0, 0))

theorem RepS.move {O O' : Owner} {id : Nat} {w w' : World} {x0 : Addr} {C : List SSc} (h : RepS O id w x0 C) (hk : ∀ k t, O k = some (id, t) → O' k = some (id, t) ∧ w'.heap[k]? = w.heap[k]?) : RepS O' id w' x0 C := by
  refine ⟨?_, fun i c hc => ?_, fun i c j e hc he => ?_⟩
  · obtain ⟨sb, v, g, h1, h2, h3, h4, h5, h6⟩ := h.head
    refine ⟨sb, v, g, h1, (hk _ _ h2).1, by rw [(hk _ _ h2).2, h3], row_kept h4 (fun g' hg' => ?_), h5, (hk _ _ h6).1⟩
    rw [h5, Option.some.injEq] at hg'
    subst hg'
    exact (hk _ _ h6).2
  · obtain ⟨h1, h2⟩ := h.maps i c hc
    exact ⟨(hk _ _ h1).1, mapAt_kept h2 (hk _ _ h1).2⟩
  · obtain ⟨h1, h2⟩ := h.vars i c j e hc he
    exact ⟨(hk _ _ h1).1, by rw [(hk _ _ h1).2, h2]⟩
theorem RepS.step {O O' : Owner} {id id' : Nat} {w w' : World} {x0 : Addr} {C : List SSc} (h : RepS O id w x0 C) (hd : Dom O w) (hs : Step O O' id' w w') (hne : id ≠ id') : RepS O' id w' x0 C :=
  h.move fun k t hk => hs.other hk hne hd
theorem RepS.quiet {O : Owner} {id : Nat} {w w' : World} {x0 : Addr} {C : List SSc} (h : RepS O id w x0 C) (hd : Dom O w) (hq : Quiet w w') : RepS O id w' x0 C :=
  h.move fun k t hk => ⟨hk, hq.same k (hd k (by rw [hk]; simp))⟩

theorem absS_length (C : List SSc) : (absS C).length = C.length := by simp [absS]
theorem absS_get (C : List SSc) (i : Nat) : (absS C)[i]? = (C[i]?).map fun c => (c.parent, c.ents.map absE) := by simp [absS]

theorem look_getS (x : ByteArray) : ∀ (l : List SEnt), (look x (l.map absE) = none ∧ getS x (l.map fun e => (e.name, (.pointer (some ⟨e.blk, 0, none⟩) : Value))) = none) ∨
    ∃ j e, look x (l.map absE) = some j ∧ l[j]? = some e ∧ getS x (l.map fun e => (e.name, (.pointer (some ⟨e.blk, 0, none⟩) : Value))) = some (.pointer (some ⟨e.blk, 0, none⟩))
  | [] => .inl ⟨rfl, rfl⟩
  | e :: l => by
    simp only [List.map_cons, look, getS, absE]
    by_cases h : e.name = x
    · simp only [h, if_true]
      exact .inr ⟨0, e, rfl, rfl, rfl⟩
    · simp only [h, if_false]
      rcases look_getS x l with ⟨h1, h2⟩ | ⟨j, e', h1, h2, h3⟩
      · left
        refine ⟨?_, h2⟩
        rw [h1]; rfl
      · right
        refine ⟨j + 1, e', ?_, h2, h3⟩
        rw [h1]; rfl

theorem map39 : mapOk Try.prog 39 = true := by kernel_rfl
theorem app42 : appOk Try.prog 42 41 2 = true := by kernel_rfl

theorem inA_iff {n : Nat} {e : Int} : inA n e = true ↔ 0 ≤ e ∧ e < (n : Int) := by simp [inA]

/-- What is read of a scope. -/
theorem RepS.cells {O : Owner} {id : Nat} {w : World} {x0 : Addr} {C : List SSc} (h : RepS O id w x0 C) : ∃ p c, CellsAt w x0 0 [.slice p C.length c] ∧
    ∀ e : Int, 0 ≤ e → e < (C.length : Int) → ∃ a sc, p = some a ∧ C[e.toNat]? = some sc ∧ CellsAt w (Addr.add a (0 + Int.toNat e * 2)) 0 [.int .i64 sc.parent] ∧ CellsAt w (Addr.add a (0 + Int.toNat e * 2)) 1 [.map (some sc.map)] := by
  obtain ⟨sb, v, g, rfl, h2, h3, h4, h5, h6⟩ := h.head
  obtain ⟨p, c, rfl⟩ := row_slice h4
  refine ⟨p, c, cellsAt_blk h3 rfl, fun e he1 he2 => ?_⟩
  have hlt : e.toNat < C.length := by omega
  obtain ⟨g', c', cur, e1, e2, _⟩ := row_blk h4 (by omega)
  simp only [Value.slice.injEq] at e1
  obtain ⟨rfl, _, rfl⟩ := e1
  have hc : C[e.toNat]? = some C[e.toNat] := by simp [hlt]
  refine ⟨_, C[e.toNat], rfl, hc, ?_, ?_⟩
  · rw [add_mid]
    refine row_cells h4 e2 ?_
    rw [show 0 + (0 + e.toNat * 2) + 0 = e.toNat * 2 + 0 by omega, flat_get srow_len hc (by simp)]
    rfl
  · rw [add_mid]
    refine row_cells h4 e2 ?_
    rw [show 0 + (0 + e.toNat * 2) + 1 = e.toNat * 2 + 1 by omega, flat_get srow_len hc (by simp)]
    rfl

theorem RepS.lookup {O : Owner} {id : Nat} {w : World} {x0 : Addr} {C : List SSc} (h : RepS O id w x0 C) {i : Nat} {sc : SSc} (hc : C[i]? = some sc) (x : ByteArray) :
    (look x (sc.ents.map absE) = none ∧ getS x (mrow sc) = none ∧ Sem.run Try.prog (GOp.sem (.lookup 39 (.map (some sc.map)) (.string x) false)) w = .ok (.pointer none) w) ∨
    ∃ j e, look x (sc.ents.map absE) = some j ∧ sc.ents[j]? = some e ∧ Sem.run Try.prog (GOp.sem (.lookup 39 (.map (some sc.map)) (.string x) false)) w = .ok (.pointer (some ⟨e.blk, 0, none⟩)) w := by
  obtain ⟨kt, et, h1, h2, h3⟩ := mapOk_ok map39
  have hr := run_lookupS h1 h2 (h.maps i sc hc).2 h3 x
  rcases look_getS x sc.ents with ⟨h4, h5⟩ | ⟨j, e, h4, h5, h6⟩
  · refine .inl ⟨h4, h5, ?_⟩
    rw [hr]
    have : getS x (mrow sc) = none := h5
    rw [this]
    rfl
  · refine .inr ⟨j, e, h4, h5, ?_⟩
    rw [hr]
    have : getS x (mrow sc) = some (.pointer (some ⟨e.blk, 0, none⟩)) := h6
    rw [this]
    rfl

end Go.Proofs.Ytmnnkkcihmdpmaa
