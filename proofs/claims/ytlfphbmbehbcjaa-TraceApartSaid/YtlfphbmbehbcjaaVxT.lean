/- Vx, part T: what comes in, read as rows of cells. -/
import Derived.Test.YtlfphbmbehbcjaaVxS
import Derived.ProofKit
import Derived.OpenShut
import Derived.ChangeOld
import Derived.Below
import Derived.Deep.Slices
set_option linter.unusedSimpArgs false
set_option linter.unusedVariables false
namespace Go.Vx
open Go Go.ChangeShapes Go.WideShapes Go.ChangeAt Go.RowKit Go.Deep

/-- Cells, part by part. -/
def partsFrom (cs : List Value) : Nat → List Nat → List Value
  | _, [] => []
  | off, n :: ns => (cs.drop off).take n ++ partsFrom cs (off + n) ns
theorem partsFrom_eq (cs : List Value) : ∀ (ns : List Nat) (off : Nat), cs.drop off = partsFrom cs off ns ++ cs.drop (off + ns.sum)
  | [], off => by simp [partsFrom]
  | n :: ns, off => by
    rw [partsFrom, List.append_assoc]
    have ih := partsFrom_eq cs ns (off + n)
    rw [show off + (n :: ns).sum = off + n + ns.sum by simp; omega, ← ih]
    conv => lhs; rw [← List.take_append_drop n (cs.drop off), List.drop_drop]
theorem partsFrom_all {cs : List Value} {ns : List Nat} (h : cs.length = ns.sum) : cs = partsFrom cs 0 ns := by
  have := partsFrom_eq cs ns 0
  rw [Nat.zero_add, ← h, List.drop_length, List.append_nil, List.drop_zero] at this
  exact this

theorem list_of {α : Type} {Q : Nat → α → Prop} : ∀ {n : Nat}, (∀ i, i < n → ∃ x, Q i x) → ∃ xs : List α, xs.length = n ∧ ∀ i x, xs[i]? = some x → Q i x
  | 0, _ => ⟨[], rfl, fun i x h => by simp at h⟩
  | n + 1, h => by
    obtain ⟨xs, h1, h2⟩ := list_of (n := n) fun i hi => h i (by omega)
    obtain ⟨y, hy⟩ := h n (by omega)
    refine ⟨xs ++ [y], by simp [h1], fun i x hx => ?_⟩
    by_cases hi : i < xs.length
    · rw [List.getElem?_append_left hi] at hx
      exact h2 i x hx
    · have hlt := (List.getElem?_eq_some_iff.1 hx).1
      simp at hlt
      have : i = n := by omega
      subst this
      rw [List.getElem?_append_right (by omega), h1, Nat.sub_self] at hx
      simp only [List.getElem?_cons_zero, Option.some.injEq] at hx
      rw [← hx]
      exact hy

section
variable {H : Type} {enc : TypeId × Value → H} {P : Program} {w : World} {spare : Nat → Bool} {held : Bool}
/-- A slice that comes in. -/
theorem open_imm {α : Type} {t e : TypeId} {f : α → List Value} {k : Nat} {Q : α → Prop} (ht : P.underlying t = some (.slice e)) (hk : P.cellsOf e = k) (hk0 : 0 < k)
    (hel : ∀ (fuel : Nat) (cs : List Value) (x : DataW H × List MemPlace), DataW.trod enc P w 0 spare held fuel e cs = some x → ∃ d, cs = f d ∧ Q d)
    {fuel : Nat} {cs : List Value} {x : DataW H × List MemPlace} (h : DataW.trod enc P w 0 spare held fuel t cs = some x) :
    ∃ (p : Option Addr) (l c : Nat) (xs : List α), cs = [.slice p l c] ∧ Imm (fun _ => none) w p l f k xs ∧ (∀ y ∈ xs, Q y) ∧ l ≤ c := by
  rcases open_slice ht h with ⟨rfl, _⟩ | ⟨a, len, cap, m, n, D, Pl, rfl, _, hl, hm, hmm, _, hh⟩
  · exact ⟨none, 0, 0, [], rfl, ⟨rfl, .inl rfl⟩, fun y hy => (by cases hy), Nat.le_refl _⟩
  · have hlm : len ≤ m := by rw [hmm]; split <;> omega
    obtain ⟨xs, h1, h2⟩ := list_of (n := len) (Q := fun i (d : α) => Q d ∧ CellsAt w (Addr.add a (0 + i * k)) 0 (f d) ∧ a.block < w.heap.size) fun i hi => by
      obtain ⟨cs', hc1, hc2⟩ := hh i (by omega)
      obtain ⟨d, rfl, hQ⟩ := hel _ _ _ hc2
      rw [hk] at hc1
      obtain ⟨_, hlen, hget⟩ := World.cells?_some hc1
      refine ⟨d, hQ, fun j u hj => ?_, ?_⟩
      · have hjl := (List.getElem?_eq_some_iff.1 hj).1
        have := hget j (by omega)
        rw [Nat.zero_add, Nat.zero_add, this]
        exact hj
      · have := hget 0 (by omega)
        rw [List.getElem?_eq_getElem (by omega)] at this
        unfold World.cell? at this
        rw [add_block, add_block] at this
        rcases Nat.lt_or_ge a.block w.heap.size with h | h
        · exact h
        · rw [Array.getElem?_eq_none h] at this
          cases this
    refine ⟨some a, len, cap, xs, rfl, ⟨h1.symm, ?_⟩, fun y hy => ?_, hl⟩
    · cases hxs : xs with
      | nil => exact .inl rfl
      | cons y ys =>
        have hy := (h2 0 y (by rw [hxs]; rfl)).2.2
        rw [← hxs]
        exact .inr ⟨a, rfl, rfl, hy, fun i x hx => (h2 i x hx).2.1⟩
    · obtain ⟨i, hi⟩ := List.getElem?_of_mem hy
      exact (h2 i y hi).1
end
end Go.Vx
