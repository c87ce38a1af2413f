/- The laws TraceBegins and TraceApart answer true, and leave what was there as it was. -/
import Derived.Test.YtlfphbmbehbcjaaTh
import Derived.Laws.OwnMore
set_option linter.unusedSimpArgs false
set_option linter.unusedVariables false
namespace Go.Proofs.Ytlfphbmbehbcjaa
open Go Go.Vx

abbrev nobody : Owner := fun _ => none
theorem keeps_ok {w : World} {s : Sl} {L : Row} (h : RowAt nobody w s.p s.l L) (hlen : L.length ≤ 900000) : PurIn Try.prog 6 [.slice s.p s.l s.c] w (fun v _ => v = .bool (decide (firstP L < 0))) := by
  refine calls6 (fun v w' => v = .bool (decide (firstP L < 0)) ∧ Quiet w w') s w ?_
  unfold NF6
  refine (Pt.start w).purIn (first_ok h hlen) ?_
  rintro v w2 rfl A2 _
  exact ⟨_, rfl, rfl, A2.quiet⟩

def seenA : GSeen := ⟨3, 0, 0, ⟨⟨⟨#[]⟩, 0⟩, ⟨0, 0, ⟨#[]⟩⟩, ⟨0, 0, ⟨#[]⟩⟩, ⟨false, false, false, false, false, false, ⟨0, 0, ⟨#[]⟩⟩, ⟨0, 0, ⟨#[]⟩⟩, ⟨0, 0, ⟨#[]⟩⟩, false, false, false⟩, ⟨none, 0, 0⟩⟩, ⟨0, ⟨0, 0, ⟨#[]⟩⟩, false, false, ⟨false, false, false, false, false, false, ⟨0, 0, ⟨#[]⟩⟩, ⟨0, 0, ⟨#[]⟩⟩, ⟨0, 0, ⟨#[]⟩⟩, false, false, false⟩, ⟨none, 0, 0⟩⟩⟩
def seenB : GSeen := ⟨3, 0, 1, ⟨⟨⟨#[]⟩, 0⟩, ⟨0, 0, ⟨#[]⟩⟩, ⟨0, 0, ⟨#[]⟩⟩, ⟨false, false, false, false, false, false, ⟨0, 0, ⟨#[]⟩⟩, ⟨0, 0, ⟨#[]⟩⟩, ⟨0, 0, ⟨#[]⟩⟩, false, false, false⟩, ⟨none, 0, 0⟩⟩, ⟨0, ⟨0, 0, ⟨#[]⟩⟩, true, false, ⟨false, false, false, false, false, false, ⟨0, 0, ⟨#[]⟩⟩, ⟨0, 0, ⟨#[]⟩⟩, ⟨0, 0, ⟨#[]⟩⟩, false, false, false⟩, ⟨none, 0, 0⟩⟩⟩
theorem first_nil : firstP [] = -1 := rfl
theorem first_two : firstP [(seenA, []), (seenB, [])] = 1 := by decide
theorem alive_ok (w : World) : PurIn Try.prog 5 [] w (fun v _ => v = .bool true) := by
  refine calls5 (fun v w' => v = .bool true ∧ Quiet w w') w ?_
  unfold NF5
  refine (Pt.start w).purIn (keeps_ok (s := ⟨none, 0, 0⟩) (L := []) ⟨Imm.nil _ _ _ _ _, fun x hx => by cases hx⟩ (by simp)) ?_
  rintro v w0 rfl A0 _
  refine ⟨_, rfl, fun _ => ?_, fun hf => ?_⟩
  · rintro k2 ⟨f2, n2⟩ w3 g3 hk2
    have A3 := A0.frame (by simp <;> omega) g3
    have hk2' : w3.heap[k2]? = some (.cells (GSeen.cells seenA ++ GSeen.cells seenB).toArray 37 (0, 0)) := hk2
    have hlt : k2 < w3.heap.size := g3.live k2 (by simp)
    have hrow : RowAt nobody w3 (some ⟨k2, 0, none⟩) 2 [(seenA, []), (seenB, [])] := by
      refine ⟨⟨rfl, .inr ⟨⟨k2, 0, none⟩, rfl, rfl, hlt, fun i x hx => ?_⟩⟩, fun x hx => ?_⟩
      · match i, hx with
        | 0, hx =>
          simp only [List.getElem?_cons_zero, Option.some.injEq] at hx
          subst hx
          rw [add_mid]
          exact cellsAt_blk hk2' rfl
        | 1, hx =>
          simp only [List.getElem?_cons_succ, List.getElem?_cons_zero, Option.some.injEq] at hx
          subst hx
          rw [add_mid]
          exact cellsAt_blk hk2' rfl
        | i + 2, hx => simp at hx
      · simp only [List.mem_cons, List.not_mem_nil, or_false] at hx
        rcases hx with rfl | rfl <;> exact ⟨Imm.nil _ _ _ _ _, by simp⟩
    refine (A3.sub (L' := []) (by simp)).purIn (keeps_ok (s := ⟨some ⟨k2, 0, none⟩, 2, 2⟩) hrow (by simp)) ?_
    rintro v w4 rfl A4 _
    exact ⟨_, rfl, by rw [first_two]; rfl, A4.quiet⟩
  · rw [first_nil] at hf
    cases hf

/-- A row as it comes in. -/
def RowIn (w : World) (s : Sl) (L : Row) : Prop :=
  Imm nobody w s.p s.l (fun x : GSeen × List GKey => GSeen.cells x.1) 55 L ∧ (∀ x ∈ L, Imm nobody w x.1.Reply.Keys.p x.1.Reply.Keys.l GKey.cells 2 x.2) ∧ s.l ≤ s.c
theorem RowIn.quiet {w w' : World} {s : Sl} {L : Row} (h : RowIn w s L) (hq : Quiet w w') : RowIn w' s L := ⟨h.1.quiet hq, fun x hx => (h.2.1 x hx).quiet hq, h.2.2⟩
theorem seen_read {w : World} {a : Addr} {s : GSeen} (h : CellsAt w a 0 (GSeen.cells s)) (off : Nat) (vs : List Value) (hv : ((GSeen.cells s).drop off).take vs.length = vs) : CellsAt w a off vs := h.off off hv

theorem begins_ok {w : World} {s : Sl} {L : Row} (h : RowIn w s L) (at_ : Int) : PurIn Try.prog 4 [.slice s.p s.l s.c, .int .i64 at_] w (fun v _ => v = .bool true) := by
  refine calls4 (fun v w' => v = .bool true ∧ Quiet w w') s at_ w ?_
  unfold NF4
  refine (Pt.start w).purIn (alive_ok w) ?_
  rintro v w0 rfl A0 _
  have hl := h.1.1
  refine ⟨_, rfl, fun _ => ⟨fun h50 => ⟨fun h0 => ⟨fun _ => ⟨rfl, A0.quiet⟩, fun hle => ?_⟩, fun _ => ⟨rfl, A0.quiet⟩⟩, fun _ => ⟨rfl, A0.quiet⟩⟩, fun hf => by cases hf⟩
  simp only [decide_eq_false_iff_not] at h50 h0 hle
  refine ⟨fun i w' => Quiet w w' ∧ 0 ≤ i ∧ i ≤ (L.length : Int) ∧ ∀ (j : Nat) x, (j : Int) < i → L[j]? = some x → x.2.length ≤ 20, fun i _ => (L.length - i).toNat, ⟨A0.quiet, by omega, by omega, fun j x hj => by omega⟩, ?_⟩
  rintro i w4 _ ⟨hq, hi0, hi1, hall⟩
  have A4 : Pt w [] w4 := ⟨hq, by simp, by simp⟩
  refine ⟨fun hi => ?_, fun hi => ?_⟩
  · simp only [decide_eq_true_eq] at hi
    obtain ⟨a, x, e1, e2, e3⟩ := (h.1.quiet hq).at hi0 hi
    have hkl := (h.2.1 x (List.mem_of_getElem? e2)).1
    refine ⟨a, e1, ⟨hi0, hi⟩, _, _, _, seen_read e3 54 [.slice x.1.Reply.Keys.p x.1.Reply.Keys.l x.1.Reply.Keys.c] rfl, fun _ => ⟨rfl, hq⟩, fun h20 => ?_⟩
    simp only [decide_eq_false_iff_not] at h20
    rw [IntWalk.i64_in _ (by omega)]
    refine ⟨⟨hq, by omega, by omega, fun j y hj hy => ?_⟩, ?_⟩
    · by_cases hji : (j : Int) < i
      · exact hall j y hji hy
      · have : j = i.toNat := by omega
        subst this
        rw [e2, Option.some.injEq] at hy
        rw [← hy]
        omega
    · show (L.length - (i + 1) : Int).toNat < (L.length - i : Int).toNat
      omega
  · simp only [decide_eq_false_iff_not] at hi
    have hks : ∀ x ∈ L, x.2.length ≤ 1000000 := fun x hx => by
      obtain ⟨j, hj⟩ := List.getElem?_of_mem hx
      have := hall j x (by have := (List.getElem?_eq_some_iff.1 hj).1; omega) hj
      omega
    have hrow : RowAt nobody w s.p s.l L := ⟨h.1, fun x hx => ⟨h.2.1 x hx, hks x hx⟩⟩
    have mv : ∀ {w'}, Quiet w w' → RowAt nobody w' s.p s.l L := fun hq' => ⟨h.1.quiet hq', fun x hx => ⟨(h.2.1 x hx).quiet hq', hks x hx⟩⟩
    refine A4.purIn (first_ok (s := s) (mv hq) (by omega)) ?_
    rintro v w5 rfl A5 _
    refine ⟨_, rfl, ⟨by simp [loOf], by simp [loOf, hiOf]; omega, by have := h.2.2; simp [hiOf]; omega⟩, ?_⟩
    have hp : slCutP s.p s.c 55 none = s.p := by
      unfold slCutP
      simp only [loOf, Int.toNat_zero, Nat.zero_mul]
      split
      · rfl
      · cases s.p with
        | none => rfl
        | some a => simp [add_zero]
    have hcut : slCutL s.l none (some at_) = at_.toNat := by simp [slCutL, hiOf, loOf]
    have hrow5 := mv A5.quiet
    have hn : at_.toNat ≤ L.length := by omega
    have hrow' : RowAt nobody w5 s.p at_.toNat (L.take at_.toNat) := by
      refine ⟨⟨by rw [List.length_take]; omega, ?_⟩, fun x hx => hrow5.2 x (List.mem_of_mem_take hx)⟩
      rcases hrow5.1.2 with e | ⟨a, e, ho, hb, hc⟩
      · exact .inl (by rw [e]; simp)
      · refine .inr ⟨a, e, ho, hb, fun j x hx => hc j x ?_⟩
        rw [List.getElem?_take] at hx
        split at hx
        · exact hx
        · cases hx
    rw [hp, hcut]
    refine A5.purIn (first_ok (s := ⟨s.p, at_.toNat, slCutC s.c none⟩) hrow' (by rw [List.length_take]; omega)) ?_
    rintro v w7 rfl A7 _
    have hb := begins_plain L at_.toNat hn
    have hat : ((at_.toNat : Nat) : Int) = at_ := by omega
    rw [hat] at hb
    refine ⟨_, rfl, fun hp0 => ⟨fun hlt => ⟨?_, A7.quiet⟩, fun hge => ⟨?_, A7.quiet⟩⟩, fun hneg => ⟨?_, A7.quiet⟩⟩
    · simp only [decide_eq_true_eq] at hp0 hlt
      rw [if_pos ⟨hp0, hlt⟩] at hb
      rw [hb]
      simp
    · simp only [decide_eq_false_iff_not] at hge
      rw [if_neg (fun hh => hge hh.2)] at hb
      simp [hb]
    · simp only [decide_eq_false_iff_not] at hneg
      rw [if_neg (fun hh => hneg hh.1)] at hb
      simp [hb]
end Go.Proofs.Ytlfphbmbehbcjaa
