/- The law ScopePlays returns true whatever row of calls comes in, and the row reads behind the call as it read before. No condition. -/
import Derived.Test.YtmnnkkcihmdpmaaRows
import Derived.Test.YtmnnkkcihmdpmaaPl
import Derived.ProofKit
import Derived.OpenShut
import Derived.ChangeOld
import Derived.Below
import Derived.Deep.Slices
namespace Go.Proofs.Ytmnnkkcihmdpmaa
open Go.ChangeShapes Go.WideShapes Go.ChangeAt Go.RowKit Go.Deep Go.Vx
set_option linter.unusedVariables false

theorem own : ownKnob Try.prog.godebug = none := by kernel_rfl
theorem laidOut : laidOutB Try.prog = true := by kernel_rfl

section
variable {H : Type} {enc : TypeId × Value → H} {w : World} {base : Nat} {spare : Nat → Bool} {held : Bool}

theorem value_cells {fuel : Nat} {cs : List Value} {x : DataW H × List MemPlace} (h : DataW.trod enc Try.prog w base spare held fuel 29 cs = some x) : ∃ (a b : Int) (s : ByteArray), cs = [.int .i64 a, .int .i64 b, .string s] := by
  obtain ⟨xs, n, rfl, rfl, hlen, hxl, hf⟩ := DataW.trod_struct Try.underlying29 h
  have h7 : cs.length = 3 := hlen.trans (by kernel_rfl)
  have hx5 : xs.length = 3 := hxl
  match cs, h7, xs, hx5, hf with
  | [c0, c1, c2], _, [x0, x1, x2], _, hf =>
    obtain ⟨a0, e0, _⟩ := DataW.trod_int Try.underlying3 ((hf 0 _ rfl : _ = some x0))
    obtain ⟨a1, e1, _⟩ := DataW.trod_int Try.underlying3 ((hf 1 _ rfl : _ = some x1))
    obtain ⟨s2, e2, _⟩ := DataW.trod_string Try.underlying9 ((hf 2 _ rfl : _ = some x2))
    have f0 : [c0] = [Value.int .i64 a0] := e0
    have f1 : [c1] = [Value.int .i64 a1] := e1
    have f2 : [c2] = [Value.string s2] := e2
    simp only [List.cons.injEq, and_true] at f0 f1 f2
    exact ⟨a0, a1, s2, by rw [f0, f1, f2]⟩

theorem act_cells {fuel : Nat} {cs : List Value} {x : DataW H × List MemPlace} (h : DataW.trod enc Try.prog w base spare held fuel 31 cs = some x) :
    ∃ (i12 i13 : Int) (s14 : ByteArray) (b15 : Bool) (i16 i17 : Int) (s18 : ByteArray), cs = [(.int .i64 i12), (.int .i64 i13), (.string s14), (.bool b15), (.int .i64 i16), (.int .i64 i17), (.string s18)] := by
  obtain ⟨xs, n, rfl, rfl, hlen, hxl, hf⟩ := DataW.trod_struct Try.underlying31 h
  have h7 : cs.length = 7 := hlen.trans (by kernel_rfl)
  have hx5 : xs.length = 5 := hxl
  match cs, h7, xs, hx5, hf with
  | [c0, c1, c2, c3, c4, c5, c6], _, [x0, x1, x2, x3, x4], _, hf =>
    obtain ⟨a0, e0, _⟩ := DataW.trod_int Try.underlying3 ((hf 0 _ rfl : _ = some x0))
    obtain ⟨a1, e1, _⟩ := DataW.trod_int Try.underlying3 ((hf 1 _ rfl : _ = some x1))
    obtain ⟨s2, e2, _⟩ := DataW.trod_string Try.underlying9 ((hf 2 _ rfl : _ = some x2))
    obtain ⟨b3, e3, _⟩ := DataW.trod_bool Try.underlying4 ((hf 3 _ rfl : _ = some x3))
    obtain ⟨a4, a5, s6, e4⟩ := value_cells ((hf 4 _ rfl : _ = some x4))
    have f0 : [c0] = [Value.int .i64 a0] := e0
    have f1 : [c1] = [Value.int .i64 a1] := e1
    have f2 : [c2] = [Value.string s2] := e2
    have f3 : [c3] = [Value.bool b3] := e3
    have f4 : [c4, c5, c6] = [Value.int .i64 a4, .int .i64 a5, .string s6] := e4
    simp only [List.cons.injEq, and_true] at f0 f1 f2 f3 f4
    obtain ⟨g4, g5, g6⟩ := f4
    exact ⟨a0, a1, s2, b3, a4, a5, s6, by rw [f0, f1, f2, f3, g4, g5, g6]⟩
end

set_option maxRecDepth 100000 in
theorem lifted (os : Os) (started : os.Started) (H : Type) (enc : TypeId × Value → H) :
    ReturnsInHanded {} Try.checked os 3 .any (Rows.scopePlaysSpec.pre6 enc Try.prog Try.f3 Rows.scopePlaysRow.domain false) (Rows.scopePlaysSpec.post enc Try.prog Try.f3 false true false false) := by
  refine returnsInHanded_of_change (C := Try.checked) own started (by kernel_rfl) Try.func3
    (ChangeSpec.witness6 (enc := enc) (C := Try.checked) false ⟨#[], #[.slice none 0 0], []⟩ 8 (by kernel_rfl) (by kernel_rfl) (by kernel_rfl) (by kernel_rfl)) ?_
  intro W base args ds gs before hval0 hW hcnd _
  have hval : ∀ (j : Nat) t v, Try.f3.params[j]? = some t → args[j]? = some v → Value.okWide Try.prog W .any base t v := hval0
  have hW' := hW
  obtain ⟨p, q, hA0, hV, rfl, hfz, hnd⟩ := hW
  have hA : DataW.TrodAll enc Try.prog W 0 (fun _ => true) true Try.f3.params.toList args.toList ds p := hA0
  rw [Try.params3] at hA hval
  obtain ⟨v0, vs0, d0, ds0, p0, q0, hargs, rfl, rfl, h0, r0⟩ := trodAll_cons hA
  obtain ⟨rfl, rfl, rfl⟩ := trodAll_nil r0
  obtain rfl : args = #[v0] := by cases args; simp_all
  obtain ⟨rfl, rfl⟩ := trodVars_none hV
  obtain ⟨a0, len0, cap0, rfl⟩ := okWide_slice Try.underlying22 (hval 0 22 v0 rfl rfl)
  have k0 := h0
  have lt0 : ∀ x ∈ p0, x.block < W.heap.size := by obtain ⟨m, hm⟩ := k0; exact DataW.trod_lt m _ _ _ hm
  have w0 : Acts W a0 len0 := by
    obtain ⟨fuel, hf⟩ := h0
    rcases open_slice Try.underlying22 hf with ⟨hcs, _⟩ | ⟨a, len, cap, m, n, D, Pl, hcs, _, hl, hm, hmm, _, hel⟩
    · simp [Value.cells] at hcs
      obtain ⟨rfl, rfl, rfl⟩ := hcs
      intro i hi
      omega
    · simp [Value.cells] at hcs
      obtain ⟨rfl, rfl, rfl⟩ := hcs
      intro i hi
      have him : i < m := by
        rw [hmm]
        simp only [if_true]
        omega
      obtain ⟨cs', hc1, hc2⟩ := hel i him
      obtain ⟨i12, i13, s14, b15, i16, i17, s18, rfl⟩ := act_cells hc2
      refine ⟨a, rfl, i12, i13, s14, b15, i16, i17, s18, ?_⟩
      have hcz : Try.prog.cellsOf 31 = 7 := by kernel_rfl
      rw [hcz] at hc1
      obtain ⟨_, _, hget⟩ := World.cells?_some hc1
      intro j u hj
      have hjl := (List.getElem?_eq_some_iff.1 hj).1
      have := hget j (by simpa using hjl)
      rw [Nat.zero_add, Nat.zero_add, this]
      exact hj
  clear hA0 hval0
  refine (plays_ok (x0 := a0) (l0 := len0) (c0 := cap0) W w0).mono fun e W' ⟨v, he, hv, hq⟩ => ?_
  subst he
  subst hv
  have bel : Below W.heap.size W W' := ⟨hq.os, hq.tape, hq.output, hq.size, hq.same⟩
  exact ⟨_, rfl, _, _, _, [], _, [], hW', trodAll_mk1 (shut_bool Try.underlying4 _), (trodAll_cons_mk (Below.trod laidOut (by kernel_rfl) (of_decide_eq_true (by kernel_rfl)) k0 bel lt0) trodAll_mk0), rfl, bel.frame _, fun h => by cases h⟩

theorem over : Rows.scopePlaysRow.holds Try.pinned (OpenSpec.ofChange Rows.scopePlaysSpec) :=
  OpenClaim.holds_of_wide 3 Try.f3 rfl rfl rfl rfl rfl rfl rfl ⟨rfl, rfl, rfl, rfl, rfl⟩ rfl rfl rfl rfl rfl (by kernel_rfl) Try.func3 (by kernel_rfl)
    (of_decide_eq_true (by kernel_rfl)) (by unfold Func.isWrapper; first | (rw [if_pos (by decide +kernel)]; kernel_rfl) | (rw [if_neg (by decide +kernel)]; exact ⟨rfl, rfl⟩))
    (fun os started H enc _ => lifted os started H enc)

theorem proved : Rows.ScopePlaysSaid := over
#print axioms proved
end Go.Proofs.Ytmnnkkcihmdpmaa
