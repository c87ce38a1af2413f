/- The law TraceApart returns true whatever row comes in, and it reads behind the call as they read before. No condition. -/
import Derived.Test.YtlfphbmbehbcjaaRows
import Derived.Test.YtlfphbmbehbcjaaTk
import Derived.Test.YtlfphbmbehbcjaaOp
namespace Go.Proofs.Ytlfphbmbehbcjaa
open Go.ChangeShapes Go.WideShapes Go.ChangeAt Go.RowKit Go.Deep Go.Vx
set_option linter.unusedVariables false

theorem own : ownKnob Try.prog.godebug = none := by kernel_rfl
theorem laidOut : laidOutB Try.prog = true := by kernel_rfl

/-- A row that comes in. -/
theorem rowIn {H : Type} {enc : TypeId × Value → H} {w : World} {spare : Nat → Bool} {held : Bool} {fuel : Nat} {cs : List Value} {x : DataW H × List MemPlace} (h : DataW.trod enc Try.prog w 0 spare held fuel 22 cs = some x) :
    ∃ (s : Sl) (L : Row), cs = [s.val] ∧ RowIn w s L := by
  obtain ⟨p, l, c, xs, e, h1, h2, h3⟩ := open_imm (α := GSeen × List GKey) (f := fun x => GSeen.cells x.1) (k := 55) (Q := fun x => Imm (fun _ => none) w x.1.Reply.Keys.p x.1.Reply.Keys.l GKey.cells 2 x.2) Try.underlying22 cells37 (by decide) (fun _ _ _ h => by
    obtain ⟨d, y0, y1, e, _, _, g, _⟩ := openGSeen h
    exact ⟨(d, y1), e, g⟩) h
  exact ⟨⟨p, l, c⟩, xs, e, h1, h2, h3⟩

set_option maxRecDepth 100000 in
theorem lifted (os : Os) (started : os.Started) (H : Type) (enc : TypeId × Value → H) :
    ReturnsInHanded {} Try.checked os 3 .any (Rows.traceApartSpec.pre6 enc Try.prog Try.f3 Rows.traceApartRow.domain false) (Rows.traceApartSpec.post enc Try.prog Try.f3 false true false false) := by
  refine returnsInHanded_of_change (C := Try.checked) own started (by kernel_rfl) Try.func3
    (ChangeSpec.witness6 (enc := enc) (C := Try.checked) false ⟨#[], #[.slice none 0 0], []⟩ 8 (by kernel_rfl) (by kernel_rfl) (by kernel_rfl) (by kernel_rfl)) ?_
  intro W base args ds gs before hval0 hW hcnd _
  have hval : ∀ (j : Nat) t v, Try.f3.params[j]? = some t → args[j]? = some v → Value.okWide Try.prog W .any base t v := hval0
  have hW' := hW
  obtain ⟨p, q, hA0, hV, rfl, hfz, hnd⟩ := hW
  have hA : DataW.TrodAll enc Try.prog W 0 (fun _ => true) true Try.f3.params.toList args.toList ds p := hA0
  rw [Try.params3] at hA hval
  obtain ⟨v0, vs0, d0, ds0, p0, q0, hargs, rfl, rfl, h0, r0⟩ := trodAll_cons hA
  obtain ⟨rfl, rfl, rfl⟩ := trodAll_nil r0
  obtain rfl : args = #[v0] := by cases args; simp_all
  obtain ⟨rfl, rfl⟩ := trodVars_none hV
  have k0 := h0
  have lt0 : ∀ x ∈ p0, x.block < W.heap.size := by obtain ⟨m, hm⟩ := k0; exact DataW.trod_lt m _ _ _ hm
  obtain ⟨f0, hf0⟩ := h0
  obtain ⟨s, L, e0, hrow⟩ := rowIn hf0
  obtain ⟨a0, l0, c0, rfl⟩ := okWide_slice Try.underlying22 (hval 0 22 v0 rfl rfl)
  have e0' : [Value.slice a0 l0 c0] = [s.val] := e0
  clear hA0 hval0
  simp only [Sl.val, List.cons.injEq, and_true, Value.slice.injEq] at e0'
  obtain ⟨rfl, rfl, rfl⟩ := e0'
  refine (apart_ok hrow).mono fun e W' ⟨v, he, hv, hq⟩ => ?_
  subst he
  subst hv
  have bel : Below W.heap.size W W' := ⟨hq.os, hq.tape, hq.output, hq.size, hq.same⟩
  exact ⟨_, rfl, _, _, _, [], _, [], hW', trodAll_mk1 (shut_bool Try.underlying4 _), (trodAll_cons_mk (Below.trod laidOut (by kernel_rfl) (of_decide_eq_true (by kernel_rfl)) k0 bel lt0) trodAll_mk0), rfl, bel.frame _, fun h => by cases h⟩

theorem over : Rows.traceApartRow.holds Try.pinned (OpenSpec.ofChange Rows.traceApartSpec) :=
  OpenClaim.holds_of_wide 3 Try.f3 rfl rfl rfl rfl rfl rfl rfl ⟨rfl, rfl, rfl, rfl, rfl⟩ rfl rfl rfl rfl rfl (by kernel_rfl) Try.func3 (by kernel_rfl)
    (of_decide_eq_true (by kernel_rfl)) (by unfold Func.isWrapper; first | (rw [if_pos (by decide +kernel)]; kernel_rfl) | (rw [if_neg (by decide +kernel)]; exact ⟨rfl, rfl⟩))
    (fun os started H enc _ => lifted os started H enc)

theorem apart_said : Rows.TraceApartSaid := over
#print axioms apart_said
end Go.Proofs.Ytlfphbmbehbcjaa
