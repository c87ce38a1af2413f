/- Vx, part H: the operations that the model carries out itself; all that only looks is sound. -/
import Derived.Test.YtlfphbmbehbcjaaVxG
set_option linter.unusedSimpArgs false
set_option linter.unusedVariables false
namespace Go.Vx
open Go
section
variable {𝕋 : TTab} {P : Program} {R : Value → World → Prop}

theorem builtin_consts (b : Builtin) (ats : Array TypeId) (t : TypeId) (c : Array Bool) (args : Array Value) (hb : ¬ (b = .recover ∨ b = .print ∨ b = .println ∨ b = .panic)) :
    Go.builtin b ats t c args = Go.builtin b ats t #[] args := by
  cases b <;> first | rfl | (simp at hb)

theorem optV_ok {st : St (Sh 𝕋 P R)} {a : Act} (ha : RelA st a) {x : Option Operand} {l : Option Value} (h : optV st x = some l) : x.map a.eval = l := by
  cases x with
  | none => simp only [optV, Option.some.injEq] at h; subst h; rfl
  | some y =>
    simp only [optV] at h
    cases hv : st.opd y with
    | none => simp [hv] at h
    | some v =>
      simp only [hv, Option.map_some, Option.some.injEq] at h
      subst h
      simp [(opd_ok ha hv).1, St.den]

theorem isConst_guard {op : BinOp} {t : TypeId} {x y : Operand} {u v : Value} : eqGuard op t x y u v = eqGuard op t (cstO (isConstO x) u) (cstO (isConstO y) v) u v := by
  have hx : ∀ (z : Operand) (u : Value), (match cstO (isConstO z) u with | .const _ => true | _ => false) = (match z with | .const _ => true | _ => false) := by
    intro z u; cases z <;> rfl
  cases x <;> cases y <;> (cases op <;> first | rfl | (cases u <;> cases v <;> rfl))

/-- What the model yields, the operation yields. -/
theorem gopO_ok {o : Oper} {a : Act} {st : St (Sh 𝕋 P R)} (ha : RelA st a) {g : GOp Value} (hg : gopO (𝔸 := Sh 𝕋 P R) st o = some g) {w w' : World} {r : Value}
    (hrun : (GOp.sem g).run P w = .ok r w') :
    (execOp a.eval o).run P w = .ok (.value r) w' ∨ ((execOp a.eval o).run P w = .ok .skip w' ∧ r = undef ∧ isPureOp o.op = false) := by
  have hunit : ∀ (s : Sem Unit), (do s; pure undef : Sem Value).run P w = .ok r w' → s.run P w = .ok () w' ∧ r = undef := by
    intro s hs
    rw [Sem.run_bind] at hs
    cases hr : s.run P w with
    | ok u w1 =>
      simp only [hr, Result.andThen_ok, Sem.run_pure, Result.ok.injEq] at hs
      exact ⟨by rw [hs.2], hs.1.symm⟩
    | halt x w1 => simp [hr] at hs
  unfold gopO at hg
  split at hg
  · rename_i x s hop
    cases hx : st.opd x with
    | none => simp [hx] at hg
    | some v =>
      simp only [hx, Option.map_some, Option.some.injEq] at hg
      subst hg
      left
      simp only [execOp, hop, (opd_ok ha hx).1]
      exact run_valued _ hrun
  · rename_i b args ats hop
    split at hg
    · cases hg
    · rename_i hb
      cases hx : opds st args.toList with
      | none => simp [hx] at hg
      | some vs =>
        simp only [hx, Option.map_some, Option.some.injEq] at hg
        subst hg
        left
        have hargs : (args.map a.eval) = (denL (𝔸 := Sh 𝕋 P R) st.bases vs).toArray := by
          apply Array.ext'
          rw [Array.toList_map, (opds_ok ha hx).1]
        simp only [execOp, hop, resolve, Sem.run_bind, Sem.run_pure, Result.andThen_ok, invoke, hargs]
        rw [builtin_consts b ats o.type _ _ (by simpa [or_assoc] using hb)]
        simp only [GOp.sem, Sem.run_bind] at hrun
        cases hr : (Go.builtin b ats o.type #[] (denL (𝔸 := Sh 𝕋 P R) st.bases vs).toArray).run P w with
        | halt x w1 => rw [hr] at hrun; simp at hrun
        | ok n w1 =>
          rw [hr] at hrun
          simp only [Result.andThen_ok] at hrun
          cases n <;> simp at hrun
          obtain ⟨rfl, rfl⟩ := hrun
          rfl
  · rename_i hno1 hno2
    cases hop : o.op <;> simp only [hop, gop] at hg <;> try (cases hg; done)
    case lookup t x i ok =>
      split at hg
      · rename_i u v hu hv
        simp only [Option.some.injEq] at hg; subst hg
        left; simp only [execOp, hop, (opd_ok ha hu).1, (opd_ok ha hv).1]; exact run_valued _ hrun
      · cases hg
    case mapUpdate t m k v =>
      split at hg
      · rename_i x y z hx hy hz
        simp only [Option.some.injEq] at hg; subst hg
        right
        obtain ⟨h1, h2⟩ := hunit _ hrun
        simp only [St.den] at h1
        exact ⟨by simp [execOp, hop, (opd_ok ha hx).1, (opd_ok ha hy).1, (opd_ok ha hz).1, h1], h2, rfl⟩
      · cases hg
    case insert t m k v =>
      split at hg
      · rename_i x y z hx hy hz
        simp only [Option.some.injEq] at hg; subst hg
        right
        obtain ⟨h1, h2⟩ := hunit _ hrun
        simp only [St.den] at h1
        exact ⟨by simp [execOp, hop, (opd_ok ha hx).1, (opd_ok ha hy).1, (opd_ok ha hz).1, h1], h2, rfl⟩
      · cases hg
    case mapEntry t m k =>
      split at hg
      · rename_i x y hx hy
        simp only [Option.some.injEq] at hg; subst hg
        left; simp only [execOp, hop, (opd_ok ha hx).1, (opd_ok ha hy).1]; exact run_valued _ hrun
      · cases hg
    case entryStore t m k v =>
      split at hg
      · rename_i x y z hx hy hz
        simp only [Option.some.injEq] at hg; subst hg
        right
        obtain ⟨h1, h2⟩ := hunit _ hrun
        simp only [St.den] at h1
        exact ⟨by simp [execOp, hop, (opd_ok ha hx).1, (opd_ok ha hy).1, (opd_ok ha hz).1, h1], h2, rfl⟩
      · cases hg
    case slice t x l h m =>
      split at hg
      · rename_i x' l' h' m' hx hl hh hm
        simp only [Option.some.injEq] at hg; subst hg
        left; simp only [execOp, hop, (opd_ok ha hx).1, optV_ok ha hl, optV_ok ha hh, optV_ok ha hm]; exact run_valued _ hrun
      · cases hg
    case indexAddr t x i =>
      split at hg
      · rename_i x' y hx hy
        simp only [Option.some.injEq] at hg; subst hg
        left; simp only [execOp, hop, (opd_ok ha hx).1, (opd_ok ha hy).1]; exact run_valued _ hrun
      · cases hg
    case index t x i =>
      split at hg
      · rename_i x' y hx hy
        simp only [Option.some.injEq] at hg; subst hg
        left; simp only [execOp, hop, (opd_ok ha hx).1, (opd_ok ha hy).1]; exact run_valued _ hrun
      · cases hg
    case makeSlice t x i =>
      split at hg
      · rename_i x' y hx hy
        simp only [Option.some.injEq] at hg; subst hg
        left; simp only [execOp, hop, (opd_ok ha hx).1, (opd_ok ha hy).1]; exact run_valued _ hrun
      · cases hg
    case makeMap t r' =>
      cases r' with
      | some x => cases hg
      | none =>
        simp only [Option.some.injEq] at hg; subst hg
        left; simp only [execOp, hop]; exact run_valued _ hrun
    case range t x =>
      cases hx : st.opd x with
      | none => simp [hx] at hg
      | some v =>
        simp only [hx, Option.map_some, Option.some.injEq] at hg; subst hg
        left; simp only [execOp, hop, (opd_ok ha hx).1]; exact run_valued _ hrun
    case entry x =>
      cases hx : st.opd x with
      | none => simp [hx] at hg
      | some v =>
        simp only [hx, Option.map_some, Option.some.injEq] at hg; subst hg
        left; simp only [execOp, hop, (opd_ok ha hx).1]; exact run_valued _ hrun
    case typeAssert x xt t ok =>
      cases hx : st.opd x with
      | none => simp [hx] at hg
      | some v =>
        simp only [hx, Option.map_some, Option.some.injEq] at hg; subst hg
        left; simp only [execOp, hop, (opd_ok ha hx).1]; exact run_valued _ hrun
    case convert s d x =>
      cases hx : st.opd x with
      | none => simp [hx] at hg
      | some v =>
        simp only [hx, Option.map_some, Option.some.injEq] at hg; subst hg
        left; simp only [execOp, hop, (opd_ok ha hx).1]; exact run_valued _ hrun
    case unOp op t x =>
      cases hx : st.opd x with
      | none => simp [hx] at hg
      | some v =>
        simp only [hx, Option.map_some, Option.some.injEq] at hg; subst hg
        left; simp only [execOp, hop, (opd_ok ha hx).1]; exact run_valued _ hrun
    case binOp op t x y yt =>
      split at hg
      · rename_i x' y' hx hy
        simp only [Option.some.injEq] at hg; subst hg
        left
        simp only [execOp, hop, (opd_ok ha hx).1, (opd_ok ha hy).1]
        rw [isConst_guard]
        exact run_valued _ hrun
      · cases hg

/-- All that only looks. -/
theorem silS_ok {o : Oper} {a : Act} {st : St (Sh 𝕋 P R)} {w : World} (ha : RelA st a) (hw : RelW st w) {c : Cls} {φ : (SVal (Sh 𝕋 P R) → St (Sh 𝕋 P R) → Prop) → Prop}
    (h : silS (𝔸 := Sh 𝕋 P R) P st o = some (c, φ)) {K : SVal (Sh 𝕋 P R) → St (Sh 𝕋 P R) → Prop} (hK : φ K) : SilGoal o a st w c K := by
  unfold silS at h
  split at h
  · rename_i r hr
    simp only [Option.some.injEq] at h
    subst h
    exact silK_ok ha hw hr hK
  · split at h
    · rename_i hp
      split at h
      · rename_i g sh hg hs
        simp only [Option.some.injEq, Prod.mk.injEq] at h
        obtain ⟨rfl, rfl⟩ := h
        obtain ⟨v, ⟨h1, h2⟩, h3, _⟩ := mkSh_ex hK
        refine ⟨v, st, h2, .refl _ _, h3 _, fun w' _ => ?_⟩
        rcases gopO_ok ha hg (h1 w') with h4 | ⟨_, _, h5⟩
        · exact h4
        · rw [hp] at h5; cases h5
      · cases h
    · cases h

end
end Go.Vx
