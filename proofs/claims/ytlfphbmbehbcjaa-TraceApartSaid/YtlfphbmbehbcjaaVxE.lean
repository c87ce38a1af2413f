/- Vx, part E: the operators on numbers, strings, bools, pointers, structs are sound. -/
import Derived.Test.YtlfphbmbehbcjaaVxD
import Derived.Laws.StructEq
import Derived.Laws.Strings
import Derived.Laws.Cover3
import Derived.Laws.Pointers
set_option linter.unusedSimpArgs false
set_option linter.unusedVariables false
namespace Go.Vx
open Go
section
variable {𝕋 : TTab} {P : Program} {R : Value → World → Prop}

theorem run_part {t : TypeId} (h : (P.underlying t).isSome = true) {cs : Array Value} {off : Nat} (hl : off + P.cellsOf t ≤ cs.size) (h1 : isAggT P t = false → P.cellsOf t = 1) (w : World) :
    (part t cs off).run P w = .ok (ofVals P t ((cs.toList.drop off).take (P.cellsOf t))) w := by
  unfold part ofVals
  rw [Sem.run_bind, run_isAgg h]
  simp only [Result.andThen_ok]
  cases hA : isAggT P t with
  | true =>
    simp only [if_true, Sem.run_bind, run_sizeOf' h, Result.andThen_ok, Sem.run_pure]
    congr 2
    apply Array.ext'
    simp [List.extract_eq_take_drop]
  | false =>
    have h1' := h1 hA
    have hlt : off < cs.size := by omega
    simp only [Bool.false_eq_true, if_false, h1']
    rw [Array.getElem?_eq_getElem hlt]
    simp only [Sem.run_pure]
    congr 1
    have : (cs.toList.drop off) = cs[off] :: cs.toList.drop (off + 1) := by
      rw [List.drop_eq_getElem_cons (by simpa using hlt)]; simp
    rw [this]; rfl

theorem ofVals_one {t : TypeId} {d : TypeDesc} (h : P.underlying t = some d) (hd : isAggT P t = false) (v : Value) : ofVals P t [v] = v := by
  simp [ofVals, hd]

theorem asB_ok {x : SVal (Sh 𝕋 P R)} {b : Bool} (h : asB (𝔸 := Sh 𝕋 P R) x = some b) (β : List Nat) : den (𝔸 := Sh 𝕋 P R) β x = .bool b := by
  cases x <;> simp [asB] at h <;> (subst h; rfl)
theorem asI_ok {x : SVal (Sh 𝕋 P R)} {k : IntKind} {e : Int} (h : asI (𝔸 := Sh 𝕋 P R) x = some (k, e)) (β : List Nat) : den (𝔸 := Sh 𝕋 P R) β x = .int k e := by
  cases x <;> simp [asI] at h <;> (obtain ⟨rfl, rfl⟩ := h; rfl)
theorem eqI_ok {x y : SVal (Sh 𝕋 P R)} {b : Bool} (h : eqI (𝔸 := Sh 𝕋 P R) x y = some b) (β : List Nat) :
    ∃ k a c, den (𝔸 := Sh 𝕋 P R) β x = .int k a ∧ den (𝔸 := Sh 𝕋 P R) β y = .int k c ∧ b = (a == c) := by
  unfold eqI at h
  cases hx : asI (𝔸 := Sh 𝕋 P R) x with
  | none => simp [hx] at h
  | some p =>
    cases hy : asI (𝔸 := Sh 𝕋 P R) y with
    | none => simp [hx, hy] at h
    | some q =>
      obtain ⟨k, a⟩ := p
      obtain ⟨k', c⟩ := q
      simp only [hx, hy] at h
      split at h
      · rename_i hk
        subst hk
        simp only [Option.some.injEq] at h
        exact ⟨k, a, c, asI_ok hx β, asI_ok hy β, h.symm⟩
      · simp at h

theorem isAgg_int {t : TypeId} {k : IntKind} (h : P.underlying t = some (.int k)) : isAggT P t = false := by simp [isAggT, h]

/-- What 'eqT', 'eqF' say of the model's own '=='. -/
theorem eqT_both (β : List Nat) : ∀ (n : Nat),
    (∀ (t : TypeId) (d : Nat) (xs ys : List (SVal (Sh 𝕋 P R))) (b : Bool) (w : World), eqT (𝔸 := Sh 𝕋 P R) P n t xs ys = some b → n ≤ d →
      (P.underlying t).isSome = true ∧ (isAggT P t = false → xs.length = 1) ∧ (Op.equalIn d t (ofVals P t (denL (𝔸 := Sh 𝕋 P R) β xs)) (ofVals P t (denL (𝔸 := Sh 𝕋 P R) β ys))).run P w = .ok b w) ∧
    (∀ (off d : Nat) (fs : List Field) (xs ys : List (SVal (Sh 𝕋 P R))) (X Y : Array Value) (b : Bool) (w : World), eqF (𝔸 := Sh 𝕋 P R) P n off fs xs ys = some b → n ≤ d →
      X.toList.drop off = denL (𝔸 := Sh 𝕋 P R) β xs → Y.toList.drop off = denL (𝔸 := Sh 𝕋 P R) β ys → (Op.eqFields d X Y fs).run P w = .ok b w) := by
  intro n
  induction n with
  | zero => exact ⟨fun _ _ _ _ _ _ h _ => by simp [eqT] at h, fun _ _ _ _ _ _ _ _ _ h _ _ _ => by simp [eqF] at h⟩
  | succ n ih =>
    refine ⟨?_, ?_⟩
    · intro t d xs ys b w h hd
      obtain ⟨d, rfl⟩ : ∃ m, d = m + 1 := ⟨d - 1, by omega⟩
      simp only [eqT] at h
      split at h
      · rename_i k hu
        split at h
        · rename_i x y
          obtain ⟨q, a, c, h1, h2, h3⟩ := eqI_ok h β
          refine ⟨by simp [hu], fun _ => rfl, ?_⟩
          simp only [denL, ofVals, isAgg_int hu, Bool.false_eq_true, if_false, List.headD_cons, h1, h2, h3]
          exact run_equalIn_int w d t q k a c hu
        · simp at h
      · rename_i hu
        split at h
        · rename_i x y
          split at h
          · rename_i a c h1 h2
            simp only [Option.some.injEq] at h
            subst h
            refine ⟨by simp [hu], fun _ => rfl, ?_⟩
            have hA : isAggT P t = false := by simp [isAggT, hu]
            simp only [denL, ofVals, hA, Bool.false_eq_true, if_false, List.headD_cons, asB_ok h1 β, asB_ok h2 β]
            exact run_equalIn_bool w d t a c hu
          · simp at h
        · simp at h
      · rename_i hu
        split at h
        · rename_i a c
          simp only [Option.some.injEq] at h
          subst h
          refine ⟨by simp [hu], fun _ => rfl, ?_⟩
          have hA : isAggT P t = false := by simp [isAggT, hu]
          simp only [denL, ofVals, hA, Bool.false_eq_true, if_false, List.headD_cons, den]
          exact run_equalIn_string w d t a c hu
        · simp at h
      · rename_i fs hu
        split at h
        · simp at h
        · rename_i hst
          have hA : isAggT P t = true := by simp [isAggT, hu]
          refine ⟨by simp [hu], (fun hf => by rw [hA] at hf; cases hf), ?_⟩
          have hfs : P.fieldsOf t = fs := by simp [Program.fieldsOf, hu]
          simp only [ofVals, hA, if_true]
          rw [run_equalIn_struct w d t _ _ (by rw [hfs]; exact hu) (by simpa using hst), hfs]
          exact ih.2 0 d fs.toList xs ys _ _ b w h (by omega) (by simp) (by simp)
      · simp at h
    · intro off d fs xs ys X Y b w h hd hX hY
      cases fs with
      | nil =>
        simp only [eqF, Option.some.injEq] at h
        subst h
        simp [Op.eqFields]
      | cons f fs =>
        simp only [eqF] at h
        split at h
        · rename_i hc
          simp only [Bool.and_eq_true] at hc
          obtain ⟨⟨⟨⟨hn, ho⟩, hz⟩, hx⟩, hy⟩ := hc
          have hz' : 0 < P.cellsOf f.type := Nat.le_of_ble_eq_true hz
          have ho' : f.offset = off := Nat.eq_of_beq_eq_true ho
          have hx' : P.cellsOf f.type ≤ xs.length := Nat.le_of_ble_eq_true hx
          have hy' : P.cellsOf f.type ≤ ys.length := Nat.le_of_ble_eq_true hy
          split at h
          · simp at h
          · rename_i a ha
            obtain ⟨hs, h1, hr⟩ := ih.1 f.type d (xs.take (P.cellsOf f.type)) (ys.take (P.cellsOf f.type)) a w ha (by omega)
            have hl1 : isAggT P f.type = false → P.cellsOf f.type = 1 := fun hf => by have := h1 hf; simp at this; omega
            have hXl : off + P.cellsOf f.type ≤ X.size := by
              have := congrArg List.length hX
              rw [List.length_drop, denL_length, Array.length_toList] at this
              omega
            have hYl : off + P.cellsOf f.type ≤ Y.size := by
              have := congrArg List.length hY
              rw [List.length_drop, denL_length, Array.length_toList] at this
              omega
            have hp : ∀ (Z : Array Value) (zs : List (SVal (Sh 𝕋 P R))), Z.toList.drop off = denL (𝔸 := Sh 𝕋 P R) β zs → off + P.cellsOf f.type ≤ Z.size →
                (part f.type Z f.offset).run P w = .ok (ofVals P f.type (denL (𝔸 := Sh 𝕋 P R) β (zs.take (P.cellsOf f.type)))) w := by
              intro Z zs hZ hl
              rw [ho', denL_take, ← hZ]
              exact run_part hs hl hl1 w
            have hn' : f.name ≠ "_" := by simpa using hn
            simp only [Op.eqFields, hn', ne_eq, not_false_eq_true, if_true, Sem.run_bind, hp X xs hX hXl, hp Y ys hY hYl, Result.andThen_ok, hr]
            have hdrop : ∀ (Z : Array Value) (zs : List (SVal (Sh 𝕋 P R))), Z.toList.drop off = denL (𝔸 := Sh 𝕋 P R) β zs → Z.toList.drop (off + P.cellsOf f.type) = denL (𝔸 := Sh 𝕋 P R) β (zs.drop (P.cellsOf f.type)) := by
              intro Z zs hZ
              rw [denL_drop, ← hZ, List.drop_drop]
            split at h
            · simp only [Option.some.injEq] at h
              subst h
              cases a <;> simp [Op.eqFields]
            · split at h
              · rename_i c hc2
                simp only [Option.some.injEq] at h
                subst h
                have := ih.2 (off + P.cellsOf f.type) d fs _ _ X Y c w hc2 (by omega) (hdrop X xs hX) (hdrop Y ys hY)
                cases a <;> simp [this]
              · simp at h
        · simp at h

/-! ### The operators -/
def BinGoal (P : Program) (op : BinOp) (t : TypeId) (x y : Operand) (a b r : Value) : Prop :=
  ∀ w, (do eqGuard op t x y a b; binOp op t a b : Sem Value).run P w = .ok r w

theorem litBin_ok {op : BinOp} {k : IntKind} {a b : Int} {r : SVal (Sh 𝕋 P R)} (h : litBin (𝔸 := Sh 𝕋 P R) op k a b = some r) (t : TypeId) (x y : Operand) (β : List Nat) (n : Nat) :
    BinGoal P op t x y (.int k a) (.int k b) (den (𝔸 := Sh 𝕋 P R) β r) ∧ wf n r := by
  cases op <;> simp [litBin] at h <;> subst h <;> refine ⟨fun w => ?_, trivial⟩ <;> simp [eqGuard, binOp, Op.intArith, Op.intCmp, den]

theorem eqn_ok {op : BinOp} {r : Bool} {v : SVal (Sh 𝕋 P R)} (h : eqn (𝔸 := Sh 𝕋 P R) op r = some v) : (op = .eql ∧ v = .known r) ∨ (op = .neq ∧ v = .known !r) := by
  cases op <;> simp [eqn] at h <;> subst h <;> simp
theorem eqb_ok {op : BinOp} {r : Bool} {v : SVal (Sh 𝕋 P R)} (h : eqb (𝔸 := Sh 𝕋 P R) op r = some v) : (op = .eql ∧ v = .bool r) ∨ (op = .neq ∧ v = .bool !r) := by
  cases op <;> simp [eqb] at h <;> subst h <;> simp

theorem ptr_nil {d : Nat} {t : TypeId} (h : isPtrT P t = true) (p : Option Addr) (w : World) : (Op.equalIn (d + 1) t (.pointer p) (.pointer none)).run P w = .ok p.isNone w := by
  unfold isPtrT at h
  split at h
  · rename_i e hu
    cases p <;> simp [Op.equalIn, run_underlying hu]
  · cases h
theorem nil_ptr {d : Nat} {t : TypeId} (h : isPtrT P t = true) (p : Option Addr) (w : World) : (Op.equalIn (d + 1) t (.pointer none) (.pointer p)).run P w = .ok p.isNone w := by
  unfold isPtrT at h
  split at h
  · rename_i e hu
    cases p <;> simp [Op.equalIn, run_underlying hu]
  · cases h
theorem map_nil {d : Nat} {t : TypeId} (h : isMapT P t = true) (p : Option Nat) (w : World) : (Op.equalIn (d + 1) t (.map p) (.map none)).run P w = .ok p.isNone w := by
  unfold isMapT at h
  split at h
  · rename_i e hu
    cases p <;> simp [Op.equalIn, run_underlying hu]
  · cases h
theorem slice_nil {d : Nat} {t : TypeId} (h : isSliceT P t = true) (p : Option Addr) (l c : Nat) (w : World) : (Op.equalIn (d + 1) t (.slice p l c) (.slice none 0 0)).run P w = .ok p.isNone w := by
  unfold isSliceT at h
  split at h
  · rename_i e hu
    cases p <;> simp [Op.equalIn, run_underlying hu]
  · cases h
theorem func_nil {d : Nat} {t : TypeId} (h : isFuncT P t = true) (f : Fn) (a b : Array Value) (w : World) : (Op.equalIn (d + 1) t (.func f a b) .nilFunc).run P w = .ok false w := by
  unfold isFuncT at h
  split at h
  · rename_i e hu
    simp [Op.equalIn, run_underlying hu]
  · cases h
theorem nilf_nil {d : Nat} {t : TypeId} (h : isFuncT P t = true) (w : World) : (Op.equalIn (d + 1) t .nilFunc .nilFunc).run P w = .ok true w := by
  unfold isFuncT at h
  split at h
  · rename_i e hu
    simp [Op.equalIn, run_underlying hu]
  · cases h
theorem iface_nil {d : Nat} {t : TypeId} (h : isIfaceT P t = true) (u : TypeId) (v : Value) (w : World) : (Op.equalIn (d + 1) t (.iface u v) .nilIface).run P w = .ok false w := by
  unfold isIfaceT at h
  split at h
  · rename_i e hu
    simp [Op.equalIn, run_underlying hu]
  · cases h
theorem nil_iface {d : Nat} {t : TypeId} (h : isIfaceT P t = true) (u : TypeId) (v : Value) (w : World) : (Op.equalIn (d + 1) t .nilIface (.iface u v)).run P w = .ok false w := by
  unfold isIfaceT at h
  split at h
  · rename_i e hu
    simp [Op.equalIn, run_underlying hu]
  · cases h
theorem nil_nil {d : Nat} {t : TypeId} (h : isIfaceT P t = true) (w : World) : (Op.equalIn (d + 1) t .nilIface .nilIface).run P w = .ok true w := by
  unfold isIfaceT at h
  split at h
  · rename_i e hu
    simp [Op.equalIn, run_underlying hu]
  · cases h

/-- Where '==' is the model's 'equal'. -/
def EqlOk (P : Program) (t : TypeId) (x y : Operand) (a b : Value) (r : Bool) : Prop :=
  ∀ w, (eqGuard .eql t x y a b).run P w = .ok () w ∧ (eqGuard .neq t x y a b).run P w = .ok () w ∧ (binOp .eql t a b).run P w = .ok (.bool r) w ∧ (binOp .neq t a b).run P w = .ok (.bool !r) w

theorem eqn_goal {op : BinOp} {t : TypeId} {x y : Operand} {a b : Value} {r : Bool} {v : SVal (Sh 𝕋 P R)} (h : eqn (𝔸 := Sh 𝕋 P R) op r = some v) (he : EqlOk P t x y a b r) (β : List Nat) (n : Nat) :
    BinGoal P op t x y a b (den (𝔸 := Sh 𝕋 P R) β v) ∧ wf n v := by
  rcases eqn_ok h with ⟨rfl, rfl⟩ | ⟨rfl, rfl⟩
  · exact ⟨fun w => by simp [(he w).1, (he w).2.2.1, den], trivial⟩
  · exact ⟨fun w => by simp [(he w).2.1, (he w).2.2.2, den], trivial⟩
theorem eqb_goal {op : BinOp} {t : TypeId} {x y : Operand} {a b : Value} {r : Bool} {v : SVal (Sh 𝕋 P R)} (h : eqb (𝔸 := Sh 𝕋 P R) op r = some v) (he : EqlOk P t x y a b r) (β : List Nat) (n : Nat) :
    BinGoal P op t x y a b (den (𝔸 := Sh 𝕋 P R) β v) ∧ wf n v := by
  rcases eqb_ok h with ⟨rfl, rfl⟩ | ⟨rfl, rfl⟩
  · exact ⟨fun w => by simp [(he w).1, (he w).2.2.1, den], trivial⟩
  · exact ⟨fun w => by simp [(he w).2.1, (he w).2.2.2, den], trivial⟩

theorem eql_ptr {t : TypeId} {x y : Operand} {p q : Option Addr} {r : Bool} (h : ∀ w, (Op.equalIn 10000 t (.pointer p) (.pointer q)).run P w = .ok r w) : EqlOk P t x y (.pointer p) (.pointer q) r := by
  intro w
  refine ⟨by simp [eqGuard], by simp [eqGuard], ?_, ?_⟩ <;> simp only [binOp] <;> simp [Op.equal, Op.maxDepth, h]
theorem eql_map {t : TypeId} {x y : Operand} {p q : Option Nat} {r : Bool} (h : ∀ w, (Op.equalIn 10000 t (.map p) (.map q)).run P w = .ok r w) : EqlOk P t x y (.map p) (.map q) r := by
  intro w
  refine ⟨by simp [eqGuard], by simp [eqGuard], ?_, ?_⟩ <;> simp only [binOp] <;> simp [Op.equal, Op.maxDepth, h]
theorem eql_slice {t : TypeId} {x y : Operand} {p q : Option Addr} {l c l' c' : Nat} {r : Bool} (h : ∀ w, (Op.equalIn 10000 t (.slice p l c) (.slice q l' c')).run P w = .ok r w) : EqlOk P t x y (.slice p l c) (.slice q l' c') r := by
  intro w
  refine ⟨by simp [eqGuard], by simp [eqGuard], ?_, ?_⟩ <;> simp only [binOp] <;> simp [Op.equal, Op.maxDepth, h]
theorem eql_func {t : TypeId} {x y : Operand} {f : Fn} {a b : Array Value} {r : Bool} (h : ∀ w, (Op.equalIn 10000 t (.func f a b) .nilFunc).run P w = .ok r w) : EqlOk P t x y (.func f a b) .nilFunc r := by
  intro w
  refine ⟨by simp [eqGuard], by simp [eqGuard], ?_, ?_⟩ <;> simp only [binOp] <;> simp [Op.equal, Op.maxDepth, h]
theorem eql_nilf {t : TypeId} {x y : Operand} {r : Bool} (h : ∀ w, (Op.equalIn 10000 t .nilFunc .nilFunc).run P w = .ok r w) : EqlOk P t x y .nilFunc .nilFunc r := by
  intro w
  refine ⟨by simp [eqGuard], by simp [eqGuard], ?_, ?_⟩ <;> simp only [binOp] <;> simp [Op.equal, Op.maxDepth, h]
theorem eql_in {t : TypeId} {x y : Operand} {u : TypeId} {v : Value} {r : Bool} (h : ∀ w, (Op.equalIn 10000 t (.iface u v) .nilIface).run P w = .ok r w) : EqlOk P t x y (.iface u v) .nilIface r := by
  intro w
  refine ⟨by simp [eqGuard], by simp [eqGuard], ?_, ?_⟩ <;> simp only [binOp] <;> simp [Op.equal, Op.maxDepth, h]
theorem eql_ni {t : TypeId} {x y : Operand} {u : TypeId} {v : Value} {r : Bool} (h : ∀ w, (Op.equalIn 10000 t .nilIface (.iface u v)).run P w = .ok r w) : EqlOk P t x y .nilIface (.iface u v) r := by
  intro w
  refine ⟨by simp [eqGuard], by simp [eqGuard], ?_, ?_⟩ <;> simp only [binOp] <;> simp [Op.equal, Op.maxDepth, h]
theorem eql_nn {t : TypeId} {x y : Operand} {r : Bool} (hc : isConstO x = true ∨ isConstO y = true) (h : ∀ w, (Op.equalIn 10000 t .nilIface .nilIface).run P w = .ok r w) : EqlOk P t x y .nilIface .nilIface r := by
  intro w
  have hg : ∀ op, (eqGuard op t x y .nilIface .nilIface).run P w = .ok () w := by
    intro op
    rcases hc with hc | hc
    · cases x <;> simp [isConstO] at hc
      cases op <;> simp [eqGuard]
    · cases y <;> simp [isConstO] at hc
      cases op <;> simp [eqGuard]
  refine ⟨hg _, hg _, ?_, ?_⟩ <;> simp only [binOp] <;> simp [Op.equal, Op.maxDepth, h]
theorem eql_agg {t : TypeId} {x y : Operand} {a b : Array Value} {r : Bool} (hm : P.eqGuardType P.depth t = false) (h : ∀ w, (Op.equalIn 10000 t (.agg a) (.agg b)).run P w = .ok r w) : EqlOk P t x y (.agg a) (.agg b) r := by
  intro w
  refine ⟨run_eqGuard_agg w _ t x y a b hm, run_eqGuard_agg w _ t x y a b hm, ?_, ?_⟩
  · rw [run_eql_struct, h]; rfl
  · rw [run_neq_struct, h]; rfl
theorem eql_bool {t : TypeId} {x y : Operand} {a b : Bool} (h : isBoolT P t = true) : EqlOk P t x y (.bool a) (.bool b) (a == b) := by
  intro w
  have hu : P.underlying t = some .bool := by
    unfold isBoolT at h
    split at h
    · assumption
    · cases h
  refine ⟨by simp [eqGuard], by simp [eqGuard], ?_, ?_⟩ <;> simp only [binOp] <;> simp [run_equal_bool w t a b hu]

theorem binS_ok {op : BinOp} {t : TypeId} {x y : SVal (Sh 𝕋 P R)} {r : SVal (Sh 𝕋 P R)} {X Y : Operand} (h : binS (𝔸 := Sh 𝕋 P R) P op t (isConstO X) (isConstO Y) x y = some r) (β : List Nat) (n : Nat) :
    BinGoal P op t X Y (den (𝔸 := Sh 𝕋 P R) β x) (den (𝔸 := Sh 𝕋 P R) β y) (den (𝔸 := Sh 𝕋 P R) β r) ∧ wf n r := by
  unfold binS at h
  split at h
  · split at h
    · rename_i hk; subst hk; exact litBin_ok h t X Y β n
    · cases h
  · split at h
    · rename_i hc
      simp only [Option.some.injEq] at h
      subst h
      refine ⟨fun w => ?_, trivial⟩
      cases op <;> simp [isCmp] at hc <;> simp [eqGuard, binOp, Op.stringOp, den, strB]
    · cases h
  · split at h
    · rename_i ht; exact eqn_goal h (eql_ptr fun w => ptr_nil (d := 9999) ht none w) β n
    · cases h
  · split at h
    · rename_i ht; exact eqn_goal h (eql_ptr fun w => nil_ptr (d := 9999) ht (some _) w) β n
    · cases h
  · split at h
    · rename_i ht; exact eqn_goal h (eql_ptr fun w => ptr_nil (d := 9999) ht (some _) w) β n
    · cases h
  · split at h
    · rename_i ht; exact eqn_goal h (eql_ptr fun w => nil_ptr (d := 9999) ht (some _) w) β n
    · cases h
  · split at h
    · rename_i ht; exact eqn_goal h (eql_ptr fun w => ptr_nil (d := 9999) ht (some _) w) β n
    · cases h
  · split at h
    · rename_i ht; exact eqb_goal h (eql_ptr fun w => ptr_nil (d := 9999) ht _ w) β n
    · cases h
  · split at h
    · rename_i ht; exact eqb_goal h (eql_ptr fun w => nil_ptr (d := 9999) ht _ w) β n
    · cases h
  · split at h
    · rename_i ht; exact eqn_goal h (eql_map fun w => map_nil (d := 9999) ht none w) β n
    · cases h
  · split at h
    · rename_i ht; exact eqb_goal h (eql_map fun w => map_nil (d := 9999) ht _ w) β n
    · cases h
  · split at h
    · rename_i ht; exact eqn_goal h (eql_slice fun w => slice_nil (d := 9999) ht none 0 0 w) β n
    · cases h
  · split at h
    · rename_i ht; exact eqn_goal h (eql_slice fun w => slice_nil (d := 9999) ht (some _) _ _ w) β n
    · cases h
  · split at h
    · rename_i ht; exact eqb_goal h (eql_slice fun w => slice_nil (d := 9999) ht _ _ _ w) β n
    · cases h
  · split at h
    · rename_i ht; exact eqn_goal h (eql_nilf fun w => nilf_nil (d := 9999) ht w) β n
    · cases h
  · split at h
    · rename_i ht; exact eqn_goal h (eql_func fun w => func_nil (d := 9999) ht _ _ _ w) β n
    · cases h
  · split at h
    · rename_i ht
      simp only [Bool.and_eq_true, Bool.or_eq_true] at ht
      exact eqn_goal h (eql_nn ht.2 fun w => nil_nil (d := 9999) ht.1 w) β n
    · cases h
  · split at h
    · rename_i ht; exact eqn_goal h (eql_ni fun w => nil_iface (d := 9999) ht _ _ w) β n
    · cases h
  · split at h
    · rename_i ht; exact eqn_goal h (eql_in fun w => iface_nil (d := 9999) ht _ _ w) β n
    · cases h
  · rename_i xs ys
    split at h
    · rename_i hc
      simp only [Bool.and_eq_true] at hc
      obtain ⟨⟨⟨hA, hg⟩, hx⟩, hy⟩ := hc
      cases he : eqT (𝔸 := Sh 𝕋 P R) P 60 t xs ys with
      | none => simp [he] at h
      | some b =>
        simp only [he, Option.bind_some] at h
        refine eqb_goal h ?_ β n
        refine eql_agg (by simpa using hg) fun w => ?_
        have := ((eqT_both (P := P) (R := R) β 60).1 t 10000 xs ys b w he (by omega)).2.2
        simpa [ofVals, hA] using this
    · cases h
  · cases hx : asB (𝔸 := Sh 𝕋 P R) x with
    | some a =>
      cases hy : asB (𝔸 := Sh 𝕋 P R) y with
      | some b =>
        simp only [hx, hy] at h
        split at h
        · rename_i ht
          rw [asB_ok hx β, asB_ok hy β]
          exact eqb_goal h (eql_bool ht) β n
        · cases h
      | none =>
        have hxi : asI (𝔸 := Sh 𝕋 P R) x = none := by cases x <;> simp [asB] at hx <;> rfl
        simp [hx, hy, hxi] at h
    | none =>
      simp only [hx] at h
      cases hxi : asI (𝔸 := Sh 𝕋 P R) x with
      | none => simp [hxi] at h
      | some p =>
        cases hyi : asI (𝔸 := Sh 𝕋 P R) y with
        | none => simp [hxi, hyi] at h
        | some q =>
          obtain ⟨k, a⟩ := p
          obtain ⟨k', b⟩ := q
          simp only [hxi, hyi] at h
          rw [asI_ok hxi β, asI_ok hyi β]
          split at h
          · rename_i hc
            split at h
            · rename_i hk
              subst hk
              simp only [Option.some.injEq] at h
              subst h
              refine ⟨fun w => ?_, trivial⟩
              cases op <;> simp [isCmp] at hc <;> simp [eqGuard, binOp, Op.intCmp, den, iCmpS]
            · cases h
          · split at h
            · rename_i hc
              split at h
              · rename_i hk
                subst hk
                simp only [Option.some.injEq] at h
                subst h
                refine ⟨fun w => ?_, trivial⟩
                cases op <;> simp [isArith] at hc <;> simp [eqGuard, binOp, Op.intArith, Op.intBits, den, iBinS, bitsI]
              · cases h
            · split at h
              · rename_i m
                split at h
                · rename_i hk
                  simp only [Bool.and_eq_true, decide_eq_true_eq, bne_iff_ne, ne_eq] at hk
                  obtain ⟨rfl, hm⟩ := hk
                  simp only [Option.some.injEq] at h
                  subst h
                  simp only [asI, Option.some.injEq, Prod.mk.injEq] at hyi
                  obtain ⟨-, rfl⟩ := hyi
                  exact ⟨fun w => by simp [eqGuard, binOp, Op.intDiv, den, iBinS, hm], trivial⟩
                · cases h
              · rename_i m
                split at h
                · rename_i hk
                  simp only [Bool.and_eq_true, decide_eq_true_eq, bne_iff_ne, ne_eq] at hk
                  obtain ⟨rfl, hm⟩ := hk
                  simp only [Option.some.injEq] at h
                  subst h
                  simp only [asI, Option.some.injEq, Prod.mk.injEq] at hyi
                  obtain ⟨-, rfl⟩ := hyi
                  exact ⟨fun w => by simp [eqGuard, binOp, Op.intDiv, den, iBinS, hm], trivial⟩
                · cases h
              · split at h
                · rename_i hk
                  simp only [decide_eq_true_eq] at hk
                  simp only [Option.some.injEq] at h
                  subst h
                  simp only [asI, Option.some.injEq, Prod.mk.injEq] at hyi
                  obtain ⟨-, hnb⟩ := hyi
                  rw [hnb] at hk
                  have : ¬ (b : Int) < 0 := Int.not_lt.2 hk
                  exact ⟨fun w => by simp [eqGuard, binOp, Op.shift, den, iBinS, shlI, this], trivial⟩
                · cases h
              · split at h
                · rename_i hk
                  simp only [decide_eq_true_eq] at hk
                  simp only [Option.some.injEq] at h
                  subst h
                  simp only [asI, Option.some.injEq, Prod.mk.injEq] at hyi
                  obtain ⟨-, hnb⟩ := hyi
                  rw [hnb] at hk
                  have : ¬ (b : Int) < 0 := Int.not_lt.2 hk
                  exact ⟨fun w => by simp [eqGuard, binOp, Op.shift, den, iBinS, shrI, this], trivial⟩
                · cases h
              · cases h

theorem unS_ok {op : UnOp} {x r : SVal (Sh 𝕋 P R)} (h : unS (𝔸 := Sh 𝕋 P R) op x = some r) (β : List Nat) (n : Nat) :
    (∀ w, (Op.unary op (den (𝔸 := Sh 𝕋 P R) β x)).run P w = .ok (den (𝔸 := Sh 𝕋 P R) β r) w) ∧ wf n r := by
  unfold unS at h
  split at h
  · split at h
    · simp only [Option.some.injEq] at h; subst h; exact ⟨fun w => rfl, trivial⟩
    · cases h
  · split at h
    · simp only [Option.some.injEq] at h; subst h; exact ⟨fun w => rfl, trivial⟩
    · cases h
  · split at h
    · simp only [Option.some.injEq] at h; subst h; exact ⟨fun w => rfl, trivial⟩
    · cases h
  · split at h
    · simp only [Option.some.injEq] at h; subst h; exact ⟨fun w => rfl, trivial⟩
    · cases h
  · cases h

theorem convS_ok {s d : TypeId} {x r : SVal (Sh 𝕋 P R)} (h : convS (𝔸 := Sh 𝕋 P R) P d x = some r) (hs : (P.underlying s).isSome = true) (β : List Nat) (n : Nat) :
    (∀ w, (Go.convert s d (den (𝔸 := Sh 𝕋 P R) β x)).run P w = .ok (den (𝔸 := Sh 𝕋 P R) β r) w) ∧ wf n r := by
  obtain ⟨ds, hds⟩ := Option.isSome_iff_exists.1 hs
  unfold convS at h
  split at h
  · split at h
    · rename_i k hu
      simp only [Option.some.injEq] at h; subst h
      refine ⟨fun w => ?_, trivial⟩
      simp only [Go.convert, Sem.run_bind, run_underlying hds, run_underlying hu, Result.andThen_ok]
      cases ds <;> simp [den, Conv.intToInt]
    · cases h
  · split at h
    · rename_i k hu
      simp only [Option.some.injEq] at h; subst h
      refine ⟨fun w => ?_, trivial⟩
      simp only [Go.convert, Sem.run_bind, run_underlying hds, run_underlying hu, Result.andThen_ok]
      cases ds <;> simp [den, Conv.intToInt]
    · cases h
  · split at h
    · rename_i hu
      simp only [Option.some.injEq] at h; subst h
      refine ⟨fun w => ?_, trivial⟩
      simp only [Go.convert, Sem.run_bind, run_underlying hds, run_underlying hu, Result.andThen_ok]
      cases ds <;> simp [den]
    · cases h
  · cases h

end
end Go.Vx
