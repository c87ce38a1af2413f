/- Vx, part M: operations with their guards, rows of them, regions that draw their order, are sound if calls are. -/
import Derived.Test.YtlfphbmbehbcjaaVxL
set_option linter.unusedSimpArgs false
set_option linter.unusedVariables false
namespace Go.Vx
open Go
section
variable {𝕋 : TTab} {cfg : Cfg} {R : Value → World → Prop}

/-- What is said of a call. -/
def CallSnd (𝕋 : TTab) (cfg : Cfg) (R : Value → World → Prop) (n : Nat) : Prop :=
  ∀ (g : FuncId) (args : List (SVal (Sh 𝕋 cfg.P R))) (st : St (Sh 𝕋 cfg.P R)) (K : SVal (Sh 𝕋 cfg.P R) → St (Sh 𝕋 cfg.P R) → Prop), callS (𝔸 := Sh 𝕋 cfg.P R) cfg n g args st K → wfL st.bases.length args →
    ∀ (a : Act) (w : World), RelA st a → RelW st w →
      Calls cfg.P g (denL (𝔸 := Sh 𝕋 cfg.P R) st.bases args).toArray w fun e w' => ∃ v st', e = .returned (den (𝔸 := Sh 𝕋 cfg.P R) st'.bases v) ∧ Hist st st' ∧ RelA st' a ∧ RelW st' w' ∧ wf st'.bases.length v ∧ K v st'

theorem callS_fn {n : Nat} {g : FuncId} {args : List (SVal (Sh 𝕋 cfg.P R))} {st : St (Sh 𝕋 cfg.P R)} {K : SVal (Sh 𝕋 cfg.P R) → St (Sh 𝕋 cfg.P R) → Prop} (h : callS (𝔸 := Sh 𝕋 cfg.P R) cfg n g args st K) :
    ∃ fn body, cfg.P.funcs[g]? = some fn ∧ fn.body = some body ∧ (fn.name == "runtime.NumGoroutine") = false := by
  cases n with
  | zero => exact h.elim
  | succ n =>
    simp only [callS] at h
    split at h
    · exact h.elim
    · rename_i fn hf
      split at h
      · exact h.elim
      · rename_i body hb
        split at h
        · exact h.elim
        · rename_i hne
          exact ⟨fn, body, hf, hb, by simpa using hne⟩

theorem wrapX_ok (o : Op) (v : SVal (Sh 𝕋 cfg.P R)) (β : List Nat) (n : Nat) : den (𝔸 := Sh 𝕋 cfg.P R) β (wrapX (𝔸 := Sh 𝕋 cfg.P R) o v) = den (𝔸 := Sh 𝕋 cfg.P R) β v ∧ (wf n v → wf n (wrapX (𝔸 := Sh 𝕋 cfg.P R) o v)) := by
  unfold wrapX
  split
  · exact ⟨rfl, fun _ => trivial⟩
  · exact ⟨rfl, fun h => h⟩

theorem runsS_ok {o : Oper} {a : Act} {st : St (Sh 𝕋 cfg.P R)} {w : World} (ha : RelA st a) (hw : RelW st w) (hd : st.has o.dst = true) {K : St (Sh 𝕋 cfg.P R) → Prop}
    (h : runsS (𝔸 := Sh 𝕋 cfg.P R) cfg.P st o fun v st' => K (st'.put o.dst v)) {Q : Exit → Act → World → Prop} : o.wp cfg.P a w (Nx st K) Q := by
  unfold runsS at h
  split at h
  · exact h.elim
  · rename_i g hg
    split at h
    · rename_i x sb hop
      split at h
      · rename_i p t hx
        split at h
        · rename_i shs hshs
          obtain ⟨s1, hsame, hwe, hdd, h⟩ := atWorld_ok hw h
          obtain ⟨b, h⟩ := h
          obtain ⟨kv, ⟨w', hrun, hk, hK⟩, hkv⟩ := mkShs_ex h
          have hw1 := hsame.relW hw
          have ha1 := hsame.relA ha
          rw [hwe] at hrun hk
          have hnx : ∀ u v, (b = true → v = SVal.tuple (.known true :: kv)) → (b = false → v = SVal.tuple [.known false]) → u = den (𝔸 := Sh 𝕋 cfg.P R) s1.bases v → wf s1.bases.length v → Nx st K (a.put o.dst u) w' := by
            intro u v hv1 hv2 hu hwf
            refine nx_put (st' := { s1 with we := w' }) (hsame.hist.trans (we_hist _ _)) (we_relA ha1 _) (kept_relW hw1 hdd hk) ?_ (v := v) hwf ?_ hu
            · rw [has_nt (st := st) (by show s1.nt = st.nt; exact hsame.hist.nt)]
              exact hd
            · cases b with
              | true => rw [hv1 rfl]; exact hK.1 rfl
              | false => rw [hv2 rfl]; exact hK.2 rfl
          cases b with
          | true =>
            have hrun : Sem.run cfg.P (GOp.sem g) w = .ok (.tuple (Value.bool true :: denL (𝔸 := Sh 𝕋 cfg.P R) s1.bases kv).toArray) w' := hrun
            have e : (Value.tuple (Value.bool true :: denL (𝔸 := Sh 𝕋 cfg.P R) s1.bases kv).toArray) = den (𝔸 := Sh 𝕋 cfg.P R) s1.bases (.tuple (.known true :: kv)) := rfl
            rcases gopO_ok ha hg hrun with h1 | ⟨h1, h2, _⟩
            · exact wp_value h1 (hnx _ _ (fun _ => rfl) (fun hb => by cases hb) e ⟨trivial, hkv _⟩)
            · exact wp_skipped h1 (hnx _ _ (fun _ => rfl) (fun hb => by cases hb) (h2.symm.trans e) ⟨trivial, hkv _⟩)
          | false =>
            have hrun : Sem.run cfg.P (GOp.sem g) w = .ok (.tuple #[Value.bool false]) w' := hrun
            have e : (Value.tuple #[Value.bool false]) = den (𝔸 := Sh 𝕋 cfg.P R) s1.bases (.tuple [.known false]) := rfl
            rcases gopO_ok ha hg hrun with h1 | ⟨h1, h2, _⟩
            · exact wp_value h1 (hnx _ _ (fun hb => by cases hb) (fun _ => rfl) e ⟨trivial, trivial⟩)
            · exact wp_skipped h1 (hnx _ _ (fun hb => by cases hb) (fun _ => rfl) (h2.symm.trans e) ⟨trivial, trivial⟩)
        · exact h.elim
      · exact h.elim
    · split at h
      · rename_i hdst
        obtain ⟨s1, hsame, hwe, hdd, h⟩ := atWorld_ok hw h
        obtain ⟨s2, g1, g2, g3, g4, g5, g6, g7, g8, w', hrun, hk, hK⟩ := letGo_ok (hsame.relA ha) (hsame.relW hw) hdd h
        rw [g5] at hrun hk
        have hnx : ∀ u, Nx st K (a.put o.dst u) w' := by
          intro u
          rw [hdst] at hK ⊢
          exact ⟨_, (hsame.hist.trans g1).trans (we_hist _ _), we_relA g2 _, kept_relW g3 g4 hk, hK⟩
        rcases gopO_ok ha hg hrun with h1 | ⟨h1, h2, _⟩
        · exact wp_value h1 (hnx _)
        · exact wp_skipped h1 (hnx _)
      · rename_i d hdst
        split at h
        · exact h.elim
        · rename_i sh hsh
          obtain ⟨s1, hsame, hwe, hdd, h⟩ := atWorld_ok hw h
          obtain ⟨s2, g1, g2, g3, g4, g5, g6, g7, g8, h⟩ := letGo_ok (hsame.relA ha) (hsame.relW hw) hdd h
          obtain ⟨v, ⟨w', hrun, hk, hK⟩, hv, _⟩ := mkSh_ex h
          rw [g5] at hrun hk
          have hnx : ∀ u, u = den (𝔸 := Sh 𝕋 cfg.P R) s2.bases v → Nx st K (a.put o.dst u) w' := by
            intro u hu
            refine nx_put (st' := { s2 with we := w' }) ((hsame.hist.trans g1).trans (we_hist _ _)) (we_relA g2 _) (kept_relW g3 g4 hk) ?_ ((wrapX_ok o.op v s2.bases _).2 (hv _)) hK (hu.trans (wrapX_ok o.op v s2.bases 0).1.symm)
            rw [has_nt (st := st) (by show s2.nt = st.nt; rw [g7]; exact hsame.hist.nt)]
            exact hd
          rcases gopO_ok ha hg hrun with h1 | ⟨h1, h2, _⟩
          · exact wp_value h1 (hnx _ rfl)
          · exact wp_skipped h1 (hnx _ h2.symm)

theorem execOpN_ok {n : Nat} (hc : CallSnd 𝕋 cfg R n) {o : Oper} {a : Act} {st : St (Sh 𝕋 cfg.P R)} {w : World} (ha : RelA st a) (hw : RelW st w) (hd : st.has o.dst = true) {K : St (Sh 𝕋 cfg.P R) → Prop}
    (h : execOpN (𝔸 := Sh 𝕋 cfg.P R) cfg (n + 1) o st K) {Q : Exit → Act → World → Prop} : o.wp cfg.P a w (fun a' w' => Moves cfg.P o.op w w' ∧ Nx st K a' w') Q := by
  simp only [execOpN] at h
  split at h
  · rename_i c φ hs
    have := sil_wp ha hw hd (silS_ok (K := fun v st' => K (st'.put o.dst v)) ha hw hs h) (Q := Q)
    exact Oper.wp_mono (fun a' w' hh => ⟨by rw [hh.1]; exact .refl _ _ _, hh.2⟩) this
  · rename_i hs
    split at h
    · exact h.elim
    · rename_i hl
      have hl' : isLoud cfg.P o.op = true := by simpa using hl
      suffices hh : o.wp cfg.P a w (fun a' w' => (isGrow o.op = true → Grows w w') ∧ Nx st K a' w') Q from Oper.wp_mono (fun a' w' hx => ⟨⟨(fun hf => by rw [hl'] at hf; cases hf), hx.1⟩, hx.2⟩) hh
      split at h
      · rename_i t hop
        split at h
        · rename_i z hz
          obtain ⟨i, zv, h1, h2, h3, h4, h5, h6⟩ := zeroS_ok hz st.bases st.bases.length
          refine Oper.wp_mono (fun a' w' hx => ⟨fun _ => hx.1, hx.2⟩) (newBlk_wp ha hw hd (mk := fun i => .loc i 0) (fun i n hi => hi) (val := fun b => .pointer (some ⟨b, 0, none⟩)) (fun β i => rfl) h h4 h5 ?_)
          simp only [execOp, hop]
          refine run_valued _ ?_
          rw [← h3]
          simp [Instr.alloc, zeroValue, typeInfo, h1, h2, run_newVar]
        · exact h.elim
      · rename_i t x hop
        split at h
        · rename_i v hx
          split at h
          · rename_i hn
            obtain ⟨h1, h2⟩ := opd_ok ha hx
            refine Oper.wp_mono (fun a' w' hx => ⟨fun _ => hx.1, hx.2⟩) (newBlk_wp ha hw hd (mk := fun i => .loc i 0) (fun i n hi => hi) (val := fun b => .pointer (some ⟨b, 0, none⟩)) (fun β i => rfl) h (wf_cells h2) hn ?_)
            simp only [execOp, hop, h1]
            refine run_valued _ ?_
            rw [← den_cells _ h2]
            simp [Instr.box, run_newVar]
          · exact h.elim
        · exact h.elim
      · rename_i t len parts hop
        split at h
        · rename_i e ps he hps
          split at h
          · rename_i z hz
            split at h
            · rename_i hsz
              simp only [Bool.and_eq_true, Bool.not_eq_true'] at hsz
              have hs1 : len * cfg.P.cellsOf e ≤ 16777216 := Nat.le_of_ble_eq_true hsz.1
              have hs2 : len * cfg.P.cellsOf e ≠ 0 := fun e0 => by rw [e0] at hsz; simp at hsz
              split at h
              · rename_i cells hf
                split at h
                · rename_i hn
                  obtain ⟨i, zv, h1, h2, h3, h4, h5, h6⟩ := zeroS_ok hz st.bases st.bases.length
                  obtain ⟨hu, hinfo⟩ := elemOfT_ok he
                  obtain ⟨hp1, hp2⟩ := partsS_ok ha hps
                  obtain ⟨hf1, hf2, hf3⟩ := fillS_ok st.bases _ ps _ cells hf (wfL_replicate h4 len) hp2
                  refine Oper.wp_mono (fun a' w' hx => ⟨fun _ => hx.1, hx.2⟩) (newBlk_wp ha hw hd (mk := fun i => .lsl i 0 len len) (fun i n hi => hi) (val := fun b => .slice (some ⟨b, 0, none⟩) len len) (fun β i => rfl) h hf2 hn ?_)
                  simp only [execOp, hop]
                  refine run_valued _ ?_
                  have hsize : i.size = cfg.P.cellsOf e := by simp [Program.cellsOf, h1]
                  refine run_buildSlice w t e len _ _ i zv hu h1 h2 (by rw [hsize]; omega) (by rw [hsize]; exact hs2) ?_
                  have hzl : (denL (𝔸 := Sh 𝕋 cfg.P R) st.bases z).length = cfg.P.cellsOf e := by rw [denL_length]; exact h6
                  have hz0 : (denL (𝔸 := Sh 𝕋 cfg.P R) st.bases z).length ≠ 0 := by rw [hzl]; intro e0; rw [e0] at hs2; simp at hs2
                  rw [h3, hsize, ← hzl, range_zeros _ hz0 len, ← denL_replicate, hzl]
                  rw [← hf1]
                  congr 1
                  rw [← hp1]
                  simp
                · exact h.elim
              · exact h.elim
            · exact h.elim
          · exact h.elim
        · exact h.elim
      · rename_i t x y hop
        split at h
        · rename_i ad v hx hy
          exact Oper.wp_mono (fun a' w' hx => ⟨(fun hg => by rw [hop] at hg; cases hg), hx⟩) (storeS_ok ha hw hd hop hx hy h)
        · exact h.elim
      · rename_i f args ats hop
        split at h
        · rename_i g fs cs vs hf hvs
          obtain ⟨fn, body, hfn, hbody, hname⟩ := callS_fn h
          obtain ⟨h1, h2⟩ := opd_ok ha hf
          obtain ⟨h3, h4⟩ := opds_ok ha hvs
          have hrun : (execOp a.eval o).run cfg.P w = .ok (.enter g (denL (𝔸 := Sh 𝕋 cfg.P R) st.bases (fs ++ (vs ++ cs))).toArray) w := by
            have hargs : (args.map a.eval) = (denL (𝔸 := Sh 𝕋 cfg.P R) st.bases vs).toArray := by
              apply Array.ext'
              rw [Array.toList_map, h3]
            simp only [execOp, hop, resolve, h1, den, Deferred.ofValue, Sem.run_bind, Sem.run_pure, Result.andThen_ok, invoke, callFunc, run_program, hfn, hname, hbody, hargs]
            simp only [Bool.false_eq_true, if_false, Option.isNone_some, Sem.run_pure]
            rw [denL_append', denL_append']
            simp
          have hcall := hc g _ st _ h (wfL_append h2.1 (wfL_append h4 h2.2)) a w ha hw
          unfold Oper.wp
          rw [hrun, Oper.upon_enter]
          refine hcall.mono ?_
          rintro e w' ⟨v, st', rfl, k1, k2, k3, k4, k5⟩
          exact ⟨(fun hg => by rw [hop] at hg; cases hg), nx_put k1 k2 k3 (by rw [has_nt k1.nt]; exact hd) k4 k5 rfl⟩
        · exact h.elim
      · rename_i n1 n2 n3 _ _
        refine Oper.wp_mono (fun a' w' hx => ⟨fun hg => ?_, hx⟩) (runsS_ok ha hw hd h)
        rcases isGrow_cases hg with ⟨t, e⟩ | ⟨t, x, e⟩ | ⟨t, l, p, e⟩
        · exact (n1 _ e).elim
        · exact (n2 _ _ e).elim
        · exact (n3 _ _ _ e).elim

/-! ### Guards -/
theorem yielded_at {ops : Array Oper} {st : St (Sh 𝕋 cfg.P R)} {a : Act} (ha : RelA st a) {j d : Nat} {v : SVal (Sh 𝕋 cfg.P R)} (hd : (ops[j]?).bind (·.dst) = some d) (hv : st.get d = some v) :
    yielded ops a.tmps j = match den (𝔸 := Sh 𝕋 cfg.P R) st.bases v with | .bool b => some b | _ => none := by
  unfold yielded
  obtain ⟨_, h2, _⟩ := ha.tmps d v hv
  rw [hd, Option.bind_some, h2]
  cases den (𝔸 := Sh 𝕋 cfg.P R) st.bases v <;> rfl

theorem guard_yes {ops : Array Oper} {st : St (Sh 𝕋 cfg.P R)} {a : Act} (ha : RelA st a) {o : Oper} (h : guardS (𝔸 := Sh 𝕋 cfg.P R) ops st o = .yes) : Region.wanted o (yielded ops a.tmps) = true := by
  unfold guardS at h
  unfold Region.wanted
  split at h
  · rename_i hg; rw [hg]
  · rename_i j want hg
    rw [hg]
    split at h
    · cases h
    · rename_i d hd
      split at h
      · rename_i b hb
        split at h
        · rename_i hbw
          have : b = want := by simpa using hbw
          subst this
          simp only [yielded_at ha hd hb, den]
          simp
        · cases h
      · cases h
      · cases h
      · cases h
theorem guard_no {ops : Array Oper} {st : St (Sh 𝕋 cfg.P R)} {a : Act} (ha : RelA st a) {o : Oper} (h : guardS (𝔸 := Sh 𝕋 cfg.P R) ops st o = .no) : Region.wanted o (yielded ops a.tmps) = false := by
  unfold guardS at h
  unfold Region.wanted
  split at h
  · cases h
  · rename_i j want hg
    rw [hg]
    split at h
    · cases h
    · rename_i d hd
      split at h
      · rename_i b hb
        split at h
        · cases h
        · rename_i hbw
          simp only [yielded_at ha hd hb, den]
          simpa using hbw
      · cases h
      · rename_i hb
        simp only [yielded_at ha hd hb, den, denL]
        rfl
      · cases h
theorem guard_part {ops : Array Oper} {st : St (Sh 𝕋 cfg.P R)} {a : Act} (ha : RelA st a) {o : Oper} {d : Nat} {b : Bool} {want : Bool} (h : guardS (𝔸 := Sh 𝕋 cfg.P R) ops st o = .part d b want) :
    st.get d = some (.bool b) ∧ Region.wanted o (yielded ops a.tmps) = (b == want) := by
  unfold guardS at h
  unfold Region.wanted
  split at h
  · cases h
  · rename_i j want' hg
    rw [hg]
    split at h
    · cases h
    · rename_i d' hd
      split at h
      · split at h <;> cases h
      · rename_i b' hb
        simp only [Gd.part.injEq] at h
        obtain ⟨rfl, rfl, rfl⟩ := h
        refine ⟨hb, ?_⟩
        simp only [yielded_at ha hd hb, den]
        cases b' <;> cases want' <;> rfl
      · cases h
      · cases h

theorem bool_ne {b want : Bool} (h : ¬ b = want) : b = !want := by cases b <;> cases want <;> simp_all

theorem execOp1_ok {n : Nat} (hN : ∀ {o : Oper} {a : Act} {st : St (Sh 𝕋 cfg.P R)} {w : World}, RelA st a → RelW st w → st.has o.dst = true → ∀ {K : St (Sh 𝕋 cfg.P R) → Prop}, execOpN (𝔸 := Sh 𝕋 cfg.P R) cfg n o st K →
      ∀ {Q : Exit → Act → World → Prop}, o.wp cfg.P a w (fun a' w' => Moves cfg.P o.op w w' ∧ Nx st K a' w') Q)
    {ops : Array Oper} {i : Nat} {o : Oper} (hi : ops[i]? = some o) {a : Act} {st : St (Sh 𝕋 cfg.P R)} {w : World} (ha : RelA st a) (hw : RelW st w) {K : St (Sh 𝕋 cfg.P R) → Prop}
    (h : execOp1 (𝔸 := Sh 𝕋 cfg.P R) cfg (n + 1) ops o st K) {Q : Exit → Act → World → Prop} : wpOp cfg.P ops Q i (fun a' w' => Moves cfg.P o.op w w' ∧ Nx st K a' w') a w := by
  unfold wpOp
  simp only [hi]
  simp only [execOp1] at h
  split at h
  · rename_i hd
    split at h
    · rename_i hg
      simp only [guard_yes ha hg, if_true]
      exact .inl (hN ha hw hd h)
    · rename_i hg
      simp only [guard_no ha hg, Bool.false_eq_true, if_false]
      exact ⟨Moves.refl _ _ _, nx_put (.refl _) ha hw hd (v := undefS) trivial h rfl⟩
    · rename_i d b want hg
      obtain ⟨h1, h2⟩ := guard_part ha hg
      by_cases hb : b = want
      · rw [h2]
        simp only [hb, beq_self_eq_true, if_true]
        have hx := hN (o := o) (put_known ha h1 hb) (put_relW hw _ _) (by rw [has_nt (put_hist st _ _).nt]; exact hd) (h.1 hb) (Q := Q)
        exact .inl (Oper.wp_mono (fun a' w' hh => ⟨hh.1, hh.2.hist (put_hist _ _ _)⟩) hx)
      · rw [h2]
        have : (b == want) = false := by simpa using hb
        simp only [this, Bool.false_eq_true, if_false]
        refine ⟨Moves.refl _ _ _, Nx.hist (put_hist st _ _) (nx_put (v := undefS) (.refl _) (put_known ha h1 (bool_ne hb)) (put_relW hw _ _) ?_ trivial (h.2 (bool_ne hb)) rfl)⟩
        rw [has_nt (put_hist st _ _).nt]
        exact hd
    · exact h.elim
  · exact h.elim

/-- Operations in their order. -/
theorem execOps_ok {ops : Array Oper} {Q : Exit → Act → World → Prop} {N : Nat} (hN : ∀ n, n < N → ∀ {i : Nat} {o : Oper}, ops[i]? = some o → ∀ {a : Act} {st : St (Sh 𝕋 cfg.P R)} {w : World}, RelA st a → RelW st w → ∀ {K : St (Sh 𝕋 cfg.P R) → Prop},
      execOp1 (𝔸 := Sh 𝕋 cfg.P R) cfg n ops o st K → ∀ {Q : Exit → Act → World → Prop}, wpOp cfg.P ops Q i (fun a' w' => Moves cfg.P o.op w w' ∧ Nx st K a' w') a w) :
    ∀ (n : Nat) (l : List Oper) (k : Nat), n ≤ N → (∀ j, l[j]? = ops[k + j]?) → ∀ {a : Act} {st : St (Sh 𝕋 cfg.P R)} {w : World}, RelA st a → RelW st w → ∀ {K : St (Sh 𝕋 cfg.P R) → Prop},
      execOps (𝔸 := Sh 𝕋 cfg.P R) cfg n ops l st K → (∀ a' w', Nx st K a' w' → Q .normal a' w') → wpOps cfg.P ops Q (List.range' k l.length) a w
  | 0, l, k, _, _, a, st, w, _, _, K, h, _ => h.elim
  | n + 1, [], k, _, _, a, st, w, ha, hw, K, h, hQ => hQ _ _ ⟨st, .refl _, ha, hw, h⟩
  | n + 1, o :: l, k, hn, hl, a, st, w, ha, hw, K, h, hQ => by
    have h0 : ops[k]? = some o := by simpa using (hl 0).symm
    rw [List.length_cons, List.range'_succ, wpOps_cons]
    simp only [execOps] at h
    refine wpOp_mono ?_ (hN n (by omega) h0 ha hw h)
    rintro a' w' ⟨_, st', h1, h2, h3, h4⟩
    exact execOps_ok hN n l (k + 1) (by omega) (fun j => by have := hl (j + 1); simpa [Nat.add_assoc, Nat.add_comm 1 j] using this) h2 h3 h4 (fun a'' w'' hh => hQ _ _ (Nx.hist h1 hh))

end
end Go.Vx
