/- Vx, part P: the executor is sound: what it makes of a function's code and arguments implies what it says of the call. -/
import Derived.Test.YtlfphbmbehbcjaaVxO
set_option linter.unusedSimpArgs false
set_option linter.unusedVariables false
namespace Go.Vx
open Go
section
variable {𝕋 : TTab} {cfg : Cfg} {R : Value → World → Prop}

/-- What is left behind a piece of code. -/
def PostX (st : St (Sh 𝕋 cfg.P R)) (K : Ex → St (Sh 𝕋 cfg.P R) → Prop) : Exit → Act → World → Prop := fun e a w => ∃ ex st', e = toExit ex ∧ Hist st st' ∧ RelA st' a ∧ RelW st' w ∧ K ex st'

def ExecSnd (𝕋 : TTab) (cfg : Cfg) (R : Value → World → Prop) (n : Nat) : Prop :=
  ∀ (fid : FuncId) (fn : Func) (c : Code) (st : St (Sh 𝕋 cfg.P R)) (K : Ex → St (Sh 𝕋 cfg.P R) → Prop), exec (𝔸 := Sh 𝕋 cfg.P R) cfg fid fn n c st K → ∀ (a : Act) (w : World), RelA st a → RelW st w → c.wp cfg.P (PostX st K) a w

theorem postX_hist {st st1 : St (Sh 𝕋 cfg.P R)} (h : Hist st st1) {K : Ex → St (Sh 𝕋 cfg.P R) → Prop} {e : Exit} {a : Act} {w : World} (hn : PostX st1 K e a w) : PostX st K e a w := by
  obtain ⟨ex, st', h0, h1, h2, h3, h4⟩ := hn
  exact ⟨ex, st', h0, h.trans h1, h2, h3, h4⟩

theorem postX_no_panic {st : St (Sh 𝕋 cfg.P R)} {K : Ex → St (Sh 𝕋 cfg.P R) → Prop} : ∀ c (a : Act) (w : World), ¬ PostX st K (.panic c) a w := by
  intro c a w
  rintro ⟨ex, st', h0, _⟩
  cases ex <;> cases h0

theorem initT_get {t : Nat} {x : Option (SVal (Sh 𝕋 cfg.P R))} : ∀ {args : List (SVal (Sh 𝕋 cfg.P R))} {k : Nat}, assoc (initT k args) t = some x → ∃ j v, t = k + j ∧ args[j]? = some v ∧ x = some v
  | [], k, h => by cases h
  | v :: vs, k, h => by
    simp only [initT, assoc] at h
    split at h
    · rename_i hb
      simp only [Option.some.injEq] at h
      exact ⟨0, v, (Nat.eq_of_beq_eq_true hb).symm, rfl, h.symm⟩
    · obtain ⟨j, u, h1, h2, h3⟩ := initT_get h
      exact ⟨j + 1, u, by omega, h2, h3⟩

/-- The frame of a call begun. -/
theorem begun_relA {st : St (Sh 𝕋 cfg.P R)} {args : List (SVal (Sh 𝕋 cfg.P R))} (hw : wfL st.bases.length args) (n : Nat) :
    RelA { st with tmps := initT 0 args, nt := args.length + (n - args.length) } { tmps := (denL (𝔸 := Sh 𝕋 cfg.P R) st.bases args).toArray ++ Array.replicate (n - (denL (𝔸 := Sh 𝕋 cfg.P R) st.bases args).toArray.size) undef, defers := [] } := by
  have hlen : (denL (𝔸 := Sh 𝕋 cfg.P R) st.bases args).length = args.length := denL_length _ _
  refine ⟨?_, ?_, rfl⟩
  · show ((denL (𝔸 := Sh 𝕋 cfg.P R) st.bases args).toArray ++ Array.replicate (n - (denL (𝔸 := Sh 𝕋 cfg.P R) st.bases args).toArray.size) undef).size = args.length + (n - args.length)
    rw [Array.size_append, Array.size_replicate, List.size_toArray, hlen]
  · intro t v hv
    have hv' : ∃ x, assoc (initT 0 args) t = some x ∧ x = some v := by
      have : (assoc (initT 0 args) t).bind id = some v := hv
      cases hq : assoc (initT 0 args) t with
      | none => rw [hq] at this; cases this
      | some x => rw [hq] at this; exact ⟨x, rfl, this⟩
    obtain ⟨x, hx, hxv⟩ := hv'
    obtain ⟨j, u, h1, h2, h3⟩ := initT_get hx
    rw [hxv, Option.some.injEq] at h3
    subst h3
    have htj : t = j := by omega
    subst htj
    have hlt : t < args.length := (List.getElem?_eq_some_iff.1 h2).1
    refine ⟨?_, ?_, ?_⟩
    · show t < args.length + (n - args.length)
      omega
    · show ((denL (𝔸 := Sh 𝕋 cfg.P R) st.bases args).toArray ++ Array.replicate _ undef)[t]? = _
      rw [Array.getElem?_append_left (by rw [List.size_toArray, hlen]; exact hlt), List.getElem?_toArray, denL_get, h2]
      rfl
    · rw [wfL_iff] at hw
      exact hw v (List.mem_of_getElem? h2)

theorem begun_relW {st : St (Sh 𝕋 cfg.P R)} {w : World} (hw : RelW st w) (t : List (Nat × Option (SVal (Sh 𝕋 cfg.P R)))) (n : Nat) : RelW { st with tmps := t, nt := n } w :=
  ⟨hw.relb, hw.dom, hw.inj, hw.locs, hw.frame⟩

theorem callS_ok {n : Nat} (hm : cfg.P.follows .mixedOrders = true) (ih : ExecSnd 𝕋 cfg R n) : CallSnd 𝕋 cfg R (n + 1) := by
  intro g args st K h hwf a w ha hw
  simp only [callS] at h
  split at h
  · exact h.elim
  · rename_i fn hfn
    split at h
    · exact h.elim
    · rename_i body hbody
      split at h
      · exact h.elim
      · split at h
        · have hx := ih _ _ _ _ _ h _ w (begun_relA hwf fn.ntmps) (begun_relW hw _ _)
          refine calls_of_wp hfn hbody ?_
          refine wp_mono hx ?_
          rintro e a' w' ⟨ex, st', rfl, h1, h2, h3, h4⟩
          have fin : ∀ v, resS (𝔸 := Sh 𝕋 cfg.P R) cfg.P st' fn = some v → K v { st' with tmps := st.tmps, nt := st.nt } → a'.defers = [] ∧ ∃ v, (results fn a'.tmps).run cfg.P w' = .ok v w' ∧ (fun (e : Ending) w' => ∃ v st', e = .returned (den (𝔸 := Sh 𝕋 cfg.P R) st'.bases v) ∧ Hist st st' ∧ RelA st' a ∧ RelW st' w' ∧ wf st'.bases.length v ∧ K v st') (.returned v) w' := by
            intro v hv h4
            · obtain ⟨k1, k2⟩ := resS_ok h2 h3 hv
              refine ⟨h2.defers, _, k1, v, { st' with tmps := st.tmps, nt := st.nt }, rfl, ⟨rfl, h1.bases, h1.ctr, ⟨[], rfl⟩, fun i b' hi hb hs => h1.same i b' hi hb hs⟩, ⟨ha.size, fun t u hu => ?_, ha.defers⟩, begun_relW h3 _ _, k2, h4⟩
              obtain ⟨j1, j2, j3⟩ := ha.tmps t u hu
              obtain ⟨e, he⟩ := h1.bases
              have he : st'.bases = st.bases ++ e := he
              refine ⟨j1, ?_, ?_⟩
              · show a.tmps[t]? = some (den (𝔸 := Sh 𝕋 cfg.P R) st'.bases u)
                rw [he, den_append _ _ _ j3]
                exact j2
              · show wf st'.bases.length u
                rw [he, List.length_append]
                exact wf_mono (Nat.le_add_right _ _) _ j3
          cases hres : resS (𝔸 := Sh 𝕋 cfg.P R) cfg.P st' fn with
          | none => cases ex <;> simp only [hres] at h4
          | some v =>
            cases ex <;> simp only [hres] at h4
            · exact fin v hres h4
            · exact fin v hres h4
        · split at h
          · exact h.elim
          · rename_i sh hsh
            obtain ⟨s1, hsame, hwe, hdd, h⟩ := atWorld_ok hw h
            obtain ⟨s2, g1, g2, g3, g4, g5, g6, g7, g8, h⟩ := letGo_ok (hsame.relA ha) (hsame.relW hw) hdd h
            have h : CallsV cfg.P g (denL (𝔸 := Sh 𝕋 cfg.P R) s2.bases args) s2.we s2.live _ := h
            unfold CallsV at h
            rw [g5] at h
            have hβ : s2.bases = st.bases := by rw [g6, hsame.bases]
            rw [← hβ]
            refine h.mono ?_
            rintro e w' ⟨r, rfl, hk, hK⟩
            obtain ⟨v, ⟨hr, hKv⟩, hv, _⟩ := mkSh_ex hK
            refine ⟨v, { s2 with we := w' }, ?_, (hsame.hist.trans g1).trans (we_hist _ _), we_relA g2 _, kept_relW g3 g4 hk, hv _, hKv⟩
            rw [hr]
            rfl

theorem atWorldIf_ok {st : St (Sh 𝕋 cfg.P R)} {a : Act} {w : World} (ha : RelA st a) (hw : RelW st w) {l : List Nat} {K : St (Sh 𝕋 cfg.P R) → Prop} (h : St.atWorldIf (𝔸 := Sh 𝕋 cfg.P R) st l K) :
    ∃ st', Hist st st' ∧ RelA st' a ∧ RelW st' w ∧ K st' := by
  unfold St.atWorldIf at h
  split at h
  · exact ⟨st, .refl _, ha, hw, h⟩
  · obtain ⟨s1, hsame, hwe, hdd, h⟩ := atWorld_ok hw h
    obtain ⟨s2, g1, g2, g3, g4, g5, g6, g7, g8, h⟩ := letGo_ok (hsame.relA ha) (hsame.relW hw) hdd h
    exact ⟨s2, hsame.hist.trans g1, g2, g3, h⟩

theorem bound_live {st : St (Sh 𝕋 cfg.P R)} {w : World} (hw : RelW st w) : Within st.live w := fun b hb => hw.dom b (live_sub _ _ _ _ hb)

theorem loop_ok {n : Nat} (ih : ExecSnd 𝕋 cfg R n) {fid : FuncId} {fn : Func} {b : Code} {st : St (Sh 𝕋 cfg.P R)} {K : Ex → St (Sh 𝕋 cfg.P R) → Prop} (h : exec (𝔸 := Sh 𝕋 cfg.P R) cfg fid fn (n + 1) (.loop b) st K) {a : Act} {w : World}
    (ha : RelA st a) (hw : RelW st w) : (Code.loop b).wp cfg.P (PostX st K) a w := by
  simp only [exec] at h
  obtain ⟨s0, hh0, ha0, hw0, h⟩ := atWorldIf_ok ha hw h
  clear ha hw
  split at h
  · rename_i blks vs hblks hvs
    split at h
    · exact h.elim
    · rename_i kss hkss
      split at h
      · rename_i i1 i2 hi1 hi2
        obtain ⟨J, mu, h⟩ := h
        obtain ⟨hstart, hround⟩ := h
        obtain ⟨s1, hsame, hwe, hdd, hstart⟩ := atWorld_ok hw0 hstart
        rw [hwe] at hstart
        generalize hcar : carryS (𝔸 := Sh 𝕋 cfg.P R) cfg.P fn b s0 (look2 cfg.drop fid ((firstRegion b).getD 0)) (assigned b) [] = carry at *
        generalize hhav : (look2 cfg.hav fid ((firstRegion b).getD 0) ++ ((turnedS (𝔸 := Sh 𝕋 cfg.P R) s0 (opsOf b) (opsOf b)).getD [])) = hav at *
        refine wp_loop_ghost (fun k a w => ∃ xs yss n1 n2, CanonL (carry.map (·.2)) xs ∧ CanonLL kss yss ∧ (∀ β, atomsL (𝔸 := Sh 𝕋 cfg.P R) β (carry.map (·.2)) xs = some n1) ∧ (∀ β, atomsLL (𝔸 := Sh 𝕋 cfg.P R) β kss yss = some n2) ∧
          RelA (roundSt s0 carry (assigned b) blks xs yss w) a ∧ RelW (roundSt s0 carry (assigned b) blks xs yss w) w ∧ happ (fun _ => False) (((carry.map (·.2)) ++ kss.flatten).flatMap CK.aks) J (n1 ++ n2) w ∧ k = happ (fun _ => 0) (((carry.map (·.2)) ++ kss.flatten).flatMap CK.aks) mu (n1 ++ n2) w) (happ (fun _ => 0) (((carry.map (·.2)) ++ kss.flatten).flatMap CK.aks) mu (i1 ++ i2) w) ?_ ?_
        · obtain ⟨xs, yss, h1, h2, h3, h4, h5, h6⟩ := round_rel (asg := assigned b) ha0 hw0 ha0 hw0 (e := []) (by simp) rfl (fun _ _ _ _ h => h) (fun _ _ _ h => h) hvs hi1 hblks hblks (sameElems_refl _) hi2
          exact ⟨xs, yss, i1, i2, h1, h2, h3, h4, h5, h6, hstart, rfl⟩
        · rintro k a1 w1 ⟨xs, yss, n1, n2, h1, h2, h3, h4, h5, h6, h7, rfl⟩
          have hb := mkLL_all (mkL_all hround h1) h2 w1 (fun b hb => bound_live h6 b hb)
          rw [h3, h4] at hb
          have hb := hb h7
          have hx := ih _ _ _ _ _ hb a1 w1 h5 h6
          refine wp_mono hx ?_
          rintro e a2 w2 ⟨ex, st', rfl, k1, k2, k3, k4⟩
          cases ex with
          | ret => exact ⟨.ret, st', rfl, hh0.trans ((round_hist hblks).trans k1), k2, k3, k4⟩
          | exit i => exact ⟨.exit i, st', rfl, hh0.trans ((round_hist hblks).trans k1), k2, k3, k4⟩
          | normal =>
            simp only at k4
            split at k4
            · rename_i hck
              simp only [Bool.and_eq_true] at hck
              split at k4
              · rename_i vs' blks' hvs' hblks'
                split at k4
                · rename_i hse
                  split at k4
                  · rename_i m1 m2 hm1 hm2
                    obtain ⟨s2, hsame2, hwe2, _, k5, k6⟩ := atWorld_ok k3 k4
                    rw [hwe2] at k5 k6
                    have hks : ∀ t, memA (assigned b) t = false → memN (carry.map (·.1)) t = false → ∀ v, s0.get t = some v → st'.get t = some v := by
                      intro t ht1 ht2 v hv
                      obtain ⟨pre, hpre⟩ := k1.tmps
                      have hpre : st'.tmps = pre ++ putAll carry xs (forget (assigned b) s0.tmps) := hpre
                      have hki := hck.1
                      have htk : st'.tmps.take (st'.tmps.length - (putAll carry xs (forget (assigned b) s0.tmps)).length) = pre := by
                        rw [hpre, List.length_append, Nat.add_sub_cancel, List.take_left']
                        rfl
                      have hki : keysIn (𝔸 := Sh 𝕋 cfg.P R) (assigned b) pre = true := by rw [← htk]; exact hki
                      unfold St.get at hv ⊢
                      rw [hpre, keysIn_get ht1 _ hki, putAll_miss ht2, forget_get, ht1]
                      exact hv
                    have hls : ∀ i bb, memN hav i = false → s0.loc? i = some bb → st'.loc? i = some bb := by
                      intro i bb hi hbb
                      have hlt := (hw0.locs i bb hbb).1
                      obtain ⟨b', hb1, hb2⟩ := sameLocs_ok hck.2 i bb hlt hi hbb
                      have := k1.same i b' hlt hb1 hb2
                      rw [hb1]
                      have hround : ∀ (blks : List (Nat × Blk (Sh 𝕋 cfg.P R))) (yss : List (List (SVal (Sh 𝕋 cfg.P R)))) (hav : List Nat), memN hav i = false → havBlks s0 hav = some blks → assoc (havSet s0.ctr blks yss ++ s0.locs) i = assoc s0.locs i := by
                        intro blks
                        induction blks with
                        | nil => intro yss hav _ _; cases yss <;> rfl
                        | cons x blks ihb =>
                          intro yss hav hh hbl
                          cases hav with
                          | nil => simp [havBlks] at hbl
                          | cons k hav =>
                            simp only [havBlks] at hbl
                            split at hbl
                            · rename_i c r hc hr
                              simp only [Option.some.injEq, List.cons.injEq] at hbl
                              obtain ⟨rfl, rfl⟩ := hbl
                              simp only [memN, Bool.or_eq_false_iff] at hh
                              cases yss with
                              | nil => rfl
                              | cons ys yss =>
                                simp only [havSet, List.cons_append, assoc, hh.1, Bool.false_eq_true, if_false]
                                exact ihb yss hav hh.2 hr
                            · cases hbl
                      have hrel : memN s0.rel i = false := by
                        unfold St.loc? at hbb
                        cases hm : memN s0.rel i with
                        | true => simp [hm] at hbb
                        | false => rfl
                      have h1 : (roundSt s0 carry (assigned b) blks xs yss w1).loc? i = assoc (havSet s0.ctr blks yss ++ s0.locs) i := by
                        unfold St.loc?
                        show (if memN s0.rel i then none else _) = _
                        rw [hrel]
                        rfl
                      have h2 : s0.loc? i = assoc s0.locs i := by
                        unfold St.loc?
                        rw [hrel]
                        rfl
                      have this : (roundSt s0 carry (assigned b) blks xs yss w1).loc? i = some b' := this
                      rw [h1, hround _ _ _ hi hblks, ← h2, hbb] at this
                      exact this.symm
                    obtain ⟨e2, he2⟩ := k1.bases
                    obtain ⟨xs', yss', j1, j2, j3, j4, j5, j6⟩ := round_rel (asg := assigned b) ha0 hw0 k2 k3 (e := e2) he2 k1.nt (fun t v g1 g2 g3 => hks t g1 g2 v g3) hls hvs' hm1 hblks hblks' hse hm2
                    exact ⟨_, k6, xs', yss', m1, m2, j1, j2, j3, j4, j5, j6, k5, rfl⟩
                  · exact k4.elim
                · exact k4.elim
              · exact k4.elim
            · exact k4.elim
      · exact h.elim
  · exact h.elim

theorem exec_ok {N : Nat} (hm : cfg.P.follows .mixedOrders = true) (ihE : ∀ n, n ≤ N → ExecSnd 𝕋 cfg R n) (ihC : ∀ n, n ≤ N → CallSnd 𝕋 cfg R n) : ExecSnd 𝕋 cfg R (N + 1) := by
  intro fid fn c st K h a w ha hw
  have hOp : ∀ n, n < N → ∀ {ops : Array Oper} {i : Nat} {o : Oper}, ops[i]? = some o → ∀ {a : Act} {st : St (Sh 𝕋 cfg.P R)} {w : World}, RelA st a → RelW st w → ∀ {K : St (Sh 𝕋 cfg.P R) → Prop},
      execOp1 (𝔸 := Sh 𝕋 cfg.P R) cfg n ops o st K → ∀ {Q : Exit → Act → World → Prop}, wpOp cfg.P ops Q i (fun a' w' => Moves cfg.P o.op w w' ∧ Nx st K a' w') a w := by
    intro n hn ops i o hi a st w ha hw K h Q
    match n, h, hn with
    | 0, h, _ => exact h.elim
    | n + 1, h, hn =>
      refine execOp1_ok ?_ hi ha hw h
      intro o a st w ha hw hd K h Q
      match n, h, hn with
      | 0, h, _ => exact h.elim
      | n + 1, h, hn => exact execOpN_ok (ihC n (by omega)) ha hw hd h
  cases c with
  | skip => exact wp_skip ⟨.normal, st, rfl, .refl _, ha, hw, by simpa only [exec] using h⟩
  | label l => exact wp_label ⟨.normal, st, rfl, .refl _, ha, hw, by simpa only [exec] using h⟩
  | ret => exact wp_ret ⟨.ret, st, rfl, .refl _, ha, hw, by simpa only [exec] using h⟩
  | exit i => exact wp_exit ⟨.exit i, st, rfl, .refl _, ha, hw, by simpa only [exec] using h⟩
  | seq x y =>
    simp only [exec] at h
    refine wp_seq (wp_mono (ihE N (Nat.le_refl _) _ _ _ _ _ h a w ha hw) ?_)
    rintro e a' w' ⟨ex, st', rfl, h1, h2, h3, h4⟩
    cases ex with
    | normal => exact wp_mono (ihE N (Nat.le_refl _) _ _ _ _ _ h4 a' w' h2 h3) (fun e a w hp => postX_hist h1 hp)
    | exit i => exact ⟨.exit i, st', rfl, h1, h2, h3, h4⟩
    | ret => exact ⟨.ret, st', rfl, h1, h2, h3, h4⟩
  | cond x y z =>
    simp only [exec] at h
    split at h
    · rename_i hx
      exact wp_cond_true (by rw [(opd_ok ha hx).1]; rfl) (ihE N (Nat.le_refl _) _ _ _ _ _ h a w ha hw)
    · rename_i hx
      exact wp_cond_false (by rw [(opd_ok ha hx).1]; rfl) (ihE N (Nat.le_refl _) _ _ _ _ _ h a w ha hw)
    · rename_i c hx
      have hev : a.eval x = .bool c := (opd_ok ha hx).1
      exact wp_cond_split hev (fun hc => ihE N (Nat.le_refl _) _ _ _ _ _ (h.1 hc) a w ha hw) (fun hc => ihE N (Nat.le_refl _) _ _ _ _ _ (h.2 hc) a w ha hw)
    · exact h.elim
  | block id x =>
    simp only [exec] at h
    refine wp_block (wp_mono (ihE N (Nat.le_refl _) _ _ _ _ _ h a w ha hw) ?_)
    rintro e a' w' ⟨ex, st', rfl, h1, h2, h3, h4⟩
    cases ex with
    | normal => exact ⟨.normal, st', rfl, h1, h2, h3, h4⟩
    | ret => exact ⟨.ret, st', rfl, h1, h2, h3, h4⟩
    | exit i =>
      show if i = id then _ else _
      simp only at h4
      split at h4
      · rename_i hb
        rw [if_pos (Nat.eq_of_beq_eq_true hb)]
        exact ⟨.normal, st', rfl, h1, h2, h3, h4⟩
      · rename_i hb
        rw [if_neg (fun e => hb (by rw [e]; exact Nat.beq_refl _))]
        exact ⟨.exit i, st', rfl, h1, h2, h3, h4⟩
  | region id ops asks =>
    cases asks with
    | false =>
      simp only [exec] at h
      refine wp_region ?_
      rw [List.range_eq_range', ← Array.length_toList]
      refine execOps_ok (N := N) (fun n hn => hOp n hn) N ops.toList 0 (Nat.le_refl _) (fun j => by simp) ha hw h ?_
      rintro a' w' ⟨st', h1, h2, h3, h4⟩
      exact ⟨.normal, st', rfl, h1, h2, h3, h4⟩
    | true =>
      simp only [exec] at h
      split at h
      · rename_i hsel
        have hw1 := drew_relW hw
        have ha1 : RelA { st with dirty := true } a := ⟨ha.size, ha.tmps, ha.defers⟩
        have hh1 : Hist st { st with dirty := true } := ⟨rfl, ⟨[], by simp⟩, Nat.le_refl _, ⟨[], rfl⟩, fun _ _ _ h _ => h⟩
        have hb : Begun ({ st with dirty := true } : St (Sh 𝕋 cfg.P R)) (stableS st (turnedS (𝔸 := Sh 𝕋 cfg.P R) st ops.toList ops.toList)) := Begun.of hw1 _
        have hx := (execD_ok (Q := PostX st K) (K := fun st' => K .normal st') (N := N) hsel hb (fun c a w => postX_no_panic c a w) ?_ (fun n hn => hOp n hn) N (Nat.le_refl _)).1 _ _ _ a _ (Closed.start _) (.refl _) (fun j _ => rfl) ha1 hw1 h
        · exact wp_region_any hm (wpAny_of_E _ _ _ _ hx)
        · rintro a' w' ⟨st', h1, h2, h3, h4⟩
          exact ⟨.normal, st', rfl, hh1.trans h1, h2, h3, h4⟩
      · exact h.elim
  | loop b => exact loop_ok (ihE N (Nat.le_refl _)) h ha hw
  | _ => simp only [exec] at h

theorem all_ok (hm : cfg.P.follows .mixedOrders = true) : ∀ N, (∀ n, n ≤ N → ExecSnd 𝕋 cfg R n) ∧ (∀ n, n ≤ N → CallSnd 𝕋 cfg R n)
  | 0 => by
    constructor
    · intro n hn fid fn c st K h
      have : n = 0 := by omega
      subst this
      exact h.elim
    · intro n hn g args st K h
      have : n = 0 := by omega
      subst this
      exact h.elim
  | N + 1 => by
    obtain ⟨h1, h2⟩ := all_ok hm N
    constructor
    · intro n hn
      rcases Nat.lt_or_ge n (N + 1) with h | h
      · exact h1 n (by omega)
      · have : n = N + 1 := by omega
        subst this
        exact exec_ok hm h1 h2
    · intro n hn
      rcases Nat.lt_or_ge n (N + 1) with h | h
      · exact h2 n (by omega)
      · have : n = N + 1 := by omega
        subst this
        exact callS_ok hm (h1 N (Nat.le_refl _))

end

/-- **What the executor makes of a function and its arguments implies what it says of the call.** -/
theorem execF_ok {𝕋 : TTab} (cfg : Cfg) (hm : cfg.P.follows .mixedOrders = true) {R : Value → World → Prop} {f : FuncId} {args : List (SVal (Sh 𝕋 cfg.P R))} {w : World} (hwf : wfL 0 args) (h : execF (𝔸 := Sh 𝕋 cfg.P R) cfg f args w) :
    Calls cfg.P f (denL (𝔸 := Sh 𝕋 cfg.P R) [] args).toArray w fun e w' => ∃ v, e = .returned v ∧ R v w' := by
  unfold execF at h
  split at h
  · exact h.elim
  · rename_i fn hfn
    split at h
    · exact h.elim
    · rename_i body hbody
      refine calls_of_wp hfn hbody ?_
      have hw0 : RelW (𝕋 := 𝕋) (P := cfg.P) (R := R) { tmps := [], nt := 0, locs := [], bases := [], ctr := 0, we := w, dirty := false, rel := [] } w :=
        ⟨(fun i hi => by cases hi), (fun b hb => by cases hb), List.nodup_nil, (fun i b hb => by simp [St.loc?, assoc, memN] at hb), by simp⟩
      have ha := begun_relA (st := { tmps := [], nt := 0, locs := [], bases := [], ctr := 0, we := w, dirty := false, rel := [] }) (cfg := cfg) (R := R) (args := args) hwf fn.ntmps
      have hx := (all_ok hm 100000).1 100000 (Nat.le_refl _) _ _ _ _ _ h _ w ha (begun_relW hw0 _ _)
      refine wp_mono hx ?_
      rintro e a' w' ⟨ex, st', rfl, h1, h2, h3, h4⟩
      have fin : ∀ v, resS (𝔸 := Sh 𝕋 cfg.P R) cfg.P st' fn = some v → finishS (𝔸 := Sh 𝕋 cfg.P R) st' v → a'.defers = [] ∧ ∃ v, (results fn a'.tmps).run cfg.P w' = .ok v w' ∧ ∃ u, Ending.returned v = .returned u ∧ R u w' := by
        intro v hv h4
        · obtain ⟨k1, k2⟩ := resS_ok h2 h3 hv
          refine ⟨h2.defers, _, k1, _, rfl, ?_⟩
          unfold finishS at h4
          obtain ⟨s1, hsame, hwe, hdd, h4⟩ := atWorld_ok h3 h4
          have h4 := holdsS_ok (by rw [hwe]; exact hsame.relW h3) h4
          have h4 : R (s1.den v) s1.we := h4
          rw [hwe] at h4
          unfold St.den at h4
          rw [hsame.bases] at h4
          exact h4
      cases hres : resS (𝔸 := Sh 𝕋 cfg.P R) cfg.P st' fn with
      | none => cases ex <;> simp only [hres] at h4
      | some v =>
        cases ex <;> simp only [hres] at h4
        · exact fin v hres h4
        · exact fin v hres h4

mutual
/-- Does a value lead to no block of the call's own? For the kernel to look up. -/
def wfB {𝕋 : TTab} {P : Program} {R : Value → World → Prop} : SVal (Sh 𝕋 P R) → Bool
  | .loc _ _ => false
  | .lsl _ _ _ _ => false
  | .func _ a b => wfBL a && wfBL b
  | .iface _ v => wfB v
  | .agg cs => wfBL cs
  | .tuple cs => wfBL cs
  | .val _ => false
  | _ => true
def wfBL {𝕋 : TTab} {P : Program} {R : Value → World → Prop} : List (SVal (Sh 𝕋 P R)) → Bool
  | [] => true
  | v :: vs => wfB v && wfBL vs
end
mutual
theorem wfB_ok {𝕋 : TTab} {P : Program} {R : Value → World → Prop} : (v : SVal (Sh 𝕋 P R)) → wfB v = true → wf 0 v
  | .loc _ _, h => by simp [wfB] at h
  | .lsl _ _ _ _, h => by simp [wfB] at h
  | .func _ a b, h => by
    simp only [wfB, Bool.and_eq_true] at h
    exact ⟨wfBL_ok a h.1, wfBL_ok b h.2⟩
  | .iface _ v, h => by
    simp only [wfB] at h
    simp only [wf]
    exact wfB_ok v h
  | .agg cs, h => by
    simp only [wfB] at h
    simp only [wf]
    exact wfBL_ok cs h
  | .tuple cs, h => by
    simp only [wfB] at h
    simp only [wf]
    exact wfBL_ok cs h
  | .val _, h => by simp [wfB] at h
  | .int _ _, _ | .lit _ _, _ | .bool _, _ | .known _, _ | .str _, _ | .ptr _, _ | .iter _ _, _ | .addr _ _, _ | .nilp, _ | .slice _ _ _, _ | .nils, _ | .map _, _ | .nilm, _ | .nilf, _ | .nili, _ => trivial
theorem wfBL_ok {𝕋 : TTab} {P : Program} {R : Value → World → Prop} : (vs : List (SVal (Sh 𝕋 P R))) → wfBL vs = true → wfL 0 vs
  | [], _ => trivial
  | v :: vs, h => by
    simp only [wfBL, Bool.and_eq_true] at h
    exact ⟨wfB_ok v h.1, wfBL_ok vs h.2⟩
end

/-- The law of a call, its parts looked up by the kernel. -/
theorem callsOf {𝕋 : TTab} (cfg : Cfg) (hm : cfg.P.follows .mixedOrders = true) {R : Value → World → Prop} {f : FuncId} {args : List (SVal (Sh 𝕋 cfg.P R))} {w : World} {dens : List Value} {NF : Prop}
    (hd : denL (𝔸 := Sh 𝕋 cfg.P R) [] args = dens) (hw : wfBL args = true) (hn : execF (𝔸 := Sh 𝕋 cfg.P R) cfg f args w = NF) (h : NF) :
    Calls cfg.P f dens.toArray w fun e w' => ∃ v, e = .returned v ∧ R v w' := by
  subst hd
  exact execF_ok cfg hm (wfBL_ok _ hw) (Eq.mpr hn h)

end Go.Vx
