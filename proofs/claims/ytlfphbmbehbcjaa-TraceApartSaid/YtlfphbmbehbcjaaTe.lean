/- What is learned of an object: each step of it, in memory. -/
import Derived.Test.YtlfphbmbehbcjaaTd
set_option linter.unusedSimpArgs false
set_option linter.unusedVariables false
namespace Go.Proofs.Ytlfphbmbehbcjaa
open Go Go.Vx

theorem app58 : appOk Try.prog 58 60 19 = true := by kernel_rfl
theorem app46 : appOk Try.prog 46 63 2 = true := by kernel_rfl
abbrev TCs := List (Int × Sl × List GKey)
abbrev FCs := List (GKey × Sl × List (Int × GDesc))
def fcK (FC : FCs) : List (GKey × Value) := FC.map fun c => (c.1, c.2.1.val)
def fcA (FC : FCs) : List (GKey × List (Int × GDesc)) := FC.map fun c => (c.1, c.2.2)

/-- The entry of a key among the rows. -/
theorem fc_entry (k : GKey) (FC : FCs) : ∃ (FC1 : FCs) (i : Nat) (v0 : Sl) (hs0 : List (Int × GDesc)), FC1[i]? = some (k, v0, hs0) ∧ entK k (.slice none 0 0) (fcK FC) = fcK FC1 ∧ idxK k (fcK FC) = i ∧ (getK k (fcK FC)).getD (.slice none 0 0) = v0.val ∧
    (getA k (fcA FC)).getD [] = hs0 ∧ (∀ (j : Nat) (c : GKey × Sl × List (Int × GDesc)), FC1[j]? = some c → FC[j]? = some c ∨ c = (k, ⟨none, 0, 0⟩, [])) ∧ ∀ v y, putA k y (fcA FC) = fcA (FC1.set i (k, v, y)) := by
  have main : (∃ i c, FC[i]? = some c ∧ c.1 = k ∧ findK k (fcK FC) = some i ∧ getK k (fcK FC) = some c.2.1.val ∧ getA k (fcA FC) = some c.2.2 ∧ ∀ v y, putA k y (fcA FC) = fcA (FC.set i (k, v, y))) ∨
      (findK k (fcK FC) = none ∧ getK k (fcK FC) = none ∧ getA k (fcA FC) = none ∧ ∀ v y, putA k y (fcA FC) = fcA (FC ++ [(k, v, y)])) := by
    induction FC with
    | nil => exact .inr ⟨rfl, rfl, rfl, fun _ _ => rfl⟩
    | cons c FC ih =>
      simp only [fcK, fcA, List.map_cons, findK, getK, getA, putA] at ih ⊢
      by_cases hk : k = c.1
      · simp only [hk, if_true]
        exact .inl ⟨0, c, rfl, rfl, rfl, rfl, rfl, fun v y => by simp [fcA]⟩
      · simp only [hk, if_false]
        rcases ih with ⟨i, d, h1, h2, h3, h4, h5, h6⟩ | ⟨h3, h4, h5, h6⟩
        · exact .inl ⟨i + 1, d, by simpa using h1, h2, by rw [h3]; rfl, h4, h5, fun v y => by rw [h6 v y]; simp [fcA]⟩
        · exact .inr ⟨by rw [h3]; rfl, h4, h5, fun v y => by rw [h6 v y]; simp [fcA]⟩
  rcases main with ⟨i, c, h1, h2, h3, h4, h5, h6⟩ | ⟨h3, h4, h5, h6⟩
  · refine ⟨FC, i, c.2.1, c.2.2, by rw [h1, ← h2], by simp [entK, h3], by simp [idxK, h3], by rw [h4]; rfl, by rw [h5]; rfl, fun j c h => .inl h, h6⟩
  · refine ⟨FC ++ [(k, ⟨none, 0, 0⟩, [])], FC.length, ⟨none, 0, 0⟩, [], by simp, by unfold entK; rw [h3]; simp [fcK, Sl.val], by unfold idxK; rw [h3]; simp [fcK], by rw [h4]; rfl, by rw [h5]; rfl, fun j c h => ?_, fun v y => ?_⟩
    · by_cases hj : j < FC.length
      · rw [List.getElem?_append_left hj] at h; exact .inl h
      · rw [List.getElem?_append_right (by omega)] at h
        have := (List.getElem?_eq_some_iff.1 h)
        obtain ⟨hlt, hv⟩ := this
        simp at hlt
        have hj2 : j = FC.length := by omega
        subst hj2
        simp at hv
        exact .inr hv.symm
    · rw [h6 v y]
      congr 1
      rw [List.set_append_right _ _ (Nat.le_refl _)]
      simp

section
variable {O O1 : Owner} {id : Nat} {w w1 : World} {x : Addr} {F : Fx} {L : List Nat} {b g f : Nat} {vk : Sl} {TC : TCs} {FC : FCs}

/-- A property that stays is learned. -/
theorem fast_step (hP : Ps O id w L O1 w1) (h1 : RepF' O1 id w1 x F b g f vk TC FC) (ht : ∀ t ∈ TC, Imm O w t.2.1.p t.2.1.l GKey.cells 2 t.2.2) {n : Nat} (hs : Short F n) (hn : n + 1 ≤ 1000000) (k : GKey) (at_ : Int) (d : GDesc) {K : World → Prop}
    (hK : ∀ O' w' FC', Ps O id w L O' w' → RepF' O' id w' x { F with fast := putA k ((getA k F.fast).getD [] ++ [(at_, d)]) F.fast } b g f vk TC FC' → K w') :
    ∃ m7 : Option Nat, CellsAt w1 x 7 [(.map m7)] ∧ ∀ k8 : Nat, Fresh w1 L k8 → ∀ w9 : World, Framed (L ++ [k8]) w1 w9 → ∃ p10 : Option Addr, ∃ n11 n12 : Nat, ∃ i13 : Int,
      ∃ w14 : World, Sem.run Try.prog (GOp.sem (.mapEntry 45 (.map m7) (GKey.val k))) w9 = .ok (.tuple #[(.slice p10 n11 n12), (.int .i64 i13)]) w14 ∧ Kept (L ++ [k8]) w9 w14 ∧
      (w14.heap[(k8 : Nat)]? = some (.cells (GTraceHeld.cells ⟨at_, d⟩).toArray 60 (0, 0)) →
      ∃ p15 : Option Addr, ∃ n16 n17 : Nat, ∃ w18 : World, Sem.run Try.prog (GOp.sem (.builtin .append #[58, 58] 58 [(.slice p10 n11 n12), (.slice (some ⟨k8, 0, none⟩) 1 1)])) w14 = .ok (.slice p15 n16 n17) w18 ∧ Kept L w14 w18 ∧
      ∃ w19 : World, Sem.run Try.prog (GOp.sem (.entryStore 45 (.map m7) (.int .i64 i13) (.slice p15 n16 n17))) w18 = .ok (.tuple #[]) w19 ∧ Kept L w18 w19 ∧ K w19) := by
  refine ⟨some f, h1.read rfl, ?_⟩
  rintro k8 ⟨f8, n8⟩ w9 g9
  have hnew : ∀ k ∈ L ++ [k8], k ∈ L ∨ w1.heap.size ≤ k := mem_snoc_new f8
  have P9 := hP.frame hnew g9
  have h9 : RepF' O1 id w9 x F b g f vk TC FC := h1.move' (fun k t hk => hP.owned hnew g9 hk) (fun t hh => (ht t hh).step P9.step)
  obtain ⟨FC1, i, v0, hs0, c1, c2, c3, c4, c5, c6, c7⟩ := fc_entry k FC
  obtain ⟨st, w14, r1, r2, r3, r4, r5, r6, r7⟩ := run_entryK key_fit Try.underlying45 (l := fcK FC) h9.fast (z := .slice none 0 0) zero58 k
  rw [c4] at r1
  rw [c2, c3] at r2
  have T14 : Tch O1 O1 (id, 3, 0, 0) w9 w14 := (Only.of_eq r3 r4 r5 r6 r7).touch P9.dom h9.ownF
  have P14 := P9.move (T14.step rfl)
  refine ⟨v0.p, v0.l, v0.c, st, w14, r1, P9.kept (T14.step rfl), fun hk8 => ?_⟩
  -- the row that grows
  have row0 : w9.ownsRow 0 60 19 v0.val hs0.length (hs0.flatMap heldL) ∧ ∀ q, v0.val.ownBlock = some q → O1 q = some (id, 4, i, 0) := by
    rcases c6 i _ c1 with e | e
    · exact h9.rows i _ e
    · simp only [Prod.mk.injEq] at e
      rw [e.2.1, e.2.2]
      exact ⟨⟨rfl, .inl ⟨rfl, rfl⟩⟩, fun q hq => by cases hq⟩
  have row14 : w14.ownsRow 0 60 19 v0.val hs0.length (hs0.flatMap heldL) := row_kept row0.1 fun q hq => (T14.other q _ (row0.2 q hq) (by simp)).2
  have hlen : hs0.length ≤ n := by
    rw [← c5]
    show ((getA k (FC.map fun c => (c.1, c.2.2))).getD []).length ≤ n
    cases hg : getA k (FC.map fun c => (c.1, c.2.2)) with
    | none => simp
    | some l =>
      have := getA_mem hg
      rw [← h9.facts] at this
      exact hs.2.2 _ this
  obtain ⟨p, c, w18, O2, a1, a2, a3, T18, a5⟩ := row_grow app58 row14 row0.2 P14.dom (k := k8) (news := heldL (at_, d)) hk8 rfl (by
    intro u hu
    simp only [heldL, GTraceHeld.cells, GDesc.cells, GValue.cells, List.mem_append, List.mem_cons, List.not_mem_nil, or_false] at hu
    rcases hu with rfl | ((((rfl | rfl | rfl | rfl | rfl | rfl) | rfl | rfl | rfl) | rfl | rfl | rfl) | rfl | rfl | rfl) | rfl | rfl | rfl <;> rfl) (by omega) 58
  have P18 := P14.move (T18.step rfl)
  refine ⟨p, hs0.length + 1, c, w18, a1, (P14.sub fun q hq => List.mem_append_left _ hq).kept (T18.step rfl), ?_⟩
  have hf18 := T18.other f _ h9.ownF (by simp)
  have hkl : (fcK FC1)[i]? = some (k, v0.val) := by unfold fcK; rw [List.getElem?_map, c1]; rfl
  obtain ⟨w19, s1, s2, s3, s4, s5, s6, s7⟩ := run_entryStore (P := Try.prog) (t := 45) (r2.kept hf18.2) hkl (.slice p (hs0.length + 1) c)
  have T19 : Tch O2 O2 (id, 3, 0, 0) w18 w19 := (Only.of_eq s3 s4 s5 s6 s7).touch P18.dom hf18.1
  have P19 := P18.move (T19.step rfl)
  refine ⟨w19, s1, (P18.sub fun q hq => List.mem_append_left _ hq).kept (T19.step rfl), ?_⟩
  have keep : ∀ q t, O1 q = some (id, t) → t ≠ (3, 0, 0) → t ≠ (4, i, 0) → O2 q = some (id, t) ∧ w19.heap[q]? = w9.heap[q]? := by
    intro q t hq e1 e2
    obtain ⟨y1, y2⟩ := T14.other q _ hq (by simpa using e1)
    obtain ⟨y3, y4⟩ := T18.other q _ y1 (by simpa using e2)
    obtain ⟨y5, y6⟩ := T19.other q _ y3 (by simpa using e1)
    exact ⟨y5, y6.trans (y4.trans y2)⟩
  refine hK O2 w19 (FC1.set i (k, ⟨p, hs0.length + 1, c⟩, hs0 ++ [(at_, d)])) (P19.sub fun q hq => List.mem_append_left _ hq) ⟨h9.at_, (keep _ _ h9.own (by simp) (by simp)).1, by rw [(keep _ _ h9.own (by simp) (by simp)).2]; exact h9.cells, (keep _ _ h9.ownG (by simp) (by simp)).1, h9.gone.kept (keep _ _ h9.ownG (by simp) (by simp)).2,
    row_kept h9.rowK (fun q hq => (keep _ _ (h9.ownK q hq) (by simp) (by simp)).2), fun q hq => (keep _ _ (h9.ownK q hq) (by simp) (by simp)).1, h9.keys, fun t hh => (ht t hh).step P19.step, hf18.1, ?_, ?_, fun j cc hj => ?_⟩
  · have e : (FC1.set i (k, ⟨p, hs0.length + 1, c⟩, hs0 ++ [(at_, d)])).map (fun c => (c.1, c.2.1.val)) = (fcK FC1).set i (k, .slice p (hs0.length + 1) c) := by
      unfold fcK
      rw [List.map_set]
      rfl
    rw [e]
    exact s2
  · show putA k ((getA k F.fast).getD [] ++ [(at_, d)]) F.fast = _
    rw [h9.facts]
    have := c7 ⟨p, hs0.length + 1, c⟩ (hs0 ++ [(at_, d)])
    rw [show (getA k (FC.map fun c => (c.1, c.2.2))).getD [] = hs0 from c5]
    exact this
  · by_cases hji : i = j
    · subst hji
      have hlt : i < FC1.length := (List.getElem?_eq_some_iff.1 c1).1
      rw [List.getElem?_set_self hlt, Option.some.injEq] at hj
      subst hj
      refine ⟨?_, fun q hq => (T19.other q _ (a3 q hq) (by simp)).1⟩
      have : (hs0 ++ [(at_, d)]).flatMap heldL = hs0.flatMap heldL ++ heldL (at_, d) := by simp
      simp only [List.length_append, List.length_cons, List.length_nil, Nat.zero_add]
      rw [this]
      exact row_kept a2 fun q hq => (T19.other q _ (a3 q hq) (by simp)).2
    · rw [List.getElem?_set_ne hji] at hj
      rcases c6 j cc hj with e | e
      · obtain ⟨y1, y2⟩ := h9.rows j cc e
        exact ⟨row_kept y1 fun q hq => (keep _ _ (y2 q hq) (by simp) (by simp; omega)).2, fun q hq => (keep _ _ (y2 q hq) (by simp) (by simp; omega)).1⟩
      · rw [e]
        exact ⟨⟨rfl, .inl ⟨rfl, rfl⟩⟩, fun q hq => by cases hq⟩

/-- That a key is not there is learned. -/
theorem gone_step (hP : Ps O id w L O1 w1) (h1 : RepF' O1 id w1 x F b g f vk TC FC) (ht : ∀ t ∈ TC, Imm O w t.2.1.p t.2.1.l GKey.cells 2 t.2.2) (k : GKey) (at_ : Int) {K : World → Prop}
    (hK : ∀ w', Ps O id w L O1 w' → RepF' O1 id w' x { F with gone := putA k at_ F.gone } b g f vk TC FC → K w') :
    ∀ w25 : World, Framed L w1 w25 → ∃ m26 : Option Nat, CellsAt w25 x 5 [(.map m26)] ∧ ∃ w27 : World, Sem.run Try.prog (GOp.sem (.mapUpdate 44 (.map m26) (GKey.val k) (.int .i64 at_))) w25 = .ok (.tuple #[]) w27 ∧ Kept L w25 w27 ∧ K w27 := by
  intro w25 g25
  have hnew : ∀ k ∈ L, k ∈ L ∨ w1.heap.size ≤ k := fun k hk => .inl hk
  have P25 := hP.frame hnew g25
  have h25 : RepF' O1 id w25 x F b g f vk TC FC := h1.move' (fun k t hk => hP.owned hnew g25 hk) (fun t hh => (ht t hh).step P25.step)
  obtain ⟨w27, s1, s2, s3, s4, s5, s6, s7⟩ := run_updateK key_fit Try.underlying44 h25.gone k (.int .i64 at_)
  have T27 : Tch O1 O1 (id, 1, 0, 0) w25 w27 := (Only.of_eq s3 s4 s5 s6 s7).touch P25.dom h25.ownG
  have P27 := P25.move (T27.step rfl)
  refine ⟨some g, h25.read rfl, w27, s1, P25.kept (T27.step rfl), hK w27 P27 ?_⟩
  have keep : ∀ q t, O1 q = some (id, t) → t ≠ (1, 0, 0) → O1 q = some (id, t) ∧ w27.heap[q]? = w25.heap[q]? := fun q t hq e => T27.other q _ hq (by simpa using e)
  refine ⟨h25.at_, h25.own, by rw [(keep _ _ h25.own (by simp)).2]; exact h25.cells, h25.ownG, ?_, row_kept h25.rowK (fun q hq => (keep _ _ (h25.ownK q hq) (by simp)).2), h25.ownK, h25.keys, fun t hh => (ht t hh).step P27.step, h25.ownF, h25.fast.kept (keep _ _ h25.ownF (by simp)).2, h25.facts,
    fun j cc hj => ⟨row_kept (h25.rows j cc hj).1 fun q hq => (keep _ _ ((h25.rows j cc hj).2 q hq) (by simp)).2, (h25.rows j cc hj).2⟩⟩
  have e : ∀ l : List (GKey × Int), putK k (.int .i64 at_) (l.map fun p => (p.1, .int .i64 p.2)) = (putA k at_ l).map fun p => (p.1, .int .i64 p.2) := by
    intro l
    induction l with
    | nil => rfl
    | cons y l ih =>
      simp only [List.map_cons, putK, putA]
      split
      · simp
      · simp [ih]
  have := e F.gone
  show MapK GKey.val w27 g ((putA k at_ F.gone).map fun p => (p.1, .int .i64 p.2))
  rw [← this]
  exact s2

/-- Keys are learned. -/
theorem keys_step (hP : Ps O id w L O1 w1) (h1 : RepF' O1 id w1 x F b g f vk TC FC) (ht : ∀ t ∈ TC, Imm O w t.2.1.p t.2.1.l GKey.cells 2 t.2.2) {n : Nat} (hs : Short F n) (hn : n + 1 ≤ 1000000) (s : Sl) (ks : List GKey) (hk : Imm O w s.p s.l GKey.cells 2 ks) (at_ : Int) {K : World → Prop}
    (hK : ∀ O' w' vk' TC', Ps O id w L O' w' → RepF' O' id w' x { F with keys := F.keys ++ [(at_, ks)] } b g f vk' TC' FC → K w') :
    ∀ w5 : World, Framed L w1 w5 → ∃ p6 : Option Addr, ∃ n7 n8 : Nat, CellsAt w5 x 6 [(.slice p6 n7 n8)] ∧ ∀ k9 : Nat, Fresh w5 L k9 → ∀ w10 : World, Framed (L ++ [k9]) w5 w10 →
      (w10.heap[(k9 : Nat)]? = some (.cells (GTraceTold.cells ⟨at_, s⟩).toArray 63 (0, 0)) → ∃ p11 : Option Addr, ∃ n12 n13 : Nat, ∃ w14 : World,
        Sem.run Try.prog (GOp.sem (.builtin .append #[46, 46] 46 [(.slice p6 n7 n8), (.slice (some ⟨k9, 0, none⟩) 1 1)])) w10 = .ok (.slice p11 n12 n13) w14 ∧ Kept L w10 w14 ∧
        CanStore L w14 x 6 1 ∧ K (storeAt w14 x 6 [(.slice p11 n12 n13)])) := by
  intro w5 g5
  have hnew : ∀ k ∈ L, k ∈ L ∨ w1.heap.size ≤ k := fun k hk => .inl hk
  have P5 := hP.frame hnew g5
  have h5 : RepF' O1 id w5 x F b g f vk TC FC := h1.move' (fun k t hk => hP.owned hnew g5 hk) (fun t hh => (ht t hh).step P5.step)
  refine ⟨vk.p, vk.l, vk.c, h5.read rfl, ?_⟩
  rintro k9 ⟨f9, n9⟩ w10 g10 hk9
  have hnew' : ∀ k ∈ L ++ [k9], k ∈ L ∨ w5.heap.size ≤ k := mem_snoc_new f9
  have P10 := P5.frame hnew' g10
  have h10 : RepF' O1 id w10 x F b g f vk TC FC := h5.move' (fun k t hk => P5.owned hnew' g10 hk) (fun t hh => (ht t hh).step P10.step)
  have hl := h10.toldAt.1
  have hkl : TC.length ≤ n := by
    have := hs.1
    rw [h10.keys, List.length_map] at this
    exact this
  obtain ⟨p, c, w14, O2, a1, a2, a3, T14, a5⟩ := row_grow app46 h10.rowK h10.ownK P10.dom (k := k9) (news := toldL (at_, s, ks)) hk9 rfl (by
    intro u hu
    simp only [toldL, GTraceTold.cells, List.mem_cons, List.not_mem_nil, or_false] at hu
    rcases hu with rfl | rfl <;> rfl) (by omega) 46
  have P14 := P10.move (T14.step rfl)
  have hrun : Sem.run Try.prog (GOp.sem (.builtin .append #[46, 46] 46 [(.slice vk.p vk.l vk.c), (.slice (some ⟨k9, 0, none⟩) 1 1)])) w10 = .ok (.slice p (TC.length + 1) c) w14 := a1
  have hb14 := T14.other b _ h10.own (by simp)
  have hblk : w14.heap[b]? = some (.cells (GTraceFacts.cells ⟨F.closed, F.known, F.proto, some g, vk, some f⟩).toArray 48 (0, 0)) := by rw [hb14.2]; exact h10.cells
  have hx := h10.at_
  have hbL : b ∉ L := fun hm => by have := P5.none b hm; rw [h5.own] at this; cases this
  refine ⟨p, TC.length + 1, c, w14, hrun, (P10.sub fun q hq => List.mem_append_left _ hq).kept (T14.step rfl), ?_, ?_⟩
  · rw [hx]
    exact canStore_blk hblk (by simp [GTraceFacts.cells, GValue.cells]) hbL
  · rw [hx]
    have hst := storeAt_blk (vs := [Value.slice p (TC.length + 1) c]) (off := 6) (o := 0) hblk (by simp [GTraceFacts.cells, GValue.cells])
    have T15 : Tch O2 O2 (id, 0, 0, 0) w14 (storeAt w14 ⟨b, 0, none⟩ 6 [.slice p (TC.length + 1) c]) := store_touch (a := ⟨b, 0, none⟩) P14.dom hb14.1
    have P15 := P14.move (T15.step rfl)
    have keep : ∀ q t, O1 q = some (id, t) → t ≠ (0, 0, 0) → t ≠ (2, 0, 0) → O2 q = some (id, t) ∧ (storeAt w14 ⟨b, 0, none⟩ 6 [.slice p (TC.length + 1) c]).heap[q]? = w10.heap[q]? := by
      intro q t hq e1 e2
      obtain ⟨y1, y2⟩ := T14.other q _ hq (by simpa using e2)
      obtain ⟨y3, y4⟩ := T15.other q _ y1 (by simpa using e1)
      exact ⟨y3, y4.trans y2⟩
    refine hK O2 _ ⟨p, TC.length + 1, c⟩ (TC ++ [(at_, s, ks)]) (P15.sub fun q hq => List.mem_append_left _ hq) ⟨hx, hb14.1, ?_, (keep _ _ h10.ownG (by simp) (by simp)).1, h10.gone.kept (keep _ _ h10.ownG (by simp) (by simp)).2, ?_, fun q hq => (T15.other q _ (a3 q hq) (by simp)).1, ?_, ?_,
      (keep _ _ h10.ownF (by simp) (by simp)).1, h10.fast.kept (keep _ _ h10.ownF (by simp) (by simp)).2, h10.facts, fun j cc hj => ⟨row_kept (h10.rows j cc hj).1 fun q hq => (keep _ _ ((h10.rows j cc hj).2 q hq) (by simp) (by simp)).2, fun q hq => (keep _ _ ((h10.rows j cc hj).2 q hq) (by simp) (by simp)).1⟩⟩
    · rw [hst]
      rfl
    · have e1 : (TC ++ [(at_, s, ks)]).flatMap toldL = TC.flatMap toldL ++ toldL (at_, s, ks) := by simp
      have e2 : (TC ++ [(at_, s, ks)]).length = TC.length + 1 := by simp
      rw [e1, e2]
      exact row_kept a2 fun q hq => (T15.other q _ (a3 q hq) (by simp)).2
    · show F.keys ++ [(at_, ks)] = _
      rw [h10.keys]
      simp
    · intro t hh
      rcases List.mem_append.1 hh with hh | hh
      · exact (ht t hh).step P15.step
      · simp only [List.mem_singleton] at hh
        subst hh
        exact hk.step P15.step

/-- The fields of an object's facts are written. -/
theorem head_step (hP : Ps O id w L O1 w1) (h1 : RepF' O1 id w1 x F b g f vk TC FC) (ht : ∀ t ∈ TC, Imm O w t.2.1.p t.2.1.l GKey.cells 2 t.2.2) (off : Nat) (vs : List Value) (F' : Fx) (hk : F'.gone = F.gone ∧ F'.keys = F.keys ∧ F'.fast = F.fast) (hl : off + vs.length ≤ 8)
    (hc : (GTraceFacts.cells ⟨F.closed, F.known, F.proto, some g, vk, some f⟩).take off ++ vs ++ (GTraceFacts.cells ⟨F.closed, F.known, F.proto, some g, vk, some f⟩).drop (off + vs.length) = GTraceFacts.cells ⟨F'.closed, F'.known, F'.proto, some g, vk, some f⟩) :
    CanStore L w1 x off vs.length ∧ Ps O id w L O1 (storeAt w1 x off vs) ∧ RepF' O1 id (storeAt w1 x off vs) x F' b g f vk TC FC := by
  have hx := h1.at_
  have hbL : b ∉ L := fun hm => by have := hP.none b hm; rw [h1.own] at this; cases this
  have hcl : (GTraceFacts.cells ⟨F.closed, F.known, F.proto, some g, vk, some f⟩).length = 8 := rfl
  have hst := storeAt_blk (vs := vs) (off := off) (o := 0) h1.cells (by rw [List.size_toArray, hcl]; omega)
  rw [hx]
  have T : Tch O1 O1 (id, 0, 0, 0) w1 (storeAt w1 ⟨b, 0, none⟩ off vs) := store_touch (a := ⟨b, 0, none⟩) hP.dom h1.own
  have P2 := hP.move (T.step rfl)
  have keep : ∀ q t, O1 q = some (id, t) → t ≠ (0, 0, 0) → O1 q = some (id, t) ∧ (storeAt w1 ⟨b, 0, none⟩ off vs).heap[q]? = w1.heap[q]? := fun q t hq e => T.other q _ hq (by simpa using e)
  refine ⟨canStore_blk h1.cells (by rw [List.size_toArray, hcl]; omega) hbL, P2, ⟨rfl, h1.own, ?_, h1.ownG, ?_, row_kept h1.rowK (fun q hq => (keep _ _ (h1.ownK q hq) (by simp)).2), h1.ownK, by rw [hk.2.1]; exact h1.keys, fun t hh => (ht t hh).step P2.step, h1.ownF, h1.fast.kept (keep _ _ h1.ownF (by simp)).2, by rw [hk.2.2]; exact h1.facts,
    fun j cc hj => ⟨row_kept (h1.rows j cc hj).1 fun q hq => (keep _ _ ((h1.rows j cc hj).2 q hq) (by simp)).2, (h1.rows j cc hj).2⟩⟩⟩
  · rw [hst]
    simp only [Nat.zero_add]
    rw [hc]
  · rw [hk.1]
    exact h1.gone.kept (keep _ _ h1.ownG (by simp)).2
end
end Go.Proofs.Ytlfphbmbehbcjaa
