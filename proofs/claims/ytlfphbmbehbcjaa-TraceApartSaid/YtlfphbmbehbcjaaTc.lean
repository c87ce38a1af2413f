/- What an object's facts hold in memory; the functions that look at them. -/
import Derived.Test.YtlfphbmbehbcjaaTb
set_option linter.unusedSimpArgs false
set_option linter.unusedVariables false
namespace Go.Proofs.Ytlfphbmbehbcjaa
open Go Go.Vx

def noneD : GDesc := ⟨false, false, false, false, false, false, noneV, noneV, noneV, false, false, false⟩
def heldL (p : Int × GDesc) : List Value := GTraceHeld.cells ⟨p.1, p.2⟩
def toldL (p : Int × Sl × List GKey) : List Value := GTraceTold.cells ⟨p.1, p.2.1⟩
theorem heldL_len (p : Int × GDesc) : (heldL p).length = 19 := rfl
theorem toldL_len (p : Int × Sl × List GKey) : (toldL p).length = 2 := rfl

/-- The facts of one object at an address, in blocks of a number's own. -/
structure RepF' (O : Owner) (id : Nat) (w : World) (x : Addr) (F : Fx) (b g f : Nat) (vk : Sl) (TC : List (Int × Sl × List GKey)) (FC : List (GKey × Sl × List (Int × GDesc))) : Prop where
  at_ : x = ⟨b, 0, none⟩
  own : O b = some (id, 0, 0, 0)
  cells : w.heap[b]? = some (.cells (GTraceFacts.cells ⟨F.closed, F.known, F.proto, some g, vk, some f⟩).toArray 48 (0, 0))
  ownG : O g = some (id, 1, 0, 0)
  gone : MapK GKey.val w g (F.gone.map fun p => (p.1, .int .i64 p.2))
  rowK : w.ownsRow 0 63 2 vk.val TC.length (TC.flatMap toldL)
  ownK : ∀ k, vk.val.ownBlock = some k → O k = some (id, 2, 0, 0)
  keys : F.keys = TC.map fun t => (t.1, t.2.2)
  told : ∀ t ∈ TC, Imm O w t.2.1.p t.2.1.l GKey.cells 2 t.2.2
  ownF : O f = some (id, 3, 0, 0)
  fast : MapK GKey.val w f (FC.map fun c => (c.1, c.2.1.val))
  facts : F.fast = FC.map fun c => (c.1, c.2.2)
  rows : ∀ i c, FC[i]? = some c → w.ownsRow 0 60 19 c.2.1.val c.2.2.length (c.2.2.flatMap heldL) ∧ ∀ k, c.2.1.val.ownBlock = some k → O k = some (id, 4, i, 0)
def RepF (O : Owner) (id : Nat) (w : World) (x : Addr) (F : Fx) : Prop := ∃ b g f vk TC FC, RepF' O id w x F b g f vk TC FC

theorem RepF'.move {O O' : Owner} {id : Nat} {w w' : World} {x : Addr} {F : Fx} {b g f : Nat} {vk : Sl} {TC : List (Int × Sl × List GKey)} {FC : List (GKey × Sl × List (Int × GDesc))} (h : RepF' O id w x F b g f vk TC FC)
    (hk : ∀ k t, O k = some (id, t) → O' k = some (id, t) ∧ w'.heap[k]? = w.heap[k]?) (hs : w.heap.size ≤ w'.heap.size) (hn : ∀ k, k < w.heap.size → O k = none → O' k = none ∧ w'.heap[k]? = w.heap[k]?) : RepF' O' id w' x F b g f vk TC FC where
  at_ := h.at_
  own := (hk _ _ h.own).1
  cells := by rw [(hk _ _ h.own).2]; exact h.cells
  ownG := (hk _ _ h.ownG).1
  gone := h.gone.kept (hk _ _ h.ownG).2
  rowK := row_kept h.rowK fun k e => (hk _ _ (h.ownK k e)).2
  ownK := fun k e => (hk _ _ (h.ownK k e)).1
  keys := h.keys
  told := fun t ht => (h.told t ht).move hs hn
  ownF := (hk _ _ h.ownF).1
  fast := h.fast.kept (hk _ _ h.ownF).2
  facts := h.facts
  rows := fun i c hc => ⟨row_kept (h.rows i c hc).1 fun k e => (hk _ _ ((h.rows i c hc).2 k e)).2, fun k e => (hk _ _ ((h.rows i c hc).2 k e)).1⟩
theorem RepF'.move' {O O' : Owner} {id : Nat} {w w' : World} {x : Addr} {F : Fx} {b g f : Nat} {vk : Sl} {TC : List (Int × Sl × List GKey)} {FC : List (GKey × Sl × List (Int × GDesc))} (h : RepF' O id w x F b g f vk TC FC)
    (hk : ∀ k t, O k = some (id, t) → O' k = some (id, t) ∧ w'.heap[k]? = w.heap[k]?) (ht : ∀ t ∈ TC, Imm O' w' t.2.1.p t.2.1.l GKey.cells 2 t.2.2) : RepF' O' id w' x F b g f vk TC FC where
  at_ := h.at_
  own := (hk _ _ h.own).1
  cells := by rw [(hk _ _ h.own).2]; exact h.cells
  ownG := (hk _ _ h.ownG).1
  gone := h.gone.kept (hk _ _ h.ownG).2
  rowK := row_kept h.rowK fun k e => (hk _ _ (h.ownK k e)).2
  ownK := fun k e => (hk _ _ (h.ownK k e)).1
  keys := h.keys
  told := ht
  ownF := (hk _ _ h.ownF).1
  fast := h.fast.kept (hk _ _ h.ownF).2
  facts := h.facts
  rows := fun i c hc => ⟨row_kept (h.rows i c hc).1 fun k e => (hk _ _ ((h.rows i c hc).2 k e)).2, fun k e => (hk _ _ ((h.rows i c hc).2 k e)).1⟩
theorem RepF.quiet {O : Owner} {id : Nat} {w w' : World} {x : Addr} {F : Fx} (h : RepF O id w x F) (hd : Dom O w) (hq : Quiet w w') : RepF O id w' x F := by
  obtain ⟨b, g, f, vk, TC, FC, h⟩ := h
  exact ⟨b, g, f, vk, TC, FC, h.move (fun k t hk => ⟨hk, hq.same k (hd k (by rw [hk]; simp))⟩) hq.size fun k hk hn => ⟨hn, hq.same k hk⟩⟩
theorem RepF.step {O O' : Owner} {id id' : Nat} {w w' : World} {x : Addr} {F : Fx} (h : RepF O id w x F) (hd : Dom O w) (hs : Step O O' id' w w') (hne : id ≠ id') : RepF O' id w' x F := by
  obtain ⟨b, g, f, vk, TC, FC, h⟩ := h
  exact ⟨b, g, f, vk, TC, FC, h.move (fun k t hk => hs.other hk hne hd) hs.upd.size fun k hk hn => hs.unowned hn hk⟩

/-- All rows are short. -/
def Short (F : Fx) (n : Nat) : Prop := F.keys.length ≤ n ∧ (∀ t ∈ F.keys, t.2.length ≤ 1000000) ∧ ∀ p ∈ F.fast, p.2.length ≤ n

theorem look_fast (k : GKey) : ∀ FC : List (GKey × Sl × List (Int × GDesc)), (getK k (FC.map fun c => (c.1, c.2.1.val)) = none ∧ getA k (FC.map fun c => (c.1, c.2.2)) = none) ∨
    ∃ i c, FC[i]? = some c ∧ c.1 = k ∧ findK k (FC.map fun c => (c.1, c.2.1.val)) = some i ∧ getK k (FC.map fun c => (c.1, c.2.1.val)) = some c.2.1.val ∧ getA k (FC.map fun c => (c.1, c.2.2)) = some c.2.2
  | [] => .inl ⟨rfl, rfl⟩
  | c :: FC => by
    simp only [List.map_cons, getK, getA, findK]
    by_cases hk : k = c.1
    · simp only [hk, if_true]
      exact .inr ⟨0, c, rfl, rfl, rfl, rfl, rfl⟩
    · simp only [hk, if_false]
      rcases look_fast k FC with h | ⟨i, d, h1, h2, h3, h4, h5⟩
      · exact .inl h
      · exact .inr ⟨i + 1, d, by simpa using h1, h2, by rw [h3]; rfl, h4, h5⟩
theorem look_gone (k : GKey) : ∀ l : List (GKey × Int), getK k (l.map fun p => (p.1, .int .i64 p.2)) = (getA k l).map fun p => .int .i64 p
  | [] => rfl
  | c :: l => by
    simp only [List.map_cons, getK, getA]
    split
    · rfl
    · exact look_gone k l

/-- A field of the facts. -/
theorem RepF'.read {O : Owner} {id : Nat} {w : World} {x : Addr} {F : Fx} {b g f : Nat} {vk : Sl} {TC : List (Int × Sl × List GKey)} {FC : List (GKey × Sl × List (Int × GDesc))} (h : RepF' O id w x F b g f vk TC FC) {off : Nat} {vs : List Value}
    (hv : ((GTraceFacts.cells ⟨F.closed, F.known, F.proto, some g, vk, some f⟩).drop off).take vs.length = vs) : CellsAt w x off vs := by
  rw [h.at_]
  exact cellsAt_blk h.cells (by simpa using hv)

theorem zero58 (w : World) : (zeroValue 58).run Try.prog w = .ok (.slice none 0 0) w := by kernel_rfl
theorem zero3 (w : World) : (zeroValue 3).run Try.prog w = .ok (.int .i64 0) w := by kernel_rfl
theorem zero4 (w : World) : (zeroValue 4).run Try.prog w = .ok (.bool false) w := by kernel_rfl

theorem foldl_take_succ {α β : Type} (f : β → α → β) (b : β) (l : List α) (i : Nat) (x : α) (h : l[i]? = some x) : (l.take (i + 1)).foldl f b = f ((l.take i).foldl f b) x := by
  have hlt := (List.getElem?_eq_some_iff.1 h).1
  have hx := (List.getElem?_eq_some_iff.1 h).2
  rw [List.take_succ_eq_append_getElem hlt, List.foldl_append, hx]
  rfl

theorem isFast_ok {O : Owner} {id : Nat} {w : World} {x : Addr} {F : Fx} (hr : RepF O id w x F) (hd : Dom O w) {n : Nat} (hs : Short F n) (hn : n ≤ 1000000) (k : GKey) (ahead : Int) :
    PurIn Try.prog 10 [.pointer (some x), GKey.val k, .int .i64 ahead] w (fun v _ => v = .tuple #[GDesc.val ((isFastP F k ahead).getD noneD), .bool (isFastP F k ahead).isSome]) := by
  obtain ⟨b, g, f, vk, TC, FC, h⟩ := hr
  refine calls10 (fun v w' => v = .tuple #[GDesc.val ((isFastP F k ahead).getD noneD), .bool (isFastP F k ahead).isSome] ∧ Quiet w w') x k ahead w ?_
  unfold NF10
  rintro k0 ⟨f0, n0⟩ k1 ⟨f1, n1⟩ k2 ⟨f2, n2⟩ w3 g3
  have A3 := (Pt.start w).frame (by simp <;> omega) g3
  have mv : ∀ {w'}, Quiet w w' → RepF' O id w' x F b g f vk TC FC := fun hq => h.move (fun k t hk => ⟨hk, hq.same k (hd k (by rw [hk]; simp))⟩) hq.size fun k hk hn => ⟨hn, hq.same k hk⟩
  have h3 := mv A3.quiet
  refine ⟨some f, h3.read rfl, ?_⟩
  -- the row that is looked at
  have row : ∃ (v : Sl) (hs : List (Int × GDesc)), (getK k (FC.map fun c => (c.1, c.2.1.val))).getD (.slice none 0 0) = v.val ∧ (getA k F.fast).getD [] = hs ∧ hs.length ≤ 1000000 ∧ v.l = hs.length ∧
      ∀ {w'}, Quiet w w' → ∀ i : Int, 0 ≤ i → i < ((v.l : Nat) : Int) → ∃ a e, v.p = some a ∧ hs[i.toNat]? = some e ∧ CellsAt w' (Addr.add a (0 + Int.toNat i * 19)) 0 (heldL e) := by
    rw [h.facts]
    rcases look_fast k FC with ⟨h1, h2⟩ | ⟨i, c, h1, h2, h3, h4, h5⟩
    · rw [h1, h2]
      exact ⟨⟨none, 0, 0⟩, [], rfl, rfl, by simp, rfl, fun {w'} _ i h0 h1 => by simp at h1; omega⟩
    · rw [h4, h5]
      have hlen : c.2.2.length ≤ n := hs.2.2 _ (by rw [h.facts]; exact List.mem_map.2 ⟨c, List.mem_of_getElem? h1, rfl⟩)
      obtain ⟨p, cc, hv⟩ := row_slice (h.rows i c h1).1
      have hl : c.2.1.l = c.2.2.length := by
        have : c.2.1.val = .slice p c.2.2.length cc := hv
        simp only [Sl.val, Value.slice.injEq] at this
        exact this.2.1
      refine ⟨c.2.1, c.2.2, rfl, rfl, by omega, hl, fun {w'} hq j hj0 hj1 => ?_⟩
      have hrow := ((mv hq).rows i c h1).1
      have hjl : j.toNat < c.2.2.length := by omega
      obtain ⟨gb, cc', cur, e1, e2, _⟩ := row_blk hrow (by omega)
      have e1' : c.2.1.p = some ⟨gb, 0, none⟩ := by
        simp only [Sl.val, Value.slice.injEq] at e1
        exact e1.1
      refine ⟨_, c.2.2[j.toNat], e1', by simp [hjl], ?_⟩
      rw [add_mid]
      refine row_cells hrow e2 ?_
      rw [show 0 + (0 + j.toNat * 19) + 0 = j.toNat * 19 + 0 by omega]
      have := flat_get heldL_len (C := c.2.2) (i := j.toNat) (c := c.2.2[j.toNat]) (by simp [hjl]) (off := 0) (n := 19) (by omega)
      rw [heldL_len, this]
      rfl
  obtain ⟨v, hh, e1, e2, e3, e4, e5⟩ := row
  have hlk := run_lookupK key_fit Try.underlying45 h3.fast (zero58 w3) k false
  rw [e1] at hlk
  refine ⟨v.p, v.l, v.c, w3, hlk, .refl _ _, ?_⟩
  have hP : isFastP F k ahead = hh.foldl (fastStep ahead) none := by unfold isFastP; rw [e2]
  refine ⟨fun bb i a1 a2 a3 a4 a5 a6 v1 v2 v3 g1 g2 g3 s1 s2 s3 c1 c2 c3 w' => Quiet w w' ∧ 0 ≤ i ∧ i ≤ (hh.length : Int) ∧ bb = ((hh.take i.toNat).foldl (fastStep ahead) none).isSome ∧
      (⟨a1, a2, a3, a4, a5, a6, ⟨v1, v2, v3⟩, ⟨g1, g2, g3⟩, ⟨s1, s2, s3⟩, c1, c2, c3⟩ : GDesc) = ((hh.take i.toNat).foldl (fastStep ahead) none).getD noneD,
    fun bb i a1 a2 a3 a4 a5 a6 v1 v2 v3 g1 g2 g3 s1 s2 s3 c1 c2 c3 w' => (hh.length - i).toNat, ⟨A3.quiet, by omega, by omega, rfl, rfl⟩, ?_⟩
  rintro bb i a1 a2 a3 a4 a5 a6 v1 v2 v3 g1 g2 g3 s1 s2 s3 c1 c2 c3 w4 hw4 ⟨hq, hi0, hi1, hb, hD⟩
  have A4 : Pt w [k0, k1, k2] w4 := .of_within hq (by simp <;> omega) hw4
  generalize hacc : (hh.take i.toNat).foldl (fastStep ahead) none = acc at hb hD
  refine ⟨fun hi => ?_, fun hi w5 g5 => ⟨?_, (A4.frame (by simp <;> omega) g5).quiet⟩⟩
  · simp only [decide_eq_true_eq] at hi
    obtain ⟨a, e, q1, q2, q3⟩ := e5 hq i hi0 hi
    refine ⟨a, q1, ⟨hi0, hi⟩, ⟨e.1, e.2⟩, q3, ?_⟩
    rintro k3 ⟨f3, n3⟩
    have hnx : (i + 1).toNat = i.toNat + 1 := by omega
    have hst := foldl_take_succ (fastStep ahead) none hh i.toNat e q2
    rw [hacc] at hst
    have go : ∀ {w' : World} (D : GDesc) (bb' : Bool), Quiet w w' → bb' = (fastStep ahead acc e).isSome → D = (fastStep ahead acc e).getD noneD →
        (Quiet w w' ∧ 0 ≤ i + 1 ∧ i + 1 ≤ (hh.length : Int) ∧ bb' = ((hh.take (i + 1).toNat).foldl (fastStep ahead) none).isSome ∧ D = ((hh.take (i + 1).toNat).foldl (fastStep ahead) none).getD noneD) ∧ (hh.length - (i + 1) : Int).toNat < (hh.length - i : Int).toNat := by
      intro w' D bb' g1 g2 g3
      rw [hnx, hst]
      exact ⟨⟨g1, by omega, by omega, g2, g3⟩, by omega⟩
    rw [IntWalk.i64_in _ (by omega)]
    refine ⟨fun ha => ⟨fun hbb w5 g5 => ?_, fun hbb w5 g5 => ?_⟩, fun ha w5 g5 => ?_⟩
    · have A5 := A4.frame (by simp <;> omega) g5
      -- something is held
      cases acc with
      | none => simp at hb; simp [hb] at hbb
      | some d0 =>
        simp only [Option.getD_some] at hD
        have hw : c1 = d0.Writable := by rw [← hD]
        rw [hD]
        refine A5.pur (data_ok d0) fun w6 A6 _ => ⟨_, rfl, fun h1 => ⟨fun h2 => ?_, fun h2 => ?_⟩, fun h1 => ?_⟩
        · refine A6.pur (data_ok e.2) fun w7 A7 _ => ⟨_, rfl, fun h3 => ⟨fun h4 w8 g8 => ?_, fun h4 => ?_⟩, fun h3 => ?_⟩
          · have A8 := A7.frame (by simp <;> omega) g8
            have hf : fastStep ahead (some d0) e = some e.2 := by
              have h2' : d0.Writable = true := by rw [← hw]; exact h2
              simp at ha h4
              simp [fastStep, ha, h1, h2', h3, h4]
            exact go e.2 true A8.quiet (by rw [hf]; rfl) (by rw [hf]; rfl)
          · have hf : fastStep ahead (some d0) e = some d0 := by
              simp only [fastStep]
              simp at h4
              simp [h4]
            exact go _ bb A7.quiet (by rw [hf]; exact hb) (by rw [hf]; exact hD)
          · have hf : fastStep ahead (some d0) e = some d0 := by
              simp only [fastStep]
              simp [h3]
            exact go _ bb A7.quiet (by rw [hf]; exact hb) (by rw [hf]; exact hD)
        · have hf : fastStep ahead (some d0) e = some d0 := by
            have h2' : d0.Writable = false := by rw [← hw]; exact h2
            simp [fastStep, h2']
          exact go _ bb A6.quiet (by rw [hf]; exact hb) (by rw [hf]; exact hD)
        · have hf : fastStep ahead (some d0) e = some d0 := by
            simp only [fastStep]
            simp [h1]
          exact go _ bb A6.quiet (by rw [hf]; exact hb) (by rw [hf]; exact hD)
    · have A5 := A4.frame (by simp <;> omega) g5
      cases acc with
      | some d0 => simp at hb; simp [hb] at hbb
      | none =>
        have hf : fastStep ahead none e = some e.2 := by
          simp only [fastStep]
          simp at ha
          simp [ha]
        exact go e.2 true A5.quiet (by rw [hf]; rfl) (by rw [hf]; rfl)
    · have A5 := A4.frame (by simp <;> omega) g5
      have hf : fastStep ahead acc e = acc := by
        simp only [fastStep]
        have : decide (e.1 < ahead) = false := ha
        rw [this]
        simp
      exact go _ bb A5.quiet (by rw [hf]; exact hb) (by rw [hf]; exact hD)
  · simp only [decide_eq_false_iff_not] at hi
    have : hh.take i.toNat = hh := List.take_of_length_le (by omega)
    rw [this] at hacc
    rw [hP, hacc, ← hb, ← hD]
    rfl
end Go.Proofs.Ytlfphbmbehbcjaa
