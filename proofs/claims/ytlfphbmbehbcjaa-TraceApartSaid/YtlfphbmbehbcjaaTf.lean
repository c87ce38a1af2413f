/- What is learned of an object; whether a reply breaks a rule: contracts. -/
import Derived.Test.YtlfphbmbehbcjaaTe
set_option linter.unusedSimpArgs false
set_option linter.unusedVariables false
namespace Go.Proofs.Ytlfphbmbehbcjaa
open Go Go.Vx

section
variable {O : Owner} {id : Nat} {w : World} {x : Addr} {F : Fx}

/-- Behind a step. -/
def Learned (O : Owner) (id : Nat) (w : World) (x : Addr) (F' : Fx) (v : Value) (w' : World) : Prop := v = .tuple #[] ∧ ∃ O', Step O O' id w w' ∧ Dom O' w' ∧ RepF O' id w' x F'

theorem learned_quiet (hr : RepF O id w x F) (hd : Dom O w) {w' : World} (hq : Quiet w w') : Learned O id w x F (.tuple #[]) w' := ⟨rfl, O, hq.step hd id, hq.dom hd, hr.quiet hd hq⟩

/-- The look-up whether a key is known to be gone, and what is learned of it. -/
theorem gone_look {O1 : Owner} {w1 : World} {L : List Nat} {b g f : Nat} {vk : Sl} {TC : TCs} {FC : FCs} (hP : Ps O id w L O1 w1) (h1 : RepF' O1 id w1 x F b g f vk TC FC) (ht : ∀ t ∈ TC, Imm O w t.2.1.p t.2.1.l GKey.cells 2 t.2.2) (k : GKey) {K : Int → Bool → World → Prop}
    (hK : ∀ p w2, Ps O id w L O1 w2 → RepF' O1 id w2 x F b g f vk TC FC → K p (getA k F.gone).isSome w2) :
    ∀ w20 : World, Framed L w1 w20 → ∃ m21 : Option Nat, CellsAt w20 x 5 [(.map m21)] ∧ ∃ i22 : Int, ∃ b23 : Bool, ∃ w24 : World, Sem.run Try.prog (GOp.sem (.lookup 44 (.map m21) (GKey.val k) true)) w20 = .ok (.tuple #[(.int .i64 i22), (.bool b23)]) w24 ∧ Kept L w20 w24 ∧ K i22 b23 w24 := by
  intro w20 g20
  have hnew : ∀ k ∈ L, k ∈ L ∨ w1.heap.size ≤ k := fun k hk => .inl hk
  have P2 := hP.frame hnew g20
  have h2 : RepF' O1 id w20 x F b g f vk TC FC := h1.move' (fun k t hk => hP.owned hnew g20 hk) (fun t hh => (ht t hh).step P2.step)
  have hlk := run_lookupK key_fit Try.underlying44 h2.gone (zero3 w20) k true
  rw [look_gone] at hlk
  refine ⟨some g, h2.read rfl, ?_⟩
  cases hg : getA k F.gone with
  | none =>
    rw [hg] at hlk
    have := hK 0 w20 P2 h2
    rw [hg] at this
    exact ⟨0, false, w20, hlk, .refl _ _, this⟩
  | some p =>
    rw [hg] at hlk
    have := hK p w20 P2 h2
    rw [hg] at this
    exact ⟨p, true, w20, hlk, .refl _ _, this⟩

theorem ps_learned {O1 : Owner} {w1 : World} {L : List Nat} {F' : Fx} (hP : Ps O id w L O1 w1) (h : RepF O1 id w1 x F') : Learned O id w x F' (.tuple #[]) w1 := ⟨rfl, O1, hP.step, hP.dom, h⟩

theorem learn_ok (hr : RepF O id w x F) (hd : Dom O w) {n : Nat} (hs : Short F n) (hn : n + 1 ≤ 1000000) (s : GSeen) (ks : List GKey) (hk : Imm O w s.Reply.Keys.p s.Reply.Keys.l GKey.cells 2 ks) (at_ : Int) :
    Calls Try.prog 9 [(.pointer (some x)), (GSeen.val s), (.int .i64 at_)].toArray w fun e w' => ∃ v, e = .returned v ∧ Learned O id w x (learnP F s ks at_) v w' := by
  obtain ⟨b, g, f, vk, TC, FC, h⟩ := hr
  have ht := h.told
  refine calls9 (Learned O id w x (learnP F s ks at_)) x s at_ w ?_
  unfold NF9
  rintro k0 ⟨f0, n0⟩ w1 g1
  have hnew : ∀ k ∈ [k0], k ∈ [] ∨ w.heap.size ≤ k := by simp <;> omega
  have P0 := Ps.start hd id
  have P1 := P0.frame hnew g1
  have h1 : RepF' O id w1 x F b g f vk TC FC := h.move' (fun k t hk => P0.owned hnew g1 hk) (fun t hh => (ht t hh).step P1.step)
  have stay : ∀ F', F' = F → Learned O id w x F' (.tuple #[]) w1 := fun F' e => by rw [e]; exact ps_learned P1 ⟨b, g, f, vk, TC, FC, h1⟩
  -- the three kinds of news
  have closed1 : CanStore [k0] w1 x 0 1 ∧ Learned O id w x { F with closed := at_ } (.tuple #[]) (storeAt w1 x 0 [(.int .i64 at_)]) := by
    obtain ⟨q1, q2, q3⟩ := head_step P1 h1 ht 0 [.int .i64 at_] { F with closed := at_ } ⟨rfl, rfl, rfl⟩ (by simp) rfl
    exact ⟨q1, ps_learned q2 ⟨_, _, _, _, _, _, q3⟩⟩
  have own5 : ∀ {K1 K2 K3 : Nat → Bool → World → Prop} (behind : Bool), s.Method = 5 → behindP F s at_ = behind → (∀ k5 b w', s.Reply.Has = true → Learned O id w x (learnP F s ks at_) (.tuple #[]) w' → K1 k5 b w') → (∀ k5 b w', s.Reply.Has = true → Learned O id w x (learnP F s ks at_) (.tuple #[]) w' → K2 k5 b w') →
      (∀ k5 b w', s.Reply.Has = false → (behind = true → b = false → ∀ w11 : World, Framed [k0, k5] w' w11 → ∃ m12 : Option Nat, CellsAt w11 x 5 [(.map m12)] ∧ ∃ w13 : World, Sem.run Try.prog (GOp.sem (.mapUpdate 44 (.map m12) (GKey.val s.Ask.Key) (.int .i64 at_))) w11 = .ok (.tuple #[]) w13 ∧ Kept [k0, k5] w11 w13 ∧ Learned O id w x (learnP F s ks at_) (.tuple #[]) w13) →
        ((behind = false ∨ b = true) → Learned O id w x (learnP F s ks at_) (.tuple #[]) w') → K3 k5 b w') → ∀ k5 : Nat, Fresh w1 [k0] k5 →
      (s.Reply.Has = true →
        ((!s.Reply.Desc.Configurable) = true → ∀ w6 : World, Framed [k0, k5] w1 w6 → ∃ m7 : Option Nat, CellsAt w6 x 7 [(.map m7)] ∧ ∀ k8 : Nat, Fresh w6 [k0, k5] k8 → ∀ w9 : World, Framed [k0, k5, k8] w6 w9 →
         ∃ p10 : Option Addr, ∃ n11 : Nat, ∃ n12 : Nat, ∃ i13 : Int, ∃ w14 : World, Sem.run Try.prog (GOp.sem (.mapEntry 45 (.map m7) (GKey.val s.Ask.Key))) w9 = .ok (.tuple #[(.slice p10 n11 n12), (.int .i64 i13)]) w14 ∧ Kept [k0, k5, k8] w9 w14 ∧
         (w14.heap[(k8 : Nat)]? = some (.cells (GTraceHeld.cells ⟨at_, s.Reply.Desc⟩).toArray 60 (0, 0)) →
         ∃ p15 : Option Addr, ∃ n16 : Nat, ∃ n17 : Nat, ∃ w18 : World, Sem.run Try.prog (GOp.sem (.builtin .append #[58, 58] 58 [(.slice p10 n11 n12), (.slice (some ⟨k8, 0, none⟩) 1 1)])) w14 = .ok (.slice p15 n16 n17) w18 ∧ Kept [k0, k5] w14 w18 ∧
         ∃ w19 : World, Sem.run Try.prog (GOp.sem (.entryStore 45 (.map m7) (.int .i64 i13) (.slice p15 n16 n17))) w18 = .ok (.tuple #[]) w19 ∧ Kept [k0, k5] w18 w19 ∧
         (∀ w20 : World, Framed [k0, k5] w19 w20 → ∃ m21 : Option Nat, CellsAt w20 x 5 [(.map m21)] ∧ ∃ i22 : Int, ∃ b23 : Bool, ∃ w24 : World, Sem.run Try.prog (GOp.sem (.lookup 44 (.map m21) (GKey.val s.Ask.Key) true)) w20 = .ok (.tuple #[(.int .i64 i22), (.bool b23)]) w24 ∧ Kept [k0, k5] w20 w24 ∧
           K1 k5 b23 w24))) ∧
        ((!s.Reply.Desc.Configurable) = false → ∀ w6 : World, Framed [k0, k5] w1 w6 → ∃ m7 : Option Nat, CellsAt w6 x 5 [(.map m7)] ∧ ∃ i8 : Int, ∃ b9 : Bool, ∃ w10 : World, Sem.run Try.prog (GOp.sem (.lookup 44 (.map m7) (GKey.val s.Ask.Key) true)) w6 = .ok (.tuple #[(.int .i64 i8), (.bool b9)]) w10 ∧ Kept [k0, k5] w6 w10 ∧
           K2 k5 b9 w10)) ∧
      (s.Reply.Has = false → ∀ w6 : World, Framed [k0, k5] w1 w6 → ∃ m7 : Option Nat, CellsAt w6 x 5 [(.map m7)] ∧ ∃ i8 : Int, ∃ b9 : Bool, ∃ w10 : World, Sem.run Try.prog (GOp.sem (.lookup 44 (.map m7) (GKey.val s.Ask.Key) true)) w6 = .ok (.tuple #[(.int .i64 i8), (.bool b9)]) w10 ∧ Kept [k0, k5] w6 w10 ∧
         K3 k5 b9 w10) := by
    intro K1 K2 K3 behind m5 hbe hK1 hK2 hK3
    rintro k5 ⟨f5, n5⟩
    have e5 : learnP F s ks at_ = (let f1 := if s.Reply.Has && !s.Reply.Desc.Configurable then { F with fast := putA s.Ask.Key ((getA s.Ask.Key F.fast).getD [] ++ [(at_, s.Reply.Desc)]) F.fast } else F
        if behind && !s.Reply.Has && !(getA s.Ask.Key F.gone).isSome then { f1 with gone := putA s.Ask.Key at_ f1.gone } else f1) := by
      unfold learnP
      simp [m5, hbe]
    have hnew6 : ∀ k ∈ [k0, k5], k ∈ [k0] ∨ w1.heap.size ≤ k := by simp <;> omega
    have two : ∀ {w6 : World}, Framed [k0, k5] w1 w6 → Ps O id w [k0, k5] O w6 ∧ RepF' O id w6 x F b g f vk TC FC := fun {w6} g6 => by
      have P6 := P1.frame hnew6 g6
      exact ⟨P6, h1.move' (fun k t hk => P1.owned hnew6 g6 hk) (fun t hh => (ht t hh).step P6.step)⟩
    refine ⟨fun hh => ⟨fun hc w6 g6 => ?_, fun hc w6 g6 => ?_⟩, fun hh w6 g6 => ?_⟩
    · obtain ⟨P6, h6⟩ := two g6
      refine fast_step P6 h6 ht hs hn s.Ask.Key at_ s.Reply.Desc ?_
      intro O' w19 FC' P19 h19
      refine gone_look P19 h19 ht s.Ask.Key ?_
      intro p w24 P24 h24
      have e : learnP F s ks at_ = { F with fast := putA s.Ask.Key ((getA s.Ask.Key F.fast).getD [] ++ [(at_, s.Reply.Desc)]) F.fast } := by
        rw [e5]
        simp at hc
        simp [hh, hc]
      refine hK1 _ _ _ hh ?_
      rw [e]
      exact ps_learned P24 ⟨_, _, _, _, _, _, h24⟩
    · obtain ⟨P6, h6⟩ := two g6
      refine gone_look P6 h6 ht s.Ask.Key ?_ w6 (by exact ⟨rfl, rfl, rfl, Nat.le_refl _, P6.live, fun _ _ _ => rfl⟩)
      intro p w24 P24 h24
      have e : learnP F s ks at_ = F := by
        rw [e5]
        simp at hc
        simp [hh, hc]
      refine hK2 _ _ _ hh ?_
      rw [e]
      exact ps_learned P24 ⟨_, _, _, _, _, _, h24⟩
    · obtain ⟨P6, h6⟩ := two g6
      refine gone_look P6 h6 ht s.Ask.Key ?_ w6 (by exact ⟨rfl, rfl, rfl, Nat.le_refl _, P6.live, fun _ _ _ => rfl⟩)
      intro p w24 P24 h24
      refine hK3 _ _ _ hh (fun hb hn => ?_) (fun hb => ?_)
      · have e : learnP F s ks at_ = { F with gone := putA s.Ask.Key at_ F.gone } := by
          rw [e5]
          simp [hh, hb, hn]
        rw [e]
        exact gone_step P24 h24 ht s.Ask.Key at_ fun w' P' h' => ps_learned P' ⟨_, _, _, _, _, _, h'⟩
      · have e : learnP F s ks at_ = F := by
          rw [e5]
          rcases hb with hb | hb <;> simp [hh, hb]
        rw [e]
        exact ps_learned P24 ⟨_, _, _, _, _, _, h24⟩
  have key11 : s.Method = 11 → behindP F s at_ = true → ∀ w5 : World, Framed [k0] w1 w5 → ∃ p6 : Option Addr, ∃ n7 n8 : Nat, CellsAt w5 x 6 [(.slice p6 n7 n8)] ∧ ∀ k9 : Nat, Fresh w5 [k0] k9 → ∀ w10 : World, Framed [k0, k9] w5 w10 →
      (w10.heap[(k9 : Nat)]? = some (.cells (GTraceTold.cells ⟨at_, s.Reply.Keys⟩).toArray 63 (0, 0)) → ∃ p11 : Option Addr, ∃ n12 n13 : Nat, ∃ w14 : World,
        Sem.run Try.prog (GOp.sem (.builtin .append #[46, 46] 46 [(.slice p6 n7 n8), (.slice (some ⟨k9, 0, none⟩) 1 1)])) w10 = .ok (.slice p11 n12 n13) w14 ∧ Kept [k0] w10 w14 ∧
        CanStore [k0] w14 x 6 1 ∧ Learned O id w x (learnP F s ks at_) (.tuple #[]) (storeAt w14 x 6 [(.slice p11 n12 n13)])) := by
    intro m11 hb
    have e : learnP F s ks at_ = { F with keys := F.keys ++ [(at_, ks)] } := by
      unfold learnP
      simp [m11, hb]
    rw [e]
    exact keys_step P1 h1 ht hs hn s.Reply.Keys ks hk at_ fun O' w' vk' TC' P' h' => ps_learned P' ⟨_, _, _, _, _, _, h'⟩
  have c0 : CellsAt w1 x 0 [(.int .i64 F.closed)] := h1.read rfl
  have c1 : CellsAt w1 x 1 [(.int .i64 F.known)] := h1.read rfl
  -- where nothing is behind
  have m3 : s.Method = 3 → (((!s.Reply.OK) = true → ∃ i5 : Int, CellsAt w1 x 0 [(.int .i64 i5)] ∧ ((decide (i5 < 0)) = true → CanStore [k0] w1 x 0 1 ∧ Learned O id w x (learnP F s ks at_) (.tuple #[]) (storeAt w1 x 0 [(.int .i64 at_)])) ∧ ((decide (i5 < 0)) = false → Learned O id w x (learnP F s ks at_) (.tuple #[]) w1)) ∧
      ((!s.Reply.OK) = false → Learned O id w x (learnP F s ks at_) (.tuple #[]) w1)) := by
    intro hm
    have e : learnP F s ks at_ = if !s.Reply.OK && decide (F.closed < 0) then { F with closed := at_ } else F := by
      unfold learnP
      simp [hm]
    refine ⟨fun ho => ⟨_, c0, fun hc => ⟨closed1.1, ?_⟩, fun hc => stay _ ?_⟩, fun ho => stay _ ?_⟩
    · rw [e, ho, hc]
      exact closed1.2
    · rw [e, ho, hc]; rfl
    · rw [e, ho]; rfl
  refine ⟨_, c0, fun hp => ⟨_, c0, fun hf => ⟨_, c0, fun hm => m3 (by simpa using hm), fun hm => ⟨fun hm1 => ?_, fun hm1 => ⟨fun hm5 => ?_, fun hm5 => ⟨fun hm11 => ?_, fun hm11 => stay _ ?_⟩⟩⟩⟩, fun hf => ⟨fun hm => m3 (by simpa using hm), fun hm => ⟨fun hm1 => stay _ ?_, fun hm1 => ⟨fun hm5 => ?_, fun hm5 => ⟨fun hm11 => stay _ ?_, fun hm11 => stay _ ?_⟩⟩⟩⟩⟩,
    fun hp => ⟨fun hm => m3 (by simpa using hm), fun hm => ⟨fun hm1 => stay _ ?_, fun hm1 => ⟨fun hm5 => ?_, fun hm5 => ⟨fun hm11 => stay _ ?_, fun hm11 => stay _ ?_⟩⟩⟩⟩⟩
  · have e : learnP F s ks at_ = if behindP F s at_ && decide (F.known < 0) then { F with known := at_, proto := s.Reply.Value } else F := by
      unfold learnP
      simp only [hm1, hm, if_true, Bool.false_eq_true, if_false]
    have eb : behindP F s at_ = decide (F.closed < at_) := by
      unfold behindP
      rw [hp, hf]
      simp
    refine ⟨fun hlt => ⟨_, c1, fun hk0 w6 g6 => ?_, fun hk0 => stay _ ?_⟩, fun hlt => stay _ ?_⟩
    · have hnew6 : ∀ k ∈ [k0], k ∈ [k0] ∨ w1.heap.size ≤ k := fun k hk => .inl hk
      have P6 := P1.frame hnew6 g6
      have h6 : RepF' O id w6 x F b g f vk TC FC := h1.move' (fun k t hk => P1.owned hnew6 g6 hk) (fun t hh => (ht t hh).step P6.step)
      obtain ⟨q1, q2, q3⟩ := head_step P6 h6 ht 1 [.int .i64 at_] { F with known := at_ } ⟨rfl, rfl, rfl⟩ (by simp) rfl
      obtain ⟨q4, q5, q6⟩ := head_step q2 q3 ht 2 (GValue.cells s.Reply.Value) { F with known := at_, proto := s.Reply.Value } ⟨rfl, rfl, rfl⟩ (by simp [GValue.cells]) rfl
      refine ⟨q1, q4, ?_⟩
      rw [e, eb, hlt, hk0]
      exact ps_learned q5 ⟨_, _, _, _, _, _, q6⟩
    · rw [e, hk0]; simp
    · rw [e, eb, hlt]; rfl
  · have eb : behindP F s at_ = decide (F.closed < at_) := by
      unfold behindP
      rw [hp, hf]
      simp
    refine own5 (decide (F.closed < at_)) (by simpa using hm5) eb (fun k5 b w' hh hL => ⟨fun _ => ⟨fun hc => ?_, fun _ => hL⟩, fun _ => hL⟩) (fun k5 b w' hh hL => ⟨fun _ => ⟨fun hc => ?_, fun _ => hL⟩, fun _ => hL⟩) (fun k5 b w' hh h1 h2 => ⟨fun hlt => ⟨fun _ => ⟨fun hb => h1 hlt (by simpa using hb), fun hb => h2 (.inr (by simpa using hb))⟩, fun hc => ?_⟩, fun hlt => h2 (.inl hlt)⟩)
    · rw [hh] at hc; cases hc
    · rw [hh] at hc; cases hc
    · rw [hh] at hc; cases hc
  · have eb : behindP F s at_ = decide (F.closed < at_) := by
      unfold behindP
      rw [hp, hf]
      simp
    refine ⟨fun hlt => key11 (by simpa using hm11) (by rw [eb]; exact hlt), fun hlt => stay _ ?_⟩
    unfold learnP
    rw [eb, hlt]
    simp only [hm, hm1, hm5, hm11, if_true, Bool.false_eq_true, if_false]
  · unfold learnP
    simp only [hm, hm1, hm5, hm11, if_true, Bool.false_eq_true, if_false]
  all_goals (have eb : behindP F s at_ = false := (by (unfold behindP; (first | rw [hf] | rw [hp]); simp)))
  · unfold learnP
    simp only [hm, hm1, eb, if_true, Bool.false_eq_true, if_false, Bool.false_and]
  · exact own5 false (by simpa using hm5) eb (fun k5 b w' hh hL => hL) (fun k5 b w' hh hL => hL) (fun k5 b w' hh h1 h2 => h2 (.inl rfl))
  · unfold learnP
    simp only [hm, hm1, hm5, hm11, eb, if_true, Bool.false_eq_true, if_false]
  · unfold learnP
    simp only [hm, hm1, hm5, hm11, eb, if_true, Bool.false_eq_true, if_false]
  · unfold learnP
    simp only [hm, hm1, eb, if_true, Bool.false_eq_true, if_false, Bool.false_and]
  · exact own5 false (by simpa using hm5) eb (fun k5 b w' hh hL => hL) (fun k5 b w' hh hL => hL) (fun k5 b w' hh h1 h2 => h2 (.inl rfl))
  · unfold learnP
    simp only [hm, hm1, hm5, hm11, eb, if_true, Bool.false_eq_true, if_false]
  · unfold learnP
    simp only [hm, hm1, hm5, hm11, eb, if_true, Bool.false_eq_true, if_false]
end
end Go.Proofs.Ytlfphbmbehbcjaa
