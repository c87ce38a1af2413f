/- The normal forms of functions of the program, as the executor makes them; the kernel checks each. -/
import Derived.Test.YtlfphbmbehbcjaaSt
import Derived.Test.YtlfphbmbehbcjaaProg
set_option linter.unusedVariables false
set_option linter.unusedSimpArgs false
set_option maxRecDepth 100000
set_option maxHeartbeats 4000000
namespace Go.Proofs.Ytlfphbmbehbcjaa
open Go Go.Vx

theorem follows : (Try.prog).follows .mixedOrders = true := by kernel_rfl

noncomputable def cfg3 : Cfg := { P := Try.prog, inl := [], hav := [], drop := [], let_ := [] }
/-- understudy/understudylaw22.TraceApart -/
def NF3 (R : Value → World → Prop) (x0 : Sl) (w : World) : Prop :=
  (CallsV Try.prog 5 [] w [] fun r0 w0 =>
   ∃ b1 : Bool,
   r0 = (.bool b1) ∧
   ((!b1) = false →
    ((decide (40 < ((x0.l : Nat) : Int))) = true →
     R (.bool b1) w0) ∧
    ((decide (40 < ((x0.l : Nat) : Int))) = false →
     ∃ (J2 : Int → World → Prop) (m2 : Int → World → Nat),
     (J2 0 w0) ∧
     (∀ i3 : Int,
      ∀ w4 : World, Within [] w4 →
      J2 i3 w4 →
      ((decide (i3 < ((x0.l : Nat) : Int))) = true →
       ∃ a5 : Addr, x0.p = some a5 ∧
       (0 ≤ i3 ∧ i3 < ((x0.l : Nat) : Int)) ∧
       ∃ i6 : Int,
       CellsAt w4 (Addr.add a5 (0 + Int.toNat i3 * 55)) 1 [(.int .i64 i6)] ∧
       ((decide (i6 < 0)) = false →
        ∃ a7 : Addr, x0.p = some a7 ∧
        (0 ≤ i3 ∧ i3 < ((x0.l : Nat) : Int)) ∧
        ∃ i8 : Int,
        CellsAt w4 (Addr.add a7 (0 + Int.toNat i3 * 55)) 1 [(.int .i64 i8)] ∧
        ((decide (9 < i8)) = false →
         ∃ a9 : Addr, x0.p = some a9 ∧
         (0 ≤ i3 ∧ i3 < ((x0.l : Nat) : Int)) ∧
         ∃ i10 : Int,
         CellsAt w4 (Addr.add a9 (0 + Int.toNat i3 * 55)) 2 [(.int .i64 i10)] ∧
         ((decide (i10 < 0)) = false →
          ∃ a11 : Addr, x0.p = some a11 ∧
          (0 ≤ i3 ∧ i3 < ((x0.l : Nat) : Int)) ∧
          ∃ i12 : Int,
          CellsAt w4 (Addr.add a11 (0 + Int.toNat i3 * 55)) 2 [(.int .i64 i12)] ∧
          ((decide (((x0.l : Nat) : Int) < i12)) = false →
           ∃ a13 : Addr, x0.p = some a13 ∧
           (0 ≤ i3 ∧ i3 < ((x0.l : Nat) : Int)) ∧
           ∃ p14 : Option Addr,
           ∃ n15 : Nat,
           ∃ n16 : Nat,
           CellsAt w4 (Addr.add a13 (0 + Int.toNat i3 * 55)) 54 [(.slice p14 n15 n16)] ∧
           ((decide (20 < ((n15 : Nat) : Int))) = true →
            R (.bool true) w4) ∧
           ((decide (20 < ((n15 : Nat) : Int))) = false →
            (J2 (IntKind.wrap .i64 (i3 + 1)) w4) ∧
            ((m2 (IntKind.wrap .i64 (i3 + 1)) w4) < (m2 i3 w4)))) ∧
          ((decide (((x0.l : Nat) : Int) < i12)) = true →
           R (.bool true) w4)) ∧
         ((decide (i10 < 0)) = true →
          R (.bool true) w4)) ∧
        ((decide (9 < i8)) = true →
         R (.bool true) w4)) ∧
       ((decide (i6 < 0)) = true →
        R (.bool true) w4)) ∧
      ((decide (i3 < ((x0.l : Nat) : Int))) = false →
       ∃ (J5 : Bool → Int → World → Prop) (m5 : Bool → Int → World → Nat),
       (J5 true 0 w4) ∧
       (∀ b6 : Bool,
        ∀ i7 : Int,
        ∀ w8 : World, Within [] w8 →
        J5 b6 i7 w8 →
        ((decide (i7 < 10)) = true →
         ∃ p9 : Option Addr,
         ∃ n10 : Nat,
         ∃ n11 : Nat,
         ∃ w12 : World, Sem.run Try.prog (GOp.sem (.makeSlice 38 (.int .i64 (IntKind.wrap .i64 (((x0.l : Nat) : Int) + 1))) (.int .i64 (IntKind.wrap .i64 (((x0.l : Nat) : Int) + 1))))) w8 = .ok (.slice p9 n10 n11) w12 ∧ Kept [] w8 w12 ∧
         ∃ (J13 : Option Addr → Nat → Nat → Int → World → Prop) (m13 : Option Addr → Nat → Nat → Int → World → Nat),
         (J13 none 0 0 0 w12) ∧
         (∀ p14 : Option Addr,
          ∀ n15 : Nat,
          ∀ n16 : Nat,
          ∀ i17 : Int,
          ∀ w18 : World, Within [] w18 →
          J13 p14 n15 n16 i17 w18 →
          ((decide (i17 < ((x0.l : Nat) : Int))) = true →
           ∃ a19 : Addr, p9 = some a19 ∧
           (0 ≤ i17 ∧ i17 < ((n10 : Nat) : Int)) ∧
           CanStore [] w18 (Addr.add a19 (0 + Int.toNat i17 * 1)) 0 1 ∧
           ∃ a20 : Addr, x0.p = some a20 ∧
           (0 ≤ i17 ∧ i17 < ((x0.l : Nat) : Int)) ∧
           ∃ i21 : Int,
           CellsAt (storeAt w18 (Addr.add a19 (0 + Int.toNat i17 * 1)) 0 [(.int .i64 ((n15 : Nat) : Int))]) (Addr.add a20 (0 + Int.toNat i17 * 55)) 1 [(.int .i64 i21)] ∧
           ((i21 == i7) = true →
            ∃ a22 : Addr, x0.p = some a22 ∧
            (0 ≤ i17 ∧ i17 < ((x0.l : Nat) : Int)) ∧
            ∃ dGSeen_23 : GSeen,
            CellsAt (storeAt w18 (Addr.add a19 (0 + Int.toNat i17 * 1)) 0 [(.int .i64 ((n15 : Nat) : Int))]) (Addr.add a22 (0 + Int.toNat i17 * 55)) 0 (GSeen.cells dGSeen_23) ∧
            ∀ k24 : Nat, Fresh (storeAt w18 (Addr.add a19 (0 + Int.toNat i17 * 1)) 0 [(.int .i64 ((n15 : Nat) : Int))]) [] k24 →
            ∀ k25 : Nat, Fresh (storeAt w18 (Addr.add a19 (0 + Int.toNat i17 * 1)) 0 [(.int .i64 ((n15 : Nat) : Int))]) [k24] k25 →
            ∀ w26 : World, Framed [k24, k25] (storeAt w18 (Addr.add a19 (0 + Int.toNat i17 * 1)) 0 [(.int .i64 ((n15 : Nat) : Int))]) w26 →
            (w26.heap[(k25 : Nat)]? = some (.cells (GSeen.cells dGSeen_23).toArray 37 (0, 0)) →
            ∃ p27 : Option Addr,
            ∃ n28 : Nat,
            ∃ n29 : Nat,
            ∃ w30 : World, Sem.run Try.prog (GOp.sem (.builtin .append #[22, 22] 22 [(.slice p14 n15 n16), (.slice (some ⟨k25, 0, none⟩) 1 1)])) w26 = .ok (.slice p27 n28 n29) w30 ∧ Kept [k24] w26 w30 ∧
            (J13 p27 n28 n29 (IntKind.wrap .i64 (i17 + 1)) w30) ∧
            ((m13 p27 n28 n29 (IntKind.wrap .i64 (i17 + 1)) w30) < (m13 p14 n15 n16 i17 w18)))) ∧
           ((i21 == i7) = false →
            (J13 p14 n15 n16 (IntKind.wrap .i64 (i17 + 1)) (storeAt w18 (Addr.add a19 (0 + Int.toNat i17 * 1)) 0 [(.int .i64 ((n15 : Nat) : Int))])) ∧
            ((m13 p14 n15 n16 (IntKind.wrap .i64 (i17 + 1)) (storeAt w18 (Addr.add a19 (0 + Int.toNat i17 * 1)) 0 [(.int .i64 ((n15 : Nat) : Int))])) < (m13 p14 n15 n16 i17 w18)))) ∧
          ((decide (i17 < ((x0.l : Nat) : Int))) = false →
           ∃ a19 : Addr, p9 = some a19 ∧
           (0 ≤ ((x0.l : Nat) : Int) ∧ ((x0.l : Nat) : Int) < ((n10 : Nat) : Int)) ∧
           CanStore [] w18 (Addr.add a19 (0 + Int.toNat ((x0.l : Nat) : Int) * 1)) 0 1 ∧
           ∃ (J20 : Int → World → Prop) (m20 : Int → World → Nat),
           (J20 0 (storeAt w18 (Addr.add a19 (0 + Int.toNat ((x0.l : Nat) : Int) * 1)) 0 [(.int .i64 ((n15 : Nat) : Int))])) ∧
           (∀ i21 : Int,
            ∀ w22 : World, Within [] w22 →
            J20 i21 w22 →
            ((decide (i21 < ((n15 : Nat) : Int))) = true →
             ∃ a23 : Addr, p14 = some a23 ∧
             (0 ≤ i21 ∧ i21 < ((n15 : Nat) : Int)) ∧
             ∃ i24 : Int,
             CellsAt w22 (Addr.add a23 (0 + Int.toNat i21 * 55)) 2 [(.int .i64 i24)] ∧
             ∃ a25 : Addr, p9 = some a25 ∧
             (0 ≤ i24 ∧ i24 < ((n10 : Nat) : Int)) ∧
             ∃ i26 : Int,
             CellsAt w22 (Addr.add a25 (0 + Int.toNat i24 * 1)) 0 [(.int .i64 i26)] ∧
             ∃ a27 : Addr, p14 = some a27 ∧
             (0 ≤ i21 ∧ i21 < ((n15 : Nat) : Int)) ∧
             CanStore [] w22 (Addr.add a27 (0 + Int.toNat i21 * 55)) 2 1 ∧
             (J20 (IntKind.wrap .i64 (i21 + 1)) (storeAt w22 (Addr.add a27 (0 + Int.toNat i21 * 55)) 2 [(.int .i64 i26)])) ∧
             ((m20 (IntKind.wrap .i64 (i21 + 1)) (storeAt w22 (Addr.add a27 (0 + Int.toNat i21 * 55)) 2 [(.int .i64 i26)])) < (m20 i21 w22))) ∧
            ((decide (i21 < ((n15 : Nat) : Int))) = false →
             (b6 = true →
              CallsV Try.prog 6 [(.slice p14 n15 n16)] w22 [] fun r23 w23 =>
               ∃ b24 : Bool,
               r23 = (.bool b24) ∧
               (J5 b24 (IntKind.wrap .i64 (i7 + 1)) w23) ∧
               ((m5 b24 (IntKind.wrap .i64 (i7 + 1)) w23) < (m5 b6 i7 w8))) ∧
             (b6 = false →
              (J5 false (IntKind.wrap .i64 (i7 + 1)) w22) ∧
              ((m5 false (IntKind.wrap .i64 (i7 + 1)) w22) < (m5 b6 i7 w8)))))))) ∧
        ((decide (i7 < 10)) = false →
         CallsV Try.prog 6 [(.slice x0.p x0.l x0.c)] w8 [] fun r9 w9 =>
          ∃ b10 : Bool,
          r9 = (.bool b10) ∧
          R (.bool (b6 == b10)) w9)))))) ∧
   ((!b1) = true →
    R (.bool b1) w0))
theorem nf3 (R : Value → World → Prop) (x0 : Sl) (w : World) : execF (𝔸 := Sh tys cfg3.P R) cfg3 3 [(.slice x0.p x0.l x0.c)] w = NF3 R x0 w := by kernel_rfl
theorem calls3 (R : Value → World → Prop) (x0 : Sl) (w : World) (h : NF3 R x0 w) : Calls Try.prog 3 [(.slice x0.p x0.l x0.c)].toArray w fun e w' => ∃ v, e = .returned v ∧ R v w' :=
  callsOf (𝕋 := tys) cfg3 follows (args := [(.slice x0.p x0.l x0.c)]) (by kernel_rfl) (by kernel_rfl) (nf3 R x0 w) h

noncomputable def cfg4 : Cfg := { P := Try.prog, inl := [], hav := [], drop := [], let_ := [] }
/-- understudy/understudylaw22.TraceBegins -/
def NF4 (R : Value → World → Prop) (x0 : Sl) (x1 : Int) (w : World) : Prop :=
  (CallsV Try.prog 5 [] w [] fun r0 w0 =>
   ∃ b1 : Bool,
   r0 = (.bool b1) ∧
   ((!b1) = false →
    ((decide (50 < ((x0.l : Nat) : Int))) = false →
     ((decide (x1 < 0)) = false →
      ((decide (((x0.l : Nat) : Int) < x1)) = true →
       R (.bool b1) w0) ∧
      ((decide (((x0.l : Nat) : Int) < x1)) = false →
       ∃ (J2 : Int → World → Prop) (m2 : Int → World → Nat),
       (J2 0 w0) ∧
       (∀ i3 : Int,
        ∀ w4 : World, Within [] w4 →
        J2 i3 w4 →
        ((decide (i3 < ((x0.l : Nat) : Int))) = true →
         ∃ a5 : Addr, x0.p = some a5 ∧
         (0 ≤ i3 ∧ i3 < ((x0.l : Nat) : Int)) ∧
         ∃ p6 : Option Addr,
         ∃ n7 : Nat,
         ∃ n8 : Nat,
         CellsAt w4 (Addr.add a5 (0 + Int.toNat i3 * 55)) 54 [(.slice p6 n7 n8)] ∧
         ((decide (20 < ((n7 : Nat) : Int))) = true →
          R (.bool true) w4) ∧
         ((decide (20 < ((n7 : Nat) : Int))) = false →
          (J2 (IntKind.wrap .i64 (i3 + 1)) w4) ∧
          ((m2 (IntKind.wrap .i64 (i3 + 1)) w4) < (m2 i3 w4)))) ∧
        ((decide (i3 < ((x0.l : Nat) : Int))) = false →
         CallsV Try.prog 7 [(.slice x0.p x0.l x0.c)] w4 [] fun r5 w5 =>
          ∃ i6 : Int,
          r5 = (.int .i64 i6) ∧
          SlCutOk x0.l x0.c none (some x1) ∧
          CallsV Try.prog 7 [(.slice (slCutP x0.p x0.c 55 none) (slCutL x0.l none (some x1)) (slCutC x0.c none))] w5 [] fun r7 w7 =>
           ∃ i8 : Int,
           r7 = (.int .i64 i8) ∧
           ((decide (0 ≤ i6)) = true →
            ((decide (i6 < x1)) = true →
             R (.bool (i8 == i6)) w7) ∧
            ((decide (i6 < x1)) = false →
             R (.bool (decide (i8 < 0))) w7)) ∧
           ((decide (0 ≤ i6)) = false →
            R (.bool (decide (i8 < 0))) w7))))) ∧
     ((decide (x1 < 0)) = true →
      R (.bool b1) w0)) ∧
    ((decide (50 < ((x0.l : Nat) : Int))) = true →
     R (.bool b1) w0)) ∧
   ((!b1) = true →
    R (.bool b1) w0))
theorem nf4 (R : Value → World → Prop) (x0 : Sl) (x1 : Int) (w : World) : execF (𝔸 := Sh tys cfg4.P R) cfg4 4 [(.slice x0.p x0.l x0.c), (.int .i64 x1)] w = NF4 R x0 x1 w := by kernel_rfl
theorem calls4 (R : Value → World → Prop) (x0 : Sl) (x1 : Int) (w : World) (h : NF4 R x0 x1 w) : Calls Try.prog 4 [(.slice x0.p x0.l x0.c), (.int .i64 x1)].toArray w fun e w' => ∃ v, e = .returned v ∧ R v w' :=
  callsOf (𝕋 := tys) cfg4 follows (args := [(.slice x0.p x0.l x0.c), (.int .i64 x1)]) (by kernel_rfl) (by kernel_rfl) (nf4 R x0 x1 w) h

noncomputable def cfg5 : Cfg := { P := Try.prog, inl := [], hav := [], drop := [], let_ := [] }
/-- understudy/understudylaw22.alive -/
def NF5 (R : Value → World → Prop)  (w : World) : Prop :=
  (CallsV Try.prog 6 [(.slice none 0 0)] w [] fun r0 w0 =>
   ∃ b1 : Bool,
   r0 = (.bool b1) ∧
   (b1 = true →
    ∀ k2 : Nat, Fresh w0 [] k2 →
    ∀ w3 : World, Framed [k2] w0 w3 →
    (w3.heap[(k2 : Nat)]? = some (.cells (GSeen.cells ⟨3, 0, 0, ⟨⟨⟨#[]⟩, 0⟩, ⟨0, 0, ⟨#[]⟩⟩, ⟨0, 0, ⟨#[]⟩⟩, ⟨false, false, false, false, false, false, ⟨0, 0, ⟨#[]⟩⟩, ⟨0, 0, ⟨#[]⟩⟩, ⟨0, 0, ⟨#[]⟩⟩, false, false, false⟩, ⟨none, 0, 0⟩⟩, ⟨0, ⟨0, 0, ⟨#[]⟩⟩, false, false, ⟨false, false, false, false, false, false, ⟨0, 0, ⟨#[]⟩⟩, ⟨0, 0, ⟨#[]⟩⟩, ⟨0, 0, ⟨#[]⟩⟩, false, false, false⟩, ⟨none, 0, 0⟩⟩⟩ ++ GSeen.cells ⟨3, 0, 1, ⟨⟨⟨#[]⟩, 0⟩, ⟨0, 0, ⟨#[]⟩⟩, ⟨0, 0, ⟨#[]⟩⟩, ⟨false, false, false, false, false, false, ⟨0, 0, ⟨#[]⟩⟩, ⟨0, 0, ⟨#[]⟩⟩, ⟨0, 0, ⟨#[]⟩⟩, false, false, false⟩, ⟨none, 0, 0⟩⟩, ⟨0, ⟨0, 0, ⟨#[]⟩⟩, true, false, ⟨false, false, false, false, false, false, ⟨0, 0, ⟨#[]⟩⟩, ⟨0, 0, ⟨#[]⟩⟩, ⟨0, 0, ⟨#[]⟩⟩, false, false, false⟩, ⟨none, 0, 0⟩⟩⟩).toArray 37 (0, 0)) →
    CallsV Try.prog 6 [(.slice (some ⟨k2, 0, none⟩) 2 2)] w3 [] fun r4 w4 =>
     ∃ b5 : Bool,
     r4 = (.bool b5) ∧
     R (.bool (!b5)) w4)) ∧
   (b1 = false →
    R (.bool false) w0))
theorem nf5 (R : Value → World → Prop)  (w : World) : execF (𝔸 := Sh tys cfg5.P R) cfg5 5 [] w = NF5 R  w := by kernel_rfl
theorem calls5 (R : Value → World → Prop)  (w : World) (h : NF5 R  w) : Calls Try.prog 5 [].toArray w fun e w' => ∃ v, e = .returned v ∧ R v w' :=
  callsOf (𝕋 := tys) cfg5 follows (args := []) (by kernel_rfl) (by kernel_rfl) (nf5 R  w) h

noncomputable def cfg6 : Cfg := { P := Try.prog, inl := [], hav := [], drop := [], let_ := [] }
/-- understudy/trace.Keeps -/
def NF6 (R : Value → World → Prop) (x0 : Sl) (w : World) : Prop :=
  (CallsV Try.prog 7 [(.slice x0.p x0.l x0.c)] w [] fun r0 w0 =>
   ∃ i1 : Int,
   r0 = (.int .i64 i1) ∧
   R (.bool (decide (i1 < 0))) w0)
theorem nf6 (R : Value → World → Prop) (x0 : Sl) (w : World) : execF (𝔸 := Sh tys cfg6.P R) cfg6 6 [(.slice x0.p x0.l x0.c)] w = NF6 R x0 w := by kernel_rfl
theorem calls6 (R : Value → World → Prop) (x0 : Sl) (w : World) (h : NF6 R x0 w) : Calls Try.prog 6 [(.slice x0.p x0.l x0.c)].toArray w fun e w' => ∃ v, e = .returned v ∧ R v w' :=
  callsOf (𝕋 := tys) cfg6 follows (args := [(.slice x0.p x0.l x0.c)]) (by kernel_rfl) (by kernel_rfl) (nf6 R x0 w) h

noncomputable def cfg7 : Cfg := { P := Try.prog, inl := [], hav := [], drop := [], let_ := [] }
/-- understudy/trace.First -/
def NF7 (R : Value → World → Prop) (x0 : Sl) (w : World) : Prop :=
  (∃ m0 : Option Nat,
  ∃ w1 : World, Sem.run Try.prog (GOp.sem (.makeMap 42)) w = .ok (.map m0) w1 ∧ Kept [] w w1 ∧
  ∃ (J2 : Int → World → Prop) (m2 : Int → World → Nat),
  (J2 0 w1) ∧
  (∀ i3 : Int,
   ∀ w4 : World, Within [] w4 →
   J2 i3 w4 →
   ((decide (i3 < ((x0.l : Nat) : Int))) = true →
    ∃ a5 : Addr, x0.p = some a5 ∧
    (0 ≤ i3 ∧ i3 < ((x0.l : Nat) : Int)) ∧
    ∃ dGSeen_6 : GSeen,
    CellsAt w4 (Addr.add a5 (0 + Int.toNat i3 * 55)) 0 (GSeen.cells dGSeen_6) ∧
    ∀ k7 : Nat, Fresh w4 [] k7 →
    ∀ w8 : World, Framed [k7] w4 w8 →
    ∃ p9 : Option Addr,
    ∃ w10 : World, Sem.run Try.prog (GOp.sem (.lookup 42 (.map m0) (.int .i64 dGSeen_6.Thing) false)) w8 = .ok (.pointer p9) w10 ∧ Kept [k7] w8 w10 ∧
    ((Option.isNone p9) = true →
     ∃ m11 : Option Nat,
     ∃ w12 : World, Sem.run Try.prog (GOp.sem (.makeMap 44)) w10 = .ok (.map m11) w12 ∧ Kept [k7] w10 w12 ∧
     ∃ m13 : Option Nat,
     ∃ w14 : World, Sem.run Try.prog (GOp.sem (.makeMap 45)) w12 = .ok (.map m13) w14 ∧ Kept [k7] w12 w14 ∧
     ∀ k15 : Nat, Fresh w14 [k7] k15 →
     ∀ w16 : World, Framed [k7, k15] w14 w16 →
     (w16.heap[(k15 : Nat)]? = some (.cells (GTraceFacts.cells ⟨(-1), (-1), ⟨0, 0, ⟨#[]⟩⟩, m11, ⟨none, 0, 0⟩, m13⟩).toArray 48 (0, 0)) →
     ∃ w17 : World, Sem.run Try.prog (GOp.sem (.mapUpdate 42 (.map m0) (.int .i64 dGSeen_6.Thing) (.pointer (some ⟨k15, 0, none⟩)))) w16 = .ok (.tuple #[]) w17 ∧ Kept [k7] w16 w17 ∧
     ∃ i18 : Int,
     (∀ w, Sem.run Try.prog (GOp.sem (.builtin .min #[3, 3] 3 [(.int .i64 dGSeen_6.From), (.int .i64 i3)])) w = .ok (.int .i64 i18) w) ∧
     CallsV Try.prog 8 [(.pointer (some ⟨k15, 0, none⟩)), (GSeen.val dGSeen_6), (.int .i64 i18)] w17 [k7] fun r19 w19 =>
      ∃ b20 : Bool,
      r19 = (.bool b20) ∧
      (b20 = true →
       R (.int .i64 i3) w19) ∧
      (b20 = false →
       CallsV Try.prog 9 [(.pointer (some ⟨k15, 0, none⟩)), (GSeen.val dGSeen_6), (.int .i64 i3)] w19 [k7] fun r21 w21 =>
        r21 = (.tuple #[]) ∧
        (J2 (IntKind.wrap .i64 (i3 + 1)) w21) ∧
        ((m2 (IntKind.wrap .i64 (i3 + 1)) w21) < (m2 i3 w4))))) ∧
    ((Option.isNone p9) = false →
     ∃ i11 : Int,
     (∀ w, Sem.run Try.prog (GOp.sem (.builtin .min #[3, 3] 3 [(.int .i64 dGSeen_6.From), (.int .i64 i3)])) w = .ok (.int .i64 i11) w) ∧
     CallsV Try.prog 8 [(.pointer p9), (GSeen.val dGSeen_6), (.int .i64 i11)] w10 [k7] fun r12 w12 =>
      ∃ b13 : Bool,
      r12 = (.bool b13) ∧
      (b13 = true →
       R (.int .i64 i3) w12) ∧
      (b13 = false →
       CallsV Try.prog 9 [(.pointer p9), (GSeen.val dGSeen_6), (.int .i64 i3)] w12 [k7] fun r14 w14 =>
        r14 = (.tuple #[]) ∧
        (J2 (IntKind.wrap .i64 (i3 + 1)) w14) ∧
        ((m2 (IntKind.wrap .i64 (i3 + 1)) w14) < (m2 i3 w4))))) ∧
   ((decide (i3 < ((x0.l : Nat) : Int))) = false →
    R (.int .i64 (-1)) w4)))
theorem nf7 (R : Value → World → Prop) (x0 : Sl) (w : World) : execF (𝔸 := Sh tys cfg7.P R) cfg7 7 [(.slice x0.p x0.l x0.c)] w = NF7 R x0 w := by kernel_rfl
theorem calls7 (R : Value → World → Prop) (x0 : Sl) (w : World) (h : NF7 R x0 w) : Calls Try.prog 7 [(.slice x0.p x0.l x0.c)].toArray w fun e w' => ∃ v, e = .returned v ∧ R v w' :=
  callsOf (𝕋 := tys) cfg7 follows (args := [(.slice x0.p x0.l x0.c)]) (by kernel_rfl) (by kernel_rfl) (nf7 R x0 w) h

noncomputable def cfg13 : Cfg := { P := Try.prog, inl := [], hav := [], drop := [], let_ := [] }
/-- understudy/values.Same -/
def NF13 (R : Value → World → Prop) (xGValue_0 : GValue) (xGValue_1 : GValue) (w : World) : Prop :=
  (∀ k0 : Nat, Fresh w [] k0 →
  ∀ k1 : Nat, Fresh w [k0] k1 →
  ∀ w2 : World, Framed [k0, k1] w w2 →
  R (.bool ((xGValue_0.Kind == xGValue_1.Kind) && ((xGValue_0.Num == xGValue_1.Num) && (strB .eql xGValue_0.Str xGValue_1.Str)))) w2)
theorem nf13 (R : Value → World → Prop) (xGValue_0 : GValue) (xGValue_1 : GValue) (w : World) : execF (𝔸 := Sh tys cfg13.P R) cfg13 13 [(.agg (GValue.svs xGValue_0)), (.agg (GValue.svs xGValue_1))] w = NF13 R xGValue_0 xGValue_1 w := by kernel_rfl
theorem calls13 (R : Value → World → Prop) (xGValue_0 : GValue) (xGValue_1 : GValue) (w : World) (h : NF13 R xGValue_0 xGValue_1 w) : Calls Try.prog 13 [(GValue.val xGValue_0), (GValue.val xGValue_1)].toArray w fun e w' => ∃ v, e = .returned v ∧ R v w' :=
  callsOf (𝕋 := tys) cfg13 follows (args := [(.agg (GValue.svs xGValue_0)), (.agg (GValue.svs xGValue_1))]) (by kernel_rfl) (by kernel_rfl) (nf13 R xGValue_0 xGValue_1 w) h

noncomputable def cfg16 : Cfg := { P := Try.prog, inl := [], hav := [], drop := [], let_ := [] }
/-- understudy/trace.valueBreaks -/
def NF16 (R : Value → World → Prop) (xGDesc_0 : GDesc) (xGValue_1 : GValue) (xGValue_2 : GValue) (x3 : Bool) (w : World) : Prop :=
  (∀ k0 : Nat, Fresh w [] k0 →
  ∀ k1 : Nat, Fresh w [k0] k1 →
  ∀ k2 : Nat, Fresh w [k0, k1] k2 →
  ∀ w3 : World, Framed [k0, k1, k2] w w3 →
  CallsV Try.prog 18 [(GDesc.val xGDesc_0)] w3 [k0, k1, k2] fun r4 w4 =>
   ∃ b5 : Bool,
   r4 = (.bool b5) ∧
   (b5 = true →
    ((!xGDesc_0.Writable) = true →
     CallsV Try.prog 13 [(GValue.val xGValue_1), (GValue.val xGDesc_0.Value)] w4 [k0, k1, k2] fun r6 w6 =>
      ∃ b7 : Bool,
      r6 = (.bool b7) ∧
      R (.bool (!b7)) w6) ∧
    ((!xGDesc_0.Writable) = false →
     R (.bool false) w4)) ∧
   (b5 = false →
    ((xGValue_2.Kind == 0) = true →
     R (.bool x3) w4) ∧
    ((xGValue_2.Kind == 0) = false →
     R (.bool false) w4)))
theorem nf16 (R : Value → World → Prop) (xGDesc_0 : GDesc) (xGValue_1 : GValue) (xGValue_2 : GValue) (x3 : Bool) (w : World) : execF (𝔸 := Sh tys cfg16.P R) cfg16 16 [(.agg (GDesc.svs xGDesc_0)), (.agg (GValue.svs xGValue_1)), (.agg (GValue.svs xGValue_2)), (.bool x3)] w = NF16 R xGDesc_0 xGValue_1 xGValue_2 x3 w := by kernel_rfl
theorem calls16 (R : Value → World → Prop) (xGDesc_0 : GDesc) (xGValue_1 : GValue) (xGValue_2 : GValue) (x3 : Bool) (w : World) (h : NF16 R xGDesc_0 xGValue_1 xGValue_2 x3 w) : Calls Try.prog 16 [(GDesc.val xGDesc_0), (GValue.val xGValue_1), (GValue.val xGValue_2), (.bool x3)].toArray w fun e w' => ∃ v, e = .returned v ∧ R v w' :=
  callsOf (𝕋 := tys) cfg16 follows (args := [(.agg (GDesc.svs xGDesc_0)), (.agg (GValue.svs xGValue_1)), (.agg (GValue.svs xGValue_2)), (.bool x3)]) (by kernel_rfl) (by kernel_rfl) (nf16 R xGDesc_0 xGValue_1 xGValue_2 x3 w) h

noncomputable def cfg18 : Cfg := { P := Try.prog, inl := [], hav := [], drop := [], let_ := [] }
/-- understudy/desc.Data -/
def NF18 (R : Value → World → Prop) (xGDesc_0 : GDesc) (w : World) : Prop :=
  (∀ k0 : Nat, Fresh w [] k0 →
  (xGDesc_0.HasValue = false →
   ∀ w1 : World, Framed [k0] w w1 →
   R (.bool xGDesc_0.HasWritable) w1) ∧
  (xGDesc_0.HasValue = true →
   ∀ w1 : World, Framed [k0] w w1 →
   R (.bool true) w1))
theorem nf18 (R : Value → World → Prop) (xGDesc_0 : GDesc) (w : World) : execF (𝔸 := Sh tys cfg18.P R) cfg18 18 [(.agg (GDesc.svs xGDesc_0))] w = NF18 R xGDesc_0 w := by kernel_rfl
theorem calls18 (R : Value → World → Prop) (xGDesc_0 : GDesc) (w : World) (h : NF18 R xGDesc_0 w) : Calls Try.prog 18 [(GDesc.val xGDesc_0)].toArray w fun e w' => ∃ v, e = .returned v ∧ R v w' :=
  callsOf (𝕋 := tys) cfg18 follows (args := [(.agg (GDesc.svs xGDesc_0))]) (by kernel_rfl) (by kernel_rfl) (nf18 R xGDesc_0 w) h

noncomputable def cfg31 : Cfg := { P := Try.prog, inl := [], hav := [], drop := [], let_ := [] }
/-- understudy/desc.Accessor -/
def NF31 (R : Value → World → Prop) (xGDesc_0 : GDesc) (w : World) : Prop :=
  (∀ k0 : Nat, Fresh w [] k0 →
  (xGDesc_0.HasGet = false →
   ∀ w1 : World, Framed [k0] w w1 →
   R (.bool xGDesc_0.HasSet) w1) ∧
  (xGDesc_0.HasGet = true →
   ∀ w1 : World, Framed [k0] w w1 →
   R (.bool true) w1))
theorem nf31 (R : Value → World → Prop) (xGDesc_0 : GDesc) (w : World) : execF (𝔸 := Sh tys cfg31.P R) cfg31 31 [(.agg (GDesc.svs xGDesc_0))] w = NF31 R xGDesc_0 w := by kernel_rfl
theorem calls31 (R : Value → World → Prop) (xGDesc_0 : GDesc) (w : World) (h : NF31 R xGDesc_0 w) : Calls Try.prog 31 [(GDesc.val xGDesc_0)].toArray w fun e w' => ∃ v, e = .returned v ∧ R v w' :=
  callsOf (𝕋 := tys) cfg31 follows (args := [(.agg (GDesc.svs xGDesc_0))]) (by kernel_rfl) (by kernel_rfl) (nf31 R xGDesc_0 w) h

noncomputable def cfg32 : Cfg := { P := Try.prog, inl := [], hav := [], drop := [], let_ := [] }
/-- understudy/desc.fun -/
def NF32 (R : Value → World → Prop) (xGValue_0 : GValue) (w : World) : Prop :=
  (∀ k0 : Nat, Fresh w [] k0 →
  ((xGValue_0.Kind == 0) = false →
   ∀ w1 : World, Framed [k0] w w1 →
   R (.bool (xGValue_0.Kind == 6)) w1) ∧
  ((xGValue_0.Kind == 0) = true →
   ∀ w1 : World, Framed [k0] w w1 →
   R (.bool true) w1))
theorem nf32 (R : Value → World → Prop) (xGValue_0 : GValue) (w : World) : execF (𝔸 := Sh tys cfg32.P R) cfg32 32 [(.agg (GValue.svs xGValue_0))] w = NF32 R xGValue_0 w := by kernel_rfl
theorem calls32 (R : Value → World → Prop) (xGValue_0 : GValue) (w : World) (h : NF32 R xGValue_0 w) : Calls Try.prog 32 [(GValue.val xGValue_0)].toArray w fun e w' => ∃ v, e = .returned v ∧ R v w' :=
  callsOf (𝕋 := tys) cfg32 follows (args := [(.agg (GValue.svs xGValue_0))]) (by kernel_rfl) (by kernel_rfl) (nf32 R xGValue_0 w) h

noncomputable def cfg27 : Cfg := { P := Try.prog, inl := [], hav := [], drop := [], let_ := [] }
/-- understudy/desc.Right -/
def NF27 (R : Value → World → Prop) (xGDesc_0 : GDesc) (w : World) : Prop :=
  (∀ k0 : Nat, Fresh w [] k0 →
  ∀ w1 : World, Framed [k0] w w1 →
  CallsV Try.prog 31 [(GDesc.val xGDesc_0)] w1 [k0] fun r2 w2 =>
   ∃ b3 : Bool,
   r2 = (.bool b3) ∧
   (b3 = true →
    CallsV Try.prog 18 [(GDesc.val xGDesc_0)] w2 [k0] fun r4 w4 =>
     ∃ b5 : Bool,
     r4 = (.bool b5) ∧
     (b5 = false →
      CallsV Try.prog 32 [(GValue.val xGDesc_0.Get)] w4 [k0] fun r6 w6 =>
       ∃ b7 : Bool,
       r6 = (.bool b7) ∧
       ((!b7) = false →
        CallsV Try.prog 32 [(GValue.val xGDesc_0.Set)] w6 [k0] fun r8 w8 =>
         ∃ b9 : Bool,
         r8 = (.bool b9) ∧
         ((!b9) = true →
          R (.bool false) w8) ∧
         ((!b9) = false →
          ∀ k10 : Nat, Fresh w8 [k0] k10 →
          (xGDesc_0.HasValue = false →
           (((xGDesc_0.Value.Kind == 0) && ((xGDesc_0.Value.Num == 0) && (strB .eql xGDesc_0.Value.Str ⟨#[]⟩))) = true →
            (xGDesc_0.HasGet = false →
             (((xGDesc_0.Get.Kind == 0) && ((xGDesc_0.Get.Num == 0) && (strB .eql xGDesc_0.Get.Str ⟨#[]⟩))) = true →
              (xGDesc_0.HasSet = false →
               (((xGDesc_0.Set.Kind == 0) && ((xGDesc_0.Set.Num == 0) && (strB .eql xGDesc_0.Set.Str ⟨#[]⟩))) = true →
                (xGDesc_0.HasWritable = false →
                 ((!xGDesc_0.Writable) = true →
                  (xGDesc_0.HasEnumerable = false →
                   ((!xGDesc_0.Enumerable) = true →
                    (xGDesc_0.HasConfigurable = false →
                     ∀ w11 : World, Framed [k0, k10] w8 w11 →
                     R (.bool (!xGDesc_0.Configurable)) w11) ∧
                    (xGDesc_0.HasConfigurable = true →
                     ∀ w11 : World, Framed [k0, k10] w8 w11 →
                     R (.bool true) w11)) ∧
                   ((!xGDesc_0.Enumerable) = false →
                    ∀ w11 : World, Framed [k0, k10] w8 w11 →
                    R (.bool false) w11)) ∧
                  (xGDesc_0.HasEnumerable = true →
                   (xGDesc_0.HasConfigurable = false →
                    ∀ w11 : World, Framed [k0, k10] w8 w11 →
                    R (.bool (!xGDesc_0.Configurable)) w11) ∧
                   (xGDesc_0.HasConfigurable = true →
                    ∀ w11 : World, Framed [k0, k10] w8 w11 →
                    R (.bool true) w11))) ∧
                 ((!xGDesc_0.Writable) = false →
                  ∀ w11 : World, Framed [k0, k10] w8 w11 →
                  R (.bool false) w11)) ∧
                (xGDesc_0.HasWritable = true →
                 (xGDesc_0.HasEnumerable = false →
                  ((!xGDesc_0.Enumerable) = true →
                   (xGDesc_0.HasConfigurable = false →
                    ∀ w11 : World, Framed [k0, k10] w8 w11 →
                    R (.bool (!xGDesc_0.Configurable)) w11) ∧
                   (xGDesc_0.HasConfigurable = true →
                    ∀ w11 : World, Framed [k0, k10] w8 w11 →
                    R (.bool true) w11)) ∧
                  ((!xGDesc_0.Enumerable) = false →
                   ∀ w11 : World, Framed [k0, k10] w8 w11 →
                   R (.bool false) w11)) ∧
                 (xGDesc_0.HasEnumerable = true →
                  (xGDesc_0.HasConfigurable = false →
                   ∀ w11 : World, Framed [k0, k10] w8 w11 →
                   R (.bool (!xGDesc_0.Configurable)) w11) ∧
                  (xGDesc_0.HasConfigurable = true →
                   ∀ w11 : World, Framed [k0, k10] w8 w11 →
                   R (.bool true) w11)))) ∧
               (((xGDesc_0.Set.Kind == 0) && ((xGDesc_0.Set.Num == 0) && (strB .eql xGDesc_0.Set.Str ⟨#[]⟩))) = false →
                ∀ w11 : World, Framed [k0, k10] w8 w11 →
                R (.bool false) w11)) ∧
              (xGDesc_0.HasSet = true →
               (xGDesc_0.HasWritable = false →
                ((!xGDesc_0.Writable) = true →
                 (xGDesc_0.HasEnumerable = false →
                  ((!xGDesc_0.Enumerable) = true →
                   (xGDesc_0.HasConfigurable = false →
                    ∀ w11 : World, Framed [k0, k10] w8 w11 →
                    R (.bool (!xGDesc_0.Configurable)) w11) ∧
                   (xGDesc_0.HasConfigurable = true →
                    ∀ w11 : World, Framed [k0, k10] w8 w11 →
                    R (.bool true) w11)) ∧
                  ((!xGDesc_0.Enumerable) = false →
                   ∀ w11 : World, Framed [k0, k10] w8 w11 →
                   R (.bool false) w11)) ∧
                 (xGDesc_0.HasEnumerable = true →
                  (xGDesc_0.HasConfigurable = false →
                   ∀ w11 : World, Framed [k0, k10] w8 w11 →
                   R (.bool (!xGDesc_0.Configurable)) w11) ∧
                  (xGDesc_0.HasConfigurable = true →
                   ∀ w11 : World, Framed [k0, k10] w8 w11 →
                   R (.bool true) w11))) ∧
                ((!xGDesc_0.Writable) = false →
                 ∀ w11 : World, Framed [k0, k10] w8 w11 →
                 R (.bool false) w11)) ∧
               (xGDesc_0.HasWritable = true →
                (xGDesc_0.HasEnumerable = false →
                 ((!xGDesc_0.Enumerable) = true →
                  (xGDesc_0.HasConfigurable = false →
                   ∀ w11 : World, Framed [k0, k10] w8 w11 →
                   R (.bool (!xGDesc_0.Configurable)) w11) ∧
                  (xGDesc_0.HasConfigurable = true →
                   ∀ w11 : World, Framed [k0, k10] w8 w11 →
                   R (.bool true) w11)) ∧
                 ((!xGDesc_0.Enumerable) = false →
                  ∀ w11 : World, Framed [k0, k10] w8 w11 →
                  R (.bool false) w11)) ∧
                (xGDesc_0.HasEnumerable = true →
                 (xGDesc_0.HasConfigurable = false →
                  ∀ w11 : World, Framed [k0, k10] w8 w11 →
                  R (.bool (!xGDesc_0.Configurable)) w11) ∧
                 (xGDesc_0.HasConfigurable = true →
                  ∀ w11 : World, Framed [k0, k10] w8 w11 →
                  R (.bool true) w11))))) ∧
             (((xGDesc_0.Get.Kind == 0) && ((xGDesc_0.Get.Num == 0) && (strB .eql xGDesc_0.Get.Str ⟨#[]⟩))) = false →
              ∀ w11 : World, Framed [k0, k10] w8 w11 →
              R (.bool false) w11)) ∧
            (xGDesc_0.HasGet = true →
             (xGDesc_0.HasSet = false →
              (((xGDesc_0.Set.Kind == 0) && ((xGDesc_0.Set.Num == 0) && (strB .eql xGDesc_0.Set.Str ⟨#[]⟩))) = true →
               (xGDesc_0.HasWritable = false →
                ((!xGDesc_0.Writable) = true →
                 (xGDesc_0.HasEnumerable = false →
                  ((!xGDesc_0.Enumerable) = true →
                   (xGDesc_0.HasConfigurable = false →
                    ∀ w11 : World, Framed [k0, k10] w8 w11 →
                    R (.bool (!xGDesc_0.Configurable)) w11) ∧
                   (xGDesc_0.HasConfigurable = true →
                    ∀ w11 : World, Framed [k0, k10] w8 w11 →
                    R (.bool true) w11)) ∧
                  ((!xGDesc_0.Enumerable) = false →
                   ∀ w11 : World, Framed [k0, k10] w8 w11 →
                   R (.bool false) w11)) ∧
                 (xGDesc_0.HasEnumerable = true →
                  (xGDesc_0.HasConfigurable = false →
                   ∀ w11 : World, Framed [k0, k10] w8 w11 →
                   R (.bool (!xGDesc_0.Configurable)) w11) ∧
                  (xGDesc_0.HasConfigurable = true →
                   ∀ w11 : World, Framed [k0, k10] w8 w11 →
                   R (.bool true) w11))) ∧
                ((!xGDesc_0.Writable) = false →
                 ∀ w11 : World, Framed [k0, k10] w8 w11 →
                 R (.bool false) w11)) ∧
               (xGDesc_0.HasWritable = true →
                (xGDesc_0.HasEnumerable = false →
                 ((!xGDesc_0.Enumerable) = true →
                  (xGDesc_0.HasConfigurable = false →
                   ∀ w11 : World, Framed [k0, k10] w8 w11 →
                   R (.bool (!xGDesc_0.Configurable)) w11) ∧
                  (xGDesc_0.HasConfigurable = true →
                   ∀ w11 : World, Framed [k0, k10] w8 w11 →
                   R (.bool true) w11)) ∧
                 ((!xGDesc_0.Enumerable) = false →
                  ∀ w11 : World, Framed [k0, k10] w8 w11 →
                  R (.bool false) w11)) ∧
                (xGDesc_0.HasEnumerable = true →
                 (xGDesc_0.HasConfigurable = false →
                  ∀ w11 : World, Framed [k0, k10] w8 w11 →
                  R (.bool (!xGDesc_0.Configurable)) w11) ∧
                 (xGDesc_0.HasConfigurable = true →
                  ∀ w11 : World, Framed [k0, k10] w8 w11 →
                  R (.bool true) w11)))) ∧
              (((xGDesc_0.Set.Kind == 0) && ((xGDesc_0.Set.Num == 0) && (strB .eql xGDesc_0.Set.Str ⟨#[]⟩))) = false →
               ∀ w11 : World, Framed [k0, k10] w8 w11 →
               R (.bool false) w11)) ∧
             (xGDesc_0.HasSet = true →
              (xGDesc_0.HasWritable = false →
               ((!xGDesc_0.Writable) = true →
                (xGDesc_0.HasEnumerable = false →
                 ((!xGDesc_0.Enumerable) = true →
                  (xGDesc_0.HasConfigurable = false →
                   ∀ w11 : World, Framed [k0, k10] w8 w11 →
                   R (.bool (!xGDesc_0.Configurable)) w11) ∧
                  (xGDesc_0.HasConfigurable = true →
                   ∀ w11 : World, Framed [k0, k10] w8 w11 →
                   R (.bool true) w11)) ∧
                 ((!xGDesc_0.Enumerable) = false →
                  ∀ w11 : World, Framed [k0, k10] w8 w11 →
                  R (.bool false) w11)) ∧
                (xGDesc_0.HasEnumerable = true →
                 (xGDesc_0.HasConfigurable = false →
                  ∀ w11 : World, Framed [k0, k10] w8 w11 →
                  R (.bool (!xGDesc_0.Configurable)) w11) ∧
                 (xGDesc_0.HasConfigurable = true →
                  ∀ w11 : World, Framed [k0, k10] w8 w11 →
                  R (.bool true) w11))) ∧
               ((!xGDesc_0.Writable) = false →
                ∀ w11 : World, Framed [k0, k10] w8 w11 →
                R (.bool false) w11)) ∧
              (xGDesc_0.HasWritable = true →
               (xGDesc_0.HasEnumerable = false →
                ((!xGDesc_0.Enumerable) = true →
                 (xGDesc_0.HasConfigurable = false →
                  ∀ w11 : World, Framed [k0, k10] w8 w11 →
                  R (.bool (!xGDesc_0.Configurable)) w11) ∧
                 (xGDesc_0.HasConfigurable = true →
                  ∀ w11 : World, Framed [k0, k10] w8 w11 →
                  R (.bool true) w11)) ∧
                ((!xGDesc_0.Enumerable) = false →
                 ∀ w11 : World, Framed [k0, k10] w8 w11 →
                 R (.bool false) w11)) ∧
               (xGDesc_0.HasEnumerable = true →
                (xGDesc_0.HasConfigurable = false →
                 ∀ w11 : World, Framed [k0, k10] w8 w11 →
                 R (.bool (!xGDesc_0.Configurable)) w11) ∧
                (xGDesc_0.HasConfigurable = true →
                 ∀ w11 : World, Framed [k0, k10] w8 w11 →
                 R (.bool true) w11)))))) ∧
           (((xGDesc_0.Value.Kind == 0) && ((xGDesc_0.Value.Num == 0) && (strB .eql xGDesc_0.Value.Str ⟨#[]⟩))) = false →
            ∀ w11 : World, Framed [k0, k10] w8 w11 →
            R (.bool false) w11)) ∧
          (xGDesc_0.HasValue = true →
           (xGDesc_0.HasGet = false →
            (((xGDesc_0.Get.Kind == 0) && ((xGDesc_0.Get.Num == 0) && (strB .eql xGDesc_0.Get.Str ⟨#[]⟩))) = true →
             (xGDesc_0.HasSet = false →
              (((xGDesc_0.Set.Kind == 0) && ((xGDesc_0.Set.Num == 0) && (strB .eql xGDesc_0.Set.Str ⟨#[]⟩))) = true →
               (xGDesc_0.HasWritable = false →
                ((!xGDesc_0.Writable) = true →
                 (xGDesc_0.HasEnumerable = false →
                  ((!xGDesc_0.Enumerable) = true →
                   (xGDesc_0.HasConfigurable = false →
                    ∀ w11 : World, Framed [k0, k10] w8 w11 →
                    R (.bool (!xGDesc_0.Configurable)) w11) ∧
                   (xGDesc_0.HasConfigurable = true →
                    ∀ w11 : World, Framed [k0, k10] w8 w11 →
                    R (.bool true) w11)) ∧
                  ((!xGDesc_0.Enumerable) = false →
                   ∀ w11 : World, Framed [k0, k10] w8 w11 →
                   R (.bool false) w11)) ∧
                 (xGDesc_0.HasEnumerable = true →
                  (xGDesc_0.HasConfigurable = false →
                   ∀ w11 : World, Framed [k0, k10] w8 w11 →
                   R (.bool (!xGDesc_0.Configurable)) w11) ∧
                  (xGDesc_0.HasConfigurable = true →
                   ∀ w11 : World, Framed [k0, k10] w8 w11 →
                   R (.bool true) w11))) ∧
                ((!xGDesc_0.Writable) = false →
                 ∀ w11 : World, Framed [k0, k10] w8 w11 →
                 R (.bool false) w11)) ∧
               (xGDesc_0.HasWritable = true →
                (xGDesc_0.HasEnumerable = false →
                 ((!xGDesc_0.Enumerable) = true →
                  (xGDesc_0.HasConfigurable = false →
                   ∀ w11 : World, Framed [k0, k10] w8 w11 →
                   R (.bool (!xGDesc_0.Configurable)) w11) ∧
                  (xGDesc_0.HasConfigurable = true →
                   ∀ w11 : World, Framed [k0, k10] w8 w11 →
                   R (.bool true) w11)) ∧
                 ((!xGDesc_0.Enumerable) = false →
                  ∀ w11 : World, Framed [k0, k10] w8 w11 →
                  R (.bool false) w11)) ∧
                (xGDesc_0.HasEnumerable = true →
                 (xGDesc_0.HasConfigurable = false →
                  ∀ w11 : World, Framed [k0, k10] w8 w11 →
                  R (.bool (!xGDesc_0.Configurable)) w11) ∧
                 (xGDesc_0.HasConfigurable = true →
                  ∀ w11 : World, Framed [k0, k10] w8 w11 →
                  R (.bool true) w11)))) ∧
              (((xGDesc_0.Set.Kind == 0) && ((xGDesc_0.Set.Num == 0) && (strB .eql xGDesc_0.Set.Str ⟨#[]⟩))) = false →
               ∀ w11 : World, Framed [k0, k10] w8 w11 →
               R (.bool false) w11)) ∧
             (xGDesc_0.HasSet = true →
              (xGDesc_0.HasWritable = false →
               ((!xGDesc_0.Writable) = true →
                (xGDesc_0.HasEnumerable = false →
                 ((!xGDesc_0.Enumerable) = true →
                  (xGDesc_0.HasConfigurable = false →
                   ∀ w11 : World, Framed [k0, k10] w8 w11 →
                   R (.bool (!xGDesc_0.Configurable)) w11) ∧
                  (xGDesc_0.HasConfigurable = true →
                   ∀ w11 : World, Framed [k0, k10] w8 w11 →
                   R (.bool true) w11)) ∧
                 ((!xGDesc_0.Enumerable) = false →
                  ∀ w11 : World, Framed [k0, k10] w8 w11 →
                  R (.bool false) w11)) ∧
                (xGDesc_0.HasEnumerable = true →
                 (xGDesc_0.HasConfigurable = false →
                  ∀ w11 : World, Framed [k0, k10] w8 w11 →
                  R (.bool (!xGDesc_0.Configurable)) w11) ∧
                 (xGDesc_0.HasConfigurable = true →
                  ∀ w11 : World, Framed [k0, k10] w8 w11 →
                  R (.bool true) w11))) ∧
               ((!xGDesc_0.Writable) = false →
                ∀ w11 : World, Framed [k0, k10] w8 w11 →
                R (.bool false) w11)) ∧
              (xGDesc_0.HasWritable = true →
               (xGDesc_0.HasEnumerable = false →
                ((!xGDesc_0.Enumerable) = true →
                 (xGDesc_0.HasConfigurable = false →
                  ∀ w11 : World, Framed [k0, k10] w8 w11 →
                  R (.bool (!xGDesc_0.Configurable)) w11) ∧
                 (xGDesc_0.HasConfigurable = true →
                  ∀ w11 : World, Framed [k0, k10] w8 w11 →
                  R (.bool true) w11)) ∧
                ((!xGDesc_0.Enumerable) = false →
                 ∀ w11 : World, Framed [k0, k10] w8 w11 →
                 R (.bool false) w11)) ∧
               (xGDesc_0.HasEnumerable = true →
                (xGDesc_0.HasConfigurable = false →
                 ∀ w11 : World, Framed [k0, k10] w8 w11 →
                 R (.bool (!xGDesc_0.Configurable)) w11) ∧
                (xGDesc_0.HasConfigurable = true →
                 ∀ w11 : World, Framed [k0, k10] w8 w11 →
                 R (.bool true) w11))))) ∧
            (((xGDesc_0.Get.Kind == 0) && ((xGDesc_0.Get.Num == 0) && (strB .eql xGDesc_0.Get.Str ⟨#[]⟩))) = false →
             ∀ w11 : World, Framed [k0, k10] w8 w11 →
             R (.bool false) w11)) ∧
           (xGDesc_0.HasGet = true →
            (xGDesc_0.HasSet = false →
             (((xGDesc_0.Set.Kind == 0) && ((xGDesc_0.Set.Num == 0) && (strB .eql xGDesc_0.Set.Str ⟨#[]⟩))) = true →
              (xGDesc_0.HasWritable = false →
               ((!xGDesc_0.Writable) = true →
                (xGDesc_0.HasEnumerable = false →
                 ((!xGDesc_0.Enumerable) = true →
                  (xGDesc_0.HasConfigurable = false →
                   ∀ w11 : World, Framed [k0, k10] w8 w11 →
                   R (.bool (!xGDesc_0.Configurable)) w11) ∧
                  (xGDesc_0.HasConfigurable = true →
                   ∀ w11 : World, Framed [k0, k10] w8 w11 →
                   R (.bool true) w11)) ∧
                 ((!xGDesc_0.Enumerable) = false →
                  ∀ w11 : World, Framed [k0, k10] w8 w11 →
                  R (.bool false) w11)) ∧
                (xGDesc_0.HasEnumerable = true →
                 (xGDesc_0.HasConfigurable = false →
                  ∀ w11 : World, Framed [k0, k10] w8 w11 →
                  R (.bool (!xGDesc_0.Configurable)) w11) ∧
                 (xGDesc_0.HasConfigurable = true →
                  ∀ w11 : World, Framed [k0, k10] w8 w11 →
                  R (.bool true) w11))) ∧
               ((!xGDesc_0.Writable) = false →
                ∀ w11 : World, Framed [k0, k10] w8 w11 →
                R (.bool false) w11)) ∧
              (xGDesc_0.HasWritable = true →
               (xGDesc_0.HasEnumerable = false →
                ((!xGDesc_0.Enumerable) = true →
                 (xGDesc_0.HasConfigurable = false →
                  ∀ w11 : World, Framed [k0, k10] w8 w11 →
                  R (.bool (!xGDesc_0.Configurable)) w11) ∧
                 (xGDesc_0.HasConfigurable = true →
                  ∀ w11 : World, Framed [k0, k10] w8 w11 →
                  R (.bool true) w11)) ∧
                ((!xGDesc_0.Enumerable) = false →
                 ∀ w11 : World, Framed [k0, k10] w8 w11 →
                 R (.bool false) w11)) ∧
               (xGDesc_0.HasEnumerable = true →
                (xGDesc_0.HasConfigurable = false →
                 ∀ w11 : World, Framed [k0, k10] w8 w11 →
                 R (.bool (!xGDesc_0.Configurable)) w11) ∧
                (xGDesc_0.HasConfigurable = true →
                 ∀ w11 : World, Framed [k0, k10] w8 w11 →
                 R (.bool true) w11)))) ∧
             (((xGDesc_0.Set.Kind == 0) && ((xGDesc_0.Set.Num == 0) && (strB .eql xGDesc_0.Set.Str ⟨#[]⟩))) = false →
              ∀ w11 : World, Framed [k0, k10] w8 w11 →
              R (.bool false) w11)) ∧
            (xGDesc_0.HasSet = true →
             (xGDesc_0.HasWritable = false →
              ((!xGDesc_0.Writable) = true →
               (xGDesc_0.HasEnumerable = false →
                ((!xGDesc_0.Enumerable) = true →
                 (xGDesc_0.HasConfigurable = false →
                  ∀ w11 : World, Framed [k0, k10] w8 w11 →
                  R (.bool (!xGDesc_0.Configurable)) w11) ∧
                 (xGDesc_0.HasConfigurable = true →
                  ∀ w11 : World, Framed [k0, k10] w8 w11 →
                  R (.bool true) w11)) ∧
                ((!xGDesc_0.Enumerable) = false →
                 ∀ w11 : World, Framed [k0, k10] w8 w11 →
                 R (.bool false) w11)) ∧
               (xGDesc_0.HasEnumerable = true →
                (xGDesc_0.HasConfigurable = false →
                 ∀ w11 : World, Framed [k0, k10] w8 w11 →
                 R (.bool (!xGDesc_0.Configurable)) w11) ∧
                (xGDesc_0.HasConfigurable = true →
                 ∀ w11 : World, Framed [k0, k10] w8 w11 →
                 R (.bool true) w11))) ∧
              ((!xGDesc_0.Writable) = false →
               ∀ w11 : World, Framed [k0, k10] w8 w11 →
               R (.bool false) w11)) ∧
             (xGDesc_0.HasWritable = true →
              (xGDesc_0.HasEnumerable = false →
               ((!xGDesc_0.Enumerable) = true →
                (xGDesc_0.HasConfigurable = false →
                 ∀ w11 : World, Framed [k0, k10] w8 w11 →
                 R (.bool (!xGDesc_0.Configurable)) w11) ∧
                (xGDesc_0.HasConfigurable = true →
                 ∀ w11 : World, Framed [k0, k10] w8 w11 →
                 R (.bool true) w11)) ∧
               ((!xGDesc_0.Enumerable) = false →
                ∀ w11 : World, Framed [k0, k10] w8 w11 →
                R (.bool false) w11)) ∧
              (xGDesc_0.HasEnumerable = true →
               (xGDesc_0.HasConfigurable = false →
                ∀ w11 : World, Framed [k0, k10] w8 w11 →
                R (.bool (!xGDesc_0.Configurable)) w11) ∧
               (xGDesc_0.HasConfigurable = true →
                ∀ w11 : World, Framed [k0, k10] w8 w11 →
                R (.bool true) w11)))))))) ∧
       ((!b7) = true →
        R (.bool false) w6)) ∧
     (b5 = true →
      R (.bool false) w4)) ∧
   (b3 = false →
    CallsV Try.prog 32 [(GValue.val xGDesc_0.Get)] w2 [k0] fun r4 w4 =>
     ∃ b5 : Bool,
     r4 = (.bool b5) ∧
     ((!b5) = false →
      CallsV Try.prog 32 [(GValue.val xGDesc_0.Set)] w4 [k0] fun r6 w6 =>
       ∃ b7 : Bool,
       r6 = (.bool b7) ∧
       ((!b7) = true →
        R (.bool false) w6) ∧
       ((!b7) = false →
        ∀ k8 : Nat, Fresh w6 [k0] k8 →
        (xGDesc_0.HasValue = false →
         (((xGDesc_0.Value.Kind == 0) && ((xGDesc_0.Value.Num == 0) && (strB .eql xGDesc_0.Value.Str ⟨#[]⟩))) = true →
          (xGDesc_0.HasGet = false →
           (((xGDesc_0.Get.Kind == 0) && ((xGDesc_0.Get.Num == 0) && (strB .eql xGDesc_0.Get.Str ⟨#[]⟩))) = true →
            (xGDesc_0.HasSet = false →
             (((xGDesc_0.Set.Kind == 0) && ((xGDesc_0.Set.Num == 0) && (strB .eql xGDesc_0.Set.Str ⟨#[]⟩))) = true →
              (xGDesc_0.HasWritable = false →
               ((!xGDesc_0.Writable) = true →
                (xGDesc_0.HasEnumerable = false →
                 ((!xGDesc_0.Enumerable) = true →
                  (xGDesc_0.HasConfigurable = false →
                   ∀ w9 : World, Framed [k0, k8] w6 w9 →
                   R (.bool (!xGDesc_0.Configurable)) w9) ∧
                  (xGDesc_0.HasConfigurable = true →
                   ∀ w9 : World, Framed [k0, k8] w6 w9 →
                   R (.bool true) w9)) ∧
                 ((!xGDesc_0.Enumerable) = false →
                  ∀ w9 : World, Framed [k0, k8] w6 w9 →
                  R (.bool false) w9)) ∧
                (xGDesc_0.HasEnumerable = true →
                 (xGDesc_0.HasConfigurable = false →
                  ∀ w9 : World, Framed [k0, k8] w6 w9 →
                  R (.bool (!xGDesc_0.Configurable)) w9) ∧
                 (xGDesc_0.HasConfigurable = true →
                  ∀ w9 : World, Framed [k0, k8] w6 w9 →
                  R (.bool true) w9))) ∧
               ((!xGDesc_0.Writable) = false →
                ∀ w9 : World, Framed [k0, k8] w6 w9 →
                R (.bool false) w9)) ∧
              (xGDesc_0.HasWritable = true →
               (xGDesc_0.HasEnumerable = false →
                ((!xGDesc_0.Enumerable) = true →
                 (xGDesc_0.HasConfigurable = false →
                  ∀ w9 : World, Framed [k0, k8] w6 w9 →
                  R (.bool (!xGDesc_0.Configurable)) w9) ∧
                 (xGDesc_0.HasConfigurable = true →
                  ∀ w9 : World, Framed [k0, k8] w6 w9 →
                  R (.bool true) w9)) ∧
                ((!xGDesc_0.Enumerable) = false →
                 ∀ w9 : World, Framed [k0, k8] w6 w9 →
                 R (.bool false) w9)) ∧
               (xGDesc_0.HasEnumerable = true →
                (xGDesc_0.HasConfigurable = false →
                 ∀ w9 : World, Framed [k0, k8] w6 w9 →
                 R (.bool (!xGDesc_0.Configurable)) w9) ∧
                (xGDesc_0.HasConfigurable = true →
                 ∀ w9 : World, Framed [k0, k8] w6 w9 →
                 R (.bool true) w9)))) ∧
             (((xGDesc_0.Set.Kind == 0) && ((xGDesc_0.Set.Num == 0) && (strB .eql xGDesc_0.Set.Str ⟨#[]⟩))) = false →
              ∀ w9 : World, Framed [k0, k8] w6 w9 →
              R (.bool false) w9)) ∧
            (xGDesc_0.HasSet = true →
             (xGDesc_0.HasWritable = false →
              ((!xGDesc_0.Writable) = true →
               (xGDesc_0.HasEnumerable = false →
                ((!xGDesc_0.Enumerable) = true →
                 (xGDesc_0.HasConfigurable = false →
                  ∀ w9 : World, Framed [k0, k8] w6 w9 →
                  R (.bool (!xGDesc_0.Configurable)) w9) ∧
                 (xGDesc_0.HasConfigurable = true →
                  ∀ w9 : World, Framed [k0, k8] w6 w9 →
                  R (.bool true) w9)) ∧
                ((!xGDesc_0.Enumerable) = false →
                 ∀ w9 : World, Framed [k0, k8] w6 w9 →
                 R (.bool false) w9)) ∧
               (xGDesc_0.HasEnumerable = true →
                (xGDesc_0.HasConfigurable = false →
                 ∀ w9 : World, Framed [k0, k8] w6 w9 →
                 R (.bool (!xGDesc_0.Configurable)) w9) ∧
                (xGDesc_0.HasConfigurable = true →
                 ∀ w9 : World, Framed [k0, k8] w6 w9 →
                 R (.bool true) w9))) ∧
              ((!xGDesc_0.Writable) = false →
               ∀ w9 : World, Framed [k0, k8] w6 w9 →
               R (.bool false) w9)) ∧
             (xGDesc_0.HasWritable = true →
              (xGDesc_0.HasEnumerable = false →
               ((!xGDesc_0.Enumerable) = true →
                (xGDesc_0.HasConfigurable = false →
                 ∀ w9 : World, Framed [k0, k8] w6 w9 →
                 R (.bool (!xGDesc_0.Configurable)) w9) ∧
                (xGDesc_0.HasConfigurable = true →
                 ∀ w9 : World, Framed [k0, k8] w6 w9 →
                 R (.bool true) w9)) ∧
               ((!xGDesc_0.Enumerable) = false →
                ∀ w9 : World, Framed [k0, k8] w6 w9 →
                R (.bool false) w9)) ∧
              (xGDesc_0.HasEnumerable = true →
               (xGDesc_0.HasConfigurable = false →
                ∀ w9 : World, Framed [k0, k8] w6 w9 →
                R (.bool (!xGDesc_0.Configurable)) w9) ∧
               (xGDesc_0.HasConfigurable = true →
                ∀ w9 : World, Framed [k0, k8] w6 w9 →
                R (.bool true) w9))))) ∧
           (((xGDesc_0.Get.Kind == 0) && ((xGDesc_0.Get.Num == 0) && (strB .eql xGDesc_0.Get.Str ⟨#[]⟩))) = false →
            ∀ w9 : World, Framed [k0, k8] w6 w9 →
            R (.bool false) w9)) ∧
          (xGDesc_0.HasGet = true →
           (xGDesc_0.HasSet = false →
            (((xGDesc_0.Set.Kind == 0) && ((xGDesc_0.Set.Num == 0) && (strB .eql xGDesc_0.Set.Str ⟨#[]⟩))) = true →
             (xGDesc_0.HasWritable = false →
              ((!xGDesc_0.Writable) = true →
               (xGDesc_0.HasEnumerable = false →
                ((!xGDesc_0.Enumerable) = true →
                 (xGDesc_0.HasConfigurable = false →
                  ∀ w9 : World, Framed [k0, k8] w6 w9 →
                  R (.bool (!xGDesc_0.Configurable)) w9) ∧
                 (xGDesc_0.HasConfigurable = true →
                  ∀ w9 : World, Framed [k0, k8] w6 w9 →
                  R (.bool true) w9)) ∧
                ((!xGDesc_0.Enumerable) = false →
                 ∀ w9 : World, Framed [k0, k8] w6 w9 →
                 R (.bool false) w9)) ∧
               (xGDesc_0.HasEnumerable = true →
                (xGDesc_0.HasConfigurable = false →
                 ∀ w9 : World, Framed [k0, k8] w6 w9 →
                 R (.bool (!xGDesc_0.Configurable)) w9) ∧
                (xGDesc_0.HasConfigurable = true →
                 ∀ w9 : World, Framed [k0, k8] w6 w9 →
                 R (.bool true) w9))) ∧
              ((!xGDesc_0.Writable) = false →
               ∀ w9 : World, Framed [k0, k8] w6 w9 →
               R (.bool false) w9)) ∧
             (xGDesc_0.HasWritable = true →
              (xGDesc_0.HasEnumerable = false →
               ((!xGDesc_0.Enumerable) = true →
                (xGDesc_0.HasConfigurable = false →
                 ∀ w9 : World, Framed [k0, k8] w6 w9 →
                 R (.bool (!xGDesc_0.Configurable)) w9) ∧
                (xGDesc_0.HasConfigurable = true →
                 ∀ w9 : World, Framed [k0, k8] w6 w9 →
                 R (.bool true) w9)) ∧
               ((!xGDesc_0.Enumerable) = false →
                ∀ w9 : World, Framed [k0, k8] w6 w9 →
                R (.bool false) w9)) ∧
              (xGDesc_0.HasEnumerable = true →
               (xGDesc_0.HasConfigurable = false →
                ∀ w9 : World, Framed [k0, k8] w6 w9 →
                R (.bool (!xGDesc_0.Configurable)) w9) ∧
               (xGDesc_0.HasConfigurable = true →
                ∀ w9 : World, Framed [k0, k8] w6 w9 →
                R (.bool true) w9)))) ∧
            (((xGDesc_0.Set.Kind == 0) && ((xGDesc_0.Set.Num == 0) && (strB .eql xGDesc_0.Set.Str ⟨#[]⟩))) = false →
             ∀ w9 : World, Framed [k0, k8] w6 w9 →
             R (.bool false) w9)) ∧
           (xGDesc_0.HasSet = true →
            (xGDesc_0.HasWritable = false →
             ((!xGDesc_0.Writable) = true →
              (xGDesc_0.HasEnumerable = false →
               ((!xGDesc_0.Enumerable) = true →
                (xGDesc_0.HasConfigurable = false →
                 ∀ w9 : World, Framed [k0, k8] w6 w9 →
                 R (.bool (!xGDesc_0.Configurable)) w9) ∧
                (xGDesc_0.HasConfigurable = true →
                 ∀ w9 : World, Framed [k0, k8] w6 w9 →
                 R (.bool true) w9)) ∧
               ((!xGDesc_0.Enumerable) = false →
                ∀ w9 : World, Framed [k0, k8] w6 w9 →
                R (.bool false) w9)) ∧
              (xGDesc_0.HasEnumerable = true →
               (xGDesc_0.HasConfigurable = false →
                ∀ w9 : World, Framed [k0, k8] w6 w9 →
                R (.bool (!xGDesc_0.Configurable)) w9) ∧
               (xGDesc_0.HasConfigurable = true →
                ∀ w9 : World, Framed [k0, k8] w6 w9 →
                R (.bool true) w9))) ∧
             ((!xGDesc_0.Writable) = false →
              ∀ w9 : World, Framed [k0, k8] w6 w9 →
              R (.bool false) w9)) ∧
            (xGDesc_0.HasWritable = true →
             (xGDesc_0.HasEnumerable = false →
              ((!xGDesc_0.Enumerable) = true →
               (xGDesc_0.HasConfigurable = false →
                ∀ w9 : World, Framed [k0, k8] w6 w9 →
                R (.bool (!xGDesc_0.Configurable)) w9) ∧
               (xGDesc_0.HasConfigurable = true →
                ∀ w9 : World, Framed [k0, k8] w6 w9 →
                R (.bool true) w9)) ∧
              ((!xGDesc_0.Enumerable) = false →
               ∀ w9 : World, Framed [k0, k8] w6 w9 →
               R (.bool false) w9)) ∧
             (xGDesc_0.HasEnumerable = true →
              (xGDesc_0.HasConfigurable = false →
               ∀ w9 : World, Framed [k0, k8] w6 w9 →
               R (.bool (!xGDesc_0.Configurable)) w9) ∧
              (xGDesc_0.HasConfigurable = true →
               ∀ w9 : World, Framed [k0, k8] w6 w9 →
               R (.bool true) w9)))))) ∧
         (((xGDesc_0.Value.Kind == 0) && ((xGDesc_0.Value.Num == 0) && (strB .eql xGDesc_0.Value.Str ⟨#[]⟩))) = false →
          ∀ w9 : World, Framed [k0, k8] w6 w9 →
          R (.bool false) w9)) ∧
        (xGDesc_0.HasValue = true →
         (xGDesc_0.HasGet = false →
          (((xGDesc_0.Get.Kind == 0) && ((xGDesc_0.Get.Num == 0) && (strB .eql xGDesc_0.Get.Str ⟨#[]⟩))) = true →
           (xGDesc_0.HasSet = false →
            (((xGDesc_0.Set.Kind == 0) && ((xGDesc_0.Set.Num == 0) && (strB .eql xGDesc_0.Set.Str ⟨#[]⟩))) = true →
             (xGDesc_0.HasWritable = false →
              ((!xGDesc_0.Writable) = true →
               (xGDesc_0.HasEnumerable = false →
                ((!xGDesc_0.Enumerable) = true →
                 (xGDesc_0.HasConfigurable = false →
                  ∀ w9 : World, Framed [k0, k8] w6 w9 →
                  R (.bool (!xGDesc_0.Configurable)) w9) ∧
                 (xGDesc_0.HasConfigurable = true →
                  ∀ w9 : World, Framed [k0, k8] w6 w9 →
                  R (.bool true) w9)) ∧
                ((!xGDesc_0.Enumerable) = false →
                 ∀ w9 : World, Framed [k0, k8] w6 w9 →
                 R (.bool false) w9)) ∧
               (xGDesc_0.HasEnumerable = true →
                (xGDesc_0.HasConfigurable = false →
                 ∀ w9 : World, Framed [k0, k8] w6 w9 →
                 R (.bool (!xGDesc_0.Configurable)) w9) ∧
                (xGDesc_0.HasConfigurable = true →
                 ∀ w9 : World, Framed [k0, k8] w6 w9 →
                 R (.bool true) w9))) ∧
              ((!xGDesc_0.Writable) = false →
               ∀ w9 : World, Framed [k0, k8] w6 w9 →
               R (.bool false) w9)) ∧
             (xGDesc_0.HasWritable = true →
              (xGDesc_0.HasEnumerable = false →
               ((!xGDesc_0.Enumerable) = true →
                (xGDesc_0.HasConfigurable = false →
                 ∀ w9 : World, Framed [k0, k8] w6 w9 →
                 R (.bool (!xGDesc_0.Configurable)) w9) ∧
                (xGDesc_0.HasConfigurable = true →
                 ∀ w9 : World, Framed [k0, k8] w6 w9 →
                 R (.bool true) w9)) ∧
               ((!xGDesc_0.Enumerable) = false →
                ∀ w9 : World, Framed [k0, k8] w6 w9 →
                R (.bool false) w9)) ∧
              (xGDesc_0.HasEnumerable = true →
               (xGDesc_0.HasConfigurable = false →
                ∀ w9 : World, Framed [k0, k8] w6 w9 →
                R (.bool (!xGDesc_0.Configurable)) w9) ∧
               (xGDesc_0.HasConfigurable = true →
                ∀ w9 : World, Framed [k0, k8] w6 w9 →
                R (.bool true) w9)))) ∧
            (((xGDesc_0.Set.Kind == 0) && ((xGDesc_0.Set.Num == 0) && (strB .eql xGDesc_0.Set.Str ⟨#[]⟩))) = false →
             ∀ w9 : World, Framed [k0, k8] w6 w9 →
             R (.bool false) w9)) ∧
           (xGDesc_0.HasSet = true →
            (xGDesc_0.HasWritable = false →
             ((!xGDesc_0.Writable) = true →
              (xGDesc_0.HasEnumerable = false →
               ((!xGDesc_0.Enumerable) = true →
                (xGDesc_0.HasConfigurable = false →
                 ∀ w9 : World, Framed [k0, k8] w6 w9 →
                 R (.bool (!xGDesc_0.Configurable)) w9) ∧
                (xGDesc_0.HasConfigurable = true →
                 ∀ w9 : World, Framed [k0, k8] w6 w9 →
                 R (.bool true) w9)) ∧
               ((!xGDesc_0.Enumerable) = false →
                ∀ w9 : World, Framed [k0, k8] w6 w9 →
                R (.bool false) w9)) ∧
              (xGDesc_0.HasEnumerable = true →
               (xGDesc_0.HasConfigurable = false →
                ∀ w9 : World, Framed [k0, k8] w6 w9 →
                R (.bool (!xGDesc_0.Configurable)) w9) ∧
               (xGDesc_0.HasConfigurable = true →
                ∀ w9 : World, Framed [k0, k8] w6 w9 →
                R (.bool true) w9))) ∧
             ((!xGDesc_0.Writable) = false →
              ∀ w9 : World, Framed [k0, k8] w6 w9 →
              R (.bool false) w9)) ∧
            (xGDesc_0.HasWritable = true →
             (xGDesc_0.HasEnumerable = false →
              ((!xGDesc_0.Enumerable) = true →
               (xGDesc_0.HasConfigurable = false →
                ∀ w9 : World, Framed [k0, k8] w6 w9 →
                R (.bool (!xGDesc_0.Configurable)) w9) ∧
               (xGDesc_0.HasConfigurable = true →
                ∀ w9 : World, Framed [k0, k8] w6 w9 →
                R (.bool true) w9)) ∧
              ((!xGDesc_0.Enumerable) = false →
               ∀ w9 : World, Framed [k0, k8] w6 w9 →
               R (.bool false) w9)) ∧
             (xGDesc_0.HasEnumerable = true →
              (xGDesc_0.HasConfigurable = false →
               ∀ w9 : World, Framed [k0, k8] w6 w9 →
               R (.bool (!xGDesc_0.Configurable)) w9) ∧
              (xGDesc_0.HasConfigurable = true →
               ∀ w9 : World, Framed [k0, k8] w6 w9 →
               R (.bool true) w9))))) ∧
          (((xGDesc_0.Get.Kind == 0) && ((xGDesc_0.Get.Num == 0) && (strB .eql xGDesc_0.Get.Str ⟨#[]⟩))) = false →
           ∀ w9 : World, Framed [k0, k8] w6 w9 →
           R (.bool false) w9)) ∧
         (xGDesc_0.HasGet = true →
          (xGDesc_0.HasSet = false →
           (((xGDesc_0.Set.Kind == 0) && ((xGDesc_0.Set.Num == 0) && (strB .eql xGDesc_0.Set.Str ⟨#[]⟩))) = true →
            (xGDesc_0.HasWritable = false →
             ((!xGDesc_0.Writable) = true →
              (xGDesc_0.HasEnumerable = false →
               ((!xGDesc_0.Enumerable) = true →
                (xGDesc_0.HasConfigurable = false →
                 ∀ w9 : World, Framed [k0, k8] w6 w9 →
                 R (.bool (!xGDesc_0.Configurable)) w9) ∧
                (xGDesc_0.HasConfigurable = true →
                 ∀ w9 : World, Framed [k0, k8] w6 w9 →
                 R (.bool true) w9)) ∧
               ((!xGDesc_0.Enumerable) = false →
                ∀ w9 : World, Framed [k0, k8] w6 w9 →
                R (.bool false) w9)) ∧
              (xGDesc_0.HasEnumerable = true →
               (xGDesc_0.HasConfigurable = false →
                ∀ w9 : World, Framed [k0, k8] w6 w9 →
                R (.bool (!xGDesc_0.Configurable)) w9) ∧
               (xGDesc_0.HasConfigurable = true →
                ∀ w9 : World, Framed [k0, k8] w6 w9 →
                R (.bool true) w9))) ∧
             ((!xGDesc_0.Writable) = false →
              ∀ w9 : World, Framed [k0, k8] w6 w9 →
              R (.bool false) w9)) ∧
            (xGDesc_0.HasWritable = true →
             (xGDesc_0.HasEnumerable = false →
              ((!xGDesc_0.Enumerable) = true →
               (xGDesc_0.HasConfigurable = false →
                ∀ w9 : World, Framed [k0, k8] w6 w9 →
                R (.bool (!xGDesc_0.Configurable)) w9) ∧
               (xGDesc_0.HasConfigurable = true →
                ∀ w9 : World, Framed [k0, k8] w6 w9 →
                R (.bool true) w9)) ∧
              ((!xGDesc_0.Enumerable) = false →
               ∀ w9 : World, Framed [k0, k8] w6 w9 →
               R (.bool false) w9)) ∧
             (xGDesc_0.HasEnumerable = true →
              (xGDesc_0.HasConfigurable = false →
               ∀ w9 : World, Framed [k0, k8] w6 w9 →
               R (.bool (!xGDesc_0.Configurable)) w9) ∧
              (xGDesc_0.HasConfigurable = true →
               ∀ w9 : World, Framed [k0, k8] w6 w9 →
               R (.bool true) w9)))) ∧
           (((xGDesc_0.Set.Kind == 0) && ((xGDesc_0.Set.Num == 0) && (strB .eql xGDesc_0.Set.Str ⟨#[]⟩))) = false →
            ∀ w9 : World, Framed [k0, k8] w6 w9 →
            R (.bool false) w9)) ∧
          (xGDesc_0.HasSet = true →
           (xGDesc_0.HasWritable = false →
            ((!xGDesc_0.Writable) = true →
             (xGDesc_0.HasEnumerable = false →
              ((!xGDesc_0.Enumerable) = true →
               (xGDesc_0.HasConfigurable = false →
                ∀ w9 : World, Framed [k0, k8] w6 w9 →
                R (.bool (!xGDesc_0.Configurable)) w9) ∧
               (xGDesc_0.HasConfigurable = true →
                ∀ w9 : World, Framed [k0, k8] w6 w9 →
                R (.bool true) w9)) ∧
              ((!xGDesc_0.Enumerable) = false →
               ∀ w9 : World, Framed [k0, k8] w6 w9 →
               R (.bool false) w9)) ∧
             (xGDesc_0.HasEnumerable = true →
              (xGDesc_0.HasConfigurable = false →
               ∀ w9 : World, Framed [k0, k8] w6 w9 →
               R (.bool (!xGDesc_0.Configurable)) w9) ∧
              (xGDesc_0.HasConfigurable = true →
               ∀ w9 : World, Framed [k0, k8] w6 w9 →
               R (.bool true) w9))) ∧
            ((!xGDesc_0.Writable) = false →
             ∀ w9 : World, Framed [k0, k8] w6 w9 →
             R (.bool false) w9)) ∧
           (xGDesc_0.HasWritable = true →
            (xGDesc_0.HasEnumerable = false →
             ((!xGDesc_0.Enumerable) = true →
              (xGDesc_0.HasConfigurable = false →
               ∀ w9 : World, Framed [k0, k8] w6 w9 →
               R (.bool (!xGDesc_0.Configurable)) w9) ∧
              (xGDesc_0.HasConfigurable = true →
               ∀ w9 : World, Framed [k0, k8] w6 w9 →
               R (.bool true) w9)) ∧
             ((!xGDesc_0.Enumerable) = false →
              ∀ w9 : World, Framed [k0, k8] w6 w9 →
              R (.bool false) w9)) ∧
            (xGDesc_0.HasEnumerable = true →
             (xGDesc_0.HasConfigurable = false →
              ∀ w9 : World, Framed [k0, k8] w6 w9 →
              R (.bool (!xGDesc_0.Configurable)) w9) ∧
             (xGDesc_0.HasConfigurable = true →
              ∀ w9 : World, Framed [k0, k8] w6 w9 →
              R (.bool true) w9)))))))) ∧
     ((!b5) = true →
      R (.bool false) w4)))
theorem nf27 (R : Value → World → Prop) (xGDesc_0 : GDesc) (w : World) : execF (𝔸 := Sh tys cfg27.P R) cfg27 27 [(.agg (GDesc.svs xGDesc_0))] w = NF27 R xGDesc_0 w := by kernel_rfl
theorem calls27 (R : Value → World → Prop) (xGDesc_0 : GDesc) (w : World) (h : NF27 R xGDesc_0 w) : Calls Try.prog 27 [(GDesc.val xGDesc_0)].toArray w fun e w' => ∃ v, e = .returned v ∧ R v w' :=
  callsOf (𝕋 := tys) cfg27 follows (args := [(.agg (GDesc.svs xGDesc_0))]) (by kernel_rfl) (by kernel_rfl) (nf27 R xGDesc_0 w) h

noncomputable def cfg19 : Cfg := { P := Try.prog, inl := [], hav := [], drop := [], let_ := [] }
/-- understudy/desc.Whole -/
def NF19 (R : Value → World → Prop) (xGDesc_0 : GDesc) (w : World) : Prop :=
  (∀ k0 : Nat, Fresh w [] k0 →
  ∀ w1 : World, Framed [k0] w w1 →
  CallsV Try.prog 27 [(GDesc.val xGDesc_0)] w1 [k0] fun r2 w2 =>
   ∃ b3 : Bool,
   r2 = (.bool b3) ∧
   (b3 = true →
    (xGDesc_0.HasEnumerable = true →
     (xGDesc_0.HasConfigurable = true →
      (xGDesc_0.HasValue = true →
       (xGDesc_0.HasWritable = false →
        (xGDesc_0.HasGet = true →
         R (.bool xGDesc_0.HasSet) w2) ∧
        (xGDesc_0.HasGet = false →
         R (.bool false) w2)) ∧
       (xGDesc_0.HasWritable = true →
        R (.bool true) w2)) ∧
      (xGDesc_0.HasValue = false →
       (xGDesc_0.HasGet = true →
        R (.bool xGDesc_0.HasSet) w2) ∧
       (xGDesc_0.HasGet = false →
        R (.bool false) w2))) ∧
     (xGDesc_0.HasConfigurable = false →
      R (.bool false) w2)) ∧
    (xGDesc_0.HasEnumerable = false →
     R (.bool false) w2)) ∧
   (b3 = false →
    R (.bool false) w2))
theorem nf19 (R : Value → World → Prop) (xGDesc_0 : GDesc) (w : World) : execF (𝔸 := Sh tys cfg19.P R) cfg19 19 [(.agg (GDesc.svs xGDesc_0))] w = NF19 R xGDesc_0 w := by kernel_rfl
theorem calls19 (R : Value → World → Prop) (xGDesc_0 : GDesc) (w : World) (h : NF19 R xGDesc_0 w) : Calls Try.prog 19 [(GDesc.val xGDesc_0)].toArray w fun e w' => ∃ v, e = .returned v ∧ R v w' :=
  callsOf (𝕋 := tys) cfg19 follows (args := [(.agg (GDesc.svs xGDesc_0))]) (by kernel_rfl) (by kernel_rfl) (nf19 R xGDesc_0 w) h

noncomputable def cfg8 : Cfg := { P := Try.prog, inl := [11,12], hav := [], drop := [], let_ := [] }
/-- (*understudy/trace.facts).breaks -/
def NF8 (R : Value → World → Prop) (x0 : Addr) (xGSeen_1 : GSeen) (x2 : Int) (w : World) : Prop :=
  (∀ k0 : Nat, Fresh w [] k0 →
  ∀ w1 : World, Framed [k0] w w1 →
  CallsV Try.prog 10 [(.pointer (some x0)), (GKey.val xGSeen_1.Ask.Key), (.int .i64 x2)] w1 [k0] fun r2 w2 =>
   ∃ dGDesc_3 : GDesc,
   ∃ b4 : Bool,
   r2 = (.tuple #[(GDesc.val dGDesc_3), (.bool b4)]) ∧
   ∀ k5 : Nat, Fresh w2 [k0] k5 →
   ∀ k6 : Nat, Fresh w2 [k0, k5] k6 →
   ((xGSeen_1.Method == 3) = true →
    (xGSeen_1.Reply.OK = true →
     ∀ w7 : World, Framed [k0, k5, k6] w2 w7 →
     ∃ i8 : Int,
     CellsAt w7 x0 0 [(.int .i64 i8)] ∧
     ((decide (0 ≤ i8)) = true →
      ∃ i9 : Int,
      CellsAt w7 x0 0 [(.int .i64 i9)] ∧
      R (.bool (decide (i9 < x2))) w7) ∧
     ((decide (0 ≤ i8)) = false →
      R (.bool false) w7)) ∧
    (xGSeen_1.Reply.OK = false →
     ∀ w7 : World, Framed [k0, k5, k6] w2 w7 →
     R (.bool false) w7)) ∧
   ((xGSeen_1.Method == 3) = false →
    ((xGSeen_1.Method == 1) = true →
     ∀ w7 : World, Framed [k0, k5, k6] w2 w7 →
     ∃ i8 : Int,
     CellsAt w7 x0 1 [(.int .i64 i8)] ∧
     ((decide (0 ≤ i8)) = true →
      ∃ i9 : Int,
      CellsAt w7 x0 1 [(.int .i64 i9)] ∧
      ((decide (i9 < x2)) = true →
       ∃ dGValue_10 : GValue,
       CellsAt w7 x0 2 (GValue.cells dGValue_10) ∧
       CallsV Try.prog 13 [(GValue.val xGSeen_1.Reply.Value), (GValue.val dGValue_10)] w7 [k0, k5, k6] fun r11 w11 =>
        ∃ b12 : Bool,
        r11 = (.bool b12) ∧
        R (.bool (!b12)) w11) ∧
      ((decide (i9 < x2)) = false →
       R (.bool false) w7)) ∧
     ((decide (0 ≤ i8)) = false →
      R (.bool false) w7)) ∧
    ((xGSeen_1.Method == 1) = false →
     ((xGSeen_1.Method == 2) = true →
      (xGSeen_1.Reply.OK = true →
       ∀ w7 : World, Framed [k0, k5, k6] w2 w7 →
       ∃ i8 : Int,
       CellsAt w7 x0 1 [(.int .i64 i8)] ∧
       ((decide (0 ≤ i8)) = true →
        ∃ i9 : Int,
        CellsAt w7 x0 1 [(.int .i64 i9)] ∧
        ((decide (i9 < x2)) = true →
         ∃ dGValue_10 : GValue,
         CellsAt w7 x0 2 (GValue.cells dGValue_10) ∧
         CallsV Try.prog 13 [(GValue.val xGSeen_1.Ask.Value), (GValue.val dGValue_10)] w7 [k0, k5, k6] fun r11 w11 =>
          ∃ b12 : Bool,
          r11 = (.bool b12) ∧
          R (.bool (!b12)) w11) ∧
        ((decide (i9 < x2)) = false →
         R (.bool false) w7)) ∧
       ((decide (0 ≤ i8)) = false →
        R (.bool false) w7)) ∧
      (xGSeen_1.Reply.OK = false →
       ∀ w7 : World, Framed [k0, k5, k6] w2 w7 →
       R (.bool false) w7)) ∧
     ((xGSeen_1.Method == 2) = false →
      ((xGSeen_1.Method == 5) = true →
       ∀ w7 : World, Framed [k0, k5, k6] w2 w7 →
       CallsV Try.prog 14 [(.pointer (some x0)), (GSeen.val xGSeen_1), (.int .i64 x2)] w7 [k0, k5, k6] fun r8 w8 =>
        ∃ b9 : Bool,
        r8 = (.bool b9) ∧
        R (.bool b9) w8) ∧
      ((xGSeen_1.Method == 5) = false →
       ((xGSeen_1.Method == 7) = true →
        ((!xGSeen_1.Reply.OK) = true →
         ∀ w7 : World, Framed [k0, k5, k6] w2 w7 →
         R (.bool b4) w7) ∧
        ((!xGSeen_1.Reply.OK) = false →
         ∀ w7 : World, Framed [k0, k5, k6] w2 w7 →
         R (.bool false) w7)) ∧
       ((xGSeen_1.Method == 7) = false →
        ((xGSeen_1.Method == 10) = true →
         (xGSeen_1.Reply.OK = true →
          ∀ w7 : World, Framed [k0, k5, k6] w2 w7 →
          R (.bool b4) w7) ∧
         (xGSeen_1.Reply.OK = false →
          ∀ w7 : World, Framed [k0, k5, k6] w2 w7 →
          R (.bool false) w7)) ∧
        ((xGSeen_1.Method == 10) = false →
         ((xGSeen_1.Method == 6) = true →
          (xGSeen_1.Reply.OK = true →
           ∀ w7 : World, Framed [k0, k5, k6] w2 w7 →
           CallsV Try.prog 15 [(.pointer (some x0)), (GKey.val xGSeen_1.Ask.Key), (.int .i64 x2)] w7 [k0, k5, k6] fun r8 w8 =>
            ∃ b9 : Bool,
            r8 = (.bool b9) ∧
            R (.bool b9) w8) ∧
          (xGSeen_1.Reply.OK = false →
           ∀ w7 : World, Framed [k0, k5, k6] w2 w7 →
           R (.bool false) w7)) ∧
         ((xGSeen_1.Method == 6) = false →
          ((xGSeen_1.Method == 8) = true →
           (b4 = true →
            ∀ w7 : World, Framed [k0, k5, k6] w2 w7 →
            CallsV Try.prog 16 [(GDesc.val dGDesc_3), (GValue.val xGSeen_1.Reply.Value), (GValue.val dGDesc_3.Get), (.bool (xGSeen_1.Reply.Value.Kind != 0))] w7 [k0, k5, k6] fun r8 w8 =>
             ∃ b9 : Bool,
             r8 = (.bool b9) ∧
             R (.bool b9) w8) ∧
           (b4 = false →
            ∀ w7 : World, Framed [k0, k5, k6] w2 w7 →
            R (.bool false) w7)) ∧
          ((xGSeen_1.Method == 8) = false →
           ((xGSeen_1.Method == 9) = true →
            (xGSeen_1.Reply.OK = true →
             (b4 = true →
              ∀ w7 : World, Framed [k0, k5, k6] w2 w7 →
              CallsV Try.prog 16 [(GDesc.val dGDesc_3), (GValue.val xGSeen_1.Ask.Value), (GValue.val dGDesc_3.Set), (.bool true)] w7 [k0, k5, k6] fun r8 w8 =>
               ∃ b9 : Bool,
               r8 = (.bool b9) ∧
               R (.bool b9) w8) ∧
             (b4 = false →
              ∀ w7 : World, Framed [k0, k5, k6] w2 w7 →
              R (.bool false) w7)) ∧
            (xGSeen_1.Reply.OK = false →
             ∀ w7 : World, Framed [k0, k5, k6] w2 w7 →
             R (.bool false) w7)) ∧
           ((xGSeen_1.Method == 9) = false →
            ((xGSeen_1.Method == 11) = true →
             ∀ w7 : World, Framed [k0, k5, k6] w2 w7 →
             CallsV Try.prog 17 [(.pointer (some x0)), (.slice xGSeen_1.Reply.Keys.p xGSeen_1.Reply.Keys.l xGSeen_1.Reply.Keys.c), (.int .i64 x2)] w7 [k0, k5, k6] fun r8 w8 =>
              ∃ b9 : Bool,
              r8 = (.bool b9) ∧
              R (.bool b9) w8) ∧
            ((xGSeen_1.Method == 11) = false →
             ∀ w7 : World, Framed [k0, k5, k6] w2 w7 →
             R (.bool false) w7)))))))))))
theorem nf8 (R : Value → World → Prop) (x0 : Addr) (xGSeen_1 : GSeen) (x2 : Int) (w : World) : execF (𝔸 := Sh tys cfg8.P R) cfg8 8 [(.addr x0 0), (.agg (GSeen.svs xGSeen_1)), (.int .i64 x2)] w = NF8 R x0 xGSeen_1 x2 w := by kernel_rfl
theorem calls8 (R : Value → World → Prop) (x0 : Addr) (xGSeen_1 : GSeen) (x2 : Int) (w : World) (h : NF8 R x0 xGSeen_1 x2 w) : Calls Try.prog 8 [(.pointer (some x0)), (GSeen.val xGSeen_1), (.int .i64 x2)].toArray w fun e w' => ∃ v, e = .returned v ∧ R v w' :=
  callsOf (𝕋 := tys) cfg8 follows (args := [(.addr x0 0), (.agg (GSeen.svs xGSeen_1)), (.int .i64 x2)]) (by kernel_rfl) (by kernel_rfl) (nf8 R x0 xGSeen_1 x2 w) h

noncomputable def cfg9 : Cfg := { P := Try.prog, inl := [], hav := [], drop := [], let_ := [] }
/-- (*understudy/trace.facts).learn -/
def NF9 (R : Value → World → Prop) (x0 : Addr) (xGSeen_1 : GSeen) (x2 : Int) (w : World) : Prop :=
  (∀ k0 : Nat, Fresh w [] k0 →
  ∀ w1 : World, Framed [k0] w w1 →
  ∃ i2 : Int,
  CellsAt w1 x0 0 [(.int .i64 i2)] ∧
  ((decide (0 ≤ i2)) = true →
   ∃ i3 : Int,
   CellsAt w1 x0 0 [(.int .i64 i3)] ∧
   ((decide (i3 < xGSeen_1.From)) = true →
    ∃ i4 : Int,
    CellsAt w1 x0 0 [(.int .i64 i4)] ∧
    ((xGSeen_1.Method == 3) = true →
     ((!xGSeen_1.Reply.OK) = true →
      ∃ i5 : Int,
      CellsAt w1 x0 0 [(.int .i64 i5)] ∧
      ((decide (i5 < 0)) = true →
       CanStore [k0] w1 x0 0 1 ∧
       R (.tuple #[]) (storeAt w1 x0 0 [(.int .i64 x2)])) ∧
      ((decide (i5 < 0)) = false →
       R (.tuple #[]) w1)) ∧
     ((!xGSeen_1.Reply.OK) = false →
      R (.tuple #[]) w1)) ∧
    ((xGSeen_1.Method == 3) = false →
     ((xGSeen_1.Method == 1) = true →
      ((decide (i4 < x2)) = true →
       ∃ i5 : Int,
       CellsAt w1 x0 1 [(.int .i64 i5)] ∧
       ((decide (i5 < 0)) = true →
        ∀ w6 : World, Framed [k0] w1 w6 →
        CanStore [k0] w6 x0 1 1 ∧
        CanStore [k0] (storeAt w6 x0 1 [(.int .i64 x2)]) x0 2 3 ∧
        R (.tuple #[]) (storeAt (storeAt w6 x0 1 [(.int .i64 x2)]) x0 2 (GValue.cells xGSeen_1.Reply.Value))) ∧
       ((decide (i5 < 0)) = false →
        R (.tuple #[]) w1)) ∧
      ((decide (i4 < x2)) = false →
       R (.tuple #[]) w1)) ∧
     ((xGSeen_1.Method == 1) = false →
      ((xGSeen_1.Method == 5) = true →
       ∀ k5 : Nat, Fresh w1 [k0] k5 →
       (xGSeen_1.Reply.Has = true →
        ((!xGSeen_1.Reply.Desc.Configurable) = true →
         ∀ w6 : World, Framed [k0, k5] w1 w6 →
         ∃ m7 : Option Nat,
         CellsAt w6 x0 7 [(.map m7)] ∧
         ∀ k8 : Nat, Fresh w6 [k0, k5] k8 →
         ∀ w9 : World, Framed [k0, k5, k8] w6 w9 →
         ∃ p10 : Option Addr,
         ∃ n11 : Nat,
         ∃ n12 : Nat,
         ∃ i13 : Int,
         ∃ w14 : World, Sem.run Try.prog (GOp.sem (.mapEntry 45 (.map m7) (GKey.val xGSeen_1.Ask.Key))) w9 = .ok (.tuple #[(.slice p10 n11 n12), (.int .i64 i13)]) w14 ∧ Kept [k0, k5, k8] w9 w14 ∧
         (w14.heap[(k8 : Nat)]? = some (.cells (GTraceHeld.cells ⟨x2, xGSeen_1.Reply.Desc⟩).toArray 60 (0, 0)) →
         ∃ p15 : Option Addr,
         ∃ n16 : Nat,
         ∃ n17 : Nat,
         ∃ w18 : World, Sem.run Try.prog (GOp.sem (.builtin .append #[58, 58] 58 [(.slice p10 n11 n12), (.slice (some ⟨k8, 0, none⟩) 1 1)])) w14 = .ok (.slice p15 n16 n17) w18 ∧ Kept [k0, k5] w14 w18 ∧
         ∃ w19 : World, Sem.run Try.prog (GOp.sem (.entryStore 45 (.map m7) (.int .i64 i13) (.slice p15 n16 n17))) w18 = .ok (.tuple #[]) w19 ∧ Kept [k0, k5] w18 w19 ∧
         ∀ w20 : World, Framed [k0, k5] w19 w20 →
         ∃ m21 : Option Nat,
         CellsAt w20 x0 5 [(.map m21)] ∧
         ∃ i22 : Int,
         ∃ b23 : Bool,
         ∃ w24 : World, Sem.run Try.prog (GOp.sem (.lookup 44 (.map m21) (GKey.val xGSeen_1.Ask.Key) true)) w20 = .ok (.tuple #[(.int .i64 i22), (.bool b23)]) w24 ∧ Kept [k0, k5] w20 w24 ∧
         ((decide (i4 < x2)) = true →
          ((!xGSeen_1.Reply.Has) = true →
           ((!b23) = true →
            ∀ w25 : World, Framed [k0, k5] w24 w25 →
            ∃ m26 : Option Nat,
            CellsAt w25 x0 5 [(.map m26)] ∧
            ∃ w27 : World, Sem.run Try.prog (GOp.sem (.mapUpdate 44 (.map m26) (GKey.val xGSeen_1.Ask.Key) (.int .i64 x2))) w25 = .ok (.tuple #[]) w27 ∧ Kept [k0, k5] w25 w27 ∧
            R (.tuple #[]) w27) ∧
           ((!b23) = false →
            R (.tuple #[]) w24)) ∧
          ((!xGSeen_1.Reply.Has) = false →
           R (.tuple #[]) w24)) ∧
         ((decide (i4 < x2)) = false →
          R (.tuple #[]) w24))) ∧
        ((!xGSeen_1.Reply.Desc.Configurable) = false →
         ∀ w6 : World, Framed [k0, k5] w1 w6 →
         ∃ m7 : Option Nat,
         CellsAt w6 x0 5 [(.map m7)] ∧
         ∃ i8 : Int,
         ∃ b9 : Bool,
         ∃ w10 : World, Sem.run Try.prog (GOp.sem (.lookup 44 (.map m7) (GKey.val xGSeen_1.Ask.Key) true)) w6 = .ok (.tuple #[(.int .i64 i8), (.bool b9)]) w10 ∧ Kept [k0, k5] w6 w10 ∧
         ((decide (i4 < x2)) = true →
          ((!xGSeen_1.Reply.Has) = true →
           ((!b9) = true →
            ∀ w11 : World, Framed [k0, k5] w10 w11 →
            ∃ m12 : Option Nat,
            CellsAt w11 x0 5 [(.map m12)] ∧
            ∃ w13 : World, Sem.run Try.prog (GOp.sem (.mapUpdate 44 (.map m12) (GKey.val xGSeen_1.Ask.Key) (.int .i64 x2))) w11 = .ok (.tuple #[]) w13 ∧ Kept [k0, k5] w11 w13 ∧
            R (.tuple #[]) w13) ∧
           ((!b9) = false →
            R (.tuple #[]) w10)) ∧
          ((!xGSeen_1.Reply.Has) = false →
           R (.tuple #[]) w10)) ∧
         ((decide (i4 < x2)) = false →
          R (.tuple #[]) w10))) ∧
       (xGSeen_1.Reply.Has = false →
        ∀ w6 : World, Framed [k0, k5] w1 w6 →
        ∃ m7 : Option Nat,
        CellsAt w6 x0 5 [(.map m7)] ∧
        ∃ i8 : Int,
        ∃ b9 : Bool,
        ∃ w10 : World, Sem.run Try.prog (GOp.sem (.lookup 44 (.map m7) (GKey.val xGSeen_1.Ask.Key) true)) w6 = .ok (.tuple #[(.int .i64 i8), (.bool b9)]) w10 ∧ Kept [k0, k5] w6 w10 ∧
        ((decide (i4 < x2)) = true →
         ((!xGSeen_1.Reply.Has) = true →
          ((!b9) = true →
           ∀ w11 : World, Framed [k0, k5] w10 w11 →
           ∃ m12 : Option Nat,
           CellsAt w11 x0 5 [(.map m12)] ∧
           ∃ w13 : World, Sem.run Try.prog (GOp.sem (.mapUpdate 44 (.map m12) (GKey.val xGSeen_1.Ask.Key) (.int .i64 x2))) w11 = .ok (.tuple #[]) w13 ∧ Kept [k0, k5] w11 w13 ∧
           R (.tuple #[]) w13) ∧
          ((!b9) = false →
           R (.tuple #[]) w10)) ∧
         ((!xGSeen_1.Reply.Has) = false →
          R (.tuple #[]) w10)) ∧
        ((decide (i4 < x2)) = false →
         R (.tuple #[]) w10))) ∧
      ((xGSeen_1.Method == 5) = false →
       ((xGSeen_1.Method == 11) = true →
        ((decide (i4 < x2)) = true →
         ∀ w5 : World, Framed [k0] w1 w5 →
         ∃ p6 : Option Addr,
         ∃ n7 : Nat,
         ∃ n8 : Nat,
         CellsAt w5 x0 6 [(.slice p6 n7 n8)] ∧
         ∀ k9 : Nat, Fresh w5 [k0] k9 →
         ∀ w10 : World, Framed [k0, k9] w5 w10 →
         (w10.heap[(k9 : Nat)]? = some (.cells (GTraceTold.cells ⟨x2, xGSeen_1.Reply.Keys⟩).toArray 63 (0, 0)) →
         ∃ p11 : Option Addr,
         ∃ n12 : Nat,
         ∃ n13 : Nat,
         ∃ w14 : World, Sem.run Try.prog (GOp.sem (.builtin .append #[46, 46] 46 [(.slice p6 n7 n8), (.slice (some ⟨k9, 0, none⟩) 1 1)])) w10 = .ok (.slice p11 n12 n13) w14 ∧ Kept [k0] w10 w14 ∧
         CanStore [k0] w14 x0 6 1 ∧
         R (.tuple #[]) (storeAt w14 x0 6 [(.slice p11 n12 n13)]))) ∧
        ((decide (i4 < x2)) = false →
         R (.tuple #[]) w1)) ∧
       ((xGSeen_1.Method == 11) = false →
        R (.tuple #[]) w1))))) ∧
   ((decide (i3 < xGSeen_1.From)) = false →
    ((xGSeen_1.Method == 3) = true →
     ((!xGSeen_1.Reply.OK) = true →
      ∃ i4 : Int,
      CellsAt w1 x0 0 [(.int .i64 i4)] ∧
      ((decide (i4 < 0)) = true →
       CanStore [k0] w1 x0 0 1 ∧
       R (.tuple #[]) (storeAt w1 x0 0 [(.int .i64 x2)])) ∧
      ((decide (i4 < 0)) = false →
       R (.tuple #[]) w1)) ∧
     ((!xGSeen_1.Reply.OK) = false →
      R (.tuple #[]) w1)) ∧
    ((xGSeen_1.Method == 3) = false →
     ((xGSeen_1.Method == 1) = true →
      R (.tuple #[]) w1) ∧
     ((xGSeen_1.Method == 1) = false →
      ((xGSeen_1.Method == 5) = true →
       ∀ k4 : Nat, Fresh w1 [k0] k4 →
       (xGSeen_1.Reply.Has = true →
        ((!xGSeen_1.Reply.Desc.Configurable) = true →
         ∀ w5 : World, Framed [k0, k4] w1 w5 →
         ∃ m6 : Option Nat,
         CellsAt w5 x0 7 [(.map m6)] ∧
         ∀ k7 : Nat, Fresh w5 [k0, k4] k7 →
         ∀ w8 : World, Framed [k0, k4, k7] w5 w8 →
         ∃ p9 : Option Addr,
         ∃ n10 : Nat,
         ∃ n11 : Nat,
         ∃ i12 : Int,
         ∃ w13 : World, Sem.run Try.prog (GOp.sem (.mapEntry 45 (.map m6) (GKey.val xGSeen_1.Ask.Key))) w8 = .ok (.tuple #[(.slice p9 n10 n11), (.int .i64 i12)]) w13 ∧ Kept [k0, k4, k7] w8 w13 ∧
         (w13.heap[(k7 : Nat)]? = some (.cells (GTraceHeld.cells ⟨x2, xGSeen_1.Reply.Desc⟩).toArray 60 (0, 0)) →
         ∃ p14 : Option Addr,
         ∃ n15 : Nat,
         ∃ n16 : Nat,
         ∃ w17 : World, Sem.run Try.prog (GOp.sem (.builtin .append #[58, 58] 58 [(.slice p9 n10 n11), (.slice (some ⟨k7, 0, none⟩) 1 1)])) w13 = .ok (.slice p14 n15 n16) w17 ∧ Kept [k0, k4] w13 w17 ∧
         ∃ w18 : World, Sem.run Try.prog (GOp.sem (.entryStore 45 (.map m6) (.int .i64 i12) (.slice p14 n15 n16))) w17 = .ok (.tuple #[]) w18 ∧ Kept [k0, k4] w17 w18 ∧
         ∀ w19 : World, Framed [k0, k4] w18 w19 →
         ∃ m20 : Option Nat,
         CellsAt w19 x0 5 [(.map m20)] ∧
         ∃ i21 : Int,
         ∃ b22 : Bool,
         ∃ w23 : World, Sem.run Try.prog (GOp.sem (.lookup 44 (.map m20) (GKey.val xGSeen_1.Ask.Key) true)) w19 = .ok (.tuple #[(.int .i64 i21), (.bool b22)]) w23 ∧ Kept [k0, k4] w19 w23 ∧
         R (.tuple #[]) w23)) ∧
        ((!xGSeen_1.Reply.Desc.Configurable) = false →
         ∀ w5 : World, Framed [k0, k4] w1 w5 →
         ∃ m6 : Option Nat,
         CellsAt w5 x0 5 [(.map m6)] ∧
         ∃ i7 : Int,
         ∃ b8 : Bool,
         ∃ w9 : World, Sem.run Try.prog (GOp.sem (.lookup 44 (.map m6) (GKey.val xGSeen_1.Ask.Key) true)) w5 = .ok (.tuple #[(.int .i64 i7), (.bool b8)]) w9 ∧ Kept [k0, k4] w5 w9 ∧
         R (.tuple #[]) w9)) ∧
       (xGSeen_1.Reply.Has = false →
        ∀ w5 : World, Framed [k0, k4] w1 w5 →
        ∃ m6 : Option Nat,
        CellsAt w5 x0 5 [(.map m6)] ∧
        ∃ i7 : Int,
        ∃ b8 : Bool,
        ∃ w9 : World, Sem.run Try.prog (GOp.sem (.lookup 44 (.map m6) (GKey.val xGSeen_1.Ask.Key) true)) w5 = .ok (.tuple #[(.int .i64 i7), (.bool b8)]) w9 ∧ Kept [k0, k4] w5 w9 ∧
        R (.tuple #[]) w9)) ∧
      ((xGSeen_1.Method == 5) = false →
       ((xGSeen_1.Method == 11) = true →
        R (.tuple #[]) w1) ∧
       ((xGSeen_1.Method == 11) = false →
        R (.tuple #[]) w1)))))) ∧
  ((decide (0 ≤ i2)) = false →
   ((xGSeen_1.Method == 3) = true →
    ((!xGSeen_1.Reply.OK) = true →
     ∃ i3 : Int,
     CellsAt w1 x0 0 [(.int .i64 i3)] ∧
     ((decide (i3 < 0)) = true →
      CanStore [k0] w1 x0 0 1 ∧
      R (.tuple #[]) (storeAt w1 x0 0 [(.int .i64 x2)])) ∧
     ((decide (i3 < 0)) = false →
      R (.tuple #[]) w1)) ∧
    ((!xGSeen_1.Reply.OK) = false →
     R (.tuple #[]) w1)) ∧
   ((xGSeen_1.Method == 3) = false →
    ((xGSeen_1.Method == 1) = true →
     R (.tuple #[]) w1) ∧
    ((xGSeen_1.Method == 1) = false →
     ((xGSeen_1.Method == 5) = true →
      ∀ k3 : Nat, Fresh w1 [k0] k3 →
      (xGSeen_1.Reply.Has = true →
       ((!xGSeen_1.Reply.Desc.Configurable) = true →
        ∀ w4 : World, Framed [k0, k3] w1 w4 →
        ∃ m5 : Option Nat,
        CellsAt w4 x0 7 [(.map m5)] ∧
        ∀ k6 : Nat, Fresh w4 [k0, k3] k6 →
        ∀ w7 : World, Framed [k0, k3, k6] w4 w7 →
        ∃ p8 : Option Addr,
        ∃ n9 : Nat,
        ∃ n10 : Nat,
        ∃ i11 : Int,
        ∃ w12 : World, Sem.run Try.prog (GOp.sem (.mapEntry 45 (.map m5) (GKey.val xGSeen_1.Ask.Key))) w7 = .ok (.tuple #[(.slice p8 n9 n10), (.int .i64 i11)]) w12 ∧ Kept [k0, k3, k6] w7 w12 ∧
        (w12.heap[(k6 : Nat)]? = some (.cells (GTraceHeld.cells ⟨x2, xGSeen_1.Reply.Desc⟩).toArray 60 (0, 0)) →
        ∃ p13 : Option Addr,
        ∃ n14 : Nat,
        ∃ n15 : Nat,
        ∃ w16 : World, Sem.run Try.prog (GOp.sem (.builtin .append #[58, 58] 58 [(.slice p8 n9 n10), (.slice (some ⟨k6, 0, none⟩) 1 1)])) w12 = .ok (.slice p13 n14 n15) w16 ∧ Kept [k0, k3] w12 w16 ∧
        ∃ w17 : World, Sem.run Try.prog (GOp.sem (.entryStore 45 (.map m5) (.int .i64 i11) (.slice p13 n14 n15))) w16 = .ok (.tuple #[]) w17 ∧ Kept [k0, k3] w16 w17 ∧
        ∀ w18 : World, Framed [k0, k3] w17 w18 →
        ∃ m19 : Option Nat,
        CellsAt w18 x0 5 [(.map m19)] ∧
        ∃ i20 : Int,
        ∃ b21 : Bool,
        ∃ w22 : World, Sem.run Try.prog (GOp.sem (.lookup 44 (.map m19) (GKey.val xGSeen_1.Ask.Key) true)) w18 = .ok (.tuple #[(.int .i64 i20), (.bool b21)]) w22 ∧ Kept [k0, k3] w18 w22 ∧
        R (.tuple #[]) w22)) ∧
       ((!xGSeen_1.Reply.Desc.Configurable) = false →
        ∀ w4 : World, Framed [k0, k3] w1 w4 →
        ∃ m5 : Option Nat,
        CellsAt w4 x0 5 [(.map m5)] ∧
        ∃ i6 : Int,
        ∃ b7 : Bool,
        ∃ w8 : World, Sem.run Try.prog (GOp.sem (.lookup 44 (.map m5) (GKey.val xGSeen_1.Ask.Key) true)) w4 = .ok (.tuple #[(.int .i64 i6), (.bool b7)]) w8 ∧ Kept [k0, k3] w4 w8 ∧
        R (.tuple #[]) w8)) ∧
      (xGSeen_1.Reply.Has = false →
       ∀ w4 : World, Framed [k0, k3] w1 w4 →
       ∃ m5 : Option Nat,
       CellsAt w4 x0 5 [(.map m5)] ∧
       ∃ i6 : Int,
       ∃ b7 : Bool,
       ∃ w8 : World, Sem.run Try.prog (GOp.sem (.lookup 44 (.map m5) (GKey.val xGSeen_1.Ask.Key) true)) w4 = .ok (.tuple #[(.int .i64 i6), (.bool b7)]) w8 ∧ Kept [k0, k3] w4 w8 ∧
       R (.tuple #[]) w8)) ∧
     ((xGSeen_1.Method == 5) = false →
      ((xGSeen_1.Method == 11) = true →
       R (.tuple #[]) w1) ∧
      ((xGSeen_1.Method == 11) = false →
       R (.tuple #[]) w1))))))
theorem nf9 (R : Value → World → Prop) (x0 : Addr) (xGSeen_1 : GSeen) (x2 : Int) (w : World) : execF (𝔸 := Sh tys cfg9.P R) cfg9 9 [(.addr x0 0), (.agg (GSeen.svs xGSeen_1)), (.int .i64 x2)] w = NF9 R x0 xGSeen_1 x2 w := by kernel_rfl
theorem calls9 (R : Value → World → Prop) (x0 : Addr) (xGSeen_1 : GSeen) (x2 : Int) (w : World) (h : NF9 R x0 xGSeen_1 x2 w) : Calls Try.prog 9 [(.pointer (some x0)), (GSeen.val xGSeen_1), (.int .i64 x2)].toArray w fun e w' => ∃ v, e = .returned v ∧ R v w' :=
  callsOf (𝕋 := tys) cfg9 follows (args := [(.addr x0 0), (.agg (GSeen.svs xGSeen_1)), (.int .i64 x2)]) (by kernel_rfl) (by kernel_rfl) (nf9 R x0 xGSeen_1 x2 w) h

noncomputable def cfg10 : Cfg := { P := Try.prog, inl := [], hav := [], drop := [], let_ := [] }
/-- (*understudy/trace.facts).isFast -/
def NF10 (R : Value → World → Prop) (x0 : Addr) (xGKey_1 : GKey) (x2 : Int) (w : World) : Prop :=
  (∀ k0 : Nat, Fresh w [] k0 →
  ∀ k1 : Nat, Fresh w [k0] k1 →
  ∀ k2 : Nat, Fresh w [k0, k1] k2 →
  ∀ w3 : World, Framed [k0, k1, k2] w w3 →
  ∃ m4 : Option Nat,
  CellsAt w3 x0 7 [(.map m4)] ∧
  ∃ p5 : Option Addr,
  ∃ n6 : Nat,
  ∃ n7 : Nat,
  ∃ w8 : World, Sem.run Try.prog (GOp.sem (.lookup 45 (.map m4) (GKey.val xGKey_1) false)) w3 = .ok (.slice p5 n6 n7) w8 ∧ Kept [k0, k1, k2] w3 w8 ∧
  ∃ (J9 : Bool → Int → Bool → Bool → Bool → Bool → Bool → Bool → Int → Int → ByteArray → Int → Int → ByteArray → Int → Int → ByteArray → Bool → Bool → Bool → World → Prop) (m9 : Bool → Int → Bool → Bool → Bool → Bool → Bool → Bool → Int → Int → ByteArray → Int → Int → ByteArray → Int → Int → ByteArray → Bool → Bool → Bool → World → Nat),
  (J9 false 0 false false false false false false 0 0 ⟨#[]⟩ 0 0 ⟨#[]⟩ 0 0 ⟨#[]⟩ false false false w8) ∧
  (∀ b10 : Bool,
   ∀ i11 : Int,
   ∀ b12 : Bool,
   ∀ b13 : Bool,
   ∀ b14 : Bool,
   ∀ b15 : Bool,
   ∀ b16 : Bool,
   ∀ b17 : Bool,
   ∀ i18 : Int,
   ∀ i19 : Int,
   ∀ s20 : ByteArray,
   ∀ i21 : Int,
   ∀ i22 : Int,
   ∀ s23 : ByteArray,
   ∀ i24 : Int,
   ∀ i25 : Int,
   ∀ s26 : ByteArray,
   ∀ b27 : Bool,
   ∀ b28 : Bool,
   ∀ b29 : Bool,
   ∀ w30 : World, Within [k0, k1, k2] w30 →
   J9 b10 i11 b12 b13 b14 b15 b16 b17 i18 i19 s20 i21 i22 s23 i24 i25 s26 b27 b28 b29 w30 →
   ((decide (i11 < ((n6 : Nat) : Int))) = true →
    ∃ a31 : Addr, p5 = some a31 ∧
    (0 ≤ i11 ∧ i11 < ((n6 : Nat) : Int)) ∧
    ∃ dGTraceHeld_32 : GTraceHeld,
    CellsAt w30 (Addr.add a31 (0 + Int.toNat i11 * 19)) 0 (GTraceHeld.cells dGTraceHeld_32) ∧
    ∀ k33 : Nat, Fresh w30 [k0, k1, k2] k33 →
    ((decide (dGTraceHeld_32.at_ < x2)) = true →
     ((!b10) = false →
      ∀ w34 : World, Framed [k0, k1, k2, k33] w30 w34 →
      CallsV Try.prog 18 [(GDesc.val ⟨b12, b13, b14, b15, b16, b17, ⟨i18, i19, s20⟩, ⟨i21, i22, s23⟩, ⟨i24, i25, s26⟩, b27, b28, b29⟩)] w34 [k0, k1, k2, k33] fun r35 w35 =>
       ∃ b36 : Bool,
       r35 = (.bool b36) ∧
       (b36 = true →
        (b27 = true →
         CallsV Try.prog 18 [(GDesc.val dGTraceHeld_32.d)] w35 [k0, k1, k2, k33] fun r37 w37 =>
          ∃ b38 : Bool,
          r37 = (.bool b38) ∧
          (b38 = true →
           ((!dGTraceHeld_32.d.Writable) = true →
            ∀ w39 : World, Framed [k0, k1, k2, k33] w37 w39 →
            (J9 true (IntKind.wrap .i64 (i11 + 1)) dGTraceHeld_32.d.HasValue dGTraceHeld_32.d.HasGet dGTraceHeld_32.d.HasSet dGTraceHeld_32.d.HasWritable dGTraceHeld_32.d.HasEnumerable dGTraceHeld_32.d.HasConfigurable dGTraceHeld_32.d.Value.Kind dGTraceHeld_32.d.Value.Num dGTraceHeld_32.d.Value.Str dGTraceHeld_32.d.Get.Kind dGTraceHeld_32.d.Get.Num dGTraceHeld_32.d.Get.Str dGTraceHeld_32.d.Set.Kind dGTraceHeld_32.d.Set.Num dGTraceHeld_32.d.Set.Str dGTraceHeld_32.d.Writable dGTraceHeld_32.d.Enumerable dGTraceHeld_32.d.Configurable w39) ∧
            ((m9 true (IntKind.wrap .i64 (i11 + 1)) dGTraceHeld_32.d.HasValue dGTraceHeld_32.d.HasGet dGTraceHeld_32.d.HasSet dGTraceHeld_32.d.HasWritable dGTraceHeld_32.d.HasEnumerable dGTraceHeld_32.d.HasConfigurable dGTraceHeld_32.d.Value.Kind dGTraceHeld_32.d.Value.Num dGTraceHeld_32.d.Value.Str dGTraceHeld_32.d.Get.Kind dGTraceHeld_32.d.Get.Num dGTraceHeld_32.d.Get.Str dGTraceHeld_32.d.Set.Kind dGTraceHeld_32.d.Set.Num dGTraceHeld_32.d.Set.Str dGTraceHeld_32.d.Writable dGTraceHeld_32.d.Enumerable dGTraceHeld_32.d.Configurable w39) < (m9 b10 i11 b12 b13 b14 b15 b16 b17 i18 i19 s20 i21 i22 s23 i24 i25 s26 b27 b28 b29 w30))) ∧
           ((!dGTraceHeld_32.d.Writable) = false →
            (J9 b10 (IntKind.wrap .i64 (i11 + 1)) b12 b13 b14 b15 b16 b17 i18 i19 s20 i21 i22 s23 i24 i25 s26 b27 b28 b29 w37) ∧
            ((m9 b10 (IntKind.wrap .i64 (i11 + 1)) b12 b13 b14 b15 b16 b17 i18 i19 s20 i21 i22 s23 i24 i25 s26 b27 b28 b29 w37) < (m9 b10 i11 b12 b13 b14 b15 b16 b17 i18 i19 s20 i21 i22 s23 i24 i25 s26 b27 b28 b29 w30)))) ∧
          (b38 = false →
           (J9 b10 (IntKind.wrap .i64 (i11 + 1)) b12 b13 b14 b15 b16 b17 i18 i19 s20 i21 i22 s23 i24 i25 s26 b27 b28 b29 w37) ∧
           ((m9 b10 (IntKind.wrap .i64 (i11 + 1)) b12 b13 b14 b15 b16 b17 i18 i19 s20 i21 i22 s23 i24 i25 s26 b27 b28 b29 w37) < (m9 b10 i11 b12 b13 b14 b15 b16 b17 i18 i19 s20 i21 i22 s23 i24 i25 s26 b27 b28 b29 w30)))) ∧
        (b27 = false →
         (J9 b10 (IntKind.wrap .i64 (i11 + 1)) b12 b13 b14 b15 b16 b17 i18 i19 s20 i21 i22 s23 i24 i25 s26 b27 b28 b29 w35) ∧
         ((m9 b10 (IntKind.wrap .i64 (i11 + 1)) b12 b13 b14 b15 b16 b17 i18 i19 s20 i21 i22 s23 i24 i25 s26 b27 b28 b29 w35) < (m9 b10 i11 b12 b13 b14 b15 b16 b17 i18 i19 s20 i21 i22 s23 i24 i25 s26 b27 b28 b29 w30)))) ∧
       (b36 = false →
        (J9 b10 (IntKind.wrap .i64 (i11 + 1)) b12 b13 b14 b15 b16 b17 i18 i19 s20 i21 i22 s23 i24 i25 s26 b27 b28 b29 w35) ∧
        ((m9 b10 (IntKind.wrap .i64 (i11 + 1)) b12 b13 b14 b15 b16 b17 i18 i19 s20 i21 i22 s23 i24 i25 s26 b27 b28 b29 w35) < (m9 b10 i11 b12 b13 b14 b15 b16 b17 i18 i19 s20 i21 i22 s23 i24 i25 s26 b27 b28 b29 w30)))) ∧
     ((!b10) = true →
      ∀ w34 : World, Framed [k0, k1, k2, k33] w30 w34 →
      (J9 true (IntKind.wrap .i64 (i11 + 1)) dGTraceHeld_32.d.HasValue dGTraceHeld_32.d.HasGet dGTraceHeld_32.d.HasSet dGTraceHeld_32.d.HasWritable dGTraceHeld_32.d.HasEnumerable dGTraceHeld_32.d.HasConfigurable dGTraceHeld_32.d.Value.Kind dGTraceHeld_32.d.Value.Num dGTraceHeld_32.d.Value.Str dGTraceHeld_32.d.Get.Kind dGTraceHeld_32.d.Get.Num dGTraceHeld_32.d.Get.Str dGTraceHeld_32.d.Set.Kind dGTraceHeld_32.d.Set.Num dGTraceHeld_32.d.Set.Str dGTraceHeld_32.d.Writable dGTraceHeld_32.d.Enumerable dGTraceHeld_32.d.Configurable w34) ∧
      ((m9 true (IntKind.wrap .i64 (i11 + 1)) dGTraceHeld_32.d.HasValue dGTraceHeld_32.d.HasGet dGTraceHeld_32.d.HasSet dGTraceHeld_32.d.HasWritable dGTraceHeld_32.d.HasEnumerable dGTraceHeld_32.d.HasConfigurable dGTraceHeld_32.d.Value.Kind dGTraceHeld_32.d.Value.Num dGTraceHeld_32.d.Value.Str dGTraceHeld_32.d.Get.Kind dGTraceHeld_32.d.Get.Num dGTraceHeld_32.d.Get.Str dGTraceHeld_32.d.Set.Kind dGTraceHeld_32.d.Set.Num dGTraceHeld_32.d.Set.Str dGTraceHeld_32.d.Writable dGTraceHeld_32.d.Enumerable dGTraceHeld_32.d.Configurable w34) < (m9 b10 i11 b12 b13 b14 b15 b16 b17 i18 i19 s20 i21 i22 s23 i24 i25 s26 b27 b28 b29 w30)))) ∧
    ((decide (dGTraceHeld_32.at_ < x2)) = false →
     ∀ w34 : World, Framed [k0, k1, k2, k33] w30 w34 →
     (J9 b10 (IntKind.wrap .i64 (i11 + 1)) b12 b13 b14 b15 b16 b17 i18 i19 s20 i21 i22 s23 i24 i25 s26 b27 b28 b29 w34) ∧
     ((m9 b10 (IntKind.wrap .i64 (i11 + 1)) b12 b13 b14 b15 b16 b17 i18 i19 s20 i21 i22 s23 i24 i25 s26 b27 b28 b29 w34) < (m9 b10 i11 b12 b13 b14 b15 b16 b17 i18 i19 s20 i21 i22 s23 i24 i25 s26 b27 b28 b29 w30)))) ∧
   ((decide (i11 < ((n6 : Nat) : Int))) = false →
    ∀ w31 : World, Framed [k0, k1, k2] w30 w31 →
    R (.tuple #[(.agg #[(.bool b12), (.bool b13), (.bool b14), (.bool b15), (.bool b16), (.bool b17), (.int .i64 i18), (.int .i64 i19), (.string s20), (.int .i64 i21), (.int .i64 i22), (.string s23), (.int .i64 i24), (.int .i64 i25), (.string s26), (.bool b27), (.bool b28), (.bool b29)]), (.bool b10)]) w31)))
theorem nf10 (R : Value → World → Prop) (x0 : Addr) (xGKey_1 : GKey) (x2 : Int) (w : World) : execF (𝔸 := Sh tys cfg10.P R) cfg10 10 [(.addr x0 0), (.agg (GKey.svs xGKey_1)), (.int .i64 x2)] w = NF10 R x0 xGKey_1 x2 w := by kernel_rfl
theorem calls10 (R : Value → World → Prop) (x0 : Addr) (xGKey_1 : GKey) (x2 : Int) (w : World) (h : NF10 R x0 xGKey_1 x2 w) : Calls Try.prog 10 [(.pointer (some x0)), (GKey.val xGKey_1), (.int .i64 x2)].toArray w fun e w' => ∃ v, e = .returned v ∧ R v w' :=
  callsOf (𝕋 := tys) cfg10 follows (args := [(.addr x0 0), (.agg (GKey.svs xGKey_1)), (.int .i64 x2)]) (by kernel_rfl) (by kernel_rfl) (nf10 R x0 xGKey_1 x2 w) h

noncomputable def cfg14 : Cfg := { P := Try.prog, inl := [], hav := [], drop := [], let_ := [] }
/-- (*understudy/trace.facts).ownBreaks -/
def NF14 (R : Value → World → Prop) (x0 : Addr) (xGSeen_1 : GSeen) (x2 : Int) (w : World) : Prop :=
  (∀ k0 : Nat, Fresh w [] k0 →
  ∀ w1 : World, Framed [k0] w w1 →
  CallsV Try.prog 10 [(.pointer (some x0)), (GKey.val xGSeen_1.Ask.Key), (.int .i64 x2)] w1 [k0] fun r2 w2 =>
   ∃ dGDesc_3 : GDesc,
   ∃ b4 : Bool,
   r2 = (.tuple #[(GDesc.val dGDesc_3), (.bool b4)]) ∧
   ∀ k5 : Nat, Fresh w2 [k0] k5 →
   ∀ k6 : Nat, Fresh w2 [k0, k5] k6 →
   ((!xGSeen_1.Reply.Has) = true →
    ∀ w7 : World, Framed [k0, k5, k6] w2 w7 →
    R (.bool b4) w7) ∧
   ((!xGSeen_1.Reply.Has) = false →
    ∀ w7 : World, Framed [k0, k5, k6] w2 w7 →
    CallsV Try.prog 19 [(GDesc.val xGSeen_1.Reply.Desc)] w7 [k0, k5, k6] fun r8 w8 =>
     ∃ b9 : Bool,
     r8 = (.bool b9) ∧
     ((!b9) = false →
      CallsV Try.prog 15 [(.pointer (some x0)), (GKey.val xGSeen_1.Ask.Key), (.int .i64 x2)] w8 [k0, k5, k6] fun r10 w10 =>
       ∃ b11 : Bool,
       r10 = (.bool b11) ∧
       (b11 = true →
        R (.bool true) w10) ∧
       (b11 = false →
        (b4 = true →
         CallsV Try.prog 20 [(GDesc.val dGDesc_3), (GDesc.val xGSeen_1.Reply.Desc)] w10 [k0, k5, k6] fun r12 w12 =>
          ∃ b13 : Bool,
          r12 = (.bool b13) ∧
          R (.bool b13) w12) ∧
        (b4 = false →
         R (.bool false) w10))) ∧
     ((!b9) = true →
      R (.bool true) w8)))
theorem nf14 (R : Value → World → Prop) (x0 : Addr) (xGSeen_1 : GSeen) (x2 : Int) (w : World) : execF (𝔸 := Sh tys cfg14.P R) cfg14 14 [(.addr x0 0), (.agg (GSeen.svs xGSeen_1)), (.int .i64 x2)] w = NF14 R x0 xGSeen_1 x2 w := by kernel_rfl
theorem calls14 (R : Value → World → Prop) (x0 : Addr) (xGSeen_1 : GSeen) (x2 : Int) (w : World) (h : NF14 R x0 xGSeen_1 x2 w) : Calls Try.prog 14 [(.pointer (some x0)), (GSeen.val xGSeen_1), (.int .i64 x2)].toArray w fun e w' => ∃ v, e = .returned v ∧ R v w' :=
  callsOf (𝕋 := tys) cfg14 follows (args := [(.addr x0 0), (.agg (GSeen.svs xGSeen_1)), (.int .i64 x2)]) (by kernel_rfl) (by kernel_rfl) (nf14 R x0 xGSeen_1 x2 w) h

noncomputable def cfg15 : Cfg := { P := Try.prog, inl := [22,21,28], hav := [], drop := [], let_ := [] }
/-- (*understudy/trace.facts).isGone -/
def NF15 (R : Value → World → Prop) (x0 : Addr) (xGKey_1 : GKey) (x2 : Int) (w : World) : Prop :=
  (∀ k0 : Nat, Fresh w [] k0 →
  ∀ k1 : Nat, Fresh w [k0] k1 →
  ∀ w2 : World, Framed [k0, k1] w w2 →
  ∃ m3 : Option Nat,
  CellsAt w2 x0 5 [(.map m3)] ∧
  ∃ i4 : Int,
  ∃ b5 : Bool,
  ∃ w6 : World, Sem.run Try.prog (GOp.sem (.lookup 44 (.map m3) (GKey.val xGKey_1) true)) w2 = .ok (.tuple #[(.int .i64 i4), (.bool b5)]) w6 ∧ Kept [k0, k1] w2 w6 ∧
  (b5 = true →
   ((decide (i4 < x2)) = true →
    R (.bool true) w6) ∧
   ((decide (i4 < x2)) = false →
    ∃ p7 : Option Addr,
    ∃ n8 : Nat,
    ∃ n9 : Nat,
    CellsAt w6 x0 6 [(.slice p7 n8 n9)] ∧
    ∃ (J10 : Int → World → Prop) (m10 : Int → World → Nat),
    (J10 0 w6) ∧
    (∀ i11 : Int,
     ∀ w12 : World, Within [k0, k1] w12 →
     J10 i11 w12 →
     ((decide (i11 < ((n8 : Nat) : Int))) = true →
      ∃ a13 : Addr, p7 = some a13 ∧
      (0 ≤ i11 ∧ i11 < ((n8 : Nat) : Int)) ∧
      ∃ dGTraceTold_14 : GTraceTold,
      CellsAt w12 (Addr.add a13 (0 + Int.toNat i11 * 2)) 0 (GTraceTold.cells dGTraceTold_14) ∧
      ∀ k15 : Nat, Fresh w12 [k0, k1] k15 →
      ((decide (dGTraceTold_14.at_ < x2)) = true →
       ∀ w16 : World, Framed [k0, k1, k15] w12 w16 →
       CallsV Try.prog 23 [(.slice dGTraceTold_14.keys.p dGTraceTold_14.keys.l dGTraceTold_14.keys.c), (GKey.val xGKey_1)] w16 [k0, k1, k15] fun r17 w17 =>
        ∃ b18 : Bool,
        r17 = (.bool b18) ∧
        ((!b18) = true →
         R (.bool (decide (0 ≤ i11))) w17) ∧
        ((!b18) = false →
         (J10 (IntKind.wrap .i64 (i11 + 1)) w17) ∧
         ((m10 (IntKind.wrap .i64 (i11 + 1)) w17) < (m10 i11 w12)))) ∧
      ((decide (dGTraceTold_14.at_ < x2)) = false →
       ∀ w16 : World, Framed [k0, k1, k15] w12 w16 →
       (J10 (IntKind.wrap .i64 (i11 + 1)) w16) ∧
       ((m10 (IntKind.wrap .i64 (i11 + 1)) w16) < (m10 i11 w12)))) ∧
     ((decide (i11 < ((n8 : Nat) : Int))) = false →
      R (.bool false) w12)))) ∧
  (b5 = false →
   ∃ p7 : Option Addr,
   ∃ n8 : Nat,
   ∃ n9 : Nat,
   CellsAt w6 x0 6 [(.slice p7 n8 n9)] ∧
   ∃ (J10 : Int → World → Prop) (m10 : Int → World → Nat),
   (J10 0 w6) ∧
   (∀ i11 : Int,
    ∀ w12 : World, Within [k0, k1] w12 →
    J10 i11 w12 →
    ((decide (i11 < ((n8 : Nat) : Int))) = true →
     ∃ a13 : Addr, p7 = some a13 ∧
     (0 ≤ i11 ∧ i11 < ((n8 : Nat) : Int)) ∧
     ∃ dGTraceTold_14 : GTraceTold,
     CellsAt w12 (Addr.add a13 (0 + Int.toNat i11 * 2)) 0 (GTraceTold.cells dGTraceTold_14) ∧
     ∀ k15 : Nat, Fresh w12 [k0, k1] k15 →
     ((decide (dGTraceTold_14.at_ < x2)) = true →
      ∀ w16 : World, Framed [k0, k1, k15] w12 w16 →
      CallsV Try.prog 23 [(.slice dGTraceTold_14.keys.p dGTraceTold_14.keys.l dGTraceTold_14.keys.c), (GKey.val xGKey_1)] w16 [k0, k1, k15] fun r17 w17 =>
       ∃ b18 : Bool,
       r17 = (.bool b18) ∧
       ((!b18) = true →
        R (.bool (decide (0 ≤ i11))) w17) ∧
       ((!b18) = false →
        (J10 (IntKind.wrap .i64 (i11 + 1)) w17) ∧
        ((m10 (IntKind.wrap .i64 (i11 + 1)) w17) < (m10 i11 w12)))) ∧
     ((decide (dGTraceTold_14.at_ < x2)) = false →
      ∀ w16 : World, Framed [k0, k1, k15] w12 w16 →
      (J10 (IntKind.wrap .i64 (i11 + 1)) w16) ∧
      ((m10 (IntKind.wrap .i64 (i11 + 1)) w16) < (m10 i11 w12)))) ∧
    ((decide (i11 < ((n8 : Nat) : Int))) = false →
     R (.bool false) w12))))
theorem nf15 (R : Value → World → Prop) (x0 : Addr) (xGKey_1 : GKey) (x2 : Int) (w : World) : execF (𝔸 := Sh tys cfg15.P R) cfg15 15 [(.addr x0 0), (.agg (GKey.svs xGKey_1)), (.int .i64 x2)] w = NF15 R x0 xGKey_1 x2 w := by kernel_rfl
theorem calls15 (R : Value → World → Prop) (x0 : Addr) (xGKey_1 : GKey) (x2 : Int) (w : World) (h : NF15 R x0 xGKey_1 x2 w) : Calls Try.prog 15 [(.pointer (some x0)), (GKey.val xGKey_1), (.int .i64 x2)].toArray w fun e w' => ∃ v, e = .returned v ∧ R v w' :=
  callsOf (𝕋 := tys) cfg15 follows (args := [(.addr x0 0), (.agg (GKey.svs xGKey_1)), (.int .i64 x2)]) (by kernel_rfl) (by kernel_rfl) (nf15 R x0 xGKey_1 x2 w) h

noncomputable def cfg17 : Cfg := { P := Try.prog, inl := [25,26,30], hav := [], drop := [], let_ := [] }
/-- (*understudy/trace.facts).keysBreak -/
def NF17 (R : Value → World → Prop) (x0 : Addr) (x1 : Sl) (x2 : Int) (w : World) : Prop :=
  (∀ k0 : Nat, Fresh w [] k0 →
  ∀ k1 : Nat, Fresh w [k0] k1 →
  ∀ w2 : World, Framed [k0, k1] w w2 →
  CallsV Try.prog 24 [(.slice x1.p x1.l x1.c)] w2 [k0, k1] fun r3 w3 =>
   ∃ b4 : Bool,
   r3 = (.bool b4) ∧
   (b4 = false →
    ∃ (J5 : Int → World → Prop) (m5 : Int → World → Nat),
    (J5 0 w3) ∧
    (∀ i6 : Int,
     ∀ w7 : World, Within [k0, k1] w7 →
     J5 i6 w7 →
     ((decide (i6 < ((x1.l : Nat) : Int))) = true →
      ∃ a8 : Addr, x1.p = some a8 ∧
      (0 ≤ i6 ∧ i6 < ((x1.l : Nat) : Int)) ∧
      ∃ dGKey_9 : GKey,
      CellsAt w7 (Addr.add a8 (0 + Int.toNat i6 * 2)) 0 (GKey.cells dGKey_9) ∧
      ∀ k10 : Nat, Fresh w7 [k0, k1] k10 →
      ∀ w11 : World, Framed [k0, k1, k10] w7 w11 →
      CallsV Try.prog 15 [(.pointer (some x0)), (GKey.val dGKey_9), (.int .i64 x2)] w11 [k0, k1, k10] fun r12 w12 =>
       ∃ b13 : Bool,
       r12 = (.bool b13) ∧
       (b13 = true →
        ((decide (0 ≤ i6)) = true →
         R (.bool true) w12) ∧
        ((decide (0 ≤ i6)) = false →
         ∃ m14 : Option Nat,
         CellsAt w12 x0 7 [(.map m14)] ∧
         ∃ p15 : Option Addr,
         ∃ w16 : World, Sem.run Try.prog (GOp.sem (.range 45 (.map m14))) w12 = .ok (.pointer p15) w16 ∧ Kept [k0, k1, k10] w12 w16 ∧
         ∃ (J17 : World → Prop) (m17 : World → Nat),
         (J17 w16) ∧
         (∀ w18 : World, Within [k0, k1, k10] w18 →
          J17 w18 →
          ∃ b19 : Bool,
          ∃ dGKey_20 : GKey,
          ∃ p21 : Option Addr,
          ∃ n22 : Nat,
          ∃ n23 : Nat,
          ∃ w24 : World, Sem.run Try.prog (GOp.sem (.next (.pointer p15) false 0)) w18 = .ok (if b19 then (.tuple #[(.bool true), (GKey.val dGKey_20), (.slice p21 n22 n23)]) else (.tuple #[(.bool false)])) w24 ∧ Kept [k0, k1, k10] w18 w24 ∧
          (b19 = true →
           ∃ dGKey_25 : GKey,
           ∃ p26 : Option Addr,
           ∃ n27 : Nat,
           ∃ n28 : Nat,
           ∃ w29 : World, Sem.run Try.prog (GOp.sem (.entry (.pointer p15))) w24 = .ok (.tuple #[(GKey.val dGKey_25), (.slice p26 n27 n28)]) w29 ∧ Kept [k0, k1, k10] w24 w29 ∧
           ∀ k30 : Nat, Fresh w29 [k0, k1, k10] k30 →
           ∀ w31 : World, Framed [k0, k1, k10, k30] w29 w31 →
           CallsV Try.prog 10 [(.pointer (some x0)), (GKey.val dGKey_25), (.int .i64 x2)] w31 [k0, k1, k10, k30] fun r32 w32 =>
            ∃ dGDesc_33 : GDesc,
            ∃ b34 : Bool,
            r32 = (.tuple #[(GDesc.val dGDesc_33), (.bool b34)]) ∧
            ∀ k35 : Nat, Fresh w32 [k0, k1, k10, k30] k35 →
            (b34 = true →
             ∀ w36 : World, Framed [k0, k1, k10, k30, k35] w32 w36 →
             CallsV Try.prog 23 [(.slice x1.p x1.l x1.c), (GKey.val dGKey_25)] w36 [k0, k1, k10, k30, k35] fun r37 w37 =>
              ∃ b38 : Bool,
              r37 = (.bool b38) ∧
              ((!b38) = true →
               R (.bool true) w37) ∧
              ((!b38) = false →
               (J17 w37) ∧
               ((m17 w37) < (m17 w18)))) ∧
            (b34 = false →
             ∀ w36 : World, Framed [k0, k1, k10, k30, k35] w32 w36 →
             (J17 w36) ∧
             ((m17 w36) < (m17 w18)))) ∧
          (b19 = false →
           R (.bool false) w24)))) ∧
       (b13 = false →
        (J5 (IntKind.wrap .i64 (i6 + 1)) w12) ∧
        ((m5 (IntKind.wrap .i64 (i6 + 1)) w12) < (m5 i6 w7)))) ∧
     ((decide (i6 < ((x1.l : Nat) : Int))) = false →
      ∃ m8 : Option Nat,
      CellsAt w7 x0 7 [(.map m8)] ∧
      ∃ p9 : Option Addr,
      ∃ w10 : World, Sem.run Try.prog (GOp.sem (.range 45 (.map m8))) w7 = .ok (.pointer p9) w10 ∧ Kept [k0, k1] w7 w10 ∧
      ∃ (J11 : World → Prop) (m11 : World → Nat),
      (J11 w10) ∧
      (∀ w12 : World, Within [k0, k1] w12 →
       J11 w12 →
       ∃ b13 : Bool,
       ∃ dGKey_14 : GKey,
       ∃ p15 : Option Addr,
       ∃ n16 : Nat,
       ∃ n17 : Nat,
       ∃ w18 : World, Sem.run Try.prog (GOp.sem (.next (.pointer p9) false 0)) w12 = .ok (if b13 then (.tuple #[(.bool true), (GKey.val dGKey_14), (.slice p15 n16 n17)]) else (.tuple #[(.bool false)])) w18 ∧ Kept [k0, k1] w12 w18 ∧
       (b13 = true →
        ∃ dGKey_19 : GKey,
        ∃ p20 : Option Addr,
        ∃ n21 : Nat,
        ∃ n22 : Nat,
        ∃ w23 : World, Sem.run Try.prog (GOp.sem (.entry (.pointer p9))) w18 = .ok (.tuple #[(GKey.val dGKey_19), (.slice p20 n21 n22)]) w23 ∧ Kept [k0, k1] w18 w23 ∧
        ∀ k24 : Nat, Fresh w23 [k0, k1] k24 →
        ∀ w25 : World, Framed [k0, k1, k24] w23 w25 →
        CallsV Try.prog 10 [(.pointer (some x0)), (GKey.val dGKey_19), (.int .i64 x2)] w25 [k0, k1, k24] fun r26 w26 =>
         ∃ dGDesc_27 : GDesc,
         ∃ b28 : Bool,
         r26 = (.tuple #[(GDesc.val dGDesc_27), (.bool b28)]) ∧
         ∀ k29 : Nat, Fresh w26 [k0, k1, k24] k29 →
         (b28 = true →
          ∀ w30 : World, Framed [k0, k1, k24, k29] w26 w30 →
          CallsV Try.prog 23 [(.slice x1.p x1.l x1.c), (GKey.val dGKey_19)] w30 [k0, k1, k24, k29] fun r31 w31 =>
           ∃ b32 : Bool,
           r31 = (.bool b32) ∧
           ((!b32) = true →
            R (.bool true) w31) ∧
           ((!b32) = false →
            (J11 w31) ∧
            ((m11 w31) < (m11 w12)))) ∧
         (b28 = false →
          ∀ w30 : World, Framed [k0, k1, k24, k29] w26 w30 →
          (J11 w30) ∧
          ((m11 w30) < (m11 w12)))) ∧
       (b13 = false →
        R (.bool false) w18))))) ∧
   (b4 = true →
    R (.bool true) w3))
theorem nf17 (R : Value → World → Prop) (x0 : Addr) (x1 : Sl) (x2 : Int) (w : World) : execF (𝔸 := Sh tys cfg17.P R) cfg17 17 [(.addr x0 0), (.slice x1.p x1.l x1.c), (.int .i64 x2)] w = NF17 R x0 x1 x2 w := by kernel_rfl
theorem calls17 (R : Value → World → Prop) (x0 : Addr) (x1 : Sl) (x2 : Int) (w : World) (h : NF17 R x0 x1 x2 w) : Calls Try.prog 17 [(.pointer (some x0)), (.slice x1.p x1.l x1.c), (.int .i64 x2)].toArray w fun e w' => ∃ v, e = .returned v ∧ R v w' :=
  callsOf (𝕋 := tys) cfg17 follows (args := [(.addr x0 0), (.slice x1.p x1.l x1.c), (.int .i64 x2)]) (by kernel_rfl) (by kernel_rfl) (nf17 R x0 x1 x2 w) h

noncomputable def cfg20 : Cfg := { P := Try.prog, inl := [], hav := [], drop := [], let_ := [] }
/-- understudy/trace.turned -/
def NF20 (R : Value → World → Prop) (xGDesc_0 : GDesc) (xGDesc_1 : GDesc) (w : World) : Prop :=
  (∀ k0 : Nat, Fresh w [] k0 →
  ∀ k1 : Nat, Fresh w [k0] k1 →
  (xGDesc_1.Configurable = false →
   ((!(xGDesc_1.Enumerable == xGDesc_0.Enumerable)) = false →
    ∀ w2 : World, Framed [k0, k1] w w2 →
    CallsV Try.prog 18 [(GDesc.val xGDesc_1)] w2 [k0, k1] fun r3 w3 =>
     ∃ b4 : Bool,
     r3 = (.bool b4) ∧
     CallsV Try.prog 18 [(GDesc.val xGDesc_0)] w3 [k0, k1] fun r5 w5 =>
      ∃ b6 : Bool,
      r5 = (.bool b6) ∧
      ((!(b4 == b6)) = true →
       R (.bool true) w5) ∧
      ((!(b4 == b6)) = false →
       CallsV Try.prog 18 [(GDesc.val xGDesc_0)] w5 [k0, k1] fun r7 w7 =>
        ∃ b8 : Bool,
        r7 = (.bool b8) ∧
        ((!b8) = true →
         ((!((xGDesc_1.Get.Kind == xGDesc_0.Get.Kind) && ((xGDesc_1.Get.Num == xGDesc_0.Get.Num) && (strB .eql xGDesc_1.Get.Str xGDesc_0.Get.Str)))) = false →
          R (.bool (!((xGDesc_1.Set.Kind == xGDesc_0.Set.Kind) && ((xGDesc_1.Set.Num == xGDesc_0.Set.Num) && (strB .eql xGDesc_1.Set.Str xGDesc_0.Set.Str))))) w7) ∧
         ((!((xGDesc_1.Get.Kind == xGDesc_0.Get.Kind) && ((xGDesc_1.Get.Num == xGDesc_0.Get.Num) && (strB .eql xGDesc_1.Get.Str xGDesc_0.Get.Str)))) = true →
          R (.bool true) w7)) ∧
        ((!b8) = false →
         ((!xGDesc_0.Writable) = true →
          (xGDesc_1.Writable = false →
           CallsV Try.prog 13 [(GValue.val xGDesc_1.Value), (GValue.val xGDesc_0.Value)] w7 [k0, k1] fun r9 w9 =>
            ∃ b10 : Bool,
            r9 = (.bool b10) ∧
            R (.bool (!b10)) w9) ∧
          (xGDesc_1.Writable = true →
           R (.bool true) w7)) ∧
         ((!xGDesc_0.Writable) = false →
          R (.bool false) w7)))) ∧
   ((!(xGDesc_1.Enumerable == xGDesc_0.Enumerable)) = true →
    ∀ w2 : World, Framed [k0, k1] w w2 →
    R (.bool true) w2)) ∧
  (xGDesc_1.Configurable = true →
   ∀ w2 : World, Framed [k0, k1] w w2 →
   R (.bool true) w2))
theorem nf20 (R : Value → World → Prop) (xGDesc_0 : GDesc) (xGDesc_1 : GDesc) (w : World) : execF (𝔸 := Sh tys cfg20.P R) cfg20 20 [(.agg (GDesc.svs xGDesc_0)), (.agg (GDesc.svs xGDesc_1))] w = NF20 R xGDesc_0 xGDesc_1 w := by kernel_rfl
theorem calls20 (R : Value → World → Prop) (xGDesc_0 : GDesc) (xGDesc_1 : GDesc) (w : World) (h : NF20 R xGDesc_0 xGDesc_1 w) : Calls Try.prog 20 [(GDesc.val xGDesc_0), (GDesc.val xGDesc_1)].toArray w fun e w' => ∃ v, e = .returned v ∧ R v w' :=
  callsOf (𝕋 := tys) cfg20 follows (args := [(.agg (GDesc.svs xGDesc_0)), (.agg (GDesc.svs xGDesc_1))]) (by kernel_rfl) (by kernel_rfl) (nf20 R xGDesc_0 xGDesc_1 w) h

noncomputable def cfg23 : Cfg := { P := Try.prog, inl := [29], hav := [], drop := [], let_ := [] }
/-- slices.Contains[[]understudy/api.Key,understudy/api.Key] -/
def NF23 (R : Value → World → Prop) (x0 : Sl) (xGKey_1 : GKey) (w : World) : Prop :=
  (∀ k0 : Nat, Fresh w [] k0 →
  ∀ k1 : Nat, Fresh w [k0] k1 →
  ∃ (J2 : Int → World → Prop) (m2 : Int → World → Nat),
  (∀ w3 : World, Framed [k0, k1] w w3 →
   J2 0 w3) ∧
  (∀ i3 : Int,
   ∀ w4 : World, Within [k0, k1] w4 →
   J2 i3 w4 →
   ((decide (i3 < ((x0.l : Nat) : Int))) = true →
    ∃ a5 : Addr, x0.p = some a5 ∧
    (0 ≤ i3 ∧ i3 < ((x0.l : Nat) : Int)) ∧
    ∀ w6 : World, Framed [k0, k1] w4 w6 →
    ∃ dGKey_7 : GKey,
    CellsAt w6 (Addr.add a5 (0 + Int.toNat i3 * 2)) 0 (GKey.cells dGKey_7) ∧
    (((strB .eql xGKey_1.Str dGKey_7.Str) && (xGKey_1.Sym == dGKey_7.Sym)) = true →
     R (.bool (decide (0 ≤ i3))) w6) ∧
    (((strB .eql xGKey_1.Str dGKey_7.Str) && (xGKey_1.Sym == dGKey_7.Sym)) = false →
     (J2 (IntKind.wrap .i64 (i3 + 1)) w6) ∧
     ((m2 (IntKind.wrap .i64 (i3 + 1)) w6) < (m2 i3 w4)))) ∧
   ((decide (i3 < ((x0.l : Nat) : Int))) = false →
    R (.bool false) w4)))
theorem nf23 (R : Value → World → Prop) (x0 : Sl) (xGKey_1 : GKey) (w : World) : execF (𝔸 := Sh tys cfg23.P R) cfg23 23 [(.slice x0.p x0.l x0.c), (.agg (GKey.svs xGKey_1))] w = NF23 R x0 xGKey_1 w := by kernel_rfl
theorem calls23 (R : Value → World → Prop) (x0 : Sl) (xGKey_1 : GKey) (w : World) (h : NF23 R x0 xGKey_1 w) : Calls Try.prog 23 [(.slice x0.p x0.l x0.c), (GKey.val xGKey_1)].toArray w fun e w' => ∃ v, e = .returned v ∧ R v w' :=
  callsOf (𝕋 := tys) cfg23 follows (args := [(.slice x0.p x0.l x0.c), (.agg (GKey.svs xGKey_1))]) (by kernel_rfl) (by kernel_rfl) (nf23 R x0 xGKey_1 w) h

noncomputable def cfg24 : Cfg := { P := Try.prog, inl := [], hav := [], drop := [], let_ := [] }
/-- understudy/trace.twice -/
def NF24 (R : Value → World → Prop) (x0 : Sl) (w : World) : Prop :=
  (∃ m0 : Option Nat,
  ∃ w1 : World, Sem.run Try.prog (GOp.sem (.makeMap 74)) w = .ok (.map m0) w1 ∧ Kept [] w w1 ∧
  ∃ (J2 : Int → World → Prop) (m2 : Int → World → Nat),
  (J2 0 w1) ∧
  (∀ i3 : Int,
   ∀ w4 : World, Within [] w4 →
   J2 i3 w4 →
   ((decide (i3 < ((x0.l : Nat) : Int))) = true →
    ∃ a5 : Addr, x0.p = some a5 ∧
    (0 ≤ i3 ∧ i3 < ((x0.l : Nat) : Int)) ∧
    ∃ dGKey_6 : GKey,
    CellsAt w4 (Addr.add a5 (0 + Int.toNat i3 * 2)) 0 (GKey.cells dGKey_6) ∧
    ∀ k7 : Nat, Fresh w4 [] k7 →
    ∀ w8 : World, Framed [k7] w4 w8 →
    ∃ b9 : Bool,
    ∃ w10 : World, Sem.run Try.prog (GOp.sem (.lookup 74 (.map m0) (GKey.val dGKey_6) false)) w8 = .ok (.bool b9) w10 ∧ Kept [k7] w8 w10 ∧
    (b9 = true →
     R (.bool true) w10) ∧
    (b9 = false →
     ∃ w11 : World, Sem.run Try.prog (GOp.sem (.mapUpdate 74 (.map m0) (GKey.val dGKey_6) (.bool true))) w10 = .ok (.tuple #[]) w11 ∧ Kept [k7] w10 w11 ∧
     (J2 (IntKind.wrap .i64 (i3 + 1)) w11) ∧
     ((m2 (IntKind.wrap .i64 (i3 + 1)) w11) < (m2 i3 w4)))) ∧
   ((decide (i3 < ((x0.l : Nat) : Int))) = false →
    R (.bool false) w4)))
theorem nf24 (R : Value → World → Prop) (x0 : Sl) (w : World) : execF (𝔸 := Sh tys cfg24.P R) cfg24 24 [(.slice x0.p x0.l x0.c)] w = NF24 R x0 w := by kernel_rfl
theorem calls24 (R : Value → World → Prop) (x0 : Sl) (w : World) (h : NF24 R x0 w) : Calls Try.prog 24 [(.slice x0.p x0.l x0.c)].toArray w fun e w' => ∃ v, e = .returned v ∧ R v w' :=
  callsOf (𝕋 := tys) cfg24 follows (args := [(.slice x0.p x0.l x0.c)]) (by kernel_rfl) (by kernel_rfl) (nf24 R x0 w) h

end Go.Proofs.Ytlfphbmbehbcjaa
