/- The normal forms of functions of the program, as the executor makes them; the kernel checks each. -/
import Derived.Test.YtmnnkkcihmdpmaaVxP
import Derived.Test.YtmnnkkcihmdpmaaProg
set_option linter.unusedVariables false
set_option linter.unusedSimpArgs false
set_option maxRecDepth 100000
namespace Go.Proofs.Ytmnnkkcihmdpmaa
open Go Go.Vx

theorem follows : (Try.prog).follows .mixedOrders = true := by kernel_rfl

noncomputable def cfg3 : Cfg := { P := Try.prog, inl := [17,18,21], hav := [], drop := [], let_ := [] }
/-- understudy/understudylaw17.ScopePlays -/
def NF3 (R : Value → World → Prop) (x0 : Option Addr) (l0 : Nat) (c0 : Nat) (w : World) : Prop :=
  (CallsV Try.prog 4 [] w [] fun r0 w0 =>
   ∃ b1 : Bool,
   r0 = (.bool b1) ∧
   ((!b1) = false →
    ((decide (100 < ((l0 : Nat) : Int))) = true →
     R (.bool b1) w0) ∧
    ((decide (100 < ((l0 : Nat) : Int))) = false →
     CallsV Try.prog 5 [] w0 [] fun r2 w2 =>
      ∃ p3 : Option Addr,
      r2 = (.pointer p3) ∧
      CallsV Try.prog 5 [] w2 [] fun r4 w4 =>
       ∃ p5 : Option Addr,
       r4 = (.pointer p5) ∧
       CallsV Try.prog 6 [] w4 [] fun r6 w6 =>
        ∃ p7 : Option Addr,
        r6 = (.pointer p7) ∧
        ∃ (J8 : Int → World → Prop) (m8 : Int → World → Nat),
        (J8 0 w6) ∧
        (∀ i9 : Int,
         ∀ w10 : World, Within [] w10 →
         J8 i9 w10 →
         ((decide (i9 < ((l0 : Nat) : Int))) = true →
          ∃ a11 : Addr, x0 = some a11 ∧
          (0 ≤ i9 ∧ i9 < ((l0 : Nat) : Int)) ∧
          ∃ i12 : Int,
          ∃ i13 : Int,
          ∃ s14 : ByteArray,
          ∃ b15 : Bool,
          ∃ i16 : Int,
          ∃ i17 : Int,
          ∃ s18 : ByteArray,
          CellsAt w10 (Addr.add a11 (0 + Int.toNat i9 * 7)) 0 [(.int .i64 i12), (.int .i64 i13), (.string s14), (.bool b15), (.int .i64 i16), (.int .i64 i17), (.string s18)] ∧
          ∀ k19 : Nat, Fresh w10 [] k19 →
          ∀ w20 : World, Framed [k19] w10 w20 →
          CallsV Try.prog 7 [(.pointer p5), (.int .i64 0), (.string ⟨#[111]⟩), (.bool true)] w20 [k19] fun r21 w21 =>
           ∃ b22 : Bool,
           r21 = (.bool b22) ∧
           CallsV Try.prog 8 [(.pointer p5), (.int .i64 0)] w21 [k19] fun r23 w23 =>
            ∃ i24 : Int,
            r23 = (.int .i64 i24) ∧
            ((i12 == 0) = true →
             ∀ w25 : World, Framed [k19] w23 w25 →
             CallsV Try.prog 8 [(.pointer p3), (.int .i64 i13)] w25 [k19] fun r26 w26 =>
              ∃ i27 : Int,
              r26 = (.int .i64 i27) ∧
              CallsV Try.prog 9 [(.pointer p7), (.int .i64 i13)] w26 [k19] fun r28 w28 =>
               ∃ i29 : Int,
               r28 = (.int .i64 i29) ∧
               ((i27 != i29) = true →
                R (.bool false) w28) ∧
               ((i27 != i29) = false →
                (J8 (IntKind.wrap .i64 (i9 + 1)) w28) ∧
                ((m8 (IntKind.wrap .i64 (i9 + 1)) w28) < (m8 i9 w10)))) ∧
            ((i12 == 0) = false →
             ((i12 == 1) = true →
              ∀ w25 : World, Framed [k19] w23 w25 →
              CallsV Try.prog 7 [(.pointer p3), (.int .i64 i13), (.string s14), (.bool b15)] w25 [k19] fun r26 w26 =>
               ∃ b27 : Bool,
               r26 = (.bool b27) ∧
               CallsV Try.prog 10 [(.pointer p7), (.int .i64 i13), (.string s14), (.bool b15)] w26 [k19] fun r28 w28 =>
                ∃ b29 : Bool,
                r28 = (.bool b29) ∧
                ((!(b27 == b29)) = true →
                 R (.bool false) w28) ∧
                ((!(b27 == b29)) = false →
                 (J8 (IntKind.wrap .i64 (i9 + 1)) w28) ∧
                 ((m8 (IntKind.wrap .i64 (i9 + 1)) w28) < (m8 i9 w10)))) ∧
             ((i12 == 1) = false →
              ((i12 == 2) = true →
               ∀ w25 : World, Framed [k19] w23 w25 →
               CallsV Try.prog 11 [(.pointer p3), (.int .i64 i13), (.string s14), (.agg #[(.int .i64 i16), (.int .i64 i17), (.string s18)])] w25 [k19] fun r26 w26 =>
                ∃ b27 : Bool,
                r26 = (.bool b27) ∧
                CallsV Try.prog 12 [(.pointer p7), (.int .i64 i13), (.string s14), (.agg #[(.int .i64 i16), (.int .i64 i17), (.string s18)])] w26 [k19] fun r28 w28 =>
                 ∃ b29 : Bool,
                 r28 = (.bool b29) ∧
                 ((!(b27 == b29)) = true →
                  R (.bool false) w28) ∧
                 ((!(b27 == b29)) = false →
                  (J8 (IntKind.wrap .i64 (i9 + 1)) w28) ∧
                  ((m8 (IntKind.wrap .i64 (i9 + 1)) w28) < (m8 i9 w10)))) ∧
              ((i12 == 2) = false →
               ((i12 == 3) = true →
                CallsV Try.prog 13 [(.pointer p3), (.int .i64 i13), (.string s14)] w23 [k19] fun r25 w25 =>
                 ∃ i26 : Int,
                 ∃ i27 : Int,
                 ∃ s28 : ByteArray,
                 ∃ i29 : Int,
                 r25 = (.tuple #[(.agg #[(.int .i64 i26), (.int .i64 i27), (.string s28)]), (.int .i64 i29)]) ∧
                 ∀ k30 : Nat, Fresh w25 [k19] k30 →
                 ∀ w31 : World, Framed [k19, k30] w25 w31 →
                 CallsV Try.prog 14 [(.pointer p7), (.int .i64 i13), (.string s14)] w31 [k19, k30] fun r32 w32 =>
                  ∃ i33 : Int,
                  ∃ i34 : Int,
                  ∃ s35 : ByteArray,
                  ∃ i36 : Int,
                  r32 = (.tuple #[(.agg #[(.int .i64 i33), (.int .i64 i34), (.string s35)]), (.int .i64 i36)]) ∧
                  ∀ k37 : Nat, Fresh w32 [k19, k30] k37 →
                  ((!((i26 == i33) && ((i27 == i34) && (strB .eql s28 s35)))) = false →
                   ((i29 != i36) = true →
                    ∀ w38 : World, Framed [k19, k30, k37] w32 w38 →
                    R (.bool false) w38) ∧
                   ((i29 != i36) = false →
                    ∀ w38 : World, Framed [k19, k30, k37] w32 w38 →
                    (J8 (IntKind.wrap .i64 (i9 + 1)) w38) ∧
                    ((m8 (IntKind.wrap .i64 (i9 + 1)) w38) < (m8 i9 w10)))) ∧
                  ((!((i26 == i33) && ((i27 == i34) && (strB .eql s28 s35)))) = true →
                   ∀ w38 : World, Framed [k19, k30, k37] w32 w38 →
                   R (.bool false) w38)) ∧
               ((i12 == 3) = false →
                ((i12 == 4) = true →
                 ∀ w25 : World, Framed [k19] w23 w25 →
                 CallsV Try.prog 15 [(.pointer p3), (.int .i64 i13), (.string s14), (.agg #[(.int .i64 i16), (.int .i64 i17), (.string s18)])] w25 [k19] fun r26 w26 =>
                  ∃ i27 : Int,
                  r26 = (.int .i64 i27) ∧
                  CallsV Try.prog 16 [(.pointer p7), (.int .i64 i13), (.string s14), (.agg #[(.int .i64 i16), (.int .i64 i17), (.string s18)])] w26 [k19] fun r28 w28 =>
                   ∃ i29 : Int,
                   r28 = (.int .i64 i29) ∧
                   ((i27 != i29) = true →
                    R (.bool false) w28) ∧
                   ((i27 != i29) = false →
                    (J8 (IntKind.wrap .i64 (i9 + 1)) w28) ∧
                    ((m8 (IntKind.wrap .i64 (i9 + 1)) w28) < (m8 i9 w10)))) ∧
                ((i12 == 4) = false →
                 (J8 (IntKind.wrap .i64 (i9 + 1)) w23) ∧
                 ((m8 (IntKind.wrap .i64 (i9 + 1)) w23) < (m8 i9 w10)))))))) ∧
         ((decide (i9 < ((l0 : Nat) : Int))) = false →
          R (.bool true) w10)))) ∧
   ((!b1) = true →
    R (.bool b1) w0))
theorem nf3 (R : Value → World → Prop) (x0 : Option Addr) (l0 : Nat) (c0 : Nat) (w : World) : execF (𝔸 := Sh cfg3.P R) cfg3 3 [(.slice x0 l0 c0)] w = NF3 R x0 l0 c0 w := by kernel_rfl
theorem calls3 (R : Value → World → Prop) (x0 : Option Addr) (l0 : Nat) (c0 : Nat) (w : World) (h : NF3 R x0 l0 c0 w) : Calls Try.prog 3 [(.slice x0 l0 c0)].toArray w fun e w' => ∃ v, e = .returned v ∧ R v w' :=
  execF_ok cfg3 follows (args := [(.slice x0 l0 c0)]) (by simp [wfL, wf]) (Eq.mpr (nf3 R x0 l0 c0 w) h)

noncomputable def cfg4 : Cfg := { P := Try.prog, inl := [17,18,21], hav := [], drop := [], let_ := [] }
/-- understudy/understudylaw17.alive -/
def NF4 (R : Value → World → Prop)  (w : World) : Prop :=
  (CallsV Try.prog 5 [] w [] fun r0 w0 =>
   ∃ p1 : Option Addr,
   r0 = (.pointer p1) ∧
   ((Option.isNone p1) = true →
    R (.bool false) w0) ∧
   ((Option.isNone p1) = false →
    CallsV Try.prog 13 [(.pointer p1), (.int .i64 0), (.string ⟨#[97]⟩)] w0 [] fun r2 w2 =>
     ∃ i3 : Int,
     ∃ i4 : Int,
     ∃ s5 : ByteArray,
     ∃ i6 : Int,
     r2 = (.tuple #[(.agg #[(.int .i64 i3), (.int .i64 i4), (.string s5)]), (.int .i64 i6)]) ∧
     ∀ k7 : Nat, Fresh w2 [] k7 →
     ∀ w8 : World, Framed [k7] w2 w8 →
     CallsV Try.prog 7 [(.pointer p1), (.int .i64 0), (.string ⟨#[97]⟩), (.bool false)] w8 [k7] fun r9 w9 =>
      ∃ b10 : Bool,
      r9 = (.bool b10) ∧
      CallsV Try.prog 11 [(.pointer p1), (.int .i64 0), (.string ⟨#[97]⟩), (.agg #[(.int .i64 1), (.int .i64 0), (.string ⟨#[]⟩)])] w9 [k7] fun r11 w11 =>
       ∃ b12 : Bool,
       r11 = (.bool b12) ∧
       CallsV Try.prog 13 [(.pointer p1), (.int .i64 0), (.string ⟨#[97]⟩)] w11 [k7] fun r13 w13 =>
        ∃ i14 : Int,
        ∃ i15 : Int,
        ∃ s16 : ByteArray,
        ∃ i17 : Int,
        r13 = (.tuple #[(.agg #[(.int .i64 i14), (.int .i64 i15), (.string s16)]), (.int .i64 i17)]) ∧
        ∀ k18 : Nat, Fresh w13 [k7] k18 →
        ((i6 == 1) = true →
         (b10 = true →
          (b12 = true →
           ((i17 == 0) = true →
            ∀ w19 : World, Framed [k7, k18] w13 w19 →
            R (.bool (i14 == 1)) w19) ∧
           ((i17 == 0) = false →
            ∀ w19 : World, Framed [k7, k18] w13 w19 →
            R (.bool false) w19)) ∧
          (b12 = false →
           ∀ w19 : World, Framed [k7, k18] w13 w19 →
           R (.bool false) w19)) ∧
         (b10 = false →
          ∀ w19 : World, Framed [k7, k18] w13 w19 →
          R (.bool false) w19)) ∧
        ((i6 == 1) = false →
         ∀ w19 : World, Framed [k7, k18] w13 w19 →
         R (.bool false) w19)))
theorem nf4 (R : Value → World → Prop)  (w : World) : execF (𝔸 := Sh cfg4.P R) cfg4 4 [] w = NF4 R  w := by kernel_rfl
theorem calls4 (R : Value → World → Prop)  (w : World) (h : NF4 R  w) : Calls Try.prog 4 [].toArray w fun e w' => ∃ v, e = .returned v ∧ R v w' :=
  execF_ok cfg4 follows (args := []) (by simp [wfL, wf]) (Eq.mpr (nf4 R  w) h)

noncomputable def cfg5 : Cfg := { P := Try.prog, inl := [17,18,21], hav := [], drop := [], let_ := [] }
/-- understudy/scope.New -/
def NF5 (R : Value → World → Prop)  (w : World) : Prop :=
  (∃ m0 : Option Nat,
  ∃ w1 : World, Sem.run Try.prog (GOp.sem (.makeMap 39)) w = .ok (.map m0) w1 ∧ Kept [] w w1 ∧
  ∀ k2 : Nat, Fresh w1 [] k2 →
  ∀ k3 : Nat, Fresh w1 [k2] k3 →
  ∀ w4 : World, Framed [k2, k3] w1 w4 →
  (w4.heap[(k3 : Nat)]? = some (.cells #[(.slice (some ⟨k2, 0, none⟩) 1 1)] 44 (0, 0)) →
  (w4.heap[(k2 : Nat)]? = some (.cells #[(.int .i64 (-1)), (.map m0)] 41 (0, 0)) →
  R (.pointer (some ⟨k3, 0, none⟩)) w4)))
theorem nf5 (R : Value → World → Prop)  (w : World) : execF (𝔸 := Sh cfg5.P R) cfg5 5 [] w = NF5 R  w := by kernel_rfl
theorem calls5 (R : Value → World → Prop)  (w : World) (h : NF5 R  w) : Calls Try.prog 5 [].toArray w fun e w' => ∃ v, e = .returned v ∧ R v w' :=
  execF_ok cfg5 follows (args := []) (by simp [wfL, wf]) (Eq.mpr (nf5 R  w) h)

noncomputable def cfg6 : Cfg := { P := Try.prog, inl := [17,18,21], hav := [], drop := [], let_ := [] }
/-- understudy/understudyref1.NewScopes -/
def NF6 (R : Value → World → Prop)  (w : World) : Prop :=
  (∀ k0 : Nat, Fresh w [] k0 →
  ∀ w1 : World, Framed [k0] w w1 →
  ∃ p2 : Option Addr,
  ∃ n3 : Nat,
  ∃ n4 : Nat,
  ∃ w5 : World, Sem.run Try.prog (GOp.sem (.makeSlice 46 (.int .i64 1) (.int .i64 1))) w1 = .ok (.slice p2 n3 n4) w5 ∧ Kept [k0] w1 w5 ∧
  ∀ k6 : Nat, Fresh w5 [k0] k6 →
  ∀ w7 : World, Framed [k0, k6] w5 w7 →
  (w7.heap[(k6 : Nat)]? = some (.cells #[(.slice (some ⟨k0, 0, none⟩) 1 1), (.slice p2 n3 n4)] 48 (0, 0)) →
  (w7.heap[(k0 : Nat)]? = some (.cells #[(.int .i64 (-1))] 3 (0, 0)) →
  R (.pointer (some ⟨k6, 0, none⟩)) w7)))
theorem nf6 (R : Value → World → Prop)  (w : World) : execF (𝔸 := Sh cfg6.P R) cfg6 6 [] w = NF6 R  w := by kernel_rfl
theorem calls6 (R : Value → World → Prop)  (w : World) (h : NF6 R  w) : Calls Try.prog 6 [].toArray w fun e w' => ∃ v, e = .returned v ∧ R v w' :=
  execF_ok cfg6 follows (args := []) (by simp [wfL, wf]) (Eq.mpr (nf6 R  w) h)

noncomputable def cfg7 : Cfg := { P := Try.prog, inl := [17,18,21], hav := [], drop := [], let_ := [] }
/-- (*understudy/scope.Scopes).Let -/
def NF7 (R : Value → World → Prop) (x0 : Addr) (x1 : Int) (x2 : ByteArray) (x3 : Bool) (w : World) : Prop :=
  (((decide (0 ≤ x1)) = true →
   ∃ p0 : Option Addr,
   ∃ n1 : Nat,
   ∃ n2 : Nat,
   CellsAt w x0 0 [(.slice p0 n1 n2)] ∧
   ((!(decide (x1 < ((n1 : Nat) : Int)))) = false →
    ∃ p3 : Option Addr,
    ∃ n4 : Nat,
    ∃ n5 : Nat,
    CellsAt w x0 0 [(.slice p3 n4 n5)] ∧
    ∃ a6 : Addr, p3 = some a6 ∧
    (0 ≤ x1 ∧ x1 < ((n4 : Nat) : Int)) ∧
    ∃ m7 : Option Nat,
    CellsAt w (Addr.add a6 (0 + Int.toNat x1 * 2)) 1 [(.map m7)] ∧
    ∃ p8 : Option Addr,
    ∃ w9 : World, Sem.run Try.prog (GOp.sem (.lookup 39 (.map m7) (.string x2) false)) w = .ok (.pointer p8) w9 ∧ Kept [] w w9 ∧
    ((!(Option.isNone p8)) = true →
     R (.bool false) w9) ∧
    ((!(Option.isNone p8)) = false →
     ∃ p10 : Option Addr,
     ∃ n11 : Nat,
     ∃ n12 : Nat,
     CellsAt w9 x0 0 [(.slice p10 n11 n12)] ∧
     ∃ a13 : Addr, p10 = some a13 ∧
     (0 ≤ x1 ∧ x1 < ((n11 : Nat) : Int)) ∧
     ∃ m14 : Option Nat,
     CellsAt w9 (Addr.add a13 (0 + Int.toNat x1 * 2)) 1 [(.map m14)] ∧
     ∀ k15 : Nat, Fresh w9 [] k15 →
     ∀ w16 : World, Framed [k15] w9 w16 →
     (w16.heap[(k15 : Nat)]? = some (.cells #[(.int .i64 0), (.int .i64 0), (.string ⟨#[]⟩), (.bool false), (.bool x3)] 52 (0, 0)) →
     ∃ w17 : World, Sem.run Try.prog (GOp.sem (.mapUpdate 39 (.map m14) (.string x2) (.pointer (some ⟨k15, 0, none⟩)))) w16 = .ok (.tuple #[]) w17 ∧ Kept [] w16 w17 ∧
     R (.bool true) w17))) ∧
   ((!(decide (x1 < ((n1 : Nat) : Int)))) = true →
    R (.bool false) w)) ∧
  ((decide (0 ≤ x1)) = false →
   R (.bool false) w))
theorem nf7 (R : Value → World → Prop) (x0 : Addr) (x1 : Int) (x2 : ByteArray) (x3 : Bool) (w : World) : execF (𝔸 := Sh cfg7.P R) cfg7 7 [(.addr x0 0), (.int .i64 x1), (.str x2), (.bool x3)] w = NF7 R x0 x1 x2 x3 w := by kernel_rfl
theorem calls7 (R : Value → World → Prop) (x0 : Addr) (x1 : Int) (x2 : ByteArray) (x3 : Bool) (w : World) (h : NF7 R x0 x1 x2 x3 w) : Calls Try.prog 7 [(.pointer (some x0)), (.int .i64 x1), (.string x2), (.bool x3)].toArray w fun e w' => ∃ v, e = .returned v ∧ R v w' :=
  execF_ok cfg7 follows (args := [(.addr x0 0), (.int .i64 x1), (.str x2), (.bool x3)]) (by simp [wfL, wf]) (Eq.mpr (nf7 R x0 x1 x2 x3 w) h)

noncomputable def cfg8 : Cfg := { P := Try.prog, inl := [17,18,21], hav := [], drop := [], let_ := [] }
/-- (*understudy/scope.Scopes).Make -/
def NF8 (R : Value → World → Prop) (x0 : Addr) (x1 : Int) (w : World) : Prop :=
  (((decide (0 ≤ x1)) = true →
   ∃ p0 : Option Addr,
   ∃ n1 : Nat,
   ∃ n2 : Nat,
   CellsAt w x0 0 [(.slice p0 n1 n2)] ∧
   ((!(decide (x1 < ((n1 : Nat) : Int)))) = true →
    R (.int .i64 (-1)) w) ∧
   ((!(decide (x1 < ((n1 : Nat) : Int)))) = false →
    ∃ p3 : Option Addr,
    ∃ n4 : Nat,
    ∃ n5 : Nat,
    CellsAt w x0 0 [(.slice p3 n4 n5)] ∧
    ∃ m6 : Option Nat,
    ∃ w7 : World, Sem.run Try.prog (GOp.sem (.makeMap 39)) w = .ok (.map m6) w7 ∧ Kept [] w w7 ∧
    ∀ k8 : Nat, Fresh w7 [] k8 →
    ∀ w9 : World, Framed [k8] w7 w9 →
    (w9.heap[(k8 : Nat)]? = some (.cells #[(.int .i64 x1), (.map m6)] 41 (0, 0)) →
    ∃ p10 : Option Addr,
    ∃ n11 : Nat,
    ∃ n12 : Nat,
    ∃ w13 : World, Sem.run Try.prog (GOp.sem (.builtin .append #[42, 42] 42 [(.slice p3 n4 n5), (.slice (some ⟨k8, 0, none⟩) 1 1)])) w9 = .ok (.slice p10 n11 n12) w13 ∧ Kept [] w9 w13 ∧
    CanStore [] w13 x0 0 1 ∧
    ∃ p14 : Option Addr,
    ∃ n15 : Nat,
    ∃ n16 : Nat,
    CellsAt (storeAt w13 x0 0 [(.slice p10 n11 n12)]) x0 0 [(.slice p14 n15 n16)] ∧
    R (.int .i64 (IntKind.wrap .i64 (((n15 : Nat) : Int) - 1))) (storeAt w13 x0 0 [(.slice p10 n11 n12)])))) ∧
  ((decide (0 ≤ x1)) = false →
   R (.int .i64 (-1)) w))
theorem nf8 (R : Value → World → Prop) (x0 : Addr) (x1 : Int) (w : World) : execF (𝔸 := Sh cfg8.P R) cfg8 8 [(.addr x0 0), (.int .i64 x1)] w = NF8 R x0 x1 w := by kernel_rfl
theorem calls8 (R : Value → World → Prop) (x0 : Addr) (x1 : Int) (w : World) (h : NF8 R x0 x1 w) : Calls Try.prog 8 [(.pointer (some x0)), (.int .i64 x1)].toArray w fun e w' => ∃ v, e = .returned v ∧ R v w' :=
  execF_ok cfg8 follows (args := [(.addr x0 0), (.int .i64 x1)]) (by simp [wfL, wf]) (Eq.mpr (nf8 R x0 x1 w) h)

noncomputable def cfg9 : Cfg := { P := Try.prog, inl := [17,18,21], hav := [], drop := [], let_ := [] }
/-- (*understudy/understudyref1.Scopes).Make -/
def NF9 (R : Value → World → Prop) (x0 : Addr) (x1 : Int) (w : World) : Prop :=
  (((decide (0 ≤ x1)) = true →
   ∃ p0 : Option Addr,
   ∃ n1 : Nat,
   ∃ n2 : Nat,
   CellsAt w x0 1 [(.slice p0 n1 n2)] ∧
   ((!(decide (x1 < ((n1 : Nat) : Int)))) = true →
    R (.int .i64 (-1)) w) ∧
   ((!(decide (x1 < ((n1 : Nat) : Int)))) = false →
    ∃ p3 : Option Addr,
    ∃ n4 : Nat,
    ∃ n5 : Nat,
    CellsAt w x0 0 [(.slice p3 n4 n5)] ∧
    ∀ k6 : Nat, Fresh w [] k6 →
    ∀ w7 : World, Framed [k6] w w7 →
    (w7.heap[(k6 : Nat)]? = some (.cells #[(.int .i64 x1)] 3 (0, 0)) →
    ∃ p8 : Option Addr,
    ∃ n9 : Nat,
    ∃ n10 : Nat,
    ∃ w11 : World, Sem.run Try.prog (GOp.sem (.builtin .append #[45, 45] 45 [(.slice p3 n4 n5), (.slice (some ⟨k6, 0, none⟩) 1 1)])) w7 = .ok (.slice p8 n9 n10) w11 ∧ Kept [] w7 w11 ∧
    CanStore [] w11 x0 0 1 ∧
    ∃ p12 : Option Addr,
    ∃ n13 : Nat,
    ∃ n14 : Nat,
    CellsAt (storeAt w11 x0 0 [(.slice p8 n9 n10)]) x0 1 [(.slice p12 n13 n14)] ∧
    ∀ k15 : Nat, Fresh (storeAt w11 x0 0 [(.slice p8 n9 n10)]) [k6] k15 →
    ∀ w16 : World, Framed [k15] (storeAt w11 x0 0 [(.slice p8 n9 n10)]) w16 →
    (w16.heap[(k15 : Nat)]? = some (.cells #[(.slice none 0 0)] 54 (0, 0)) →
    ∃ p17 : Option Addr,
    ∃ n18 : Nat,
    ∃ n19 : Nat,
    ∃ w20 : World, Sem.run Try.prog (GOp.sem (.builtin .append #[46, 46] 46 [(.slice p12 n13 n14), (.slice (some ⟨k15, 0, none⟩) 1 1)])) w16 = .ok (.slice p17 n18 n19) w20 ∧ Kept [] w16 w20 ∧
    CanStore [] w20 x0 1 1 ∧
    ∃ p21 : Option Addr,
    ∃ n22 : Nat,
    ∃ n23 : Nat,
    CellsAt (storeAt w20 x0 1 [(.slice p17 n18 n19)]) x0 1 [(.slice p21 n22 n23)] ∧
    R (.int .i64 (IntKind.wrap .i64 (((n22 : Nat) : Int) - 1))) (storeAt w20 x0 1 [(.slice p17 n18 n19)]))))) ∧
  ((decide (0 ≤ x1)) = false →
   R (.int .i64 (-1)) w))
theorem nf9 (R : Value → World → Prop) (x0 : Addr) (x1 : Int) (w : World) : execF (𝔸 := Sh cfg9.P R) cfg9 9 [(.addr x0 0), (.int .i64 x1)] w = NF9 R x0 x1 w := by kernel_rfl
theorem calls9 (R : Value → World → Prop) (x0 : Addr) (x1 : Int) (w : World) (h : NF9 R x0 x1 w) : Calls Try.prog 9 [(.pointer (some x0)), (.int .i64 x1)].toArray w fun e w' => ∃ v, e = .returned v ∧ R v w' :=
  execF_ok cfg9 follows (args := [(.addr x0 0), (.int .i64 x1)]) (by simp [wfL, wf]) (Eq.mpr (nf9 R x0 x1 w) h)

noncomputable def cfg10 : Cfg := { P := Try.prog, inl := [17,18,21], hav := [], drop := [], let_ := [] }
/-- (*understudy/understudyref1.Scopes).Let -/
def NF10 (R : Value → World → Prop) (x0 : Addr) (x1 : Int) (x2 : ByteArray) (x3 : Bool) (w : World) : Prop :=
  (((decide (0 ≤ x1)) = true →
   ∃ p0 : Option Addr,
   ∃ n1 : Nat,
   ∃ n2 : Nat,
   CellsAt w x0 1 [(.slice p0 n1 n2)] ∧
   ((!(decide (x1 < ((n1 : Nat) : Int)))) = false →
    CallsV Try.prog 19 [(.pointer (some x0)), (.int .i64 x1), (.string x2)] w [] fun r3 w3 =>
     ∃ i4 : Int,
     r3 = (.int .i64 i4) ∧
     ((decide (0 ≤ i4)) = true →
      R (.bool false) w3) ∧
     ((decide (0 ≤ i4)) = false →
      (∀ w5 : World, Framed [] w3 w5 →
       ∃ p6 : Option Addr,
       ∃ n7 : Nat,
       ∃ n8 : Nat,
       CellsAt w5 x0 1 [(.slice p6 n7 n8)] ∧
       (∃ p9 : Option Addr,
        ∃ n10 : Nat,
        ∃ n11 : Nat,
        CellsAt w5 x0 1 [(.slice p9 n10 n11)] ∧
        ∃ a12 : Addr, p9 = some a12 ∧
        (0 ≤ x1 ∧ x1 < ((n10 : Nat) : Int)) ∧
        (∃ p13 : Option Addr,
         ∃ n14 : Nat,
         ∃ n15 : Nat,
         CellsAt w5 (Addr.add a12 (0 + Int.toNat x1 * 1)) 0 [(.slice p13 n14 n15)] ∧
         ∀ k16 : Nat, Fresh w5 [] k16 →
         ∀ w17 : World, Framed [k16] w5 w17 →
         (w17.heap[(k16 : Nat)]? = some (.cells #[(.string x2), (.bool x3), (.bool false), (.int .i64 0), (.int .i64 0), (.string ⟨#[]⟩)] 56 (0, 0)) →
         ∃ p18 : Option Addr,
         ∃ n19 : Nat,
         ∃ n20 : Nat,
         ∃ w21 : World, Sem.run Try.prog (GOp.sem (.builtin .append #[54, 54] 54 [(.slice p13 n14 n15), (.slice (some ⟨k16, 0, none⟩) 1 1)])) w17 = .ok (.slice p18 n19 n20) w21 ∧ Kept [] w17 w21 ∧
         ∃ a22 : Addr, p6 = some a22 ∧
         (0 ≤ x1 ∧ x1 < ((n7 : Nat) : Int)) ∧
         CanStore [] w21 (Addr.add a22 (0 + Int.toNat x1 * 1)) 0 1 ∧
         R (.bool true) (storeAt w21 (Addr.add a22 (0 + Int.toNat x1 * 1)) 0 [(.slice p18 n19 n20)]))) ∧
        (∀ k13 : Nat, Fresh w5 [] k13 →
         ∀ w14 : World, Framed [k13] w5 w14 →
         ∃ p15 : Option Addr,
         ∃ n16 : Nat,
         ∃ n17 : Nat,
         CellsAt w14 (Addr.add a12 (0 + Int.toNat x1 * 1)) 0 [(.slice p15 n16 n17)] ∧
         (w14.heap[(k13 : Nat)]? = some (.cells #[(.string x2), (.bool x3), (.bool false), (.int .i64 0), (.int .i64 0), (.string ⟨#[]⟩)] 56 (0, 0)) →
         ∃ p18 : Option Addr,
         ∃ n19 : Nat,
         ∃ n20 : Nat,
         ∃ w21 : World, Sem.run Try.prog (GOp.sem (.builtin .append #[54, 54] 54 [(.slice p15 n16 n17), (.slice (some ⟨k13, 0, none⟩) 1 1)])) w14 = .ok (.slice p18 n19 n20) w21 ∧ Kept [] w14 w21 ∧
         ∃ a22 : Addr, p6 = some a22 ∧
         (0 ≤ x1 ∧ x1 < ((n7 : Nat) : Int)) ∧
         CanStore [] w21 (Addr.add a22 (0 + Int.toNat x1 * 1)) 0 1 ∧
         R (.bool true) (storeAt w21 (Addr.add a22 (0 + Int.toNat x1 * 1)) 0 [(.slice p18 n19 n20)])))) ∧
       (∀ k9 : Nat, Fresh w5 [] k9 →
        ∀ w10 : World, Framed [k9] w5 w10 →
        ∃ p11 : Option Addr,
        ∃ n12 : Nat,
        ∃ n13 : Nat,
        CellsAt w10 x0 1 [(.slice p11 n12 n13)] ∧
        ∃ a14 : Addr, p11 = some a14 ∧
        (0 ≤ x1 ∧ x1 < ((n12 : Nat) : Int)) ∧
        ∃ p15 : Option Addr,
        ∃ n16 : Nat,
        ∃ n17 : Nat,
        CellsAt w10 (Addr.add a14 (0 + Int.toNat x1 * 1)) 0 [(.slice p15 n16 n17)] ∧
        (w10.heap[(k9 : Nat)]? = some (.cells #[(.string x2), (.bool x3), (.bool false), (.int .i64 0), (.int .i64 0), (.string ⟨#[]⟩)] 56 (0, 0)) →
        ∃ p18 : Option Addr,
        ∃ n19 : Nat,
        ∃ n20 : Nat,
        ∃ w21 : World, Sem.run Try.prog (GOp.sem (.builtin .append #[54, 54] 54 [(.slice p15 n16 n17), (.slice (some ⟨k9, 0, none⟩) 1 1)])) w10 = .ok (.slice p18 n19 n20) w21 ∧ Kept [] w10 w21 ∧
        ∃ a22 : Addr, p6 = some a22 ∧
        (0 ≤ x1 ∧ x1 < ((n7 : Nat) : Int)) ∧
        CanStore [] w21 (Addr.add a22 (0 + Int.toNat x1 * 1)) 0 1 ∧
        R (.bool true) (storeAt w21 (Addr.add a22 (0 + Int.toNat x1 * 1)) 0 [(.slice p18 n19 n20)])))) ∧
      ((∀ w5 : World, Framed [] w3 w5 →
        ∃ p6 : Option Addr,
        ∃ n7 : Nat,
        ∃ n8 : Nat,
        CellsAt w5 x0 1 [(.slice p6 n7 n8)] ∧
        ∃ a9 : Addr, p6 = some a9 ∧
        (0 ≤ x1 ∧ x1 < ((n7 : Nat) : Int)) ∧
        (∃ p10 : Option Addr,
         ∃ n11 : Nat,
         ∃ n12 : Nat,
         CellsAt w5 x0 1 [(.slice p10 n11 n12)] ∧
         (∃ p13 : Option Addr,
          ∃ n14 : Nat,
          ∃ n15 : Nat,
          CellsAt w5 (Addr.add a9 (0 + Int.toNat x1 * 1)) 0 [(.slice p13 n14 n15)] ∧
          ∀ k16 : Nat, Fresh w5 [] k16 →
          ∀ w17 : World, Framed [k16] w5 w17 →
          (w17.heap[(k16 : Nat)]? = some (.cells #[(.string x2), (.bool x3), (.bool false), (.int .i64 0), (.int .i64 0), (.string ⟨#[]⟩)] 56 (0, 0)) →
          ∃ p18 : Option Addr,
          ∃ n19 : Nat,
          ∃ n20 : Nat,
          ∃ w21 : World, Sem.run Try.prog (GOp.sem (.builtin .append #[54, 54] 54 [(.slice p13 n14 n15), (.slice (some ⟨k16, 0, none⟩) 1 1)])) w17 = .ok (.slice p18 n19 n20) w21 ∧ Kept [] w17 w21 ∧
          ∃ a22 : Addr, p10 = some a22 ∧
          (0 ≤ x1 ∧ x1 < ((n11 : Nat) : Int)) ∧
          CanStore [] w21 (Addr.add a22 (0 + Int.toNat x1 * 1)) 0 1 ∧
          R (.bool true) (storeAt w21 (Addr.add a22 (0 + Int.toNat x1 * 1)) 0 [(.slice p18 n19 n20)]))) ∧
         (∀ k13 : Nat, Fresh w5 [] k13 →
          ∀ w14 : World, Framed [k13] w5 w14 →
          ∃ p15 : Option Addr,
          ∃ n16 : Nat,
          ∃ n17 : Nat,
          CellsAt w14 (Addr.add a9 (0 + Int.toNat x1 * 1)) 0 [(.slice p15 n16 n17)] ∧
          (w14.heap[(k13 : Nat)]? = some (.cells #[(.string x2), (.bool x3), (.bool false), (.int .i64 0), (.int .i64 0), (.string ⟨#[]⟩)] 56 (0, 0)) →
          ∃ p18 : Option Addr,
          ∃ n19 : Nat,
          ∃ n20 : Nat,
          ∃ w21 : World, Sem.run Try.prog (GOp.sem (.builtin .append #[54, 54] 54 [(.slice p15 n16 n17), (.slice (some ⟨k13, 0, none⟩) 1 1)])) w14 = .ok (.slice p18 n19 n20) w21 ∧ Kept [] w14 w21 ∧
          ∃ a22 : Addr, p10 = some a22 ∧
          (0 ≤ x1 ∧ x1 < ((n11 : Nat) : Int)) ∧
          CanStore [] w21 (Addr.add a22 (0 + Int.toNat x1 * 1)) 0 1 ∧
          R (.bool true) (storeAt w21 (Addr.add a22 (0 + Int.toNat x1 * 1)) 0 [(.slice p18 n19 n20)])))) ∧
        ((∃ p10 : Option Addr,
          ∃ n11 : Nat,
          ∃ n12 : Nat,
          CellsAt w5 (Addr.add a9 (0 + Int.toNat x1 * 1)) 0 [(.slice p10 n11 n12)] ∧
          (∃ p13 : Option Addr,
           ∃ n14 : Nat,
           ∃ n15 : Nat,
           CellsAt w5 x0 1 [(.slice p13 n14 n15)] ∧
           ∀ k16 : Nat, Fresh w5 [] k16 →
           ∀ w17 : World, Framed [k16] w5 w17 →
           (w17.heap[(k16 : Nat)]? = some (.cells #[(.string x2), (.bool x3), (.bool false), (.int .i64 0), (.int .i64 0), (.string ⟨#[]⟩)] 56 (0, 0)) →
           ∃ p18 : Option Addr,
           ∃ n19 : Nat,
           ∃ n20 : Nat,
           ∃ w21 : World, Sem.run Try.prog (GOp.sem (.builtin .append #[54, 54] 54 [(.slice p10 n11 n12), (.slice (some ⟨k16, 0, none⟩) 1 1)])) w17 = .ok (.slice p18 n19 n20) w21 ∧ Kept [] w17 w21 ∧
           ∃ a22 : Addr, p13 = some a22 ∧
           (0 ≤ x1 ∧ x1 < ((n14 : Nat) : Int)) ∧
           CanStore [] w21 (Addr.add a22 (0 + Int.toNat x1 * 1)) 0 1 ∧
           R (.bool true) (storeAt w21 (Addr.add a22 (0 + Int.toNat x1 * 1)) 0 [(.slice p18 n19 n20)]))) ∧
          (∀ k13 : Nat, Fresh w5 [] k13 →
           (∀ w14 : World, Framed [k13] w5 w14 →
            ∃ p15 : Option Addr,
            ∃ n16 : Nat,
            ∃ n17 : Nat,
            CellsAt w14 x0 1 [(.slice p15 n16 n17)] ∧
            (w14.heap[(k13 : Nat)]? = some (.cells #[(.string x2), (.bool x3), (.bool false), (.int .i64 0), (.int .i64 0), (.string ⟨#[]⟩)] 56 (0, 0)) →
            ∃ p18 : Option Addr,
            ∃ n19 : Nat,
            ∃ n20 : Nat,
            ∃ w21 : World, Sem.run Try.prog (GOp.sem (.builtin .append #[54, 54] 54 [(.slice p10 n11 n12), (.slice (some ⟨k13, 0, none⟩) 1 1)])) w14 = .ok (.slice p18 n19 n20) w21 ∧ Kept [] w14 w21 ∧
            ∃ a22 : Addr, p15 = some a22 ∧
            (0 ≤ x1 ∧ x1 < ((n16 : Nat) : Int)) ∧
            CanStore [] w21 (Addr.add a22 (0 + Int.toNat x1 * 1)) 0 1 ∧
            R (.bool true) (storeAt w21 (Addr.add a22 (0 + Int.toNat x1 * 1)) 0 [(.slice p18 n19 n20)]))) ∧
           (∀ w14 : World, Framed [k13] w5 w14 →
            (w14.heap[(k13 : Nat)]? = some (.cells #[(.string x2), (.bool x3), (.bool false), (.int .i64 0), (.int .i64 0), (.string ⟨#[]⟩)] 56 (0, 0)) →
            ∃ p15 : Option Addr,
            ∃ n16 : Nat,
            ∃ n17 : Nat,
            ∃ w18 : World, Sem.run Try.prog (GOp.sem (.builtin .append #[54, 54] 54 [(.slice p10 n11 n12), (.slice (some ⟨k13, 0, none⟩) 1 1)])) w14 = .ok (.slice p15 n16 n17) w18 ∧ Kept [] w14 w18 ∧
            ∃ p19 : Option Addr,
            ∃ n20 : Nat,
            ∃ n21 : Nat,
            CellsAt w18 x0 1 [(.slice p19 n20 n21)] ∧
            ∃ a22 : Addr, p19 = some a22 ∧
            (0 ≤ x1 ∧ x1 < ((n20 : Nat) : Int)) ∧
            CanStore [] w18 (Addr.add a22 (0 + Int.toNat x1 * 1)) 0 1 ∧
            R (.bool true) (storeAt w18 (Addr.add a22 (0 + Int.toNat x1 * 1)) 0 [(.slice p15 n16 n17)]))))) ∧
         (∀ k10 : Nat, Fresh w5 [] k10 →
          ∀ w11 : World, Framed [k10] w5 w11 →
          ∃ p12 : Option Addr,
          ∃ n13 : Nat,
          ∃ n14 : Nat,
          CellsAt w11 (Addr.add a9 (0 + Int.toNat x1 * 1)) 0 [(.slice p12 n13 n14)] ∧
          (∃ p15 : Option Addr,
           ∃ n16 : Nat,
           ∃ n17 : Nat,
           CellsAt w11 x0 1 [(.slice p15 n16 n17)] ∧
           (w11.heap[(k10 : Nat)]? = some (.cells #[(.string x2), (.bool x3), (.bool false), (.int .i64 0), (.int .i64 0), (.string ⟨#[]⟩)] 56 (0, 0)) →
           ∃ p18 : Option Addr,
           ∃ n19 : Nat,
           ∃ n20 : Nat,
           ∃ w21 : World, Sem.run Try.prog (GOp.sem (.builtin .append #[54, 54] 54 [(.slice p12 n13 n14), (.slice (some ⟨k10, 0, none⟩) 1 1)])) w11 = .ok (.slice p18 n19 n20) w21 ∧ Kept [] w11 w21 ∧
           ∃ a22 : Addr, p15 = some a22 ∧
           (0 ≤ x1 ∧ x1 < ((n16 : Nat) : Int)) ∧
           CanStore [] w21 (Addr.add a22 (0 + Int.toNat x1 * 1)) 0 1 ∧
           R (.bool true) (storeAt w21 (Addr.add a22 (0 + Int.toNat x1 * 1)) 0 [(.slice p18 n19 n20)]))) ∧
          ((w11.heap[(k10 : Nat)]? = some (.cells #[(.string x2), (.bool x3), (.bool false), (.int .i64 0), (.int .i64 0), (.string ⟨#[]⟩)] 56 (0, 0)) →
           ∃ p15 : Option Addr,
           ∃ n16 : Nat,
           ∃ n17 : Nat,
           ∃ w18 : World, Sem.run Try.prog (GOp.sem (.builtin .append #[54, 54] 54 [(.slice p12 n13 n14), (.slice (some ⟨k10, 0, none⟩) 1 1)])) w11 = .ok (.slice p15 n16 n17) w18 ∧ Kept [] w11 w18 ∧
           ∃ p19 : Option Addr,
           ∃ n20 : Nat,
           ∃ n21 : Nat,
           CellsAt w18 x0 1 [(.slice p19 n20 n21)] ∧
           ∃ a22 : Addr, p19 = some a22 ∧
           (0 ≤ x1 ∧ x1 < ((n20 : Nat) : Int)) ∧
           CanStore [] w18 (Addr.add a22 (0 + Int.toNat x1 * 1)) 0 1 ∧
           R (.bool true) (storeAt w18 (Addr.add a22 (0 + Int.toNat x1 * 1)) 0 [(.slice p15 n16 n17)])))))) ∧
       (∀ k5 : Nat, Fresh w3 [] k5 →
        ∀ w6 : World, Framed [k5] w3 w6 →
        ∃ p7 : Option Addr,
        ∃ n8 : Nat,
        ∃ n9 : Nat,
        CellsAt w6 x0 1 [(.slice p7 n8 n9)] ∧
        ∃ a10 : Addr, p7 = some a10 ∧
        (0 ≤ x1 ∧ x1 < ((n8 : Nat) : Int)) ∧
        ∃ p11 : Option Addr,
        ∃ n12 : Nat,
        ∃ n13 : Nat,
        CellsAt w6 (Addr.add a10 (0 + Int.toNat x1 * 1)) 0 [(.slice p11 n12 n13)] ∧
        (∃ p14 : Option Addr,
         ∃ n15 : Nat,
         ∃ n16 : Nat,
         CellsAt w6 x0 1 [(.slice p14 n15 n16)] ∧
         (w6.heap[(k5 : Nat)]? = some (.cells #[(.string x2), (.bool x3), (.bool false), (.int .i64 0), (.int .i64 0), (.string ⟨#[]⟩)] 56 (0, 0)) →
         ∃ p17 : Option Addr,
         ∃ n18 : Nat,
         ∃ n19 : Nat,
         ∃ w20 : World, Sem.run Try.prog (GOp.sem (.builtin .append #[54, 54] 54 [(.slice p11 n12 n13), (.slice (some ⟨k5, 0, none⟩) 1 1)])) w6 = .ok (.slice p17 n18 n19) w20 ∧ Kept [] w6 w20 ∧
         ∃ a21 : Addr, p14 = some a21 ∧
         (0 ≤ x1 ∧ x1 < ((n15 : Nat) : Int)) ∧
         CanStore [] w20 (Addr.add a21 (0 + Int.toNat x1 * 1)) 0 1 ∧
         R (.bool true) (storeAt w20 (Addr.add a21 (0 + Int.toNat x1 * 1)) 0 [(.slice p17 n18 n19)]))) ∧
        ((w6.heap[(k5 : Nat)]? = some (.cells #[(.string x2), (.bool x3), (.bool false), (.int .i64 0), (.int .i64 0), (.string ⟨#[]⟩)] 56 (0, 0)) →
         ∃ p14 : Option Addr,
         ∃ n15 : Nat,
         ∃ n16 : Nat,
         ∃ w17 : World, Sem.run Try.prog (GOp.sem (.builtin .append #[54, 54] 54 [(.slice p11 n12 n13), (.slice (some ⟨k5, 0, none⟩) 1 1)])) w6 = .ok (.slice p14 n15 n16) w17 ∧ Kept [] w6 w17 ∧
         ∃ p18 : Option Addr,
         ∃ n19 : Nat,
         ∃ n20 : Nat,
         CellsAt w17 x0 1 [(.slice p18 n19 n20)] ∧
         ∃ a21 : Addr, p18 = some a21 ∧
         (0 ≤ x1 ∧ x1 < ((n19 : Nat) : Int)) ∧
         CanStore [] w17 (Addr.add a21 (0 + Int.toNat x1 * 1)) 0 1 ∧
         R (.bool true) (storeAt w17 (Addr.add a21 (0 + Int.toNat x1 * 1)) 0 [(.slice p14 n15 n16)]))))))) ∧
   ((!(decide (x1 < ((n1 : Nat) : Int)))) = true →
    R (.bool false) w)) ∧
  ((decide (0 ≤ x1)) = false →
   R (.bool false) w))
theorem nf10 (R : Value → World → Prop) (x0 : Addr) (x1 : Int) (x2 : ByteArray) (x3 : Bool) (w : World) : execF (𝔸 := Sh cfg10.P R) cfg10 10 [(.addr x0 0), (.int .i64 x1), (.str x2), (.bool x3)] w = NF10 R x0 x1 x2 x3 w := by kernel_rfl
theorem calls10 (R : Value → World → Prop) (x0 : Addr) (x1 : Int) (x2 : ByteArray) (x3 : Bool) (w : World) (h : NF10 R x0 x1 x2 x3 w) : Calls Try.prog 10 [(.pointer (some x0)), (.int .i64 x1), (.string x2), (.bool x3)].toArray w fun e w' => ∃ v, e = .returned v ∧ R v w' :=
  execF_ok cfg10 follows (args := [(.addr x0 0), (.int .i64 x1), (.str x2), (.bool x3)]) (by simp [wfL, wf]) (Eq.mpr (nf10 R x0 x1 x2 x3 w) h)

noncomputable def cfg11 : Cfg := { P := Try.prog, inl := [17,18,21], hav := [], drop := [], let_ := [] }
/-- (*understudy/scope.Scopes).Begin -/
def NF11 (R : Value → World → Prop) (x0 : Addr) (x1 : Int) (x2 : ByteArray) (x3 : Int) (x4 : Int) (x5 : ByteArray) (w : World) : Prop :=
  (∀ k0 : Nat, Fresh w [] k0 →
  ((decide (0 ≤ x1)) = true →
   ∀ w1 : World, Framed [k0] w w1 →
   ∃ p2 : Option Addr,
   ∃ n3 : Nat,
   ∃ n4 : Nat,
   CellsAt w1 x0 0 [(.slice p2 n3 n4)] ∧
   ((!(decide (x1 < ((n3 : Nat) : Int)))) = true →
    R (.bool false) w1) ∧
   ((!(decide (x1 < ((n3 : Nat) : Int)))) = false →
    ∃ p5 : Option Addr,
    ∃ n6 : Nat,
    ∃ n7 : Nat,
    CellsAt w1 x0 0 [(.slice p5 n6 n7)] ∧
    ∃ a8 : Addr, p5 = some a8 ∧
    (0 ≤ x1 ∧ x1 < ((n6 : Nat) : Int)) ∧
    ∃ m9 : Option Nat,
    CellsAt w1 (Addr.add a8 (0 + Int.toNat x1 * 2)) 1 [(.map m9)] ∧
    ∃ p10 : Option Addr,
    ∃ w11 : World, Sem.run Try.prog (GOp.sem (.lookup 39 (.map m9) (.string x2) false)) w1 = .ok (.pointer p10) w11 ∧ Kept [k0] w1 w11 ∧
    ((Option.isNone p10) = false →
     ∃ a12 : Addr, p10 = some a12 ∧
     ∃ b13 : Bool,
     CellsAt w11 a12 3 [(.bool b13)] ∧
     (b13 = true →
      R (.bool false) w11) ∧
     (b13 = false →
      ∃ a14 : Addr, p10 = some a14 ∧
      CanStore [k0] w11 a14 0 3 ∧
      ∃ a15 : Addr, p10 = some a15 ∧
      CanStore [k0] (storeAt w11 a14 0 [(.int .i64 x3), (.int .i64 x4), (.string x5)]) a15 3 1 ∧
      R (.bool true) (storeAt (storeAt w11 a14 0 [(.int .i64 x3), (.int .i64 x4), (.string x5)]) a15 3 [(.bool true)]))) ∧
    ((Option.isNone p10) = true →
     R (.bool false) w11))) ∧
  ((decide (0 ≤ x1)) = false →
   ∀ w1 : World, Framed [k0] w w1 →
   R (.bool false) w1))
theorem nf11 (R : Value → World → Prop) (x0 : Addr) (x1 : Int) (x2 : ByteArray) (x3 : Int) (x4 : Int) (x5 : ByteArray) (w : World) : execF (𝔸 := Sh cfg11.P R) cfg11 11 [(.addr x0 0), (.int .i64 x1), (.str x2), (.agg [(.int .i64 x3), (.int .i64 x4), (.str x5)])] w = NF11 R x0 x1 x2 x3 x4 x5 w := by kernel_rfl
theorem calls11 (R : Value → World → Prop) (x0 : Addr) (x1 : Int) (x2 : ByteArray) (x3 : Int) (x4 : Int) (x5 : ByteArray) (w : World) (h : NF11 R x0 x1 x2 x3 x4 x5 w) : Calls Try.prog 11 [(.pointer (some x0)), (.int .i64 x1), (.string x2), (.agg #[(.int .i64 x3), (.int .i64 x4), (.string x5)])].toArray w fun e w' => ∃ v, e = .returned v ∧ R v w' :=
  execF_ok cfg11 follows (args := [(.addr x0 0), (.int .i64 x1), (.str x2), (.agg [(.int .i64 x3), (.int .i64 x4), (.str x5)])]) (by simp [wfL, wf]) (Eq.mpr (nf11 R x0 x1 x2 x3 x4 x5 w) h)

noncomputable def cfg12 : Cfg := { P := Try.prog, inl := [17,18,21], hav := [], drop := [], let_ := [] }
/-- (*understudy/understudyref1.Scopes).Begin -/
def NF12 (R : Value → World → Prop) (x0 : Addr) (x1 : Int) (x2 : ByteArray) (x3 : Int) (x4 : Int) (x5 : ByteArray) (w : World) : Prop :=
  (∀ k0 : Nat, Fresh w [] k0 →
  ((decide (0 ≤ x1)) = true →
   ∀ w1 : World, Framed [k0] w w1 →
   ∃ p2 : Option Addr,
   ∃ n3 : Nat,
   ∃ n4 : Nat,
   CellsAt w1 x0 1 [(.slice p2 n3 n4)] ∧
   ((!(decide (x1 < ((n3 : Nat) : Int)))) = true →
    R (.bool false) w1) ∧
   ((!(decide (x1 < ((n3 : Nat) : Int)))) = false →
    CallsV Try.prog 19 [(.pointer (some x0)), (.int .i64 x1), (.string x2)] w1 [k0] fun r5 w5 =>
     ∃ i6 : Int,
     r5 = (.int .i64 i6) ∧
     ((decide (i6 < 0)) = false →
      ∃ p7 : Option Addr,
      ∃ n8 : Nat,
      ∃ n9 : Nat,
      CellsAt w5 x0 1 [(.slice p7 n8 n9)] ∧
      ∃ a10 : Addr, p7 = some a10 ∧
      (0 ≤ x1 ∧ x1 < ((n8 : Nat) : Int)) ∧
      ∃ p11 : Option Addr,
      ∃ n12 : Nat,
      ∃ n13 : Nat,
      CellsAt w5 (Addr.add a10 (0 + Int.toNat x1 * 1)) 0 [(.slice p11 n12 n13)] ∧
      ∃ a14 : Addr, p11 = some a14 ∧
      (0 ≤ i6 ∧ i6 < ((n12 : Nat) : Int)) ∧
      ∃ b15 : Bool,
      CellsAt w5 (Addr.add a14 (0 + Int.toNat i6 * 6)) 2 [(.bool b15)] ∧
      (b15 = true →
       R (.bool false) w5) ∧
      (b15 = false →
       ∃ p16 : Option Addr,
       ∃ n17 : Nat,
       ∃ n18 : Nat,
       CellsAt w5 x0 1 [(.slice p16 n17 n18)] ∧
       ∃ a19 : Addr, p16 = some a19 ∧
       (0 ≤ x1 ∧ x1 < ((n17 : Nat) : Int)) ∧
       ∃ p20 : Option Addr,
       ∃ n21 : Nat,
       ∃ n22 : Nat,
       CellsAt w5 (Addr.add a19 (0 + Int.toNat x1 * 1)) 0 [(.slice p20 n21 n22)] ∧
       ∃ a23 : Addr, p20 = some a23 ∧
       (0 ≤ i6 ∧ i6 < ((n21 : Nat) : Int)) ∧
       CanStore [k0] w5 (Addr.add a23 (0 + Int.toNat i6 * 6)) 2 1 ∧
       ∀ w24 : World, Framed [k0] (storeAt w5 (Addr.add a23 (0 + Int.toNat i6 * 6)) 2 [(.bool true)]) w24 →
       ∃ p25 : Option Addr,
       ∃ n26 : Nat,
       ∃ n27 : Nat,
       CellsAt w24 x0 1 [(.slice p25 n26 n27)] ∧
       ∃ a28 : Addr, p25 = some a28 ∧
       (0 ≤ x1 ∧ x1 < ((n26 : Nat) : Int)) ∧
       ∃ p29 : Option Addr,
       ∃ n30 : Nat,
       ∃ n31 : Nat,
       CellsAt w24 (Addr.add a28 (0 + Int.toNat x1 * 1)) 0 [(.slice p29 n30 n31)] ∧
       ∃ a32 : Addr, p29 = some a32 ∧
       (0 ≤ i6 ∧ i6 < ((n30 : Nat) : Int)) ∧
       CanStore [k0] w24 (Addr.add a32 (0 + Int.toNat i6 * 6)) 3 3 ∧
       R (.bool true) (storeAt w24 (Addr.add a32 (0 + Int.toNat i6 * 6)) 3 [(.int .i64 x3), (.int .i64 x4), (.string x5)]))) ∧
     ((decide (i6 < 0)) = true →
      R (.bool false) w5))) ∧
  ((decide (0 ≤ x1)) = false →
   ∀ w1 : World, Framed [k0] w w1 →
   R (.bool false) w1))
theorem nf12 (R : Value → World → Prop) (x0 : Addr) (x1 : Int) (x2 : ByteArray) (x3 : Int) (x4 : Int) (x5 : ByteArray) (w : World) : execF (𝔸 := Sh cfg12.P R) cfg12 12 [(.addr x0 0), (.int .i64 x1), (.str x2), (.agg [(.int .i64 x3), (.int .i64 x4), (.str x5)])] w = NF12 R x0 x1 x2 x3 x4 x5 w := by kernel_rfl
theorem calls12 (R : Value → World → Prop) (x0 : Addr) (x1 : Int) (x2 : ByteArray) (x3 : Int) (x4 : Int) (x5 : ByteArray) (w : World) (h : NF12 R x0 x1 x2 x3 x4 x5 w) : Calls Try.prog 12 [(.pointer (some x0)), (.int .i64 x1), (.string x2), (.agg #[(.int .i64 x3), (.int .i64 x4), (.string x5)])].toArray w fun e w' => ∃ v, e = .returned v ∧ R v w' :=
  execF_ok cfg12 follows (args := [(.addr x0 0), (.int .i64 x1), (.str x2), (.agg [(.int .i64 x3), (.int .i64 x4), (.str x5)])]) (by simp [wfL, wf]) (Eq.mpr (nf12 R x0 x1 x2 x3 x4 x5 w) h)

noncomputable def cfg13 : Cfg := { P := Try.prog, inl := [17,18,21], hav := [], drop := [], let_ := [] }
/-- (*understudy/scope.Scopes).Get -/
def NF13 (R : Value → World → Prop) (x0 : Addr) (x1 : Int) (x2 : ByteArray) (w : World) : Prop :=
  (∀ k0 : Nat, Fresh w [] k0 →
  ∀ w1 : World, Framed [k0] w w1 →
  CallsV Try.prog 20 [(.pointer (some x0)), (.int .i64 x1), (.string x2)] w1 [k0] fun r2 w2 =>
   ∃ p3 : Option Addr,
   r2 = (.pointer p3) ∧
   ((Option.isNone p3) = true →
    ∀ w4 : World, Framed [k0] w2 w4 →
    R (.tuple #[(.agg #[(.int .i64 0), (.int .i64 0), (.string ⟨#[]⟩)]), (.int .i64 1)]) w4) ∧
   ((Option.isNone p3) = false →
    ∃ a4 : Addr, p3 = some a4 ∧
    ∃ b5 : Bool,
    CellsAt w2 a4 3 [(.bool b5)] ∧
    ((!b5) = true →
     ∀ w6 : World, Framed [k0] w2 w6 →
     R (.tuple #[(.agg #[(.int .i64 0), (.int .i64 0), (.string ⟨#[]⟩)]), (.int .i64 2)]) w6) ∧
    ((!b5) = false →
     ∃ a6 : Addr, p3 = some a6 ∧
     ∃ i7 : Int,
     ∃ i8 : Int,
     ∃ s9 : ByteArray,
     CellsAt w2 a6 0 [(.int .i64 i7), (.int .i64 i8), (.string s9)] ∧
     ∀ w10 : World, Framed [k0] w2 w10 →
     R (.tuple #[(.agg #[(.int .i64 i7), (.int .i64 i8), (.string s9)]), (.int .i64 0)]) w10)))
theorem nf13 (R : Value → World → Prop) (x0 : Addr) (x1 : Int) (x2 : ByteArray) (w : World) : execF (𝔸 := Sh cfg13.P R) cfg13 13 [(.addr x0 0), (.int .i64 x1), (.str x2)] w = NF13 R x0 x1 x2 w := by kernel_rfl
theorem calls13 (R : Value → World → Prop) (x0 : Addr) (x1 : Int) (x2 : ByteArray) (w : World) (h : NF13 R x0 x1 x2 w) : Calls Try.prog 13 [(.pointer (some x0)), (.int .i64 x1), (.string x2)].toArray w fun e w' => ∃ v, e = .returned v ∧ R v w' :=
  execF_ok cfg13 follows (args := [(.addr x0 0), (.int .i64 x1), (.str x2)]) (by simp [wfL, wf]) (Eq.mpr (nf13 R x0 x1 x2 w) h)

noncomputable def cfg14 : Cfg := { P := Try.prog, inl := [17,18,21], hav := [], drop := [], let_ := [] }
/-- (*understudy/understudyref1.Scopes).Get -/
def NF14 (R : Value → World → Prop) (x0 : Addr) (x1 : Int) (x2 : ByteArray) (w : World) : Prop :=
  (∀ k0 : Nat, Fresh w [] k0 →
  ∀ w1 : World, Framed [k0] w w1 →
  CallsV Try.prog 22 [(.pointer (some x0)), (.int .i64 x1), (.string x2)] w1 [k0] fun r2 w2 =>
   ∃ i3 : Int,
   ∃ i4 : Int,
   r2 = (.tuple #[(.int .i64 i3), (.int .i64 i4)]) ∧
   ((decide (i4 < 0)) = true →
    ∀ w5 : World, Framed [k0] w2 w5 →
    R (.tuple #[(.agg #[(.int .i64 0), (.int .i64 0), (.string ⟨#[]⟩)]), (.int .i64 1)]) w5) ∧
   ((decide (i4 < 0)) = false →
    ∃ p5 : Option Addr,
    ∃ n6 : Nat,
    ∃ n7 : Nat,
    CellsAt w2 x0 1 [(.slice p5 n6 n7)] ∧
    ∃ a8 : Addr, p5 = some a8 ∧
    (0 ≤ i3 ∧ i3 < ((n6 : Nat) : Int)) ∧
    ∃ p9 : Option Addr,
    ∃ n10 : Nat,
    ∃ n11 : Nat,
    CellsAt w2 (Addr.add a8 (0 + Int.toNat i3 * 1)) 0 [(.slice p9 n10 n11)] ∧
    ∃ a12 : Addr, p9 = some a12 ∧
    (0 ≤ i4 ∧ i4 < ((n10 : Nat) : Int)) ∧
    ∃ b13 : Bool,
    CellsAt w2 (Addr.add a12 (0 + Int.toNat i4 * 6)) 2 [(.bool b13)] ∧
    ((!b13) = true →
     ∀ w14 : World, Framed [k0] w2 w14 →
     R (.tuple #[(.agg #[(.int .i64 0), (.int .i64 0), (.string ⟨#[]⟩)]), (.int .i64 2)]) w14) ∧
    ((!b13) = false →
     ∃ p14 : Option Addr,
     ∃ n15 : Nat,
     ∃ n16 : Nat,
     CellsAt w2 x0 1 [(.slice p14 n15 n16)] ∧
     ∃ a17 : Addr, p14 = some a17 ∧
     (0 ≤ i3 ∧ i3 < ((n15 : Nat) : Int)) ∧
     ∃ p18 : Option Addr,
     ∃ n19 : Nat,
     ∃ n20 : Nat,
     CellsAt w2 (Addr.add a17 (0 + Int.toNat i3 * 1)) 0 [(.slice p18 n19 n20)] ∧
     ∃ a21 : Addr, p18 = some a21 ∧
     (0 ≤ i4 ∧ i4 < ((n19 : Nat) : Int)) ∧
     ∃ i22 : Int,
     ∃ i23 : Int,
     ∃ s24 : ByteArray,
     CellsAt w2 (Addr.add a21 (0 + Int.toNat i4 * 6)) 3 [(.int .i64 i22), (.int .i64 i23), (.string s24)] ∧
     ∀ w25 : World, Framed [k0] w2 w25 →
     R (.tuple #[(.agg #[(.int .i64 i22), (.int .i64 i23), (.string s24)]), (.int .i64 0)]) w25)))
theorem nf14 (R : Value → World → Prop) (x0 : Addr) (x1 : Int) (x2 : ByteArray) (w : World) : execF (𝔸 := Sh cfg14.P R) cfg14 14 [(.addr x0 0), (.int .i64 x1), (.str x2)] w = NF14 R x0 x1 x2 w := by kernel_rfl
theorem calls14 (R : Value → World → Prop) (x0 : Addr) (x1 : Int) (x2 : ByteArray) (w : World) (h : NF14 R x0 x1 x2 w) : Calls Try.prog 14 [(.pointer (some x0)), (.int .i64 x1), (.string x2)].toArray w fun e w' => ∃ v, e = .returned v ∧ R v w' :=
  execF_ok cfg14 follows (args := [(.addr x0 0), (.int .i64 x1), (.str x2)]) (by simp [wfL, wf]) (Eq.mpr (nf14 R x0 x1 x2 w) h)

noncomputable def cfg15 : Cfg := { P := Try.prog, inl := [17,18,21], hav := [], drop := [], let_ := [] }
/-- (*understudy/scope.Scopes).Set -/
def NF15 (R : Value → World → Prop) (x0 : Addr) (x1 : Int) (x2 : ByteArray) (x3 : Int) (x4 : Int) (x5 : ByteArray) (w : World) : Prop :=
  (∀ k0 : Nat, Fresh w [] k0 →
  ∀ w1 : World, Framed [k0] w w1 →
  CallsV Try.prog 20 [(.pointer (some x0)), (.int .i64 x1), (.string x2)] w1 [k0] fun r2 w2 =>
   ∃ p3 : Option Addr,
   r2 = (.pointer p3) ∧
   ((Option.isNone p3) = true →
    R (.int .i64 1) w2) ∧
   ((Option.isNone p3) = false →
    ∃ a4 : Addr, p3 = some a4 ∧
    ∃ b5 : Bool,
    CellsAt w2 a4 3 [(.bool b5)] ∧
    ((!b5) = true →
     R (.int .i64 2) w2) ∧
    ((!b5) = false →
     ∃ a6 : Addr, p3 = some a6 ∧
     ∃ b7 : Bool,
     CellsAt w2 a6 4 [(.bool b7)] ∧
     (b7 = true →
      R (.int .i64 3) w2) ∧
     (b7 = false →
      ∃ a8 : Addr, p3 = some a8 ∧
      CanStore [k0] w2 a8 0 3 ∧
      R (.int .i64 0) (storeAt w2 a8 0 [(.int .i64 x3), (.int .i64 x4), (.string x5)])))))
theorem nf15 (R : Value → World → Prop) (x0 : Addr) (x1 : Int) (x2 : ByteArray) (x3 : Int) (x4 : Int) (x5 : ByteArray) (w : World) : execF (𝔸 := Sh cfg15.P R) cfg15 15 [(.addr x0 0), (.int .i64 x1), (.str x2), (.agg [(.int .i64 x3), (.int .i64 x4), (.str x5)])] w = NF15 R x0 x1 x2 x3 x4 x5 w := by kernel_rfl
theorem calls15 (R : Value → World → Prop) (x0 : Addr) (x1 : Int) (x2 : ByteArray) (x3 : Int) (x4 : Int) (x5 : ByteArray) (w : World) (h : NF15 R x0 x1 x2 x3 x4 x5 w) : Calls Try.prog 15 [(.pointer (some x0)), (.int .i64 x1), (.string x2), (.agg #[(.int .i64 x3), (.int .i64 x4), (.string x5)])].toArray w fun e w' => ∃ v, e = .returned v ∧ R v w' :=
  execF_ok cfg15 follows (args := [(.addr x0 0), (.int .i64 x1), (.str x2), (.agg [(.int .i64 x3), (.int .i64 x4), (.str x5)])]) (by simp [wfL, wf]) (Eq.mpr (nf15 R x0 x1 x2 x3 x4 x5 w) h)

noncomputable def cfg16 : Cfg := { P := Try.prog, inl := [17,18,21], hav := [], drop := [], let_ := [] }
/-- (*understudy/understudyref1.Scopes).Set -/
def NF16 (R : Value → World → Prop) (x0 : Addr) (x1 : Int) (x2 : ByteArray) (x3 : Int) (x4 : Int) (x5 : ByteArray) (w : World) : Prop :=
  (∀ k0 : Nat, Fresh w [] k0 →
  ∀ w1 : World, Framed [k0] w w1 →
  CallsV Try.prog 22 [(.pointer (some x0)), (.int .i64 x1), (.string x2)] w1 [k0] fun r2 w2 =>
   ∃ i3 : Int,
   ∃ i4 : Int,
   r2 = (.tuple #[(.int .i64 i3), (.int .i64 i4)]) ∧
   ((decide (i4 < 0)) = true →
    R (.int .i64 1) w2) ∧
   ((decide (i4 < 0)) = false →
    ∃ p5 : Option Addr,
    ∃ n6 : Nat,
    ∃ n7 : Nat,
    CellsAt w2 x0 1 [(.slice p5 n6 n7)] ∧
    ∃ a8 : Addr, p5 = some a8 ∧
    (0 ≤ i3 ∧ i3 < ((n6 : Nat) : Int)) ∧
    ∃ p9 : Option Addr,
    ∃ n10 : Nat,
    ∃ n11 : Nat,
    CellsAt w2 (Addr.add a8 (0 + Int.toNat i3 * 1)) 0 [(.slice p9 n10 n11)] ∧
    ∃ a12 : Addr, p9 = some a12 ∧
    (0 ≤ i4 ∧ i4 < ((n10 : Nat) : Int)) ∧
    ∃ b13 : Bool,
    CellsAt w2 (Addr.add a12 (0 + Int.toNat i4 * 6)) 2 [(.bool b13)] ∧
    ((!b13) = true →
     R (.int .i64 2) w2) ∧
    ((!b13) = false →
     ∃ p14 : Option Addr,
     ∃ n15 : Nat,
     ∃ n16 : Nat,
     CellsAt w2 x0 1 [(.slice p14 n15 n16)] ∧
     ∃ a17 : Addr, p14 = some a17 ∧
     (0 ≤ i3 ∧ i3 < ((n15 : Nat) : Int)) ∧
     ∃ p18 : Option Addr,
     ∃ n19 : Nat,
     ∃ n20 : Nat,
     CellsAt w2 (Addr.add a17 (0 + Int.toNat i3 * 1)) 0 [(.slice p18 n19 n20)] ∧
     ∃ a21 : Addr, p18 = some a21 ∧
     (0 ≤ i4 ∧ i4 < ((n19 : Nat) : Int)) ∧
     ∃ b22 : Bool,
     CellsAt w2 (Addr.add a21 (0 + Int.toNat i4 * 6)) 1 [(.bool b22)] ∧
     (b22 = true →
      R (.int .i64 3) w2) ∧
     (b22 = false →
      ∀ w23 : World, Framed [k0] w2 w23 →
      ∃ p24 : Option Addr,
      ∃ n25 : Nat,
      ∃ n26 : Nat,
      CellsAt w23 x0 1 [(.slice p24 n25 n26)] ∧
      ∃ a27 : Addr, p24 = some a27 ∧
      (0 ≤ i3 ∧ i3 < ((n25 : Nat) : Int)) ∧
      ∃ p28 : Option Addr,
      ∃ n29 : Nat,
      ∃ n30 : Nat,
      CellsAt w23 (Addr.add a27 (0 + Int.toNat i3 * 1)) 0 [(.slice p28 n29 n30)] ∧
      ∃ a31 : Addr, p28 = some a31 ∧
      (0 ≤ i4 ∧ i4 < ((n29 : Nat) : Int)) ∧
      CanStore [k0] w23 (Addr.add a31 (0 + Int.toNat i4 * 6)) 3 3 ∧
      R (.int .i64 0) (storeAt w23 (Addr.add a31 (0 + Int.toNat i4 * 6)) 3 [(.int .i64 x3), (.int .i64 x4), (.string x5)])))))
theorem nf16 (R : Value → World → Prop) (x0 : Addr) (x1 : Int) (x2 : ByteArray) (x3 : Int) (x4 : Int) (x5 : ByteArray) (w : World) : execF (𝔸 := Sh cfg16.P R) cfg16 16 [(.addr x0 0), (.int .i64 x1), (.str x2), (.agg [(.int .i64 x3), (.int .i64 x4), (.str x5)])] w = NF16 R x0 x1 x2 x3 x4 x5 w := by kernel_rfl
theorem calls16 (R : Value → World → Prop) (x0 : Addr) (x1 : Int) (x2 : ByteArray) (x3 : Int) (x4 : Int) (x5 : ByteArray) (w : World) (h : NF16 R x0 x1 x2 x3 x4 x5 w) : Calls Try.prog 16 [(.pointer (some x0)), (.int .i64 x1), (.string x2), (.agg #[(.int .i64 x3), (.int .i64 x4), (.string x5)])].toArray w fun e w' => ∃ v, e = .returned v ∧ R v w' :=
  execF_ok cfg16 follows (args := [(.addr x0 0), (.int .i64 x1), (.str x2), (.agg [(.int .i64 x3), (.int .i64 x4), (.str x5)])]) (by simp [wfL, wf]) (Eq.mpr (nf16 R x0 x1 x2 x3 x4 x5 w) h)

noncomputable def cfg19 : Cfg := { P := Try.prog, inl := [17,18,21], hav := [], drop := [], let_ := [] }
/-- (*understudy/understudyref1.Scopes).at -/
def NF19 (R : Value → World → Prop) (x0 : Addr) (x1 : Int) (x2 : ByteArray) (w : World) : Prop :=
  (∃ (J0 : Int → World → Prop) (m0 : Int → World → Nat),
  (J0 0 w) ∧
  (∀ i1 : Int,
   ∀ w2 : World, Within [] w2 →
   J0 i1 w2 →
   ∃ p3 : Option Addr,
   ∃ n4 : Nat,
   ∃ n5 : Nat,
   CellsAt w2 x0 1 [(.slice p3 n4 n5)] ∧
   ∃ a6 : Addr, p3 = some a6 ∧
   (0 ≤ x1 ∧ x1 < ((n4 : Nat) : Int)) ∧
   ∃ p7 : Option Addr,
   ∃ n8 : Nat,
   ∃ n9 : Nat,
   CellsAt w2 (Addr.add a6 (0 + Int.toNat x1 * 1)) 0 [(.slice p7 n8 n9)] ∧
   ((decide (i1 < ((n8 : Nat) : Int))) = true →
    ∃ p10 : Option Addr,
    ∃ n11 : Nat,
    ∃ n12 : Nat,
    CellsAt w2 x0 1 [(.slice p10 n11 n12)] ∧
    ∃ a13 : Addr, p10 = some a13 ∧
    (0 ≤ x1 ∧ x1 < ((n11 : Nat) : Int)) ∧
    ∃ p14 : Option Addr,
    ∃ n15 : Nat,
    ∃ n16 : Nat,
    CellsAt w2 (Addr.add a13 (0 + Int.toNat x1 * 1)) 0 [(.slice p14 n15 n16)] ∧
    ∃ a17 : Addr, p14 = some a17 ∧
    (0 ≤ i1 ∧ i1 < ((n15 : Nat) : Int)) ∧
    ∃ s18 : ByteArray,
    CellsAt w2 (Addr.add a17 (0 + Int.toNat i1 * 6)) 0 [(.string s18)] ∧
    ((strB .eql s18 x2) = true →
     R (.int .i64 i1) w2) ∧
    ((strB .eql s18 x2) = false →
     (J0 (IntKind.wrap .i64 (i1 + 1)) w2) ∧
     ((m0 (IntKind.wrap .i64 (i1 + 1)) w2) < (m0 i1 w2)))) ∧
   ((decide (i1 < ((n8 : Nat) : Int))) = false →
    R (.int .i64 (-1)) w2)))
theorem nf19 (R : Value → World → Prop) (x0 : Addr) (x1 : Int) (x2 : ByteArray) (w : World) : execF (𝔸 := Sh cfg19.P R) cfg19 19 [(.addr x0 0), (.int .i64 x1), (.str x2)] w = NF19 R x0 x1 x2 w := by kernel_rfl
theorem calls19 (R : Value → World → Prop) (x0 : Addr) (x1 : Int) (x2 : ByteArray) (w : World) (h : NF19 R x0 x1 x2 w) : Calls Try.prog 19 [(.pointer (some x0)), (.int .i64 x1), (.string x2)].toArray w fun e w' => ∃ v, e = .returned v ∧ R v w' :=
  execF_ok cfg19 follows (args := [(.addr x0 0), (.int .i64 x1), (.str x2)]) (by simp [wfL, wf]) (Eq.mpr (nf19 R x0 x1 x2 w) h)

noncomputable def cfg20 : Cfg := { P := Try.prog, inl := [17,18,21], hav := [], drop := [], let_ := [] }
/-- (*understudy/scope.Scopes).find -/
def NF20 (R : Value → World → Prop) (x0 : Addr) (x1 : Int) (x2 : ByteArray) (w : World) : Prop :=
  (∃ (J0 : Int → World → Prop) (m0 : Int → World → Nat),
  (J0 x1 w) ∧
  (∀ i1 : Int,
   ∀ w2 : World, Within [] w2 →
   J0 i1 w2 →
   ((decide (0 ≤ i1)) = true →
    ∃ p3 : Option Addr,
    ∃ n4 : Nat,
    ∃ n5 : Nat,
    CellsAt w2 x0 0 [(.slice p3 n4 n5)] ∧
    ((decide (i1 < ((n4 : Nat) : Int))) = true →
     ∃ p6 : Option Addr,
     ∃ n7 : Nat,
     ∃ n8 : Nat,
     CellsAt w2 x0 0 [(.slice p6 n7 n8)] ∧
     ∃ a9 : Addr, p6 = some a9 ∧
     (0 ≤ i1 ∧ i1 < ((n7 : Nat) : Int)) ∧
     ∃ m10 : Option Nat,
     CellsAt w2 (Addr.add a9 (0 + Int.toNat i1 * 2)) 1 [(.map m10)] ∧
     ∃ p11 : Option Addr,
     ∃ w12 : World, Sem.run Try.prog (GOp.sem (.lookup 39 (.map m10) (.string x2) false)) w2 = .ok (.pointer p11) w12 ∧ Kept [] w2 w12 ∧
     ((!(Option.isNone p11)) = true →
      R (.pointer p11) w12) ∧
     ((!(Option.isNone p11)) = false →
      ∃ p13 : Option Addr,
      ∃ n14 : Nat,
      ∃ n15 : Nat,
      CellsAt w12 x0 0 [(.slice p13 n14 n15)] ∧
      ∃ a16 : Addr, p13 = some a16 ∧
      (0 ≤ i1 ∧ i1 < ((n14 : Nat) : Int)) ∧
      ∃ i17 : Int,
      CellsAt w12 (Addr.add a16 (0 + Int.toNat i1 * 2)) 0 [(.int .i64 i17)] ∧
      (J0 i17 w12) ∧
      ((m0 i17 w12) < (m0 i1 w2)))) ∧
    ((decide (i1 < ((n4 : Nat) : Int))) = false →
     R (.pointer none) w2)) ∧
   ((decide (0 ≤ i1)) = false →
    R (.pointer none) w2)))
theorem nf20 (R : Value → World → Prop) (x0 : Addr) (x1 : Int) (x2 : ByteArray) (w : World) : execF (𝔸 := Sh cfg20.P R) cfg20 20 [(.addr x0 0), (.int .i64 x1), (.str x2)] w = NF20 R x0 x1 x2 w := by kernel_rfl
theorem calls20 (R : Value → World → Prop) (x0 : Addr) (x1 : Int) (x2 : ByteArray) (w : World) (h : NF20 R x0 x1 x2 w) : Calls Try.prog 20 [(.pointer (some x0)), (.int .i64 x1), (.string x2)].toArray w fun e w' => ∃ v, e = .returned v ∧ R v w' :=
  execF_ok cfg20 follows (args := [(.addr x0 0), (.int .i64 x1), (.str x2)]) (by simp [wfL, wf]) (Eq.mpr (nf20 R x0 x1 x2 w) h)

noncomputable def cfg22 : Cfg := { P := Try.prog, inl := [17,18,21], hav := [], drop := [], let_ := [] }
/-- (*understudy/understudyref1.Scopes).find -/
def NF22 (R : Value → World → Prop) (x0 : Addr) (x1 : Int) (x2 : ByteArray) (w : World) : Prop :=
  (∃ (J0 : Int → World → Prop) (m0 : Int → World → Nat),
  (J0 x1 w) ∧
  (∀ i1 : Int,
   ∀ w2 : World, Within [] w2 →
   J0 i1 w2 →
   ((decide (0 ≤ i1)) = true →
    ∃ p3 : Option Addr,
    ∃ n4 : Nat,
    ∃ n5 : Nat,
    CellsAt w2 x0 1 [(.slice p3 n4 n5)] ∧
    ((decide (i1 < ((n4 : Nat) : Int))) = true →
     CallsV Try.prog 19 [(.pointer (some x0)), (.int .i64 i1), (.string x2)] w2 [] fun r6 w6 =>
      ∃ i7 : Int,
      r6 = (.int .i64 i7) ∧
      ((decide (0 ≤ i7)) = true →
       R (.tuple #[(.int .i64 i1), (.int .i64 i7)]) w6) ∧
      ((decide (0 ≤ i7)) = false →
       ∃ p8 : Option Addr,
       ∃ n9 : Nat,
       ∃ n10 : Nat,
       CellsAt w6 x0 0 [(.slice p8 n9 n10)] ∧
       ∃ a11 : Addr, p8 = some a11 ∧
       (0 ≤ i1 ∧ i1 < ((n9 : Nat) : Int)) ∧
       ∃ i12 : Int,
       CellsAt w6 (Addr.add a11 (0 + Int.toNat i1 * 1)) 0 [(.int .i64 i12)] ∧
       (J0 i12 w6) ∧
       ((m0 i12 w6) < (m0 i1 w2)))) ∧
    ((decide (i1 < ((n4 : Nat) : Int))) = false →
     R (.tuple #[(.int .i64 (-1)), (.int .i64 (-1))]) w2)) ∧
   ((decide (0 ≤ i1)) = false →
    R (.tuple #[(.int .i64 (-1)), (.int .i64 (-1))]) w2)))
theorem nf22 (R : Value → World → Prop) (x0 : Addr) (x1 : Int) (x2 : ByteArray) (w : World) : execF (𝔸 := Sh cfg22.P R) cfg22 22 [(.addr x0 0), (.int .i64 x1), (.str x2)] w = NF22 R x0 x1 x2 w := by kernel_rfl
theorem calls22 (R : Value → World → Prop) (x0 : Addr) (x1 : Int) (x2 : ByteArray) (w : World) (h : NF22 R x0 x1 x2 w) : Calls Try.prog 22 [(.pointer (some x0)), (.int .i64 x1), (.string x2)].toArray w fun e w' => ∃ v, e = .returned v ∧ R v w' :=
  execF_ok cfg22 follows (args := [(.addr x0 0), (.int .i64 x1), (.str x2)]) (by simp [wfL, wf]) (Eq.mpr (nf22 R x0 x1 x2 w) h)

end Go.Proofs.Ytmnnkkcihmdpmaa
