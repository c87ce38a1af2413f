/- Structures of the program's types that come in, read as rows of cells. -/
import Derived.Test.YtlfphbmbehbcjaaSt
import Derived.Test.YtlfphbmbehbcjaaVxT
import Derived.Test.YtlfphbmbehbcjaaProg
set_option linter.unusedVariables false
set_option linter.unusedSimpArgs false
set_option maxRecDepth 100000
set_option maxHeartbeats 4000000
namespace Go.Proofs.Ytlfphbmbehbcjaa
open Go.ChangeShapes Go.WideShapes Go.ChangeAt Go.RowKit Go.Deep Go.Vx
section
variable {H : Type} {enc : TypeId × Value → H} {w : World} {spare : Nat → Bool} {held : Bool} {fuel : Nat} {cs : List Value} {x : DataW H × List MemPlace}
theorem cells25 : Try.prog.cellsOf 25 = 2 := by kernel_rfl
theorem cells9 : Try.prog.cellsOf 9 = 1 := by kernel_rfl
theorem cells3 : Try.prog.cellsOf 3 = 1 := by kernel_rfl
theorem openGKey (h : DataW.trod enc Try.prog w 0 spare held fuel 25 cs = some x) : ∃ (d : GKey), cs = GKey.cells d := by
  obtain ⟨xs, n, rfl, rfl, hlen, hxl, hf⟩ := DataW.trod_struct Try.underlying25 h
  match xs, hxl, hf with
  | [x0, x1], _, hf =>
    obtain ⟨a0, e0, _⟩ := DataW.trod_string Try.underlying9 ((hf 0 _ rfl : _ = some x0))
    have f0 : ((cs.drop 0).take (Try.prog.cellsOf 9)) = [.string a0] := e0
    rw [cells9] at f0
    obtain ⟨a1, e1, _⟩ := DataW.trod_int Try.underlying3 ((hf 1 _ rfl : _ = some x1))
    have f1 : ((cs.drop 1).take (Try.prog.cellsOf 3)) = [.int .i64 a1] := e1
    rw [cells3] at f1
    have hp := partsFrom_all (cs := cs) (ns := [1, 1]) (by rw [hlen]; kernel_rfl)
    refine ⟨⟨a0, a1⟩, ?_⟩
    refine hp.trans ?_
    simp only [partsFrom]
    have hh := congr (congrArg HAppend.hAppend f0) (congr (congrArg HAppend.hAppend f1) (Eq.refl ([] : List Value)))
    exact hh.trans (by kernel_rfl)
theorem cells27 : Try.prog.cellsOf 27 = 3 := by kernel_rfl
theorem openGValue (h : DataW.trod enc Try.prog w 0 spare held fuel 27 cs = some x) : ∃ (d : GValue), cs = GValue.cells d := by
  obtain ⟨xs, n, rfl, rfl, hlen, hxl, hf⟩ := DataW.trod_struct Try.underlying27 h
  match xs, hxl, hf with
  | [x0, x1, x2], _, hf =>
    obtain ⟨a0, e0, _⟩ := DataW.trod_int Try.underlying3 ((hf 0 _ rfl : _ = some x0))
    have f0 : ((cs.drop 0).take (Try.prog.cellsOf 3)) = [.int .i64 a0] := e0
    rw [cells3] at f0
    obtain ⟨a1, e1, _⟩ := DataW.trod_int Try.underlying3 ((hf 1 _ rfl : _ = some x1))
    have f1 : ((cs.drop 1).take (Try.prog.cellsOf 3)) = [.int .i64 a1] := e1
    rw [cells3] at f1
    obtain ⟨a2, e2, _⟩ := DataW.trod_string Try.underlying9 ((hf 2 _ rfl : _ = some x2))
    have f2 : ((cs.drop 2).take (Try.prog.cellsOf 9)) = [.string a2] := e2
    rw [cells9] at f2
    have hp := partsFrom_all (cs := cs) (ns := [1, 1, 1]) (by rw [hlen]; kernel_rfl)
    refine ⟨⟨a0, a1, a2⟩, ?_⟩
    refine hp.trans ?_
    simp only [partsFrom]
    have hh := congr (congrArg HAppend.hAppend f0) (congr (congrArg HAppend.hAppend f1) (congr (congrArg HAppend.hAppend f2) (Eq.refl ([] : List Value))))
    exact hh.trans (by kernel_rfl)
theorem cells29 : Try.prog.cellsOf 29 = 18 := by kernel_rfl
theorem cells4 : Try.prog.cellsOf 4 = 1 := by kernel_rfl
theorem openGDesc (h : DataW.trod enc Try.prog w 0 spare held fuel 29 cs = some x) : ∃ (d : GDesc), cs = GDesc.cells d := by
  obtain ⟨xs, n, rfl, rfl, hlen, hxl, hf⟩ := DataW.trod_struct Try.underlying29 h
  match xs, hxl, hf with
  | [x0, x1, x2, x3, x4, x5, x6, x7, x8, x9, x10, x11], _, hf =>
    obtain ⟨a0, e0, _⟩ := DataW.trod_bool Try.underlying4 ((hf 0 _ rfl : _ = some x0))
    have f0 : ((cs.drop 0).take (Try.prog.cellsOf 4)) = [.bool a0] := e0
    rw [cells4] at f0
    obtain ⟨a1, e1, _⟩ := DataW.trod_bool Try.underlying4 ((hf 1 _ rfl : _ = some x1))
    have f1 : ((cs.drop 1).take (Try.prog.cellsOf 4)) = [.bool a1] := e1
    rw [cells4] at f1
    obtain ⟨a2, e2, _⟩ := DataW.trod_bool Try.underlying4 ((hf 2 _ rfl : _ = some x2))
    have f2 : ((cs.drop 2).take (Try.prog.cellsOf 4)) = [.bool a2] := e2
    rw [cells4] at f2
    obtain ⟨a3, e3, _⟩ := DataW.trod_bool Try.underlying4 ((hf 3 _ rfl : _ = some x3))
    have f3 : ((cs.drop 3).take (Try.prog.cellsOf 4)) = [.bool a3] := e3
    rw [cells4] at f3
    obtain ⟨a4, e4, _⟩ := DataW.trod_bool Try.underlying4 ((hf 4 _ rfl : _ = some x4))
    have f4 : ((cs.drop 4).take (Try.prog.cellsOf 4)) = [.bool a4] := e4
    rw [cells4] at f4
    obtain ⟨a5, e5, _⟩ := DataW.trod_bool Try.underlying4 ((hf 5 _ rfl : _ = some x5))
    have f5 : ((cs.drop 5).take (Try.prog.cellsOf 4)) = [.bool a5] := e5
    rw [cells4] at f5
    obtain ⟨a6, e6⟩ := openGValue ((hf 6 _ rfl : _ = some x6))
    have f6 : ((cs.drop 6).take (Try.prog.cellsOf 27)) = GValue.cells a6 := e6
    rw [cells27] at f6
    obtain ⟨a7, e7⟩ := openGValue ((hf 7 _ rfl : _ = some x7))
    have f7 : ((cs.drop 9).take (Try.prog.cellsOf 27)) = GValue.cells a7 := e7
    rw [cells27] at f7
    obtain ⟨a8, e8⟩ := openGValue ((hf 8 _ rfl : _ = some x8))
    have f8 : ((cs.drop 12).take (Try.prog.cellsOf 27)) = GValue.cells a8 := e8
    rw [cells27] at f8
    obtain ⟨a9, e9, _⟩ := DataW.trod_bool Try.underlying4 ((hf 9 _ rfl : _ = some x9))
    have f9 : ((cs.drop 15).take (Try.prog.cellsOf 4)) = [.bool a9] := e9
    rw [cells4] at f9
    obtain ⟨a10, e10, _⟩ := DataW.trod_bool Try.underlying4 ((hf 10 _ rfl : _ = some x10))
    have f10 : ((cs.drop 16).take (Try.prog.cellsOf 4)) = [.bool a10] := e10
    rw [cells4] at f10
    obtain ⟨a11, e11, _⟩ := DataW.trod_bool Try.underlying4 ((hf 11 _ rfl : _ = some x11))
    have f11 : ((cs.drop 17).take (Try.prog.cellsOf 4)) = [.bool a11] := e11
    rw [cells4] at f11
    have hp := partsFrom_all (cs := cs) (ns := [1, 1, 1, 1, 1, 1, 3, 3, 3, 1, 1, 1]) (by rw [hlen]; kernel_rfl)
    refine ⟨⟨a0, a1, a2, a3, a4, a5, a6, a7, a8, a9, a10, a11⟩, ?_⟩
    refine hp.trans ?_
    simp only [partsFrom]
    have hh := congr (congrArg HAppend.hAppend f0) (congr (congrArg HAppend.hAppend f1) (congr (congrArg HAppend.hAppend f2) (congr (congrArg HAppend.hAppend f3) (congr (congrArg HAppend.hAppend f4) (congr (congrArg HAppend.hAppend f5) (congr (congrArg HAppend.hAppend f6) (congr (congrArg HAppend.hAppend f7) (congr (congrArg HAppend.hAppend f8) (congr (congrArg HAppend.hAppend f9) (congr (congrArg HAppend.hAppend f10) (congr (congrArg HAppend.hAppend f11) (Eq.refl ([] : List Value)))))))))))))
    exact hh.trans (by kernel_rfl)
theorem cells32 : Try.prog.cellsOf 32 = 27 := by kernel_rfl
theorem cells30 : Try.prog.cellsOf 30 = 1 := by kernel_rfl
theorem openGAsk (h : DataW.trod enc Try.prog w 0 spare held fuel 32 cs = some x) : ∃ (d : GAsk) (y0 : List GValue), cs = GAsk.cells d ∧ Imm (fun _ => none) w d.List.p d.List.l GValue.cells 3 y0 ∧ d.List.l ≤ d.List.c := by
  obtain ⟨xs, n, rfl, rfl, hlen, hxl, hf⟩ := DataW.trod_struct Try.underlying32 h
  match xs, hxl, hf with
  | [x0, x1, x2, x3, x4], _, hf =>
    obtain ⟨a0, e0⟩ := openGKey ((hf 0 _ rfl : _ = some x0))
    have f0 : ((cs.drop 0).take (Try.prog.cellsOf 25)) = GKey.cells a0 := e0
    rw [cells25] at f0
    obtain ⟨a1, e1⟩ := openGValue ((hf 1 _ rfl : _ = some x1))
    have f1 : ((cs.drop 2).take (Try.prog.cellsOf 27)) = GValue.cells a1 := e1
    rw [cells27] at f1
    obtain ⟨a2, e2⟩ := openGValue ((hf 2 _ rfl : _ = some x2))
    have f2 : ((cs.drop 5).take (Try.prog.cellsOf 27)) = GValue.cells a2 := e2
    rw [cells27] at f2
    obtain ⟨a3, e3⟩ := openGDesc ((hf 3 _ rfl : _ = some x3))
    have f3 : ((cs.drop 8).take (Try.prog.cellsOf 29)) = GDesc.cells a3 := e3
    rw [cells29] at f3
    obtain ⟨p4, l4, c4, z0, e4, g4, _, q4⟩ := open_imm (Q := fun _ => True) Try.underlying30 cells27 (by decide) (fun _ _ _ h => by obtain ⟨d, h⟩ := openGValue h; exact ⟨d, h, trivial⟩) ((hf 4 _ rfl : _ = some x4))
    have f4 : ((cs.drop 26).take (Try.prog.cellsOf 30)) = [.slice p4 l4 c4] := e4
    rw [cells30] at f4
    have hp := partsFrom_all (cs := cs) (ns := [2, 3, 3, 18, 1]) (by rw [hlen]; kernel_rfl)
    refine ⟨⟨a0, a1, a2, a3, ⟨p4, l4, c4⟩⟩, z0, ?_, g4, q4⟩
    refine hp.trans ?_
    simp only [partsFrom]
    have hh := congr (congrArg HAppend.hAppend f0) (congr (congrArg HAppend.hAppend f1) (congr (congrArg HAppend.hAppend f2) (congr (congrArg HAppend.hAppend f3) (congr (congrArg HAppend.hAppend f4) (Eq.refl ([] : List Value))))))
    exact hh.trans (by kernel_rfl)
theorem cells35 : Try.prog.cellsOf 35 = 25 := by kernel_rfl
theorem cells33 : Try.prog.cellsOf 33 = 1 := by kernel_rfl
theorem openGReply (h : DataW.trod enc Try.prog w 0 spare held fuel 35 cs = some x) : ∃ (d : GReply) (y0 : List GKey), cs = GReply.cells d ∧ Imm (fun _ => none) w d.Keys.p d.Keys.l GKey.cells 2 y0 ∧ d.Keys.l ≤ d.Keys.c := by
  obtain ⟨xs, n, rfl, rfl, hlen, hxl, hf⟩ := DataW.trod_struct Try.underlying35 h
  match xs, hxl, hf with
  | [x0, x1, x2, x3, x4, x5], _, hf =>
    obtain ⟨a0, e0, _⟩ := DataW.trod_int Try.underlying3 ((hf 0 _ rfl : _ = some x0))
    have f0 : ((cs.drop 0).take (Try.prog.cellsOf 3)) = [.int .i64 a0] := e0
    rw [cells3] at f0
    obtain ⟨a1, e1⟩ := openGValue ((hf 1 _ rfl : _ = some x1))
    have f1 : ((cs.drop 1).take (Try.prog.cellsOf 27)) = GValue.cells a1 := e1
    rw [cells27] at f1
    obtain ⟨a2, e2, _⟩ := DataW.trod_bool Try.underlying4 ((hf 2 _ rfl : _ = some x2))
    have f2 : ((cs.drop 4).take (Try.prog.cellsOf 4)) = [.bool a2] := e2
    rw [cells4] at f2
    obtain ⟨a3, e3, _⟩ := DataW.trod_bool Try.underlying4 ((hf 3 _ rfl : _ = some x3))
    have f3 : ((cs.drop 5).take (Try.prog.cellsOf 4)) = [.bool a3] := e3
    rw [cells4] at f3
    obtain ⟨a4, e4⟩ := openGDesc ((hf 4 _ rfl : _ = some x4))
    have f4 : ((cs.drop 6).take (Try.prog.cellsOf 29)) = GDesc.cells a4 := e4
    rw [cells29] at f4
    obtain ⟨p5, l5, c5, z0, e5, g5, _, q5⟩ := open_imm (Q := fun _ => True) Try.underlying33 cells25 (by decide) (fun _ _ _ h => by obtain ⟨d, h⟩ := openGKey h; exact ⟨d, h, trivial⟩) ((hf 5 _ rfl : _ = some x5))
    have f5 : ((cs.drop 24).take (Try.prog.cellsOf 33)) = [.slice p5 l5 c5] := e5
    rw [cells33] at f5
    have hp := partsFrom_all (cs := cs) (ns := [1, 3, 1, 1, 18, 1]) (by rw [hlen]; kernel_rfl)
    refine ⟨⟨a0, a1, a2, a3, a4, ⟨p5, l5, c5⟩⟩, z0, ?_, g5, q5⟩
    refine hp.trans ?_
    simp only [partsFrom]
    have hh := congr (congrArg HAppend.hAppend f0) (congr (congrArg HAppend.hAppend f1) (congr (congrArg HAppend.hAppend f2) (congr (congrArg HAppend.hAppend f3) (congr (congrArg HAppend.hAppend f4) (congr (congrArg HAppend.hAppend f5) (Eq.refl ([] : List Value)))))))
    exact hh.trans (by kernel_rfl)
theorem cells37 : Try.prog.cellsOf 37 = 55 := by kernel_rfl
theorem openGSeen (h : DataW.trod enc Try.prog w 0 spare held fuel 37 cs = some x) : ∃ (d : GSeen) (y0 : List GValue) (y1 : List GKey), cs = GSeen.cells d ∧ Imm (fun _ => none) w d.Ask.List.p d.Ask.List.l GValue.cells 3 y0 ∧ d.Ask.List.l ≤ d.Ask.List.c ∧ Imm (fun _ => none) w d.Reply.Keys.p d.Reply.Keys.l GKey.cells 2 y1 ∧ d.Reply.Keys.l ≤ d.Reply.Keys.c := by
  obtain ⟨xs, n, rfl, rfl, hlen, hxl, hf⟩ := DataW.trod_struct Try.underlying37 h
  match xs, hxl, hf with
  | [x0, x1, x2, x3, x4], _, hf =>
    obtain ⟨a0, e0, _⟩ := DataW.trod_int Try.underlying3 ((hf 0 _ rfl : _ = some x0))
    have f0 : ((cs.drop 0).take (Try.prog.cellsOf 3)) = [.int .i64 a0] := e0
    rw [cells3] at f0
    obtain ⟨a1, e1, _⟩ := DataW.trod_int Try.underlying3 ((hf 1 _ rfl : _ = some x1))
    have f1 : ((cs.drop 1).take (Try.prog.cellsOf 3)) = [.int .i64 a1] := e1
    rw [cells3] at f1
    obtain ⟨a2, e2, _⟩ := DataW.trod_int Try.underlying3 ((hf 2 _ rfl : _ = some x2))
    have f2 : ((cs.drop 2).take (Try.prog.cellsOf 3)) = [.int .i64 a2] := e2
    rw [cells3] at f2
    obtain ⟨a3, z0, e3, g3_0, q3_0⟩ := openGAsk ((hf 3 _ rfl : _ = some x3))
    have f3 : ((cs.drop 3).take (Try.prog.cellsOf 32)) = GAsk.cells a3 := e3
    rw [cells32] at f3
    obtain ⟨a4, z1, e4, g4_0, q4_0⟩ := openGReply ((hf 4 _ rfl : _ = some x4))
    have f4 : ((cs.drop 30).take (Try.prog.cellsOf 35)) = GReply.cells a4 := e4
    rw [cells35] at f4
    have hp := partsFrom_all (cs := cs) (ns := [1, 1, 1, 27, 25]) (by rw [hlen]; kernel_rfl)
    refine ⟨⟨a0, a1, a2, a3, a4⟩, z0, z1, ?_, g3_0, q3_0, g4_0, q4_0⟩
    refine hp.trans ?_
    simp only [partsFrom]
    have hh := congr (congrArg HAppend.hAppend f0) (congr (congrArg HAppend.hAppend f1) (congr (congrArg HAppend.hAppend f2) (congr (congrArg HAppend.hAppend f3) (congr (congrArg HAppend.hAppend f4) (Eq.refl ([] : List Value))))))
    exact hh.trans (by kernel_rfl)
theorem cells60 : Try.prog.cellsOf 60 = 19 := by kernel_rfl
theorem openGTraceHeld (h : DataW.trod enc Try.prog w 0 spare held fuel 60 cs = some x) : ∃ (d : GTraceHeld), cs = GTraceHeld.cells d := by
  obtain ⟨xs, n, rfl, rfl, hlen, hxl, hf⟩ := DataW.trod_struct Try.underlying60 h
  match xs, hxl, hf with
  | [x0, x1], _, hf =>
    obtain ⟨a0, e0, _⟩ := DataW.trod_int Try.underlying3 ((hf 0 _ rfl : _ = some x0))
    have f0 : ((cs.drop 0).take (Try.prog.cellsOf 3)) = [.int .i64 a0] := e0
    rw [cells3] at f0
    obtain ⟨a1, e1⟩ := openGDesc ((hf 1 _ rfl : _ = some x1))
    have f1 : ((cs.drop 1).take (Try.prog.cellsOf 29)) = GDesc.cells a1 := e1
    rw [cells29] at f1
    have hp := partsFrom_all (cs := cs) (ns := [1, 18]) (by rw [hlen]; kernel_rfl)
    refine ⟨⟨a0, a1⟩, ?_⟩
    refine hp.trans ?_
    simp only [partsFrom]
    have hh := congr (congrArg HAppend.hAppend f0) (congr (congrArg HAppend.hAppend f1) (Eq.refl ([] : List Value)))
    exact hh.trans (by kernel_rfl)
theorem cells63 : Try.prog.cellsOf 63 = 2 := by kernel_rfl
theorem openGTraceTold (h : DataW.trod enc Try.prog w 0 spare held fuel 63 cs = some x) : ∃ (d : GTraceTold) (y0 : List GKey), cs = GTraceTold.cells d ∧ Imm (fun _ => none) w d.keys.p d.keys.l GKey.cells 2 y0 ∧ d.keys.l ≤ d.keys.c := by
  obtain ⟨xs, n, rfl, rfl, hlen, hxl, hf⟩ := DataW.trod_struct Try.underlying63 h
  match xs, hxl, hf with
  | [x0, x1], _, hf =>
    obtain ⟨a0, e0, _⟩ := DataW.trod_int Try.underlying3 ((hf 0 _ rfl : _ = some x0))
    have f0 : ((cs.drop 0).take (Try.prog.cellsOf 3)) = [.int .i64 a0] := e0
    rw [cells3] at f0
    obtain ⟨p1, l1, c1, z0, e1, g1, _, q1⟩ := open_imm (Q := fun _ => True) Try.underlying33 cells25 (by decide) (fun _ _ _ h => by obtain ⟨d, h⟩ := openGKey h; exact ⟨d, h, trivial⟩) ((hf 1 _ rfl : _ = some x1))
    have f1 : ((cs.drop 1).take (Try.prog.cellsOf 33)) = [.slice p1 l1 c1] := e1
    rw [cells33] at f1
    have hp := partsFrom_all (cs := cs) (ns := [1, 1]) (by rw [hlen]; kernel_rfl)
    refine ⟨⟨a0, ⟨p1, l1, c1⟩⟩, z0, ?_, g1, q1⟩
    refine hp.trans ?_
    simp only [partsFrom]
    have hh := congr (congrArg HAppend.hAppend f0) (congr (congrArg HAppend.hAppend f1) (Eq.refl ([] : List Value)))
    exact hh.trans (by kernel_rfl)
end
end Go.Proofs.Ytlfphbmbehbcjaa
