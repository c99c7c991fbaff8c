/- What parameters that hold slices open to. -/
import Derived.Test.YtidkkmkihifeoaaHzPL
import Derived.Test.YtidkkmkihifeoaaHzX
namespace Go.Proofs.Ytidkkmkihifeoaa.Hz
open Go.RowKit
set_option linter.unusedVariables false
set_option linter.unusedSimpArgs false
set_option maxRecDepth 20000

theorem opn_node : Opn Try.prog 183 (nodeE false) Node.bd := by
  intro H enc W φ h fuel cs x R hx
  obtain ⟨hl, n, hf⟩ := trod_fields (l := [(3, 0), (3, 1), (3, 2), (3, 3), (135, 4)]) (by kernel_rfl) hx
  have hc : Try.prog.cellsOf 183 = 5 := by kernel_rfl
  have z0 : Try.prog.cellsOf 3 = 1 := by kernel_rfl
  have z1 : Try.prog.cellsOf 135 = 1 := by kernel_rfl
  obtain ⟨y0, hh0⟩ := hf 0 _ rfl
  obtain ⟨y1, hh1⟩ := hf 1 _ rfl
  obtain ⟨y2, hh2⟩ := hf 2 _ rfl
  obtain ⟨y3, hh3⟩ := hf 3 _ rfl
  obtain ⟨y4, hh4⟩ := hf 4 _ rfl
  simp only [z0, z1] at hh0 hh1 hh2 hh3 hh4
  obtain ⟨φ0, H0, ac0, d0, G0, p0, q0, R0, r0, e0, o0⟩ := (opn_int u_int) R hh0
  obtain ⟨φ1, H1, ac1, d1, G1, p1, q1, R1, r1, e1, o1⟩ := (opn_int u_int) R0 hh1
  obtain ⟨φ2, H2, ac2, d2, G2, p2, q2, R2, r2, e2, o2⟩ := (opn_int u_int) R1 hh2
  obtain ⟨φ3, H3, ac3, d3, G3, p3, q3, R3, r3, e3, o3⟩ := (opn_int u_int) R2 hh3
  obtain ⟨φ4, H4, ac4, d4, G4, p4, q4, R4, r4, e4, o4⟩ := (opn_slice (opn_int u_int) (by kernel_rfl) (by kernel_rfl) (by kernel_rfl) (by decide)) R3 hh4
  obtain ⟨rfl, rfl⟩ := e0
  obtain ⟨rfl, rfl⟩ := e1
  obtain ⟨rfl, rfl⟩ := e2
  obtain ⟨rfl, rfl⟩ := e3
  obtain ⟨a1, rfl, k1⟩ := e4
  have cut : cs = (cs.drop 0).take 1 ++ ((cs.drop 1).take 1 ++ ((cs.drop 2).take 1 ++ ((cs.drop 3).take 1 ++ ((cs.drop 4).take 1)))) := by
    match cs, hl.trans hc with
    | [v0, v1, v2, v3, v4], _ => rfl
  refine ⟨φ4, H4, _, ⟨d0, d1, d2, d3, d4⟩, G4, p0.trans (p1.trans (p2.trans (p3.trans (p4)))), q0.trans (q1.trans (q2.trans (q3.trans (q4)))), R4, ?_, (⟨_, _, rfl, rfl, k1⟩ : (nodeE false).R _ _ [.int .i64 d0, .int .i64 d1, .int .i64 d2, .int .i64 d3, .slice a1 d4.length d4.length] _), o4.1⟩
  rw [cut]
  exact All2.append (All2.mono (fun _ _ z => RelC.mono (p1.trans (p2.trans (p3.trans (p4)))) z) r0) (All2.append (All2.mono (fun _ _ z => RelC.mono (p2.trans (p3.trans (p4))) z) r1) (All2.append (All2.mono (fun _ _ z => RelC.mono (p3.trans (p4)) z) r2) (All2.append (All2.mono (fun _ _ z => RelC.mono (p4) z) r3) (r4))))
theorem opnV_node : OpnV Try.prog 183 (VS (nodeE false) Node.bd) := by
  obtain ⟨fs, h, _⟩ := fsOf_some (P := Try.prog) (t := 183) (l := [(3, 0), (3, 1), (3, 2), (3, 3), (135, 4)]) (by kernel_rfl)
  exact opnS opn_node h

theorem opn_fs : Opn Try.prog 71 (fsE false 183) Fs.bd := by
  intro H enc W φ h fuel cs x R hx
  obtain ⟨hl, n, hf⟩ := trod_fields (l := [(68, 0), (69, 1)]) (by kernel_rfl) hx
  have hc : Try.prog.cellsOf 71 = 2 := by kernel_rfl
  have z0 : Try.prog.cellsOf 68 = 1 := by kernel_rfl
  have z1 : Try.prog.cellsOf 69 = 1 := by kernel_rfl
  obtain ⟨y0, hh0⟩ := hf 0 _ rfl
  obtain ⟨y1, hh1⟩ := hf 1 _ rfl
  simp only [z0, z1] at hh0 hh1
  obtain ⟨φ0, H0, ac0, d0, G0, p0, q0, R0, r0, e0, o0⟩ := (opn_slice (opn_node) (by kernel_rfl) (by kernel_rfl) (by kernel_rfl) (by decide)) R hh0
  obtain ⟨φ1, H1, ac1, d1, G1, p1, q1, R1, r1, e1, o1⟩ := (opn_slice (opn_str u_str) (by kernel_rfl) (by kernel_rfl) (by kernel_rfl) (by decide)) R0 hh1
  obtain ⟨a1, rfl, k1⟩ := e0
  obtain ⟨a2, rfl, k2⟩ := e1
  have cut : cs = (cs.drop 0).take 1 ++ ((cs.drop 1).take 1) := by
    match cs, hl.trans hc with
    | [v0, v1], _ => rfl
  refine ⟨φ1, H1, _, ⟨d0, d1⟩, G0 ++ G1, p0.trans (p1), q0.trans (q1), R1, ?_, (⟨_, _, _, _, rfl, rfl, k1.pre q1, k2⟩ : (fsE false 183).R _ _ [.slice a1 d0.length d0.length, .slice a2 d1.length d1.length] _), ⟨o0.1, o0.2, o1.1, o1.2⟩⟩
  rw [cut]
  exact All2.append (All2.mono (fun _ _ z => RelC.mono (p1) z) r0) (r1)
theorem opnV_fs : OpnV Try.prog 71 (VS (fsE false 183) Fs.bd) := by
  obtain ⟨fs, h, _⟩ := fsOf_some (P := Try.prog) (t := 71) (l := [(68, 0), (69, 1)]) (by kernel_rfl)
  exact opnS opn_fs h

theorem opn_branch : Opn Try.prog 174 (branchE false 183) Branch.bd := by
  intro H enc W φ h fuel cs x R hx
  obtain ⟨hl, n, hf⟩ := trod_fields (l := [(3, 0), (71, 1)]) (by kernel_rfl) hx
  have hc : Try.prog.cellsOf 174 = 3 := by kernel_rfl
  have z0 : Try.prog.cellsOf 3 = 1 := by kernel_rfl
  have z1 : Try.prog.cellsOf 71 = 2 := by kernel_rfl
  obtain ⟨y0, hh0⟩ := hf 0 _ rfl
  obtain ⟨y1, hh1⟩ := hf 1 _ rfl
  simp only [z0, z1] at hh0 hh1
  obtain ⟨φ0, H0, ac0, d0, G0, p0, q0, R0, r0, e0, o0⟩ := (opn_int u_int) R hh0
  obtain ⟨φ1, H1, ac1, d1, G1, p1, q1, R1, r1, e1, o1⟩ := (opn_fs) R0 hh1
  obtain ⟨rfl, rfl⟩ := e0
  obtain ⟨a1, E1, a2, E2, rfl, rfl, k1, k2⟩ := e1
  have cut : cs = (cs.drop 0).take 1 ++ ((cs.drop 1).take 2) := by
    match cs, hl.trans hc with
    | [v0, v1, v2], _ => rfl
  refine ⟨φ1, H1, _, ⟨d0, d1⟩, E1 ++ E2, p0.trans (p1), q0.trans (q1), R1, ?_, (⟨_, _, _, _, rfl, rfl, k1, k2⟩ : (branchE false 183).R _ _ [.int .i64 d0, .slice a1 d1.nodes.length d1.nodes.length, .slice a2 d1.data.length d1.data.length] _), o1⟩
  rw [cut]
  exact All2.append (All2.mono (fun _ _ z => RelC.mono (p1) z) r0) (r1)
theorem opnV_branch : OpnV Try.prog 174 (VS (branchE false 183) Branch.bd) := by
  obtain ⟨fs, h, _⟩ := fsOf_some (P := Try.prog) (t := 174) (l := [(3, 0), (71, 1)]) (by kernel_rfl)
  exact opnS opn_branch h

theorem opn_move : Opn Try.prog 48 moveE Move.bd := by
  intro H enc W φ h fuel cs x R hx
  obtain ⟨hl, n, hf⟩ := trod_fields (l := [(4, 0), (4, 1), (3, 2), (3, 3), (9, 4), (3, 5), (3, 6)]) (by kernel_rfl) hx
  have hc : Try.prog.cellsOf 48 = 7 := by kernel_rfl
  have z0 : Try.prog.cellsOf 4 = 1 := by kernel_rfl
  have z1 : Try.prog.cellsOf 3 = 1 := by kernel_rfl
  have z2 : Try.prog.cellsOf 9 = 1 := by kernel_rfl
  obtain ⟨y0, hh0⟩ := hf 0 _ rfl
  obtain ⟨y1, hh1⟩ := hf 1 _ rfl
  obtain ⟨y2, hh2⟩ := hf 2 _ rfl
  obtain ⟨y3, hh3⟩ := hf 3 _ rfl
  obtain ⟨y4, hh4⟩ := hf 4 _ rfl
  obtain ⟨y5, hh5⟩ := hf 5 _ rfl
  obtain ⟨y6, hh6⟩ := hf 6 _ rfl
  simp only [z0, z1, z2] at hh0 hh1 hh2 hh3 hh4 hh5 hh6
  obtain ⟨φ0, H0, ac0, d0, G0, p0, q0, R0, r0, e0, o0⟩ := (opn_bool u_bool) R hh0
  obtain ⟨φ1, H1, ac1, d1, G1, p1, q1, R1, r1, e1, o1⟩ := (opn_bool u_bool) R0 hh1
  obtain ⟨φ2, H2, ac2, d2, G2, p2, q2, R2, r2, e2, o2⟩ := (opn_int u_int) R1 hh2
  obtain ⟨φ3, H3, ac3, d3, G3, p3, q3, R3, r3, e3, o3⟩ := (opn_int u_int) R2 hh3
  obtain ⟨φ4, H4, ac4, d4, G4, p4, q4, R4, r4, e4, o4⟩ := (opn_str u_str) R3 hh4
  obtain ⟨φ5, H5, ac5, d5, G5, p5, q5, R5, r5, e5, o5⟩ := (opn_int u_int) R4 hh5
  obtain ⟨φ6, H6, ac6, d6, G6, p6, q6, R6, r6, e6, o6⟩ := (opn_int u_int) R5 hh6
  obtain ⟨rfl, rfl⟩ := e0
  obtain ⟨rfl, rfl⟩ := e1
  obtain ⟨rfl, rfl⟩ := e2
  obtain ⟨rfl, rfl⟩ := e3
  obtain ⟨rfl, rfl⟩ := e4
  obtain ⟨rfl, rfl⟩ := e5
  obtain ⟨rfl, rfl⟩ := e6
  have cut : cs = (cs.drop 0).take 1 ++ ((cs.drop 1).take 1 ++ ((cs.drop 2).take 1 ++ ((cs.drop 3).take 1 ++ ((cs.drop 4).take 1 ++ ((cs.drop 5).take 1 ++ ((cs.drop 6).take 1)))))) := by
    match cs, hl.trans hc with
    | [v0, v1, v2, v3, v4, v5, v6], _ => rfl
  refine ⟨φ6, H6, _, ⟨d0, d1, d2, d3, d4, d5, d6⟩, [], p0.trans (p1.trans (p2.trans (p3.trans (p4.trans (p5.trans (p6)))))), q0.trans (q1.trans (q2.trans (q3.trans (q4.trans (q5.trans (q6)))))), R6, ?_, (⟨rfl, rfl⟩ : moveE.R _ _ [.bool d0, .bool d1, .int .i64 d2, .int .i64 d3, .string (S d4), .int .i64 d5, .int .i64 d6] _), o4⟩
  rw [cut]
  exact All2.append (All2.mono (fun _ _ z => RelC.mono (p1.trans (p2.trans (p3.trans (p4.trans (p5.trans (p6)))))) z) r0) (All2.append (All2.mono (fun _ _ z => RelC.mono (p2.trans (p3.trans (p4.trans (p5.trans (p6))))) z) r1) (All2.append (All2.mono (fun _ _ z => RelC.mono (p3.trans (p4.trans (p5.trans (p6)))) z) r2) (All2.append (All2.mono (fun _ _ z => RelC.mono (p4.trans (p5.trans (p6))) z) r3) (All2.append (All2.mono (fun _ _ z => RelC.mono (p5.trans (p6)) z) r4) (All2.append (All2.mono (fun _ _ z => RelC.mono (p6) z) r5) (r6))))))
theorem opnV_move : OpnV Try.prog 48 (VS moveE Move.bd) := by
  obtain ⟨fs, h, _⟩ := fsOf_some (P := Try.prog) (t := 48) (l := [(4, 0), (4, 1), (3, 2), (3, 3), (9, 4), (3, 5), (3, 6)]) (by kernel_rfl)
  exact opnS opn_move h

theorem opn_pool : Opn Try.prog 50 (poolE false 174 183) Pool.bd := by
  intro H enc W φ h fuel cs x R hx
  obtain ⟨hl, n, hf⟩ := trod_fields (l := [(3, 0), (3, 1), (46, 2), (48, 3)]) (by kernel_rfl) hx
  have hc : Try.prog.cellsOf 50 = 10 := by kernel_rfl
  have z0 : Try.prog.cellsOf 3 = 1 := by kernel_rfl
  have z1 : Try.prog.cellsOf 46 = 1 := by kernel_rfl
  have z2 : Try.prog.cellsOf 48 = 7 := by kernel_rfl
  obtain ⟨y0, hh0⟩ := hf 0 _ rfl
  obtain ⟨y1, hh1⟩ := hf 1 _ rfl
  obtain ⟨y2, hh2⟩ := hf 2 _ rfl
  obtain ⟨y3, hh3⟩ := hf 3 _ rfl
  simp only [z0, z1, z2] at hh0 hh1 hh2 hh3
  obtain ⟨φ0, H0, ac0, d0, G0, p0, q0, R0, r0, e0, o0⟩ := (opn_int u_int) R hh0
  obtain ⟨φ1, H1, ac1, d1, G1, p1, q1, R1, r1, e1, o1⟩ := (opn_int u_int) R0 hh1
  obtain ⟨φ2, H2, ac2, d2, G2, p2, q2, R2, r2, e2, o2⟩ := (opn_slice (opn_branch) (by kernel_rfl) (by kernel_rfl) (by kernel_rfl) (by decide)) R1 hh2
  obtain ⟨φ3, H3, ac3, d3, G3, p3, q3, R3, r3, e3, o3⟩ := (opn_move) R2 hh3
  obtain ⟨rfl, rfl⟩ := e0
  obtain ⟨rfl, rfl⟩ := e1
  obtain ⟨a1, rfl, k1⟩ := e2
  obtain ⟨rfl, rfl⟩ := e3
  have cut : cs = (cs.drop 0).take 1 ++ ((cs.drop 1).take 1 ++ ((cs.drop 2).take 1 ++ ((cs.drop 3).take 7))) := by
    match cs, hl.trans hc with
    | [v0, v1, v2, v3, v4, v5, v6, v7, v8, v9], _ => rfl
  refine ⟨φ3, H3, _, ⟨d0, d1, d2, d3⟩, G2, p0.trans (p1.trans (p2.trans (p3))), q0.trans (q1.trans (q2.trans (q3))), R3, ?_, (⟨_, _, rfl, rfl, k1.pre q3⟩ : (poolE false 174 183).R _ _ [.int .i64 d0, .int .i64 d1, .slice a1 d2.length d2.length, .bool d3.on, .bool d3.clean, .int .i64 d3.src, .int .i64 d3.dst, .string (S d3.path), .int .i64 d3.gen, .int .i64 d3.done] _), ⟨o2.1, o2.2, o3⟩⟩
  rw [cut]
  exact All2.append (All2.mono (fun _ _ z => RelC.mono (p1.trans (p2.trans (p3))) z) r0) (All2.append (All2.mono (fun _ _ z => RelC.mono (p2.trans (p3)) z) r1) (All2.append (All2.mono (fun _ _ z => RelC.mono (p3) z) r2) (r3)))
theorem opnV_pool : OpnV Try.prog 50 (VS (poolE false 174 183) Pool.bd) := by
  obtain ⟨fs, h, _⟩ := fsOf_some (P := Try.prog) (t := 50) (l := [(3, 0), (3, 1), (46, 2), (48, 3)]) (by kernel_rfl)
  exact opnS opn_pool h
end Go.Proofs.Ytidkkmkihifeoaa.Hz
