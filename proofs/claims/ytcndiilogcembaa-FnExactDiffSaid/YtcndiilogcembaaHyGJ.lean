/- Texts of the calculus and of the program's functions, merged: PL XN. -/
import Derived.Test.YtcndiilogcembaaHyGD
import Derived.Test.YtcndiilogcembaaHyGC
/- Branches, moves and pools: the laws' helpers. -/
namespace Go.Proofs.Ytcndiilogcembaa.Hz
open Go.RowKit
set_option linter.unusedVariables false
set_option linter.unusedSimpArgs false
set_option maxRecDepth 20000

structure Branch where
  mode : Int
  fs : Fs
  deriving DecidableEq
def Branch.nl (x : Branch) : Nat := x.fs.nl
def Branch.bd (x : Branch) : Prop := x.fs.bd
def Branch.lim (x : Branch) : Prop := x.fs.lim
def branchE (w : Bool) (tNode : TypeId) : Enc Branch where
  n := 3
  R h x cs F := ∃ a1 F1 a2 F2, cs = [.int .i64 x.mode, .slice a1 x.fs.nodes.length x.fs.nodes.length, .slice a2 x.fs.data.length x.fs.data.length] ∧ F = F1 ++ F2 ∧ slR w tNode (nodeE w) h x.fs.nodes a1 F1 ∧ slR w 9 strE h x.fs.data a2 F2
  len := by rintro h x cs F ⟨a1, F1, a2, F2, rfl, _⟩; rfl
  ok := by rintro h x cs F ⟨a1, F1, a2, F2, rfl, _⟩; rfl
  frame := by rintro h h' x cs F ⟨a1, F1, a2, F2, rfl, rfl, k1, k2⟩ hf; exact ⟨a1, _, a2, _, rfl, rfl, k1.frame fun q hq => hf q (by simp [hq]), k2.frame fun q hq => hf q (by simp [hq])⟩
  lt := by
    rintro h x cs F ⟨a1, F1, a2, F2, rfl, rfl, k1, k2⟩ q hq
    simp only [List.mem_append] at hq
    rcases hq with hq | hq
    · exact k1.lt q hq
    · exact k2.lt q hq

theorem Branch.lim_of (x : Branch) (h : x.nl ≤ 1048576) : x.lim := Fs.lim_of _ (by simp only [Branch.nl] at h; omega)
theorem branchR {h : Hp} {w : Bool} {x : Branch} {tNode : TypeId} {a1 a2 : Option Addr} {F : List Nat} (k : (branchE w tNode).R h x [.int .i64 x.mode, .slice a1 x.fs.nodes.length x.fs.nodes.length, .slice a2 x.fs.data.length x.fs.data.length] F) : ∃ F1 F2, slR w tNode (nodeE w) h x.fs.nodes a1 F1 ∧ slR w 9 strE h x.fs.data a2 F2 ∧ F = F1 ++ F2 := by
  obtain ⟨b1, F1, b2, F2, e, e2, k1, k2⟩ := k
  simp at e
  obtain ⟨rfl, rfl⟩ := e
  exact ⟨F1, F2, k1, k2, e2⟩

theorem branchAt {h : Hp} {w : Bool} {t tNode : TypeId} {es : List Branch} {a : Option Addr} {F : List Nat} (k : slR w t (branchE w tNode) h es a F) {i : Nat} (hi : i < es.length) : ∃ o off b1 G1 b2 G2, a = some ⟨o, off, none⟩ ∧ cellAt h o (off + i * 3) = some (.int .i64 es[i].mode) ∧ cellAt h o (off + i * 3 + 1) = some (.slice b1 es[i].fs.nodes.length es[i].fs.nodes.length) ∧ cellAt h o (off + i * 3 + 2) = some (.slice b2 es[i].fs.data.length es[i].fs.data.length) ∧ slR w tNode (nodeE w) h es[i].fs.nodes b1 G1 ∧ slR w 9 strE h es[i].fs.data b2 G2 ∧ (∀ q ∈ G1, q ∈ F) ∧ (∀ q ∈ G2, q ∈ F) := by
  obtain ⟨o, off, c, Fi, rfl, ⟨b1, G1, b2, G2, rfl, rfl, k1, k2⟩, hq, hc⟩ := k.at_ (List.getElem?_eq_getElem hi)
  exact ⟨o, off, b1, _, b2, _, rfl, hc 0 (by show _ < 3; omega), hc 1 (by show _ < 3; omega), hc 2 (by show _ < 3; omega), k1, k2, fun q hq' => hq q (by simp [hq']), fun q hq' => hq q (by simp [hq'])⟩

structure Move where
  on : Bool
  clean : Bool
  src : Int
  dst : Int
  path : Str
  gen : Int
  done : Int
  deriving DecidableEq
def Move.nl (x : Move) : Nat := x.path.length
def Move.bd (x : Move) : Prop := x.path.length ≤ maxLen
def Move.cs (e : Move) : List Value := [.bool e.on, .bool e.clean, .int .i64 e.src, .int .i64 e.dst, .string (S e.path), .int .i64 e.gen, .int .i64 e.done]
def Move.v (e : Move) : Value := .agg #[.bool e.on, .bool e.clean, .int .i64 e.src, .int .i64 e.dst, .string (S e.path), .int .i64 e.gen, .int .i64 e.done]
def moveE : Enc Move := flatE 7 Move.cs (fun _ => rfl) (fun _ => rfl)

structure Pool where
  policy : Int
  minFree : Int
  branches : List Branch
  move : Move
  deriving DecidableEq
def Pool.nl (x : Pool) : Nat := x.branches.length + sumL Branch.nl x.branches + x.move.nl
def Pool.bd (x : Pool) : Prop := x.branches.length ≤ maxLen ∧ (∀ y ∈ x.branches, y.bd) ∧ x.move.bd
def Pool.lim (x : Pool) : Prop := x.branches.length ≤ 1048576 ∧ (∀ y ∈ x.branches, y.lim)
def poolE (w : Bool) (tBranch tNode : TypeId) : Enc Pool where
  n := 10
  R h x cs F := ∃ a1 F1, cs = [.int .i64 x.policy, .int .i64 x.minFree, .slice a1 x.branches.length x.branches.length, .bool x.move.on, .bool x.move.clean, .int .i64 x.move.src, .int .i64 x.move.dst, .string (S x.move.path), .int .i64 x.move.gen, .int .i64 x.move.done] ∧ F = F1 ∧ slR w tBranch (branchE w tNode) h x.branches a1 F1
  len := by rintro h x cs F ⟨a1, F1, rfl, _⟩; rfl
  ok := by rintro h x cs F ⟨a1, F1, rfl, _⟩; rfl
  frame := by rintro h h' x cs F ⟨a1, F1, rfl, rfl, k1⟩ hf; exact ⟨a1, _, rfl, rfl, k1.frame fun q hq => hf q (by simp [hq])⟩
  lt := by rintro h x cs F ⟨a1, F1, rfl, rfl, k1⟩ q hq; exact k1.lt q hq

theorem Pool.lim_of (x : Pool) (h : x.nl ≤ 1048576) : x.lim := ⟨show x.branches.length ≤ 1048576 by simp only [Pool.nl] at h; omega, fun y hy => Branch.lim_of y (by have := sumL_mem Branch.nl hy; simp only [Pool.nl] at h; omega)⟩
theorem poolR {h : Hp} {w : Bool} {x : Pool} {tBranch tNode : TypeId} {a1 : Option Addr} {F : List Nat} (k : (poolE w tBranch tNode).R h x [.int .i64 x.policy, .int .i64 x.minFree, .slice a1 x.branches.length x.branches.length, .bool x.move.on, .bool x.move.clean, .int .i64 x.move.src, .int .i64 x.move.dst, .string (S x.move.path), .int .i64 x.move.gen, .int .i64 x.move.done] F) : ∃ F1, slR w tBranch (branchE w tNode) h x.branches a1 F1 ∧ F = F1 := by
  obtain ⟨b1, F1, e, e2, k1⟩ := k
  simp at e
  obtain rfl := e
  exact ⟨F1, k1, e2⟩

end Go.Proofs.Ytcndiilogcembaa.Hz
/- What parameters that hold slices open to. -/
namespace Go.Proofs.Ytcndiilogcembaa.Hz
open Go.RowKit
set_option linter.unusedVariables false
set_option linter.unusedSimpArgs false
set_option maxRecDepth 20000

theorem opn_node : Opn Try.prog 115 (nodeE false) Node.bd := by
  intro H enc W φ h fuel cs x R hx
  obtain ⟨hl, n, hf⟩ := trod_fields (l := [(3, 0), (3, 1), (3, 2), (3, 3), (81, 4)]) (by kernel_rfl) hx
  have hc : Try.prog.cellsOf 115 = 5 := by kernel_rfl
  have z0 : Try.prog.cellsOf 3 = 1 := by kernel_rfl
  have z1 : Try.prog.cellsOf 81 = 1 := by kernel_rfl
  obtain ⟨y0, hh0⟩ := hf 0 _ rfl
  obtain ⟨y1, hh1⟩ := hf 1 _ rfl
  obtain ⟨y2, hh2⟩ := hf 2 _ rfl
  obtain ⟨y3, hh3⟩ := hf 3 _ rfl
  obtain ⟨y4, hh4⟩ := hf 4 _ rfl
  simp only [z0, z1] at hh0 hh1 hh2 hh3 hh4
  obtain ⟨φ0, H0, ac0, d0, G0, p0, q0, R0, r0, e0, o0⟩ := (opn_int u_int) R hh0
  obtain ⟨φ1, H1, ac1, d1, G1, p1, q1, R1, r1, e1, o1⟩ := (opn_int u_int) R0 hh1
  obtain ⟨φ2, H2, ac2, d2, G2, p2, q2, R2, r2, e2, o2⟩ := (opn_int u_int) R1 hh2
  obtain ⟨φ3, H3, ac3, d3, G3, p3, q3, R3, r3, e3, o3⟩ := (opn_int u_int) R2 hh3
  obtain ⟨φ4, H4, ac4, d4, G4, p4, q4, R4, r4, e4, o4⟩ := (opn_slice (opn_int u_int) (by kernel_rfl) (by kernel_rfl) (by kernel_rfl) (by decide)) R3 hh4
  obtain ⟨rfl, rfl⟩ := e0
  obtain ⟨rfl, rfl⟩ := e1
  obtain ⟨rfl, rfl⟩ := e2
  obtain ⟨rfl, rfl⟩ := e3
  obtain ⟨a1, rfl, k1⟩ := e4
  have cut : cs = (cs.drop 0).take 1 ++ ((cs.drop 1).take 1 ++ ((cs.drop 2).take 1 ++ ((cs.drop 3).take 1 ++ ((cs.drop 4).take 1)))) := by
    match cs, hl.trans hc with
    | [v0, v1, v2, v3, v4], _ => rfl
  refine ⟨φ4, H4, _, ⟨d0, d1, d2, d3, d4⟩, G4, p0.trans (p1.trans (p2.trans (p3.trans (p4)))), q0.trans (q1.trans (q2.trans (q3.trans (q4)))), R4, ?_, (⟨_, _, rfl, rfl, k1⟩ : (nodeE false).R _ _ [.int .i64 d0, .int .i64 d1, .int .i64 d2, .int .i64 d3, .slice a1 d4.length d4.length] _), o4.1⟩
  rw [cut]
  exact All2.append (All2.mono (fun _ _ z => RelC.mono (p1.trans (p2.trans (p3.trans (p4)))) z) r0) (All2.append (All2.mono (fun _ _ z => RelC.mono (p2.trans (p3.trans (p4))) z) r1) (All2.append (All2.mono (fun _ _ z => RelC.mono (p3.trans (p4)) z) r2) (All2.append (All2.mono (fun _ _ z => RelC.mono (p4) z) r3) (r4))))
theorem opnV_node : OpnV Try.prog 115 (VS (nodeE false) Node.bd) := by
  obtain ⟨fs, h, _⟩ := fsOf_some (P := Try.prog) (t := 115) (l := [(3, 0), (3, 1), (3, 2), (3, 3), (81, 4)]) (by kernel_rfl)
  exact opnS opn_node h

theorem opn_fs : Opn Try.prog 45 (fsE false 115) Fs.bd := by
  intro H enc W φ h fuel cs x R hx
  obtain ⟨hl, n, hf⟩ := trod_fields (l := [(42, 0), (43, 1)]) (by kernel_rfl) hx
  have hc : Try.prog.cellsOf 45 = 2 := by kernel_rfl
  have z0 : Try.prog.cellsOf 42 = 1 := by kernel_rfl
  have z1 : Try.prog.cellsOf 43 = 1 := by kernel_rfl
  obtain ⟨y0, hh0⟩ := hf 0 _ rfl
  obtain ⟨y1, hh1⟩ := hf 1 _ rfl
  simp only [z0, z1] at hh0 hh1
  obtain ⟨φ0, H0, ac0, d0, G0, p0, q0, R0, r0, e0, o0⟩ := (opn_slice (opn_node) (by kernel_rfl) (by kernel_rfl) (by kernel_rfl) (by decide)) R hh0
  obtain ⟨φ1, H1, ac1, d1, G1, p1, q1, R1, r1, e1, o1⟩ := (opn_slice (opn_str u_str) (by kernel_rfl) (by kernel_rfl) (by kernel_rfl) (by decide)) R0 hh1
  obtain ⟨a1, rfl, k1⟩ := e0
  obtain ⟨a2, rfl, k2⟩ := e1
  have cut : cs = (cs.drop 0).take 1 ++ ((cs.drop 1).take 1) := by
    match cs, hl.trans hc with
    | [v0, v1], _ => rfl
  refine ⟨φ1, H1, _, ⟨d0, d1⟩, G0 ++ G1, p0.trans (p1), q0.trans (q1), R1, ?_, (⟨_, _, _, _, rfl, rfl, k1.pre q1, k2⟩ : (fsE false 115).R _ _ [.slice a1 d0.length d0.length, .slice a2 d1.length d1.length] _), ⟨o0.1, o0.2, o1.1, o1.2⟩⟩
  rw [cut]
  exact All2.append (All2.mono (fun _ _ z => RelC.mono (p1) z) r0) (r1)
theorem opnV_fs : OpnV Try.prog 45 (VS (fsE false 115) Fs.bd) := by
  obtain ⟨fs, h, _⟩ := fsOf_some (P := Try.prog) (t := 45) (l := [(42, 0), (43, 1)]) (by kernel_rfl)
  exact opnS opn_fs h

end Go.Proofs.Ytcndiilogcembaa.Hz
