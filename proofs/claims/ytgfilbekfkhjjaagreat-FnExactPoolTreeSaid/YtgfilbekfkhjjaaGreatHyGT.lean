/- Texts of the calculus and of the program's functions, merged: MA MB MC. -/
import Derived.Test.YtgfilbekfkhjjaaGreatHyGR
import Derived.Test.YtgfilbekfkhjjaaGreatHyGO
import Derived.Test.YtgfilbekfkhjjaaGreatHyGN
/- FsMake: what it gives, and a stamp on a directory. -/
namespace Go.Proofs.YtgfilbekfkhjjaaGreat.Hz
open Go.RowKit
set_option linter.unusedVariables false
set_option linter.unusedSimpArgs false
set_option maxRecDepth 20000

def makeBad (f : Fs) (kind : Int) (data : Str) (t g : Int) : Prop := (fsOk f && inR kind 1 3 && inR t 0 100000 && inR g 0 1000000) = false ∨ (kind = 2 ∧ (data ≠ [] ∨ t ≠ 0 ∨ g ≠ 0))
noncomputable def mkC (f : Fs) (p : Str) : Fs × Int × Int := climbS f ((names p).take ((names p).length - 1)) 0
noncomputable def mkG (f : Fs) (p : Str) (kind : Int) : Fs × Int × Bool := growS (mkC f p).1 (mkC f p).2.1 (last p) kind
noncomputable def mkW (f : Fs) (p : Str) (kind : Int) (data : Str) : Fs × Bool := nodeWrite (mkG f p kind).1 (mkG f p kind).2.1 data
open Classical in
noncomputable def fsMake (f : Fs) (p : Str) (kind : Int) (data : Str) (t g : Int) : Fs × Int :=
  if makeBad f kind data t g then (f, 10) else if pathOk p = false ∨ p = [47] then (f, 1) else if 80 < data.length then (f, 9) else if 0 ≤ walk f p then (f, 3)
  else if (mkC f p).2.2 = 0 then (if (mkG f p kind).2.2 then (if (mkW f p kind data).2 then (stamped (mkW f p kind data).1 (mkG f p kind).2.1.toNat t g, 0) else (f, 5)) else (f, 5)) else (f, (mkC f p).2.2)
theorem mkC_shape {f : Fs} (e1 : fsOk f = true) (p : Str) : ShapeOk (mkC f p).1 := climbS_shape _ (fsOk_shape e1) _
theorem mkC_good {f : Fs} (e1 : fsOk f = true) (p : Str) (h : (mkC f p).2.2 = 0) : Good (mkC f p).1 (mkC f p).2.1 ∧ (nodeAtI (mkC f p).1 (mkC f p).2.1).kind = 2 := climbS_good _ (fsOk_shape e1) (okd_root e1).good h
theorem mkG_shape {f : Fs} (e1 : fsOk f = true) (p : Str) (kind : Int) : ShapeOk (mkG f p kind).1 := growS_shape (mkC_shape e1 p) _ _ _
theorem mkG_fresh {f : Fs} (e1 : fsOk f = true) (p : Str) (kind : Int) (h : (mkC f p).2.2 = 0) (hg : (mkG f p kind).2.2 = true) : ∃ m : Nat, (mkG f p kind).2.1 = m ∧ Fresh (mkG f p kind).1 m kind := by
  obtain ⟨gd, k2⟩ := mkC_good e1 p h
  obtain ⟨d, hd⟩ := Int.eq_ofNat_of_zero_le gd.lt.1
  have hlt : d < (mkC f p).1.nodes.length := by have := gd.lt.2; omega
  unfold mkG at hg ⊢
  rw [hd] at hg k2 ⊢
  obtain ⟨m, e, -, fr, -⟩ := growS_fresh (mkC_shape e1 p) hlt (by rw [k2]; decide) hg
  exact ⟨m, e, fr⟩
theorem fsMake_nl (f : Fs) (p : Str) (kind : Int) (data : Str) (t g : Int) (h : f.nl ≤ 1048576) : (fsMake f p kind data t g).1.nl ≤ 1048576 := by
  unfold fsMake
  split
  · exact h
  rename_i e1
  have e1' : fsOk f = true := by
    cases hf : fsOk f
    · exact absurd (.inl (by simp [hf])) e1
    · rfl
  repeat' split
  all_goals first | exact h | (refine Nat.le_trans (stamped_nl _ _ _ _) (nodeWrite_nl _ _ _ ?_); have := (mkG_shape e1' p kind).small.nl; omega)
theorem stamped_self {f : Fs} {m : Nat} (hm : m < f.nodes.length) (hg : (nodeAtI f (m : Int)).gen = 0) (ht : (nodeAtI f (m : Int)).time = 0) : stamped f m 0 0 = f := by
  unfold stamped
  rw [nodeAtI_get hm] at hg ht ⊢
  have : ({ f.nodes[m] with gen := 0, time := 0 } : Node) = f.nodes[m] := by
    cases hx : f.nodes[m]
    rw [hx] at hg ht
    simp only at hg ht
    rw [hg, ht]
  rw [this, List.set_getElem_self]
/-- What a written node still is. -/
theorem nodeWrite_node (f : Fs) (m : Nat) (hm : m < f.nodes.length) (data : Str) : (nodeAtI (nodeWrite f (m : Int) data).1 (m : Int)).kind = (nodeAtI f (m : Int)).kind ∧ (nodeAtI (nodeWrite f (m : Int) data).1 (m : Int)).gen = (nodeAtI f (m : Int)).gen ∧ (nodeAtI (nodeWrite f (m : Int) data).1 (m : Int)).time = (nodeAtI f (m : Int)).time ∧ (nodeWrite f (m : Int) data).1.nodes.length = f.nodes.length := by
  unfold nodeWrite
  split
  · simp [written, nodeAtI, hm]
  · exact ⟨rfl, rfl, rfl, rfl⟩
section
variable (f : Fs) (a1 a2 : Option Addr) (F1 F2 : List Nat) (w : Bool) (tNode : TypeId) (h : Hp) (k1 : slR w tNode (nodeE w) h f.nodes a1 F1) (k2 : slR w 9 strE h f.data a2 F2) (hl : f.nl ≤ 1048576)
include k1 k2 hl
end
end Go.Proofs.YtgfilbekfkhjjaaGreat.Hz
/- FsMake: both programs. -/
namespace Go.Proofs.YtgfilbekfkhjjaaGreat.Hz
open Go.RowKit
set_option linter.unusedVariables false
set_option linter.unusedSimpArgs false
set_option maxRecDepth 20000

section
variable (f : Fs) (a1 a2 : Option Addr) (F1 F2 : List Nat) (w : Bool) (tNode : TypeId) (h : Hp) (k1 : slR w tNode (nodeE w) h f.nodes a1 F1) (k2 : slR w 9 strE h f.data a2 F2) (hl : f.nl ≤ 1048576) (p : Str) (kind : Int) (data : Str) (t g : Int) (hp : p.length ≤ 1048576) (hdl : data.length ≤ 1048576)
include k1 k2 hl hp hdl
end
end Go.Proofs.YtgfilbekfkhjjaaGreat.Hz
/- FsMake: the reference. -/
namespace Go.Proofs.YtgfilbekfkhjjaaGreat.Hz
open Go.RowKit
set_option linter.unusedVariables false
set_option linter.unusedSimpArgs false
set_option maxRecDepth 20000

section
variable (f : Fs) (a1 a2 : Option Addr) (F1 F2 : List Nat) (w : Bool) (tNode : TypeId) (h : Hp) (k1 : slR w tNode (nodeE w) h f.nodes a1 F1) (k2 : slR w 9 strE h f.data a2 F2) (hl : f.nl ≤ 1048576) (p : Str) (kind : Int) (data : Str) (t g : Int) (hp : p.length ≤ 1048576) (hdl : data.length ≤ 1048576)
include k1 k2 hl hp hdl
end
end Go.Proofs.YtgfilbekfkhjjaaGreat.Hz
