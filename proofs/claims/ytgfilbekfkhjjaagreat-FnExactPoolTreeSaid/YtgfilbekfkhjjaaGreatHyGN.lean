/- Texts of the calculus and of the program's functions, merged: SP SE. -/
import Derived.Test.YtgfilbekfkhjjaaGreatHyGK
import Derived.Test.YtgfilbekfkhjjaaGreatHyGI
import Derived.Test.YtgfilbekfkhjjaaGreatHyGM
/- A node is stamped; FsSet: both programs. -/
namespace Go.Proofs.YtgfilbekfkhjjaaGreat.Hz
open Go.RowKit
set_option linter.unusedVariables false
set_option linter.unusedSimpArgs false
set_option maxRecDepth 20000

theorem FsOut.startG {f0 g : Fs} {a1 a2 an ad : Option Addr} {h : Hp} {u : Hp} {F1 F2 : List Nat}
    (o1 : Own (h ++ [⟨true, true, 33, [.slice a1 f0.nodes.length f0.nodes.length, .slice a2 f0.data.length f0.data.length]⟩, ⟨true, true, 33, [.slice none 0 0, .slice none 0 0]⟩]) 101 (nodeE true) (h ++ ⟨true, true, 33, [.slice a1 f0.nodes.length f0.nodes.length, .slice a2 f0.data.length f0.data.length]⟩ :: ⟨true, true, 33, [.slice none 0 0, .slice none 0 0]⟩ :: u) g.nodes an F1)
    (o2 : Own (h ++ [⟨true, true, 33, [.slice a1 f0.nodes.length f0.nodes.length, .slice a2 f0.data.length f0.data.length]⟩, ⟨true, true, 33, [.slice none 0 0, .slice none 0 0]⟩]) 9 strE (h ++ ⟨true, true, 33, [.slice a1 f0.nodes.length f0.nodes.length, .slice a2 f0.data.length f0.data.length]⟩ :: ⟨true, true, 33, [.slice none 0 0, .slice none 0 0]⟩ :: u) g.data ad F2)
    (dis : ∀ q ∈ F1, q ∉ F2) :
    FsOut f0 a1 a2 h (h.length + (u.length + 1 + 1)) g an ad (h ++ ⟨true, true, 33, [.slice a1 f0.nodes.length f0.nodes.length, .slice a2 f0.data.length f0.data.length]⟩ :: ⟨true, true, 33, [.slice none 0 0, .slice none 0 0]⟩ :: (u ++ [⟨true, true, 33, [.slice an g.nodes.length g.nodes.length, .slice ad g.data.length g.data.length]⟩])) where
  ext := Ext.push _ _
  box := by simp
  res := ⟨.slice none 0 0, .slice none 0 0, by simp⟩
  out := by
    rw [List.getElem?_append_right (by omega)]
    simp
  oi2 := by omega
  own := by
    have e0 : Ext h (h ++ [⟨true, true, 33, [.slice a1 f0.nodes.length f0.nodes.length, .slice a2 f0.data.length f0.data.length]⟩, ⟨true, true, 33, [.slice none 0 0, .slice none 0 0]⟩]) := Ext.push _ _
    have p1 := (Own.of_new e0 o1).grow (Ext.push _ [⟨true, true, 33, [.slice an g.nodes.length g.nodes.length, .slice ad g.data.length g.data.length]⟩])
    have p2 := (Own.of_new e0 o2).grow (Ext.push _ [⟨true, true, 33, [.slice an g.nodes.length g.nodes.length, .slice ad g.data.length g.data.length]⟩])
    refine ⟨F1, F2, by simpa using p1, by simpa using p2, fun q hq => ?_, fun q hq => ?_⟩
    · have h1 := o1.new q hq
      have h2 := o1.sl.lt q hq
      simp at h1 h2
      exact ⟨by omega, by omega, dis q hq⟩
    · have h1 := o2.new q hq
      have h2 := o2.sl.lt q hq
      simp at h1 h2
      exact ⟨by omega, by omega⟩
def stamped (f : Fs) (i : Nat) (t g : Int) : Fs := ⟨f.nodes.set i { nodeAtI f i with gen := g, time := t }, f.data⟩
theorem stamped_nl (f : Fs) (i : Nat) (t g : Int) : (stamped f i t g).nl ≤ f.nl := by
  by_cases hi : i < f.nodes.length
  · exact nodes_set_nl f i hi _ (by simp [nodeAtI, hi, Node.nl])
  · unfold stamped
    rw [List.set_eq_of_length_le (by omega)]
    exact Nat.le_refl _
/-- Both fields are turned. -/
theorem FsOut.stamp {f0 f : Fs} {a1 a2 ad : Option Addr} {h H : Hp} {oi o off : Nat} (k : FsOut f0 a1 a2 h oi f (some ⟨o, off, none⟩) ad H) {i : Nat} (hi : i < f.nodes.length) (t g : Int) :
    canSet H o (off + i * 5 + 2) 1 = true ∧ canSet (setsAt H o (off + i * 5 + 2) [.int .i64 t]) o (off + i * 5 + 1) 1 = true ∧ FsOut f0 a1 a2 h oi (stamped f i t g) (some ⟨o, off, none⟩) ad (setsAt (setsAt H o (off + i * 5 + 2) [.int .i64 t]) o (off + i * 5 + 1) [.int .i64 g]) := by
  obtain ⟨c1, k1⟩ := k.field (i := i) (x := f.nodes[i]) (List.getElem?_eq_getElem hi) 2 t { f.nodes[i] with time := t } (by omega) rfl (fun _ => rfl)
  obtain ⟨c2, k2⟩ := k1.field (i := i) (x := { f.nodes[i] with time := t }) (by simp [hi]) 1 g { f.nodes[i] with gen := g, time := t } (by omega) rfl (fun _ => rfl)
  refine ⟨c1, c2, ?_⟩
  simp only [List.set_set] at k2
  unfold stamped
  rw [nodeAtI_get hi]
  exact k2
section
variable (f : Fs) (a1 a2 : Option Addr) (F1 F2 : List Nat) (w : Bool) (tNode : TypeId) (h : Hp) (k1 : slR w tNode (nodeE w) h f.nodes a1 F1) (k2 : slR w 9 strE h f.data a2 F2) (hl : f.nl ≤ 1048576)
include k1 k2 hl
end
end Go.Proofs.YtgfilbekfkhjjaaGreat.Hz
/- FsSet: both programs. -/
namespace Go.Proofs.YtgfilbekfkhjjaaGreat.Hz
open Go.RowKit
set_option linter.unusedVariables false
set_option linter.unusedSimpArgs false
set_option maxRecDepth 20000

theorem FsRes.grow {f : Fs} {h h' : Hp} {v : Value} (k : FsRes f h h' v) (l : Hp) : FsRes f h (h' ++ l) v := by
  obtain ⟨b1, G1, b2, G2, rfl, o1, o2, dis⟩ := k
  exact ⟨b1, G1, b2, G2, rfl, o1.grow (Ext.push _ l), o2.grow (Ext.push _ l), dis⟩
noncomputable def fsSet (f : Fs) (p data : Str) (t g : Int) : Fs × Int :=
  if (fsOk f && inR t 0 100000 && inR g 0 1000000) = false then (f, 10) else if pathOk p = false then (f, 1) else if walk f p < 0 then (f, 2)
  else if (nodeAtI f (walk f p)).kind = 2 then (f, 4) else if 80 < data.length then (f, 9)
  else if (nodeWrite f (walk f p) data).2 then (stamped (nodeWrite f (walk f p) data).1 (walk f p).toNat t g, 0) else (f, 5)
theorem fsSet_nl (f : Fs) (p data : Str) (t g : Int) (h : f.nl ≤ 1048576) : (fsSet f p data t g).1.nl ≤ 1048576 := by
  unfold fsSet
  repeat' split
  all_goals first | exact h | exact Nat.le_trans (stamped_nl _ _ _ _) (nodeWrite_nl _ _ _ h)
theorem nodeWrite_kind (f : Fs) (i : Nat) (hi : i < f.nodes.length) (data : Str) : (nodeAtI (nodeWrite f i data).1 (i : Int)).kind = (nodeAtI f (i : Int)).kind ∧ (nodeWrite f (i : Int) data).1.nodes.length = f.nodes.length := by
  unfold nodeWrite
  split
  · simp [written, nodeAtI, hi]
  · exact ⟨rfl, rfl⟩
section
variable (f : Fs) (a1 a2 : Option Addr) (F1 F2 : List Nat) (w : Bool) (tNode : TypeId) (h : Hp) (k1 : slR w tNode (nodeE w) h f.nodes a1 F1) (k2 : slR w 9 strE h f.data a2 F2) (hl : f.nl ≤ 1048576) (p data : Str) (t g : Int) (hp : p.length ≤ 1048576) (hdl : data.length ≤ 1048576)
include k1 k2 hl hp hdl
end
end Go.Proofs.YtgfilbekfkhjjaaGreat.Hz
