/- NodeMake and NodeDrop: both programs. -/
import Derived.Test.YtidkkmkihifeoaaHzFO
namespace Go.Proofs.Ytidkkmkihifeoaa.Hz
open Go.RowKit
set_option linter.unusedVariables false
set_option linter.unusedSimpArgs false
set_option maxRecDepth 20000

def freeAt (f : Fs) : Int := findI (fun n => n.kind == 0) f.nodes 0
noncomputable def nodeMake (f : Fs) (kind : Int) : Fs × Int × Bool :=
  if shapeOk f && inR kind 1 3 && decide (0 ≤ freeAt f) then (⟨f.nodes.set (freeAt f).toNat { nodeAtI f (freeAt f) with kind := kind }, f.data⟩, freeAt f, true) else (f, -1, false)
theorem sumL_set {α : Type} (g : α → Nat) : ∀ (xs : List α) (i : Nat) (hi : i < xs.length) (x : α), sumL g (xs.set i x) + g xs[i] = sumL g xs + g x
  | y :: xs, 0, _, x => by simp [sumL]; omega
  | y :: xs, i + 1, hi, x => by
    have := sumL_set g xs i (by simpa using hi) x
    simp [sumL]
    omega
theorem nodes_set_nl (f : Fs) (i : Nat) (hi : i < f.nodes.length) (x' : Node) (hx : Node.nl x' = Node.nl f.nodes[i]) : Fs.nl ⟨f.nodes.set i x', f.data⟩ ≤ f.nl := by
  have h1 := sumL_set Node.nl f.nodes _ hi x'
  have h3 : (f.nodes.set i x').length = f.nodes.length := List.length_set
  simp only [Fs.nl]
  omega
theorem nodeMake_nl (f : Fs) (kind : Int) : (nodeMake f kind).1.nl ≤ f.nl := by
  unfold nodeMake
  split
  · by_cases hi : (freeAt f).toNat < f.nodes.length
    · exact nodes_set_nl f _ hi _ (by simp [nodeAtI, hi, Node.nl])
    · rw [List.set_eq_of_length_le (by omega)]
      exact Nat.le_refl _
  · exact Nat.le_refl _
/-- What a call gives that returns an image. -/
def FsRes (f : Fs) (h h' : Hp) (v : Value) : Prop := ∃ b1 G1 b2 G2, v = .agg #[.slice b1 f.nodes.length f.nodes.length, .slice b2 f.data.length f.data.length] ∧ Own h 151 (nodeE true) h' f.nodes b1 G1 ∧ Own h 9 strE h' f.data b2 G2 ∧ ∀ q ∈ G1, q ∉ G2
theorem isKind_c (k : Int) (h : Hp) : ACall Try.prog 132 [.int .i64 k] h fun r h' => r = .bool (inR k 1 3) ∧ h' = h := by
  refine acall mixed Try.func132 rfl (by kernel_rfl) ?_
  simp [Try.f132]
  refine callK0 (withinR k 1 3 _) ?_
  rintro _ _ ⟨rfl, rfl⟩
  simp
theorem make1_c (x : Node) (b1 : Option Addr) (h : Hp) : ACall Try.prog 134 [.agg #[.int .i64 x.kind, .int .i64 x.gen, .int .i64 x.time, .int .i64 x.size, .slice b1 x.blocks.length x.blocks.length]] h fun r h' => (∃ t', h' = h ++ t') ∧ r = .bool (x.kind == 0) := by
  refine acall mixed Try.func134 rfl (by kernel_rfl) ?_
  simp [Try.f134]
theorem FsOut.res_ {f0 f : Fs} {a1 a2 an ad : Option Addr} {h H : Hp} {oi : Nat} (k : FsOut f0 a1 a2 h oi f an ad H) (v0 v1 : Value) (e0 : v0 = .slice an f.nodes.length f.nodes.length) (e1 : v1 = .slice ad f.data.length f.data.length) : FsRes f h (setsAt H (h.length + 1) 0 [v0, v1]) (.agg #[.slice an f.nodes.length f.nodes.length, .slice ad f.data.length f.data.length]) := by
  obtain ⟨-, -, -, G1, G2, o1, o2, d⟩ := k.done [v0, v1] rfl
  exact ⟨an, G1, ad, G2, rfl, o1, o2, d⟩
set_option maxHeartbeats 2000000 in
theorem nodeMake_impl_c (f : Fs) (a1 a2 : Option Addr) (F1 F2 : List Nat) (w : Bool) (tNode : TypeId) (h : Hp) (k1 : slR w tNode (nodeE w) h f.nodes a1 F1) (k2 : slR w 9 strE h f.data a2 F2) (hl : f.nl ≤ 1048576) (kind : Int) :
    ACall Try.prog 56 [.agg #[.slice a1 f.nodes.length f.nodes.length, .slice a2 f.data.length f.data.length], .int .i64 kind] h fun r h' => ∃ v, r = .tuple #[v, .int .i64 (nodeMake f kind).2.1, .bool (nodeMake f kind).2.2] ∧ FsRes (nodeMake f kind).1 h h' v := by
  refine acall mixed Try.func56 rfl (by kernel_rfl) ?_
  have hlim := Fs.lim_of f hl
  simp [Try.f56]
  refine callK0 (cloneFs_c f a1 a2 F1 F2 w w w tNode _ _ (k1.to (by simp)) (k2.to (by simp)) hlim.1 hlim.2.2 hlim.2.1) ?_
  rintro _ _ ⟨an, G1, ad, G2, rfl, o1, o2, dis⟩
  obtain ⟨u, rfl⟩ := o1.ext.pre
  simp at o1 o2
  have kk := FsOut.start o1 o2 dis
  simp
  generalize h.length + (u.length + 1 + 1) = oi at kk ⊢
  generalize (h ++ _ :: _ :: (u ++ _) : Hp) = H at kk ⊢
  refine callK0 (shapeOk_impl_c f a1 a2 F1 F2 w tNode _ (k1.ext kk.ext) (k2.ext kk.ext) hl) ?_
  rintro _ _ ⟨⟨t1, rfl⟩, rfl⟩
  replace kk := kk.grow t1
  generalize H ++ t1 = H at kk ⊢
  have cc := kk.cells
  have dn := kk.done [.slice an f.nodes.length f.nodes.length, .slice ad f.data.length f.data.length] rfl
  cases e1 : shapeOk f
  · have hd : nodeMake f kind = (f, -1, false) := by simp [nodeMake, e1]
    rw [hd]
    simp [cc, dn.1, dn.2.1, dn.2.2.1]
    exact kk.res_ _ _ rfl rfl
  simp
  refine callK0 (isKind_c kind _) ?_
  rintro _ H ⟨rfl, rfl⟩
  cases e2 : inR kind 1 3
  · have hd : nodeMake f kind = (f, -1, false) := by simp [nodeMake, e2]
    rw [hd]
    simp [cc, dn.1, dn.2.1, dn.2.2.1]
    exact kk.res_ _ _ rfl rfl
  simp [cc]
  clear dn
  refine callK0 (indexFuncNode_c f.nodes a1 F1 w tNode _ (k1.ext kk.ext) hlim.1 (fun n => n.kind == 0) 134 #[] (fun k hk b1 G1 t sl => make1_c _ b1 _)) ?_
  rintro _ _ ⟨⟨t2, rfl⟩, rfl⟩
  replace kk := kk.grow t2
  generalize H ++ t2 = H at kk ⊢
  clear cc
  have cc := kk.cells
  have dn := kk.done [.slice an f.nodes.length f.nodes.length, .slice ad f.data.length f.data.length] rfl
  have hfd : findI (fun n => n.kind == 0) f.nodes 0 = freeAt f := rfl
  rw [hfd]
  rcases findI_spec (fun n => n.kind == 0) f.nodes 0 with ⟨q1, q2⟩ | ⟨j, hj, q1, q2, q3⟩
  · have q1' : freeAt f = -1 := q1
    have hd : nodeMake f kind = (f, -1, false) := by simp [nodeMake, q1']
    rw [hd, q1']
    simp [cc, dn.1, dn.2.1, dn.2.2.1]
    exact kk.res_ _ _ rfl rfl
  · have q1' : freeAt f = (j : Int) := by rw [← hfd, q1]; simp
    have hd : nodeMake f kind = (⟨f.nodes.set j { f.nodes[j] with kind := kind }, f.data⟩, (j : Int), true) := by
      have := nodeAtI_get hj
      simp [nodeMake, q1', e1, e2, this]
    have hn : ¬ (j : Int) < 0 := by omega
    rw [hd, q1']
    clear dn
    obtain ⟨Fn, Fd, own, -⟩ := kk.own
    obtain ⟨o, off, b0, G0, rfl, -⟩ := nodeAt own.sl hj
    clear own
    obtain ⟨hc, kf⟩ := kk.field (List.getElem?_eq_getElem hj) 0 kind { f.nodes[j] with kind := kind } (by omega) rfl (fun _ => rfl)
    simp only [Nat.add_zero] at hc kf
    simp [hn, cc, hj, hc]
    generalize setsAt H o (off + j * 5) [Value.int IntKind.i64 kind] = H at kf ⊢
    have dn := kf.done [.slice (some ⟨o, off, none⟩) f.nodes.length f.nodes.length, .slice ad f.data.length f.data.length] rfl
    have cf := kf.cells
    simp at cf
    simp [cf, dn.1, dn.2.1, dn.2.2.1]
    simpa using kf.res_ (.slice (some ⟨o, off, none⟩) f.nodes.length f.nodes.length) (.slice ad f.data.length f.data.length) (by simp) rfl
set_option maxHeartbeats 2000000 in
theorem nodeMake_spec_c (f : Fs) (a1 a2 : Option Addr) (F1 F2 : List Nat) (w : Bool) (tNode : TypeId) (h : Hp) (k1 : slR w tNode (nodeE w) h f.nodes a1 F1) (k2 : slR w 9 strE h f.data a2 F2) (hl : f.nl ≤ 1048576) (kind : Int) :
    ACall Try.prog 55 [.agg #[.slice a1 f.nodes.length f.nodes.length, .slice a2 f.data.length f.data.length], .int .i64 kind] h fun r h' => ∃ v, r = .tuple #[v, .int .i64 (nodeMake f kind).2.1, .bool (nodeMake f kind).2.2] ∧ FsRes (nodeMake f kind).1 h h' v := by
  refine acall mixed Try.func55 rfl (by kernel_rfl) ?_
  have hlim := Fs.lim_of f hl
  have hM : f.nodes.length ≤ 1048576 := hlim.1
  simp [Try.f55]
  refine callK0 (l6Copy_c f a1 a2 F1 F2 w w w tNode _ _ (k1.to (by simp)) (k2.to (by simp)) hlim.1 hlim.2.2 hlim.2.1) ?_
  rintro _ _ ⟨an, G1, ad, G2, rfl, o1, o2, dis⟩
  obtain ⟨u, rfl⟩ := o1.ext.pre
  simp at o1 o2
  have kk := FsOut.start o1 o2 dis
  simp
  generalize h.length + (u.length + 1 + 1) = oi at kk ⊢
  generalize (h ++ _ :: _ :: (u ++ _) : Hp) = H at kk ⊢
  refine callK0 (shapeOk_spec_c f a1 a2 F1 F2 w tNode _ (k1.ext kk.ext) (k2.ext kk.ext) hl) ?_
  rintro _ _ ⟨⟨t1, rfl⟩, rfl⟩
  replace kk := kk.grow t1
  generalize H ++ t1 = H at kk ⊢
  have cc := kk.cells
  have dn := kk.done [.slice an f.nodes.length f.nodes.length, .slice ad f.data.length f.data.length] rfl
  cases e1 : shapeOk f
  · have hd : nodeMake f kind = (f, -1, false) := by simp [nodeMake, e1]
    rw [hd]
    simp [cc, dn.1, dn.2.1, dn.2.2.1]
    exact kk.res_ _ _ rfl rfl
  simp
  refine callK0 (l1InR kind 1 3 _) ?_
  rintro _ H ⟨rfl, rfl⟩
  cases e2 : inR kind 1 3
  · have hd : nodeMake f kind = (f, -1, false) := by simp [nodeMake, e2]
    rw [hd]
    simp [cc, dn.1, dn.2.1, dn.2.2.1]
    exact kk.res_ _ _ rfl rfl
  simp [cc]
  refine aloop mixed [1, 2, 4, 7, 8] (fun (k : Nat) => [.int .i64 kind, .pointer (some ⟨h.length, 0, none⟩), .pointer (some ⟨h.length + 1, 0, none⟩), .pointer (some ⟨oi, 0, none⟩), .int .i64 k]) (fun _ => H) (fun k => k ≤ f.nodes.length ∧ findI (fun n => n.kind == 0) (f.nodes.drop k) k = freeAt f) (fun k => f.nodes.length - k) 0 ⟨by omega, rfl⟩ rfl rfl ?_
  rintro j ⟨hk, he⟩
  simp [mkF, cc]
  refine asplitK_intro (fun hb => ?_) (fun hb => ?_) <;> simp at hb <;> simp [hb, cc]
  · obtain ⟨o, off, b1, G3, ea, c0, -⟩ := nodeAt (k1.ext kk.ext) hb
    subst ea
    rw [findI_drop _ f.nodes j hb] at he
    simp [hb, c0]
    refine asplitK_intro (fun hc => ?_) (fun hc => ?_) <;> (have hc' := hc; simp at hc; simp [hc, hc', cc])
    · have q1' : freeAt f = (j : Int) := by rw [← he]; simp [hc]
      have hd : nodeMake f kind = (⟨f.nodes.set j { f.nodes[j] with kind := kind }, f.data⟩, (j : Int), true) := by
        have := nodeAtI_get hb
        simp [nodeMake, q1', e1, e2, this]
      rw [hd]
      clear dn
      obtain ⟨Fn, Fd, own, -⟩ := kk.own
      obtain ⟨o, off, b0, G0, ea, -⟩ := nodeAt own.sl hb
      subst ea
      clear own
      obtain ⟨hcs, kf⟩ := kk.field (List.getElem?_eq_getElem hb) 0 kind { f.nodes[j] with kind := kind } (by omega) rfl (fun _ => rfl)
      simp only [Nat.add_zero] at hcs kf
      simp [cc, hb, hcs]
      generalize setsAt H o (off + j * 5) [Value.int IntKind.i64 kind] = H at kf ⊢
      have dn := kf.done [.slice (some ⟨o, off, none⟩) f.nodes.length f.nodes.length, .slice ad f.data.length f.data.length] rfl
      have cf := kf.cells
      simp at cf
      simp [cf, dn.1, dn.2.1, dn.2.2.1]
      simpa using kf.res_ (.slice (some ⟨o, off, none⟩) f.nodes.length f.nodes.length) (.slice ad f.data.length f.data.length) (by simp) rfl
    · rw [show (f.nodes[j].kind == 0) = false by simpa using hc] at he
      exact anext (j + 1) ⟨hb, by simpa using he⟩ (by omega) (by simp [pickF, wrap_succ (show j < 9223372036854775807 by omega)]) rfl (by simp)
  · obtain rfl : j = f.nodes.length := by omega
    simp [findI] at he
    have hd : nodeMake f kind = (f, -1, false) := by simp [nodeMake, ← he]
    rw [hd]
    simp [cc, dn.1, dn.2.1, dn.2.2.1]
    exact kk.res_ _ _ rfl rfl
end Go.Proofs.Ytidkkmkihifeoaa.Hz
