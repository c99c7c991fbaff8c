/- What is made. No program in sight. -/
import Derived.Test.YtmpgpkdijfcfhaaGreatHyZG
import Derived.Test.YtmpgpkdijfcfhaaGreatHyGT
namespace Go.Proofs.YtmpgpkdijfcfhaaGreat.Hz
open Go.RowKit
set_option linter.unusedVariables false
set_option linter.unusedSimpArgs false
set_option maxRecDepth 20000
structure Grew (f g:Fs) (q:List Str):Prop where
  len:g.nodes.length=f.nodes.length
  old:∀ ns,0≤follow f ns 0→follow g ns 0=follow f ns 0
  new:∀ ns,0≤follow g ns 0→follow f ns 0=follow g ns 0∨ns <+: q
  item:∀ ns,0≤follow f ns 0→∀ p,itemN g p (follow f ns 0)=itemN f p (follow f ns 0)
theorem Grew.refl (f:Fs) (q:List Str):Grew f f q:=⟨rfl,fun _ _=>rfl,fun _ _=>.inl rfl,fun _ _ _=>rfl⟩
theorem Grew.trans {f g h:Fs} {q r:List Str} (a:Grew f g q) (b:Grew g h r) (hq:q <+: r):Grew f h r:=by
  refine ⟨b.len.trans a.len,fun ns hn=>?_,fun ns hn=>?_,fun ns hn p=>?_⟩
  · have h1:=a.old ns hn
    rw [b.old ns (by omega),h1]
  · rcases b.new ns hn with h1 | h1
    · rcases a.new ns (by omega) with h2 | h2
      · exact .inl (h2.trans h1)
      · exact .inr (h2.trans hq)
    · exact .inr h1
  · have h1:=a.old ns hn
    have h2:=b.item ns (by omega) p
    rw [h1] at h2
    rw [h2,a.item ns hn p]
theorem names_split {p:Str} (hp:pathOk p=true) (hr:p≠[47]):names p=(names p).take ((names p).length - 1)++[last p]:=by
  have hpos:=names_pos hp hr
  rw [last_at p hpos]
  have h1:(names p).length - 1<(names p).length:=by omega
  have h2:=List.take_succ_eq_append_getElem h1
  rw [← h2,List.take_of_length_le (by omega)]
end Go.Proofs.YtmpgpkdijfcfhaaGreat.Hz
