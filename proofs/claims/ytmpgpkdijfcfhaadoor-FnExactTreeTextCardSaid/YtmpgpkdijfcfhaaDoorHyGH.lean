/- Texts of the calculus and of the program's functions, merged: TS. -/
import Derived.Test.YtmpgpkdijfcfhaaDoorHyGC
/- Trees: the laws' helpers; two trees compared, both programs. -/
namespace Go.Proofs.YtmpgpkdijfcfhaaDoor.Hz
open Go.RowKit
set_option linter.unusedVariables false
set_option linter.unusedSimpArgs false
set_option maxRecDepth 20000
section
variable (es:List Item) (a:Option Addr) (F:List Nat) (w:Bool) (t:TypeId) (h:Hp) (hr:slR w t itemE h es a F)
include hr
theorem szTree_c (left:Int) (h1:0≤left) (h2:left≤1048576) (hl:es.length≤maxLen) (h3:∀ e∈es,e.path.length≤maxLen∧e.data.length≤maxLen) :
    ACall Tryd.prog 4 [.agg #[.slice a es.length es.length],.int .i64 left] h fun r h'=>(∃ t,h'=h++t)∧∃ n:Int,r=.int .i64 n∧n≤left∧(0≤n→es.length+sumL Item.nl es+n=left):=by
  refine acall mixed Tryd.func4 rfl (by kernel_rfl) ?_
  simp [Tryd.f4]
  refine callK0 (szItemS_c es a F w t left _ (hr.ext (Ext.push h _)) h1 h2 hl h3) ?_
  rintro _ _ ⟨⟨t1,rfl⟩,n,rfl,hn,he⟩
  simp
  refine asplitK_intro (fun hb=>?_) (fun hb=>?_) <;> simp at hb <;> simp [hb]
  · omega
  · exact ⟨hn,he hb⟩
theorem toTree_c (hl:es.length≤1048576) :
    ACall Tryd.prog 6 [.agg #[.slice a es.length es.length]] h fun r h'=>∃ a' F',r=.agg #[.slice a' es.length es.length]∧Own h 35 itemE h' es a' F':=by
  refine acall mixed Tryd.func6 rfl (by kernel_rfl) ?_
  simp [Tryd.f6]
  refine callK0 (toItemS_c es a F w t _ (hr.ext (Ext.push h _)) hl) ?_
  rintro _ H ⟨a',F',rfl,own⟩
  obtain ⟨t1,rfl⟩:=own.ext.pre
  simp
  exact ⟨F',own.locals [_,_,_] rfl⟩
end
section
variable (xs ys:List Item) (a b:Option Addr) (F G:List Nat) (w w':Bool) (t t':TypeId) (h:Hp) (hx:slR w t itemE h xs a F) (hy:slR w' t' itemE h ys b G) (hl:xs.length≤1048576)
include hx hy hl
theorem eqTree_c:ACall Tryd.prog 8 [.agg #[.slice a xs.length xs.length],.agg #[.slice b ys.length ys.length]] h fun r h'=>(∃ t,h'=h++t)∧r=.bool (decide (xs=ys)):=by
  refine acall mixed Tryd.func8 rfl (by kernel_rfl) ?_
  simp [Tryd.f8]
  refine callK0 (eqItemS_c xs ys a b F G w w' t t' _ (hx.ext (Ext.push h _)) (hy.ext (Ext.push h _)) hl) ?_
  rintro _ _ ⟨⟨t1,rfl⟩,rfl⟩
  simp
  refine asplitK_intro (fun hb=>?_) (fun hb=>?_) <;> simp at hb <;> simp [hb]
end
end Go.Proofs.YtmpgpkdijfcfhaaDoor.Hz
