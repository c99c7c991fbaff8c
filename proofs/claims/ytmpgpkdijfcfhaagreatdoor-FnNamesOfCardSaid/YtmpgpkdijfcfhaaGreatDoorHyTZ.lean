/- A law that leans on a table of the library: its frame; a tree whose items' times are 64-bit. -/
import Derived.Test.YtmpgpkdijfcfhaaGreatDoorHyGC
import Derived.Test.YtmpgpkdijfcfhaaGreatDoorHyTT
import Derived.Lib.LaidTab
namespace Go.Proofs.YtmpgpkdijfcfhaaGreatDoor.Hz
open Go.RowKit
set_option linter.unusedVariables false
set_option linter.unusedSimpArgs false
set_option maxRecDepth 20000
theorem tabOk_of {P:Program} {W:World} (h:Lib.TabIs P W "internal/strconv.uint64pow10" .u64 Lib.pow10Tab):TabOk P ⟨W.heap.size,[]⟩ W:=by
  intro _ w k
  unfold Lib.TabIs at h ⊢
  unfold World.var? at h ⊢
  cases hg:P.globalNamed "internal/strconv.uint64pow10" with
  | none=>rw [hg] at h; cases h
  | some g =>
    rw [hg] at h
    simp only [Option.bind_some] at h ⊢
    have hs:g<W.heap.size:=by
      cases e:W.heap[g]? with
      | none=>rw [e] at h; cases h
      | some x=>exact (Array.getElem?_eq_some_iff.1 e).1
    rw [k.below.block g hs]
    exact h
section
variable {P:Program}
theorem law_callsT {s:ChangeSpec} {f:FuncId} {fn:Func} {c:Code} {Vs:List (Hp→Value→Prop)} {tb:TypeId} (hf:P.funcs[f]?=some fn) (hb:fn.body=some c) (hn:(fn.name == "runtime.NumGoroutine")=false)
    (hl:laidOutB P=true) (ho:All2 (OpnV P) fn.params.toList Vs) (hread:fn.params.toList.all (fun t=>P.readableRec t && decide (t<P.types.size))=true) (hvars:s.vars=[]) (hres:fn.resultTypes=#[tb]) (htb:P.underlying tb=some .bool)
    (hspec:∀ (H:Type) (ds:List (DataW H)),ds.length=fn.params.toList.length→s.fn H ds={ results:=[.lit (.bool true)],args:=ds })
    (contract:∀ h avs,All2 (fun V av=>V h av) Vs avs→ACall P f avs h fun r _=>r=.bool true)
    {H:Type} {enc:TypeId × Value→H} {W:World} {base:Nat} {args:Array Value} {ds gs:List (DataW H)} {before:List MemPlace}
    (hval:∀ (j:Nat) t v,fn.params[j]?=some t→args[j]?=some v→Value.okWide P W .any base t v)
    (hW:DataW.Whole enc P fn.params.toList s.vars false W args.toList ds gs before) (htab:TabOk P ⟨W.heap.size,[]⟩ W):Calls P f args W fun e W'=>∃ v,e=.returned v∧s.post enc P fn false true false false W args v W':=by
  have hW':=hW
  obtain ⟨p,q,hA,hV,rfl,hfz,hnd⟩:=hW
  rw [hvars] at hV
  obtain ⟨rfl,rfl⟩:=Go.ChangeShapes.trodVars_none hV
  have R0:Rel P ⟨W.heap.size,[]⟩ W [] [] W:=⟨Kept.refl _ _,⟨Nat.le_refl _,fun _ h=>(by cases h),htab⟩,rfl,fun o ob p ho=>by simp at ho,fun o ob p ho=>by simp at ho,fun o o' ob ob' p p' ho=>by simp at ho⟩
  obtain ⟨hlen,φ,h,avs,_,_,R,k1,k2⟩:=opn_all ho R0 hA fun j t v ht hv=>⟨.any,base,hval j t v (by simpa using ht) (by simpa using hv)⟩
  refine ((contract h avs k2).calls hf hb hn R k1).mono fun e W' he=>?_
  obtain ⟨v',rfl,φ',v,h',_,R',rv,rfl⟩:=he
  have hv':v'=.bool true:=by simpa [RelV,RelV1,RelC,RelC0] using rv
  subst hv'
  have bel:Below W.heap.size W W':=R'.below.below
  refine ⟨_,rfl,ds,[],p++[],[],p,[],hW',?_,?_,?_,bel.frame _,fun hh=>by cases hh⟩
  · rw [List.append_nil,hspec H ds hlen,hres]
    exact Go.ChangeShapes.trodAll_mk1 (shut_bool htb _)
  · rw [List.append_nil,hspec H ds hlen]
    exact trod_kept hl bel (fun t ht=>by simpa using (List.all_eq_true.1 hread) t ht) hA fun x hx=>by simpa using hW'.lt x (by simpa using hx)
  · rw [List.append_nil,hspec H ds hlen,hvars]
    rfl
end
end Go.Proofs.YtmpgpkdijfcfhaaGreatDoor.Hz
