/- Room and winners of a pool. No program in sight. -/
import Derived.Test.YtmpgpkdijfcfhaaGreatHyQF
import Derived.Test.YtmpgpkdijfcfhaaGreatHyHG
import Derived.Test.YtmpgpkdijfcfhaaGreatHyHB
namespace Go.Proofs.YtmpgpkdijfcfhaaGreat.Hz
open Go.RowKit
set_option linter.unusedVariables false
set_option linter.unusedSimpArgs false
set_option maxRecDepth 20000
def sumB:List Node→Int
  | []=>0
  | n :: ns=>blocksFor n.size+sumB ns
theorem sumB_app:∀ (a b:List Node),sumB (a++b)=sumB a+sumB b
  | [],b=>by simp [sumB]
  | n :: a,b=>by
    show blocksFor n.size+sumB (a++b)=blocksFor n.size+sumB a+sumB b
    rw [sumB_app a b]; omega
theorem sumB_take (ns:List Node) (i:Nat) (hi:i<ns.length):sumB (ns.take (i+1))=sumB (ns.take i)+blocksFor ns[i].size:=by
  rw [List.take_succ_eq_append_getElem hi,sumB_app]
  simp [sumB]
theorem sumB_held:∀ ns:List Node,(∀ n∈ns,nodeOk n=true)→sumB ns=((held ns).length:Int)
  | [],_=>rfl
  | n :: ns,h=>by
    have h1:=sumB_held ns fun x hx=>h x (by simp [hx])
    have h2:=nodeOk_iff.1 (h n (by simp))
    have h3:((held (n :: ns)).length:Int)=n.blocks.length+(held ns).length:=by simp [held]
    have h4:(n.blocks.length:Int)=blocksFor n.size:=by
      rcases h2 with ⟨-,-,-,h5,h6⟩ | h2
      · rw [h5,h6]; rfl
      · exact h2.2.2.2.2.2.2.1
    show blocksFor n.size+sumB ns=_
    omega
theorem room_fs {f:Fs} (s:ShapeOk f):freeOf f+sumB f.nodes=(f.data.length:Int):=by
  rw [sumB_held f.nodes s.ok]
  unfold freeOf
  rw [if_pos (shapeOk_t s)]
  omega
def sumUp (g:Branch→Int):List Branch→Int
  | []=>0
  | b :: bs=>sumUp g bs+g b
theorem sumUp_take (g:Branch→Int) (bs:List Branch) (i:Nat) (hi:i<bs.length):sumUp g (bs.take (i+1)).reverse=sumUp g (bs.take i).reverse+g bs[i]:=by
  rw [List.take_succ_eq_append_getElem hi,List.reverse_append]
  rfl
theorem room_all:∀ bs:List Branch,(∀ b∈bs,ShapeOk b.fs)→freeUp bs+sumUp (fun b=>sumB b.fs.nodes) bs=sumUp (fun b=>(b.fs.data.length:Int)) bs
  | [],_=>rfl
  | b :: bs,h=>by
    have h1:=room_all bs fun x hx=>h x (by simp [hx])
    have h2:=room_fs (h b (by simp))
    show freeUp bs+freeOf b.fs+(sumUp (fun b=>sumB b.fs.nodes) bs+sumB b.fs.nodes)=sumUp (fun b=>(b.fs.data.length:Int)) bs+(b.fs.data.length:Int)
    omega
theorem poolOk_fsOk {x:Pool} (h:poolOk x=true):∀ b∈x.branches,fsOk b.fs=true:=fun b hb=>by
  unfold poolOk at h
  simp only [Bool.and_eq_true,List.all_eq_true] at h
  have:=h.1.2 b hb
  unfold brOk at this
  simp only [Bool.and_eq_true] at this
  exact this.2
theorem room_law {x:Pool} (h:poolOk x=true):poolFree x+sumUp (fun b=>sumB b.fs.nodes) x.branches.reverse=sumUp (fun b=>(b.fs.data.length:Int)) x.branches.reverse:=by
  unfold poolFree
  rw [if_pos h]
  exact room_all _ fun b hb=>fsOk_shape (poolOk_fsOk h b (by simpa using hb))
end Go.Proofs.YtmpgpkdijfcfhaaGreat.Hz
