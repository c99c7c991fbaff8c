/- Texts of the calculus and of the program's functions, merged: WK FW FX. -/
import Derived.Test.YtmpgpkdijfcfhaaHyGE
import Derived.Test.YtmpgpkdijfcfhaaHyGH
/- A file system that is right: what the two programs ask is the same. No program in sight. -/
namespace Go.Proofs.Ytmpgpkdijfcfhaa.Hz
open Go.RowKit
set_option linter.unusedVariables false
set_option linter.unusedSimpArgs false
set_option maxRecDepth 20000
def contentI (f:Fs) (i:Int):Str:=contentOf f (nodeAtI f i).blocks
def dirI (f:Fs) (i:Int):List Ent × Bool:=dirOf (contentI f i)
def at_ (s:List Int) (n:Int):Int:=(s[n.toNat]?).getD 0
def bump (s:List Int) (n:Int):List Int:=s.set n.toNat (at_ s n+1)
def lost (f:Fs) (e:Ent):Bool:=decide ((f.nodes.length:Int)≤e.node) || (nodeAtI f e.node).kind == 0
theorem at_bump {s:List Int} {n m:Int} (hn:0≤n) (hm:0≤m) (h:n.toNat<s.length):at_ (bump s n) m=if m=n then at_ s n+1 else at_ s m:=by
  unfold at_ bump
  rw [List.getElem?_set]
  by_cases e:m=n
  · subst e; simp [h,at_]
  · have:n.toNat≠m.toNat:=by omega
    simp [this,e]
theorem bump_len (s:List Int) (n:Int):(bump s n).length=s.length:=by simp [bump]
structure Rl (f:Fs) (T S:List Int):Prop where
  lt:T.length=f.nodes.length
  ls:S.length=f.nodes.length
  eq:∀ j:Int,0<j→at_ T j=at_ S j
  s0:at_ S 0=1
  t0:at_ T 0=0
  q:∀ j:Int,0≤j→j<f.nodes.length→at_ S j=0∨(at_ S j=1∧(nodeAtI f j).kind≠0)
def Met (f:Fs) (T:List Int):Prop:=∀ e r,(dirI f 0).1=e :: r→lost f e=false→0<at_ T e.node
theorem scan_pos (b:Str):∀ (fuel at_:Nat) (acc es:List Ent),(∀ e∈acc,0≤e.node)→scanF b fuel at_ acc=some es→∀ e∈es,0≤e.node
  | 0,_,_,_,_,h=>by cases h
  | fuel+1,at_,acc,es,h2,h=>by
    simp only [scanF] at h
    split at h
    · injection h with h; subst h; exact h2
    · split at h
      · cases h
      · split at h
        · cases h
        · refine scan_pos b fuel _ _ es (fun e he=>?_) h
          rcases List.mem_append.1 he with he | he
          · exact h2 e he
          · simp at he; subst he; simp
theorem dirOf_pos (b:Str):∀ e∈(dirOf b).1,0≤e.node:=by
  unfold dirOf
  split
  · simp
  · rename_i es h
    have:=scan_pos b _ 0 [] es (by simp) h
    split
    · exact this
    · simp
theorem Rl.bump {f:Fs} {T S:List Int} (r:Rl f T S) {n:Int} (hn:0<n) (hl:n<f.nodes.length) (hk:(nodeAtI f n).kind≠0) (hz:at_ T n=0):Rl f (bump T n) (bump S n):=by
  have e1:n.toNat<T.length:=by have:=r.lt; omega
  have e2:n.toNat<S.length:=by have:=r.ls; omega
  refine ⟨by rw [bump_len]; exact r.lt,by rw [bump_len]; exact r.ls,fun j hj=>?_,?_,?_,fun j hj hjl=>?_⟩
  · rw [at_bump (by omega) (by omega) e1,at_bump (by omega) (by omega) e2,r.eq j hj,r.eq n hn]
  · rw [at_bump (by omega) (by omega) e2,if_neg (by omega)]; exact r.s0
  · rw [at_bump (by omega) (by omega) e1,if_neg (by omega)]; exact r.t0
  · rw [at_bump (by omega) (by omega) e2]
    split
    · rename_i e; subst e
      rw [← r.eq _ hn,hz]
      exact .inr ⟨rfl,hk⟩
    · exact r.q j hj hjl
theorem Met.bump {f:Fs} {T:List Int} (m:Met f T) {n:Int} (hn:0≤n) (hl:n.toNat<T.length):Met f (bump T n):=by
  intro e r he hlo
  have h1:=m e r he hlo
  have hp:0≤e.node:=dirOf_pos _ e (by show e∈(dirI f 0).1; rw [he]; simp)
  rw [at_bump hn hp hl]
  split
  · rename_i h; rw [← h]; omega
  · exact h1
end Go.Proofs.Ytmpgpkdijfcfhaa.Hz
/- A file system that is right: the program's walk. -/
namespace Go.Proofs.Ytmpgpkdijfcfhaa.Hz
open Go.RowKit
set_option linter.unusedVariables false
set_option linter.unusedSimpArgs false
set_option maxRecDepth 20000
def Bits (s:List Int):Prop:=∀ x∈s,x=0∨x=1
theorem Bits.bump {s:List Int} (b:Bits s) {n:Int} (h:at_ s n=0):Bits (bump s n):=by
  intro x hx
  unfold Hz.bump at hx
  rcases List.mem_or_eq_of_mem_set hx with hx | rfl
  · exact b x hx
  · right; omega
end Go.Proofs.Ytmpgpkdijfcfhaa.Hz
/- A file system that is right: the reference's count,and FsOk,both programs. -/
namespace Go.Proofs.Ytmpgpkdijfcfhaa.Hz
open Go.RowKit
set_option linter.unusedVariables false
set_option linter.unusedSimpArgs false
set_option maxRecDepth 20000
end Go.Proofs.Ytmpgpkdijfcfhaa.Hz
