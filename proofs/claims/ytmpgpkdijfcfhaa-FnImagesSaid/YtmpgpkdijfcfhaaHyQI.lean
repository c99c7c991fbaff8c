/- A path of a tree leads to its node, and each node that a path leads to has an item. No program in sight. -/
import Derived.Test.YtmpgpkdijfcfhaaHyHF
import Derived.Test.YtmpgpkdijfcfhaaHyGY
namespace Go.Proofs.Ytmpgpkdijfcfhaa.Hz
open Go.RowKit
set_option linter.unusedVariables false
set_option linter.unusedSimpArgs false
def itemN (f:Fs) (p:Str) (n:Int):Item:=⟨p,(nA_ f n).kind,if (nA_ f n).kind=2 then [] else contentI f n,if (nA_ f n).kind=2 then 0 else (nA_ f n).time⟩
theorem dirFind_name {es:List Ent} (h:es.Pairwise fun a b=>a.name≠b.name):∀ e∈es,dirFind es e.name=e.node:=by
  induction es with
  | nil=>intro e he; cases he
  | cons y ys ih =>
    intro e he
    rw [List.pairwise_cons] at h
    unfold dirFind
    rcases List.mem_cons.1 he with rfl | he
    · rw [if_pos rfl]
    · rw [if_neg (fun hn=>h.1 e he hn)]
      exact ih h.2 e he
theorem dirFind_ent {es:List Ent} {n:Str} (h:0≤dirFind es n):∃ e∈es,e.name=n∧dirFind es n=e.node:=by
  induction es with
  | nil=>simp [dirFind] at h
  | cons y ys ih =>
    unfold dirFind at h ⊢
    by_cases hn:y.name=n
    · rw [if_pos hn]
      exact ⟨y,by simp,hn,rfl⟩
    · rw [if_neg hn] at h ⊢
      obtain ⟨e,he,h1,h2⟩:=ih h
      exact ⟨e,by simp [he],h1,h2⟩
theorem vis_names {f:Fs} {k:Nat} {i:Int} (v:Vis f k i):(dirI f i).1.Pairwise fun a b=>a.name≠b.name:=by
  have h:=ok_ord (dirI_two v.read).1
  refine List.Pairwise.imp (fun {a b} hl e=>?_) h
  rw [e,less_irr] at hl
  cases hl.1
theorem not_tilde {s:Str} (h:nameOk s=true):s≠[126]:=by
  rintro rfl
  revert h
  decide
theorem items_follow {f:Fs}:∀ (k:Nat) (i:Int) (ns:List Str),Vis f k i→(nA_ f i).kind=2→∀ x∈itemsOf f k i ns,∃ ms:List Str,1≤ms.length∧ms.length≤k∧ms.all nameOk=true∧0≤follow f ms i∧x=itemN f (pathOf (ns++ms)) (follow f ms i)
  | 0,i,ns,_,_,x,hx=>by simp [itemsOf] at hx
  | k+1,i,ns,v,hk,x,hx=>by
    have hu:=vis_names v
    simp only [itemsOf,itemsL,List.mem_flatten,List.mem_map] at hx
    obtain ⟨l,⟨e,he,rfl⟩,hx⟩:=hx
    obtain ⟨j,hj,hp,hlt,hrec⟩:=v.step he
    have hj':j=k:=by omega
    subst hj'
    unfold itemsE at hx
    split at hx
    · cases hx
    rename_i hne
    have hok:=nameH_ok ((ok_all (dirI_two v.read).1 e he).1) hne
    have hf:=dirFind_name hu e he
    have hfo:∀ ms,follow f (e.name :: ms) i=follow f ms e.node:=fun ms=>by
      show (if (nA_ f i).kind=2 then _ else _)=_
      rw [if_pos hk,hf,if_neg (by omega)]
    rcases List.mem_cons.1 hx with rfl | hx
    · refine ⟨[e.name],by simp,by simp,by simp [hok],?_,?_⟩
      · rw [hfo]; exact hp
      · rw [hfo]; rfl
    · split at hx
      · rename_i hk2
        obtain ⟨ms,p2,p3,p4,p5,p6⟩:=items_follow j e.node (ns++[e.name]) (hrec hk2) hk2 x hx
        refine ⟨e.name :: ms,by simp,by simp; omega,by simp [hok]; simpa using p4,?_,?_⟩
        · rw [hfo]; exact p5
        · rw [hfo,p6]; simp
      · cases hx
theorem follow_item {f:Fs}:∀ (ms:List Str) (k:Nat) (i:Int) (ns:List Str),Vis f k i→ms≠[]→ms.all nameOk=true→0≤follow f ms i→itemN f (pathOf (ns++ms)) (follow f ms i)∈itemsOf f k i ns
  | [],k,i,ns,_,h,_,_=>absurd rfl h
  | n :: ms,k,i,ns,v,_,ha,h0=>by
    have hfo:follow f (n :: ms) i=if (nA_ f i).kind=2 then (if dirFind (dirI f i).1 n<0 then -1 else follow f ms (dirFind (dirI f i).1 n)) else -1:=rfl
    have hk:(nA_ f i).kind=2:=by
      by_cases hk:(nA_ f i).kind=2
      · exact hk
      · rw [hfo,if_neg hk] at h0; omega
    rw [if_pos hk] at hfo
    have hd:¬ dirFind (dirI f i).1 n<0:=by
      intro hd
      rw [hfo,if_pos hd] at h0; omega
    rw [if_neg hd] at hfo
    obtain ⟨e,he,hn,hde⟩:=dirFind_ent (Int.not_lt.1 hd)
    rw [hde] at hfo
    obtain ⟨j,hj,hp,hlt,hrec⟩:=v.step he
    subst hj
    have han:nameOk n=true∧ms.all nameOk=true:=by simpa using ha
    have hne:e.name≠[126]:=by rw [hn]; exact not_tilde han.1
    simp only [itemsOf,itemsL,List.mem_flatten,List.mem_map]
    refine ⟨_,⟨e,he,rfl⟩,?_⟩
    unfold itemsE
    rw [if_neg hne,hfo]
    rw [hfo] at h0
    cases ms with
    | nil =>
      rw [← hn]
      exact List.mem_cons_self
    | cons m ms =>
      have hk2:(nA_ f e.node).kind=2:=by
        by_cases hk2:(nA_ f e.node).kind=2
        · exact hk2
        · have:follow f (m :: ms) e.node=-1:=by
            show (if (nA_ f e.node).kind=2 then _ else _)=_
            rw [if_neg hk2]
          rw [this] at h0; omega
      rw [if_pos hk2]
      have:=follow_item (m :: ms) j e.node (ns++[e.name]) (hrec hk2) (by simp) han.2 h0
      rw [List.append_assoc,hn] at this
      rw [hn]
      exact List.mem_cons_of_mem _ this
theorem root_kind {f:Fs} (h:fsOk f=true):(nA_ f 0).kind=2:=by
  have sh:=fsOk_shape h
  obtain ⟨h1,h2⟩:=shape_root sh
  exact h1
theorem walk_of {f:Fs} (h:fsOk f=true) {ms:List Str} (hl:ms.length≤4) (ha:ms.all nameOk=true):walk f (pathOf ms)=follow f ms 0:=by
  obtain ⟨h1,h2⟩:=pathOf_names hl ha
  simp [walk,h,h1,h2]
theorem tree_walk {f:Fs} {x:Item} (hx:x∈tI_ f):0≤walk f x.path∧x=itemN f x.path (walk f x.path):=by
  cases e1:fsOk f
  · simp [tI_,e1] at hx
  obtain ⟨ms,p1,p2,p3,p4,p5⟩:=items_follow 4 0 [] (vis_root e1) (root_kind e1) x ((tree_mem e1 x).1 hx)
  simp only [List.nil_append] at p5
  have hp:x.path=pathOf ms:=by rw [p5]; rfl
  rw [hp,walk_of e1 p2 p3]
  exact ⟨p4,p5⟩
theorem walk_tree {f:Fs} {ms:List Str} (h1:1≤ms.length) (h2:ms.length≤4) (ha:ms.all nameOk=true) (hw:0≤walk f (pathOf ms)):itemN f (pathOf ms) (walk f (pathOf ms))∈tI_ f:=by
  have e1:fsOk f=true:=by
    cases e1:fsOk f
    · simp [walk,e1] at hw
    · rfl
  rw [walk_of e1 h2 ha] at hw ⊢
  rw [tree_mem e1]
  have:=follow_item ms 4 0 [] (vis_root e1) (by intro h; rw [h] at h1; simp at h1) ha hw
  simpa using this
end Go.Proofs.Ytmpgpkdijfcfhaa.Hz
