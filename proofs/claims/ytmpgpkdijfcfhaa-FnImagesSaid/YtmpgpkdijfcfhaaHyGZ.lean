/- Texts of the calculus and of the program's functions, merged: TQ TR TV TW TX. -/
import Derived.Test.YtmpgpkdijfcfhaaHyGC
import Derived.Test.YtmpgpkdijfcfhaaHyGE
import Derived.Test.YtmpgpkdijfcfhaaHyGF
import Derived.Test.YtmpgpkdijfcfhaaHyGK
import Derived.Test.YtmpgpkdijfcfhaaHyGI
import Derived.Test.YtmpgpkdijfcfhaaHyGM
import Derived.Test.YtmpgpkdijfcfhaaHyGD
import Derived.Test.YtmpgpkdijfcfhaaHyGP
import Derived.Test.YtmpgpkdijfcfhaaHyGY
import Derived.Test.YtmpgpkdijfcfhaaHyGO
namespace Go.Proofs.Ytmpgpkdijfcfhaa.Hz
open Go.RowKit
set_option linter.unusedVariables false
set_option linter.unusedSimpArgs false
set_option maxRecDepth 20000
def putA (o:List Item × Bool) (x y:Item):List Item × Bool:=if !o.2 && Op.bytesLess x.path y.path then (o.1++[x],true) else o
def putB (o:List Item × Bool) (x y:Item):List Item × Bool:=if y.path≠x.path then (o.1++[y],o.2) else o
def putUp (x:Item):List Item→List Item × Bool→List Item × Bool
  | [],o=>o
  | y :: t,o=>putUp x t (putB (putA o x y) x y)
def putIt (t:List Item) (x:Item):List Item:=if (putUp x t ([],false)).2 then (putUp x t ([],false)).1 else (putUp x t ([],false)).1++[x]
def nd (b:Bool):Nat:=cond b 0 1
def Vis (f:Fs) (k:Nat) (i:Int):Prop:=∃ s T,visit f k i s=some T
theorem Vis.read {f:Fs} {k:Nat} {i:Int} (v:Vis f k i):(dirI f i).2=true:=by
  obtain ⟨s,T,hv⟩:=v
  cases k with
  | zero =>
    unfold visit at hv
    split at hv
    · rename_i h
      simp only [Bool.and_eq_true] at h
      exact h.1
    · cases hv
  | succ k =>
    unfold visit at hv
    split at hv
    · assumption
    · cases hv
theorem Vis.step {f:Fs} {k:Nat} {i:Int} (v:Vis f k i) {e:Ent} (he:e∈(dirI f i).1):∃ j,k=j+1∧0≤e.node∧e.node<f.nodes.length∧((nA_ f e.node).kind=2→Vis f j e.node):=by
  obtain ⟨s,T,hv⟩:=v
  cases k with
  | zero =>
    unfold visit at hv
    split at hv
    · rename_i h
      simp only [Bool.and_eq_true,List.isEmpty_iff] at h
      rw [h.2] at he
      cases he
    · cases hv
  | succ k =>
    unfold visit at hv
    split at hv
    · obtain ⟨h1,h2⟩:=visitL_mem hv e he
      simp only [lost,Bool.or_eq_false_iff,decide_eq_false_iff_not] at h1
      exact ⟨k,rfl,dirOf_pos _ e he,by omega,h2⟩
    · cases hv
def itemOf (f:Fs) (ns:List Str) (e:Ent):Item:=⟨pathOf (ns++[e.name]),(nA_ f e.node).kind,if (nA_ f e.node).kind=2 then [] else contentI f e.node,if (nA_ f e.node).kind=2 then 0 else (nA_ f e.node).time⟩
def itemsE (f:Fs) (rec:Int→List Str→List Item) (ns:List Str) (e:Ent):List Item:=if e.name=[126] then [] else itemOf f ns e :: (if (nA_ f e.node).kind=2 then rec e.node (ns++[e.name]) else [])
def itemsL (f:Fs) (rec:Int→List Str→List Item) (ns:List Str) (es:List Ent):List Item:=(es.map (itemsE f rec ns)).flatten
def itemsOf (f:Fs):Nat→Int→List Str→List Item
  | 0,_,_=>[]
  | k+1,i,ns=>itemsL f (itemsOf f k) ns (dirI f i).1
noncomputable def tI_ (f:Fs):List Item:=if fsOk f then (itemsOf f 4 0 []).foldl putIt [] else []
theorem vis_root {f:Fs} (h:fsOk f=true):Vis f 4 0:=by
  unfold fsOk at h
  simp only [Bool.and_eq_true] at h
  cases hv:visit f 4 0 (zeros f) with
  | none=>rw [hv] at h; cases h.2
  | some T=>exact ⟨_,_,hv⟩
def insP (x:Item):List Item→List Item
  | []=>[x]
  | y :: t=>if Op.bytesLess x.path y.path then x :: y :: t else y :: insP x t
theorem putUp_done (x:Item):∀ (t o:List Item),(∀ y∈t,y.path≠x.path)→putUp x t (o,true)=(o++t,true)
  | [],o,_=>by simp [putUp]
  | y :: t,o,h=>by
    have hy:=h y (by simp)
    have e:putB (putA (o,true) x y) x y=(o++[y],true):=by simp [putA,putB,hy]
    rw [putUp,e,putUp_done x t (o++[y]) (fun z hz=>h z (by simp [hz]))]
    simp
theorem putUp_ins (x:Item):∀ (t o:List Item),(∀ y∈t,y.path≠x.path)→(if (putUp x t (o,false)).2 then (putUp x t (o,false)).1 else (putUp x t (o,false)).1++[x])=o++insP x t
  | [],o,_=>by simp [putUp,insP]
  | y :: t,o,h=>by
    have hy:=h y (by simp)
    have ht:∀ z∈t,z.path≠x.path:=fun z hz=>h z (by simp [hz])
    cases hl:Op.bytesLess x.path y.path
    · have e:putB (putA (o,false) x y) x y=(o++[y],false):=by simp [putA,putB,hy,hl]
      rw [putUp,e,putUp_ins x t (o++[y]) ht]
      simp [insP,hl]
    · have e:putB (putA (o,false) x y) x y=(o++[x]++[y],true):=by simp [putA,putB,hy,hl]
      rw [putUp,e,putUp_done x t (o++[x]++[y]) ht]
      simp [insP,hl]
theorem putIt_ins {t:List Item} {x:Item} (h:∀ y∈t,y.path≠x.path):putIt t x=insP x t:=by
  have:=putUp_ins x t [] h
  simpa [putIt] using this
theorem insP_perm (x:Item):∀ t:List Item,(insP x t).Perm (x :: t)
  | []=>List.Perm.refl _
  | y :: t=>by
    unfold insP
    split
    · exact List.Perm.refl _
    · exact ((insP_perm x t).cons y).trans (List.Perm.swap x y t)
def SortedP (t:List Item):Prop:=t.Pairwise fun a b=>Op.bytesLess a.path b.path=true
theorem insP_sorted (x:Item):∀ {t:List Item},SortedP t→(∀ y∈t,y.path≠x.path)→SortedP (insP x t)
  | [],_,_=>by simp [insP,SortedP]
  | y :: t,hs,h=>by
    obtain ⟨h1,h2⟩:=List.pairwise_cons.1 hs
    have hy:=h y (by simp)
    unfold insP
    cases hl:Op.bytesLess x.path y.path
    · have ht:=less_total x.path y.path
      rw [hl] at ht
      have hyx:Op.bytesLess y.path x.path=true:=by
        cases hb:Op.bytesLess y.path x.path
        · rw [hb] at ht
          simp at ht
          exact absurd ht hy
        · rfl
      simp
      refine List.pairwise_cons.2 ⟨fun z hz=>?_,insP_sorted x h2 fun z hz=>h z (by simp [hz])⟩
      rcases List.mem_cons.1 ((insP_perm x t).mem_iff.1 hz) with rfl | hz
      · exact hyx
      · exact h1 z hz
    · simp
      refine List.pairwise_cons.2 ⟨fun z hz=>?_,hs⟩
      rcases List.mem_cons.1 hz with rfl | hz
      · exact hl
      · exact less_trans _ _ _ hl (h1 z hz)
theorem foldPut_sorted:∀ (xs t:List Item),SortedP t→(t++xs).Pairwise (fun a b=>a.path≠b.path)→SortedP (xs.foldl putIt t)∧(xs.foldl putIt t).Perm (t++xs)
  | [],t,hs,_=>⟨hs,by simp⟩
  | x :: xs,t,hs,hd=>by
    obtain ⟨d1,d2,d3⟩:=List.pairwise_append.1 hd
    have hx:∀ y∈t,y.path≠x.path:=fun y hy=>d3 y hy x (by simp)
    have e:=putIt_ins hx
    have hp:(insP x t++xs).Perm (t++x :: xs):=((insP_perm x t).append_right xs).trans (by
      rw [List.cons_append]; exact (List.perm_middle (a:=x) (l₁:=t) (l₂:=xs)).symm)
    have hd':(insP x t++xs).Pairwise (fun a b=>a.path≠b.path):=(hp.pairwise_iff (fun h=>Ne.symm h)).2 hd
    obtain ⟨r1,r2⟩:=foldPut_sorted xs (insP x t) (insP_sorted x hs hx) hd'
    rw [List.foldl_cons,e]
    exact ⟨r1,r2.trans hp⟩
theorem pathOf_inj {l m:List Str} (h1:l.length≤4) (h2:m.length≤4) (a1:l.all nameOk=true) (a2:m.all nameOk=true) (h:pathOf l=pathOf m):l=m:=by
  rw [← (pathOf_names h1 a1).2,h,(pathOf_names h2 a2).2]
theorem nameH_ok {s:Str} (h:nameH s=true) (hn:s≠[126]):nameOk s=true:=by
  simp only [nameH,Bool.or_eq_true,beq_iff_eq] at h
  exact h.resolve_left hn
theorem itemsOf_path {f:Fs}:∀ (k:Nat) (i:Int) (ns:List Str),Vis f k i→ns.length+k≤4→ns.all nameOk=true→∀ x∈itemsOf f k i ns,∃ ms:List Str,x.path=pathOf (ns++ms)∧1≤ms.length∧ms.length≤k∧ms.all nameOk=true∧∃ e∈(dirI f i).1,ms.head?=some e.name
  | 0,i,ns,_,_,_,x,hx=>by simp [itemsOf] at hx
  | k+1,i,ns,v,hl,ha,x,hx=>by
    simp only [itemsOf,itemsL,List.mem_flatten,List.mem_map] at hx
    obtain ⟨l,⟨e,he,rfl⟩,hx⟩:=hx
    obtain ⟨j,hj,hp,hlt,hrec⟩:=v.step he
    have hj':j=k:=by omega
    subst hj'
    unfold itemsE at hx
    split at hx
    · cases hx
    rename_i hne
    have hok:=nameH_ok ((ok_all (dirI_two v.read).1 e he).1) hne
    rcases List.mem_cons.1 hx with rfl | hx
    · exact ⟨[e.name],rfl,by simp,by simp,by simp [hok],e,he,rfl⟩
    · split at hx
      · rename_i hk2
        obtain ⟨ms,p1,p2,p3,p4,_⟩:=itemsOf_path j e.node (ns++[e.name]) (hrec hk2) (by simp; omega) (by simp [hok]; simpa using ha) x hx
        exact ⟨e.name :: ms,by rw [p1]; simp,by simp,by simp; omega,by simp [hok]; simpa using p4,e,he,rfl⟩
      · cases hx
theorem itemsE_path {f:Fs} {k:Nat} {ns:List Str} {e:Ent} (hok:nameH e.name=true) (hv:(nA_ f e.node).kind=2→Vis f k e.node) (hl:ns.length+(k+1)≤4) (ha:ns.all nameOk=true) {x:Item} (hx:x∈itemsE f (itemsOf f k) ns e):∃ ms:List Str,x.path=pathOf (ns++e.name :: ms)∧ms.length≤k∧(e.name :: ms).all nameOk=true:=by
  unfold itemsE at hx
  split at hx
  · cases hx
  rename_i hne
  have hk:=nameH_ok hok hne
  rcases List.mem_cons.1 hx with rfl | hx
  · exact ⟨[],rfl,by simp,by simp [hk]⟩
  · split at hx
    · rename_i hk2
      obtain ⟨ms,p1,p2,p3,p4,_⟩:=itemsOf_path k e.node (ns++[e.name]) (hv hk2) (by simp; omega) (by simp [hk]; simpa using ha) x hx
      exact ⟨ms,by rw [p1]; simp,p3,by simp [hk]; simpa using p4⟩
    · cases hx
theorem itemsOf_distinct {f:Fs}:∀ (k:Nat) (i:Int) (ns:List Str),Vis f k i→ns.length+k≤4→ns.all nameOk=true→(itemsOf f k i ns).Pairwise fun a b=>a.path≠b.path
  | 0,i,ns,_,_,_=>by simp [itemsOf]
  | k+1,i,ns,v,hl,ha=>by
    have hes:=(dirI_two v.read).1
    have hall:=ok_all hes
    have hstep:∀ e∈(dirI f i).1,(nA_ f e.node).kind=2→Vis f k e.node:=fun e he hk=>by
      obtain ⟨j,hj,_,_,hrec⟩:=v.step he
      have:j=k:=by omega
      subst this
      exact hrec hk
    simp only [itemsOf,itemsL]
    rw [List.pairwise_flatten]
    constructor
    · intro l hlm
      obtain ⟨e,he,rfl⟩:=List.mem_map.1 hlm
      unfold itemsE
      split
      · exact List.Pairwise.nil
      rename_i hne
      have hk:=nameH_ok (hall e he).1 hne
      have ha':(ns++[e.name]).all nameOk=true:=by simp [hk]; simpa using ha
      split
      · rename_i hk2
        refine List.pairwise_cons.2 ⟨fun y hy=>?_,itemsOf_distinct k e.node (ns++[e.name]) (hstep e he hk2) (by simp; omega) ha'⟩
        obtain ⟨ms,p1,p2,p3,p4,_⟩:=itemsOf_path k e.node (ns++[e.name]) (hstep e he hk2) (by simp; omega) ha' y hy
        rw [p1]
        intro h
        have:=pathOf_inj (by simp; omega) (by simp; omega) ha' (by rw [List.all_append,ha',p4]; rfl) h
        have h2:=congrArg List.length this
        simp only [List.length_append,List.length_cons,List.length_nil] at h2
        omega
      · exact List.pairwise_singleton _ _
    · rw [List.pairwise_map]
      refine List.Pairwise.imp_of_mem ?_ (adj_less (entriesOk_adj hes))
      intro e1 e2 h1 h2 hlt x hx y hy h
      obtain ⟨ms1,p1,q1,r1⟩:=itemsE_path (hall e1 h1).1 (hstep e1 h1) hl ha hx
      obtain ⟨ms2,p2,q2,r2⟩:=itemsE_path (hall e2 h2).1 (hstep e2 h2) hl ha hy
      rw [p1,p2] at h
      have:=pathOf_inj (by simp; omega) (by simp; omega) (by rw [List.all_append,ha,r1]; rfl) (by rw [List.all_append,ha,r2]; rfl) h
      have h3:=List.append_cancel_left this
      injection h3 with h3 _
      rw [h3,less_irr] at hlt
      cases hlt
end Go.Proofs.Ytmpgpkdijfcfhaa.Hz
