/- Texts of the calculus and of the program's functions, merged: SF TA TI. -/
import Derived.Test.YtmpgpkdijfcfhaaGreatHyGZ
import Derived.Shelf.SlSortCmp.NoneTotal
import Derived.Shelf.Small.Strs
import Derived.Test.YtmpgpkdijfcfhaaGreatHyGK
namespace Go.Proofs.YtmpgpkdijfcfhaaGreat.Hz
open Go.RowKit
set_option linter.unusedVariables false
set_option linter.unusedSimpArgs false
set_option maxRecDepth 20000
theorem callsV_enterS {P:Program} {f:FuncId} {fn:Func} {c:Code} (hf:P.funcs[f]?=some fn) (hb:fn.body=some c) (hn:(fn.name == "runtime.NumGoroutine")=false) {args:Array Value} {w:World} {S:Value→World→Prop}
    (k:Calls P f args w fun e w2=>∃ v,e=.returned v∧S v w2):CallsV P f args w S:=by
  have hen:(callFunc f args).run P w=.ok (.enter f args) w:=by
    unfold callFunc
    simp only [Sem.run_bind,run_program,Result.andThen_ok,hf]
    simp [hn,hb]
  unfold CallsV
  rw [hen]
  exact k
def sortRen:Shelf.Ren:=⟨
  fun x=>if x=6 then 35 else if x=14 then 86 else if x=15 then 87 else if x=20 then 142 else if x=21 then 143 else if x=22 then 144 else if x=23 then 145 else if x=24 then 146 else if x=25 then 147 else if x=26 then 148 else if x=27 then 149 else if x=28 then 150 else if x=29 then 151 else if x=46 then 192 else if x=47 then 193 else if x=48 then 194 else if x=49 then 195 else if x=50 then 196 else 219,
  fun x=>if x=0 then 0 else if x=3 then 3 else if x=4 then 4 else if x=5 then 5 else if x=9 then 9 else if x=22 then 30 else if x=24 then 38 else if x=25 then 70 else if x=39 then 107 else if x=45 then 142 else if x=46 then 143 else if x=50 then 147 else if x=53 then 150 else if x=55 then 152 else if x=66 then 175 else if x=70 then 179 else if x=76 then 202 else 203,fun x=>x⟩
theorem sortLays:Go.Proofs.SlLaysF0.n6 Tryz.prog sortRen where
  mixed:=mixed
  f6:=⟨Tryz.f35.name,by kernel_rfl,by kernel_rfl⟩
  f14:=⟨Tryz.f86.name,by kernel_rfl,by kernel_rfl⟩
  f15:=by kernel_rfl
  f20:=⟨Tryz.f142.name,by kernel_rfl,by kernel_rfl⟩
  f21:=⟨Tryz.f143.name,by kernel_rfl,by kernel_rfl⟩
  f22:=⟨Tryz.f144.name,by kernel_rfl,by kernel_rfl⟩
  f23:=⟨Tryz.f145.name,by kernel_rfl,by kernel_rfl⟩
  f24:=⟨Tryz.f146.name,by kernel_rfl,by kernel_rfl⟩
  f25:=⟨Tryz.f147.name,by kernel_rfl,by kernel_rfl⟩
  f26:=⟨Tryz.f148.name,by kernel_rfl,by kernel_rfl⟩
  f27:=⟨Tryz.f149.name,by kernel_rfl,by kernel_rfl⟩
  f28:=by kernel_rfl
  f29:=by kernel_rfl
  f46:=⟨Tryz.f192.name,by kernel_rfl,by kernel_rfl⟩
  f47:=by kernel_rfl
  f48:=by kernel_rfl
  f49:=⟨Tryz.f195.name,by kernel_rfl,by kernel_rfl⟩
  f50:=⟨Tryz.f196.name,by kernel_rfl,by kernel_rfl⟩
  f57:=⟨Tryz.f219.name,by kernel_rfl,by kernel_rfl⟩
  t0:=by kernel_rfl
  a0:=fun _=>by kernel_rfl
  z0:=fun _=>by kernel_rfl
  v0:=fun _=>by kernel_rfl
  t3:=by kernel_rfl
  a3:=fun _=>by kernel_rfl
  z3:=fun _=>by kernel_rfl
  v3:=fun _=>by kernel_rfl
  t4:=by kernel_rfl
  a4:=fun _=>by kernel_rfl
  z4:=fun _=>by kernel_rfl
  v4:=fun _=>by kernel_rfl
  t5:=by kernel_rfl
  a5:=fun _=>by kernel_rfl
  z5:=fun _=>by kernel_rfl
  v5:=fun _=>by kernel_rfl
  t9:=by kernel_rfl
  a9:=fun _=>by kernel_rfl
  z9:=fun _=>by kernel_rfl
  v9:=fun _=>by kernel_rfl
  t22:=by kernel_rfl
  a22:=fun _=>by kernel_rfl
  z22:=fun _=>by kernel_rfl
  v22:=fun _=>by kernel_rfl
  t25:=by kernel_rfl
  a25:=fun _=>by kernel_rfl
  z25:=fun _=>by kernel_rfl
  v25:=fun _=>by kernel_rfl
  t39:=by kernel_rfl
  a39:=fun _=>by kernel_rfl
  z39:=fun _=>by kernel_rfl
  v39:=fun _=>by kernel_rfl
  t45:=by kernel_rfl
  a45:=fun _=>by kernel_rfl
  z45:=fun _=>by kernel_rfl
  v45:=fun _=>by kernel_rfl
  t46:=by kernel_rfl
  a46:=fun _=>by kernel_rfl
  z46:=fun _=>by kernel_rfl
  v46:=fun _=>by kernel_rfl
  t50:=by kernel_rfl
  a50:=fun _=>by kernel_rfl
  z50:=fun _=>by kernel_rfl
  v50:=fun _=>by kernel_rfl
  t53:=by kernel_rfl
  a53:=fun _=>by kernel_rfl
  z53:=fun _=>by kernel_rfl
  v53:=fun _=>by kernel_rfl
  t55:=by kernel_rfl
  a55:=fun _=>by kernel_rfl
  z55:=fun _=>by kernel_rfl
  v55:=fun _=>by kernel_rfl
  t66:=by kernel_rfl
  a66:=fun _=>by kernel_rfl
  z66:=fun _=>by kernel_rfl
  v66:=fun _=>by kernel_rfl
  t70:=by kernel_rfl
  a70:=fun _=>by kernel_rfl
  z70:=fun _=>by kernel_rfl
  v70:=fun _=>by kernel_rfl
  t76:=by kernel_rfl
  a76:=fun _=>by kernel_rfl
  z76:=fun _=>by kernel_rfl
  v76:=fun _=>by kernel_rfl
  t77:=by kernel_rfl
  a77:=fun _=>by kernel_rfl
  z77:=fun _=>by kernel_rfl
  v77:=fun _=>by kernel_rfl
def cmpRen:Shelf.Ren:=⟨fun x=>if x=106 then 88 else if x=213 then 152 else 197,fun x=>if x=3 then 3 else 9,fun x=>x⟩
theorem cmpLays:Go.Proofs.Lays.n106 Tryz.prog cmpRen where
  mixed:=mixed
  f106:=by kernel_rfl
  f213:=by kernel_rfl
  f265:=by kernel_rfl
  t3:=by kernel_rfl
  a3:=fun _=>by kernel_rfl
  z3:=fun _=>by kernel_rfl
  v3:=fun _=>by kernel_rfl
  t9:=by kernel_rfl
  a9:=fun _=>by kernel_rfl
  z9:=fun _=>by kernel_rfl
  v9:=fun _=>by kernel_rfl
section
open Go.Shelf Go.Lib Go.Sort
instance:Inhabited Item:=⟨⟨[],0,[],0⟩⟩
def cmpP (x y:Item):Int:=Lib.compareBytes x.path y.path
theorem cmp_less:∀ a b:Str,decide (Lib.compareBytes a b<0)=Op.bytesLess a b
  | [],[]=>rfl
  | [],_ :: _=>rfl
  | _ :: _,[]=>rfl
  | x :: a,y :: b=>by
    unfold Lib.compareBytes Op.bytesLess
    have ih:=cmp_less a b
    by_cases h1:x<y
    · simp [h1]
    · by_cases h2:y<x
      · have hne:(x == y)=false:=by
          rw [beq_eq_false_iff_ne]
          rintro rfl
          exact h1 h2
        simp [h1,h2,hne]
      · have he:x=y:=by
          have a1:=UInt8.not_lt.1 h1
          have a2:=UInt8.not_lt.1 h2
          exact UInt8.le_antisymm a2 a1
        subst he
        simp [h1,ih]
theorem ltOf_less (x y:Item):ltOf cmpP x y=Op.bytesLess x.path y.path:=cmp_less _ _
theorem swoP:SWO (ltOf cmpP) where
  irrefl x:=by rw [ltOf_less]; exact less_irr _
  trans x y z h1 h2:=by rw [ltOf_less] at *; exact less_trans _ _ _ h1 h2
  ntrans x y z h1 h2:=by
    rw [ltOf_less] at *
    have t1:=less_total x.path y.path
    have t2:=less_total y.path z.path
    rw [h1] at t1
    rw [h2] at t2
    cases hz:Op.bytesLess x.path z.path
    · rfl
    exfalso
    simp only [Bool.not_false] at t1 t2
    have u1:Op.bytesLess y.path x.path=true∨(y.path == x.path)=true:=by rw [← Bool.or_eq_true]; exact t1.symm
    rcases u1 with u1 | u1
    · have:=less_trans _ _ _ u1 hz
      rw [h2] at this
      cases this
    · have e:=eq_of_beq u1
      rw [← e,h2] at hz
      cases hz
set_option maxHeartbeats 1000000 in
theorem byPath_calls (x y:Item) (W:World):Calls Tryz.prog 36 #[.agg (Item.cs x).toArray,.agg (Item.cs y).toArray] W fun e w'=>e=.returned (.int .i64 (cmpP x y))∧∃ q os',w'=grow (W.drewN q) os':=by
  have hcon:=fun W'=>Any.strings_Compare cmpLays (S x.path) (S y.path) W'
  have e1:∀ b:Str,(S b).data.toList=b:=fun b=>rfl
  simp only [e1] at hcon
  change ∀ W',Calls Tryz.prog 88 _ _ _ at hcon
  unfold cmpP Item.cs
  generalize Lib.compareBytes x.path y.path=r at hcon ⊢
  go_enter Tryz.func36,Tryz.ntmps36
  go_wp2_with (go_at_call 88; refine (hcon _).mono ?_; rintro e w' ⟨rfl,rfl⟩)
  go_ret
  exact ⟨rfl,0,_,by rw [alloc_eq_grow,alloc_eq_grow,grow_grow]; rfl⟩
theorem relC_plain {φ:Inj} {v:Value} (h:plainV v=true):RelC φ v v:=by
  cases v <;> simp [plainV] at h <;> rfl
theorem relC_plain_eq {φ:Inj} {v v':Value} (h:plainV v=true) (r:RelC φ v v'):v'=v:=by
  cases v <;> simp [plainV] at h <;> exact r
theorem okCell_plain {v:Value} (h:plainV v=true):okCell v=true:=by
  cases v <;> simp [plainV] at h <;> rfl
theorem all2_plainC {φ:Inj}:∀ {xs vs:List Value},(∀ v∈xs,plainV v=true)→All2 (RelC φ) xs vs→vs=xs
  | [],_,_,r=>by rw [All2.nil_iff] at r; exact r
  | a :: xs,vs,h,r=>by
    obtain ⟨b,bs,rfl,h1,h2⟩:=All2.cons_iff.1 r
    rw [relC_plain_eq (h a (by simp)) h1,all2_plainC (fun v hv=>h v (by simp [hv])) h2]
theorem flat_at:∀ (xs:List Item) (t:Nat),t<xs.length * 4→((xs.map Item.cs).flatten)[t]?=some ((Item.cs (xs.toArray[t / 4]!))[t % 4]!)
  | [],t,h=>by simp at h
  | x :: xs,t,h=>by
    by_cases h4:t<4
    · have e1:t / 4=0:=by omega
      have e2:t % 4=t:=by omega
      rw [e1,e2]
      simp only [List.map_cons,List.flatten_cons]
      rw [List.getElem?_append_left (by show t<4; exact h4)]
      have:t=0∨t=1∨t=2∨t=3:=by omega
      rcases this with rfl | rfl | rfl | rfl <;> rfl
    · obtain ⟨u,rfl⟩:∃ u,t=u+4:=⟨t - 4,by omega⟩
      have ih:=flat_at xs u (by simp at h; omega)
      simp only [List.map_cons,List.flatten_cons]
      rw [List.getElem?_append_right (by show 4≤u+4; omega)]
      have e0:u+4 - (Item.cs x).length=u:=by show u+4 - 4=u; omega
      have e1:(u+4) / 4=u / 4+1:=by omega
      have e2:(u+4) % 4=u % 4:=by omega
      rw [e0,ih,e1,e2]
      congr 3
      have hl:u / 4<xs.length:=by simp at h; omega
      simp [hl]
theorem flatK_items (xs:List Item):(flatK Item.cs 4 xs.toArray).toList=(xs.map Item.cs).flatten:=by
  apply List.ext_getElem?
  intro t
  by_cases h:t<xs.length * 4
  · rw [flat_at xs t h]
    have h2:=get_flatK Item.cs 4 xs.toArray t (by simpa using h)
    have h3:t<(flatK Item.cs 4 xs.toArray).size:=by simpa using h
    rw [Array.getElem?_toList,Array.getElem?_eq_getElem h3]
    rw [getElem!_pos _ t h3] at h2
    rw [h2]
  · rw [List.getElem?_eq_none (by simp; omega),List.getElem?_eq_none (by
      rw [flatL_len (f:=Item.cs) (n:=4) (fun _=>rfl)]; omega)]
theorem putRow_cells (w:World) (blk off:Nat) (F G:Array Value) (hH:Holds id w blk off F) (hs:G.size=F.size):putRow id w blk off G=w.setCells blk off G.toList:=by
  have h1:=setCells_putRow w blk off G.toList 0 F (by simp [hs])
  rw [putRow_self id w blk off F hH,Nat.add_zero] at h1
  rw [h1]
  congr 1
  refine ext_get! (by simp [hs]) fun t ht=>?_
  rw [get_setMany _ _ _ t (by omega),if_pos (by simp; omega)]
  simp [getElem!_def]
set_option maxHeartbeats 2000000 in
theorem sortFunc_c (xs:List Item) (a:Option Addr) (F:List Nat) (h:Hp) (sl:slR true 38 itemE h xs a F) (nd:F.Nodup) (hl:xs.length≤1048576000) :
    ACall Tryz.prog 35 [.slice a xs.length xs.length,.func (.func 36) #[] #[]] h fun r h' =>
      r=.tuple #[]∧∃ ys:List Item,ys.Perm xs∧(ys.Pairwise fun x y=>Op.bytesLess y.path x.path=false)∧slR true 38 itemE h' ys a F∧h'.length=h.length∧∀ q,q ∉ F→h'[q]?=h[q]?:=by
  intro B w0 φ w args' R ha
  obtain ⟨v1,l,rfl,r1,ha⟩:=All2.cons_iff.1 ha
  obtain ⟨v2,l,rfl,r2,ha⟩:=All2.cons_iff.1 ha
  obtain rfl:=All2.nil_iff.1 ha
  obtain ⟨-,cap',rfl,r3⟩:=r2
  have hcap:cap'=#[]:=by
    have:=All2.nil_iff.1 r3
    exact Array.toList_eq_nil_iff.1 this
  subst hcap
  refine callsV_enterS Tryz.func35 rfl (by kernel_rfl) ?_
  cases xs with
  | nil =>
    have hv1:∃ a' c',v1=.slice a' 0 c':=by
      cases a with
      | none=>obtain ⟨-,-,rfl⟩:=r1; exact ⟨none,0,rfl⟩
      | some ad=>obtain ⟨p,c',a',-,-,-,-,rfl,-⟩:=r1; exact ⟨some a',c',rfl⟩
    obtain ⟨a',c',rfl⟩:=hv1
    have:=AnyF.slices_SortFunc_none sortLays a' c' (.func (.func 36) #[] #[]) w
    change Calls Tryz.prog 35 _ _ _ at this
    refine this.mono ?_
    rintro e w' ⟨rfl,rfl⟩
    exact ⟨_,rfl,φ,.tuple #[],h,List.prefix_rfl,R,⟨#[],rfl,trivial⟩,rfl,[],List.Perm.refl _,List.Pairwise.nil,sl,rfl,fun _ _=>rfl⟩
  | cons x0 xs0 =>
    obtain ⟨o,off,ea,-⟩:=itemAt sl (i:=0) (by simp)
    subst ea
    have hpos:0<(x0 :: xs0).length:=by simp
    generalize x0 :: xs0=xs at sl hl r1 hpos ⊢
    obtain ⟨p,c',a',hp,-,hcc,hnc,rfl,hor⟩:=r1
    simp only at hor hp
    rcases hor with ⟨rfl,hcap⟩ | ⟨h1,-⟩
    rotate_left
    · omega
    obtain ⟨cs,hcs,hcl,css,Fs,rfl,hrow,hF⟩:=sl.cells
    obtain ⟨rfl,-⟩:=hrow.flat
    have hF':=(Own.any sl nd).flatF
    subst hF'
    obtain ⟨-,ob,css2,Fs2,pre,post,g1,g2,g3,g4,-,g5,g6,g7⟩:=id sl
    obtain ⟨rfl,-⟩:=g5.flat
    simp only at g1
    have hrw:=g3 rfl
    have robj:=R.obj o ob p g1 hp g2
    obtain ⟨hB,hsize,ca,fr,hk,hcsz,hf⟩:=robj.own hrw
    obtain ⟨cs',k1,k2,k3⟩:=R.cells hp _ off _ hcs
    have hpl:∀ ys:List Item,∀ v∈(ys.map Item.cs).flatten,plainV v=true:=fun ys v hv=>by
      obtain ⟨l,hl,hv⟩:=List.mem_flatten.1 hv
      obtain ⟨x,_,rfl⟩:=List.mem_map.1 hl
      simp [Item.cs] at hv
      rcases hv with rfl | rfl | rfl | rfl <;> rfl
    have hsame:cs'=(xs.map Item.cs).flatten:=all2_plainC (hpl xs) k3
    subst hsame
    have hn4:∀ ys:List Item,((ys.map Item.cs).flatten).length=ys.length * 4:=fun ys=>flatL_len (f:=Item.cs) (n:=4) (fun _=>rfl) ys
    have hcell0:off+xs.length * 4≤ob.cells.length:=by
      have h1:((xs.map Item.cs).flatten).length=xs.length * 4:=hn4 xs
      have h2:ob.cells=pre++(xs.map Item.cs).flatten++post:=g6
      have h3:pre.length=off:=g7
      rw [h2]
      simp only [List.length_append,h1]
      omega
    have hH:HoldsK Item.cs 4 w p.block (p.off+off) xs.toArray:=by
      intro j hj
      have hj4:j<xs.length * 4:=by simpa using hj
      have e1:=flatK_items xs
      have e2:((xs.map Item.cs).flatten)[j]?=some ((flatK Item.cs 4 xs.toArray)[j]!):=by
        rw [← e1,Array.getElem?_toList,Array.getElem?_eq_getElem hj,getElem!_pos _ j hj]
      refine ⟨k2 j _ e2,frozen_no hk (hf _ ?_)⟩
      have:xs.length * itemE.n=xs.length * 4:=rfl
      omega
    have hcon:=AnyQ.slices_SortFunc sortLays 4 (fun w=>aggR (by kernel_rfl) w) (fun w=>szR (by kernel_rfl) w) Item.cs (fun _=>rfl) (fun x v hv=>by simp [Item.cs] at hv; rcases hv with rfl | rfl | rfl | rfl <;> rfl) cmpP swoP 36 #[] p.block (p.off+off) c' xs.toArray w
      (enters_of Tryz.func36 (by kernel_rfl) rfl) (fun _ _ _ _ x y=>byPath_calls x y _) hH (Array.getElem?_eq_some_iff.1 hk).1 (by simp; omega)
    change Calls Tryz.prog 35 _ _ _ at hcon
    refine hcon.mono ?_
    rintro e w' ⟨rfl,d',n,os,hperm,hsort,rfl⟩
    obtain ⟨ys,rfl⟩:∃ ys:List Item,d'=ys.toArray:=⟨d'.toList,by simp⟩
    have hlen:ys.length=xs.length:=by simpa using hperm.1
    have hp3:ys.Perm xs:=by
      have:=hperm.2.2
      simpa [List.take_of_length_le,hlen] using this
    have hord:ys.Pairwise fun x y=>Op.bytesLess y.path x.path=false:=by
      rw [List.pairwise_iff_getElem]
      intro i j hi hj hij
      have:=hsort i j (Nat.zero_le _) hij (by simp; omega)
      rw [ltOf_less] at this
      simpa [hi,hj] using this
    obtain ⟨hcan,oset⟩:=(Own.any sl nd).blit (ys:=ys) (i:=0) (by omega)
    have hw:sortWorldK Item.cs 4 w p.block (p.off+off) n ys.toArray os=grow (wset (Sort.ahead w n) p.block (p.off+off) (ys.map Item.cs).flatten) os:=by
      unfold sortWorldK putRowK
      rw [putRow_cells (Sort.ahead w n) p.block (p.off+off) (flatK Item.cs 4 xs.toArray) _ (holdsK_ahead Item.cs 4 w n p.block (p.off+off) xs.toArray hH) (by simp [hlen]),flatK_items,wset_eq]
    rw [hw]
    have R2:=Rel.sets hp (ys.map Item.cs).flatten (ys.map Item.cs).flatten off h (Sort.ahead w n) (R.drew _) (by rw [hn4]; simpa using hcan) (All2.refl fun v hv=>relC_plain (hpl ys v hv)) (List.all_eq_true.2 fun v hv=>okCell_plain (hpl ys v hv))
    have R3:=R2.grow (w':=grow (wset (Sort.ahead w n) p.block (p.off+off) (ys.map Item.cs).flatten) os) ⟨rfl,rfl,rfl,by simp [grow],fun b hb=>by simp [grow,Array.getElem?_append,hb]⟩
    refine ⟨_,rfl,φ,.tuple #[],sA_ h o off (ys.map Item.cs).flatten,List.prefix_rfl,R3,⟨#[],rfl,trivial⟩,rfl,ys,hp3,hord,?_,sAl _ _ _ _,fun q hq=>?_⟩
    · have hs:=oset.sl
      have e1:off+0 * 4=off:=by omega
      have e2:xs.take 0++ys++xs.drop (0+ys.length)=ys:=by simp [hlen]
      rw [e1,e2] at hs
      exact hs
    · rw [sAg,if_neg (fun e=>hq (by simp [e]))]
end
def Kp (F:List Nat) (h h':Hp):Prop:=h.length≤h'.length∧∀ q,q<h.length→q ∉ F→h'[q]?=h[q]?
theorem Kp.refl (F:List Nat) (h:Hp):Kp F h h:=⟨Nat.le_refl _,fun _ _ _=>rfl⟩
theorem Kp.of_ext {F:List Nat} {h h':Hp} (x:Ext h h'):Kp F h h':=⟨x.1,fun q hq _=>x.2 q hq⟩
theorem Kp.sl {F:List Nat} {a b:Hp} {w:Bool} {t:TypeId} {α:Type} {A:Enc α} {xs:List α} {ad:Option Addr} {G:List Nat} (x:Kp F a b) (k:slR w t A a xs ad G) (hd:∀ q∈G,q ∉ F):slR w t A b xs ad G:=k.frame fun q hq=>x.2 q (k.lt q hq) (hd q hq)
theorem Kp.cell {F:List Nat} {a b:Hp} {o i:Nat} {v:Value} (x:Kp F a b) (hc:cellAt a o i=some v) (ho:o ∉ F):cellAt b o i=some v:=by
  have hlt:o<a.length:=by
    unfold cellAt at hc
    cases hg:a[o]? with
    | none=>simp [hg] at hc
    | some ob=>exact (List.getElem?_eq_some_iff.1 hg).1
  rw [cellAt_get (x.2 o hlt ho)]; exact hc
structure PutR (h:Hp) (F:List Nat) (h':Hp) (xs:List Item) (a:Option Addr) (G:List Nat):Prop where
  kp:Kp F h h'
  sl:slR true 38 itemE h' xs a G
  nd:G.Nodup
  sub:∀ q∈G,q∈F∨h.length≤q
section
variable {h H H':Hp} {F G G':List Nat} {xs ys:List Item} {a b:Option Addr}
theorem PutR.ext (k:PutR h F H xs a G) (x:Ext H H'):PutR h F H' xs a G :=
  ⟨⟨Nat.le_trans k.kp.1 x.1,fun q hq hn=>(x.2 q (by have:=k.kp.1; omega)).trans (k.kp.2 q hq hn)⟩,k.sl.ext x,k.nd,k.sub⟩
theorem PutR.trans (k:PutR h F H xs a G) (l:PutR H G H' ys b G'):PutR h F H' ys b G' :=
  ⟨⟨Nat.le_trans k.kp.1 l.kp.1,fun q hq hn=>(l.kp.2 q (by have:=k.kp.1; omega) (fun hm=>(k.sub q hm).elim hn (fun h1=>by omega))).trans (k.kp.2 q hq hn)⟩,l.sl,l.nd,fun q hq=>by
    rcases l.sub q hq with h1 | h1
    · exact k.sub q h1
    · exact .inr (Nat.le_trans k.kp.1 h1)⟩
theorem PutR.app (s:slR true 38 itemE H xs a G) (nd:G.Nodup) (x:Item) (hl:xs.length≤100000000) :
    ∃ a' H' G',aappend Tryz.prog (H++[⟨true,true,38,Item.cs x⟩]) 30 30 (.slice a xs.length xs.length) (.slice (some ⟨H.length,0,none⟩) 1 1)=some (.slice a' (xs.length+1) (xs.length+1),H')∧PutR H G H' (xs++[x]) a' G':=by
  obtain ⟨a',H',G',e1,e2,e3,e4,e5⟩:=(Own.any s nd).append1L (P:=Tryz.prog) x (cs:=Item.cs x) rfl (st:=30) (xt:=30) (bt:=48) (z:=[.string (S []),.int .i64 0,.string (S []),.int .i64 0]) (by simp) (by simp) (by unfold big; omega) (by unfold big; omega)
  exact ⟨a',H',G',e1,⟨e5,e3⟩,e2.sl,e2.nd,e4⟩
end
theorem pathJoin_of {ns:List Str} (hl:ns.length≤4) (ha:ns.all nameOk=true) (n:Str):pathJoin (pathOf ns) n=pathOf (ns++[n]):=by
  obtain ⟨h1,h2⟩:=pathOf_names hl ha
  unfold pathJoin
  rw [if_pos h1,h2]
theorem pathOf_len (ns:List Str):(pathOf ns).length≤100:=by
  unfold pathOf
  split
  · simp
  · rename_i hc
    simp only [Bool.or_eq_true,decide_eq_true_eq,List.any_eq_true,not_or,Nat.not_lt,not_exists,not_and,Bool.not_eq_true'] at hc
    have ha:∀ x∈ns,nameOk x=true:=fun x hx=>by
      cases he:nameOk x with
      | true=>rfl
      | false=>exact absurd he (hc.2 x hx)
    have h1:=sum_names ns ha
    cases ns with
    | nil=>decide
    | cons x xs =>
      rw [raw_join,rawP_len]
      omega
def GatherC (f:Fs) (k:Nat):Prop:=∀ (a1 a2:Option Addr) (F1 F2:List Nat) (w:Bool) (tNode:TypeId) (h:Hp) (k1:slR w tNode (nodeE w) h f.nodes a1 F1) (k2:slR w 9 strE h f.data a2 F2) (i:Nat) (hi:i<f.nodes.length) (v:Vis f k (i:Int)) (ns:List Str) (hns:ns.length+k≤4) (hok:ns.all nameOk=true) (t:List Item) (at_:Option Addr) (Ft:List Nat) (kt:slR true 38 itemE h t at_ Ft) (nd:Ft.Nodup) (d1:∀ q∈F1,q ∉ Ft) (d2:∀ q∈F2,q ∉ Ft) (ht:t.length+capI k≤100000000),
  ACall Tryz.prog 47 [.agg #[.slice a1 f.nodes.length f.nodes.length,.slice a2 f.data.length f.data.length],.int .i64 i,.string (S (pathOf ns)),.slice at_ t.length t.length] h fun r h'=>∃ b G,r=.slice b (t++itemsOf f k i ns).length (t++itemsOf f k i ns).length∧PutR h Ft h' (t++itemsOf f k i ns) b G
set_option maxHeartbeats 4000000 in
theorem gather_step (f:Fs) (hl:f.nl≤1048576) (sh:ShapeOk f) (k:Nat) (ih:∀ j,k=j+1→GatherC f j):GatherC f k:=by
  intro a1 a2 F1 F2 w tNode h k1 k2 i hi v ns hns hok t at_ Ft kt nd d1 d2 ht
  refine acall mixed Tryz.func47 rfl (by kernel_rfl) ?_
  simp [Tryz.f47]
  refine cK (entries_c f a1 a2 F1 F2 w tNode _ (k1.to (by simp)) (k2.to (by simp)) hl sh i hi) ?_
  rintro _ _ ⟨al,Fl,rfl,ol⟩
  obtain ⟨u,rfl⟩:=ol.ext.pre
  have hdl:=dirI_small sh (i:Int)
  have hnm:=dirI_names f (i:Int)
  have hdok:=ok_all (dirI_two v.read).1
  rw [itemsOf_vis v ns]
  obtain ⟨B,hB⟩:∃ B,B=h++⟨true,true,45,[.slice a1 f.nodes.length f.nodes.length,.slice a2 f.data.length f.data.length]⟩ :: u:=⟨_,rfl⟩
  have eh:Ext h B:=by rw [hB]; exact Ext.push _ _
  have b0:cellAt B h.length 0=some (.slice a1 f.nodes.length f.nodes.length):=by rw [hB]; simp
  have b1:cellAt B h.length 1=some (.slice a2 f.data.length f.data.length):=by rw [hB]; simp
  have sl:slR true 117 entE B (dirI f (i:Int)).1 al Fl:=by rw [hB]; simpa using ol.sl
  have hFl:∀ q∈Fl,h.length<q:=fun q hq=>by have:=ol.new q hq; simp at this; omega
  have hFt:∀ q∈Ft,q<h.length:=kt.lt
  simp
  rw [← hB]
  clear hB ol
  have hnF:h.length ∉ Ft:=fun hm=>by have:=hFt _ hm; omega
  have hnl:∀ q∈Fl,q ∉ Ft:=fun q hq hm=>by have h1:=hFl q hq; have h2:=hFt q hm; omega
  have kB:PutR B Ft B t at_ Ft:=⟨Kp.refl _ _,kt.ext eh,nd,fun q hq=>.inl hq⟩
  have hfin:∀ {H:Hp} {xs:List Item} {b:Option Addr} {G:List Nat},PutR B Ft H xs b G→PutR h Ft H xs b G:=fun k =>
    ⟨⟨Nat.le_trans eh.1 k.kp.1,fun q hq hn=>(k.kp.2 q (by have:=eh.1; omega) hn).trans (eh.2 q hq)⟩,k.sl,k.nd,fun q hq=>(k.sub q hq).imp id (fun h1=>Nat.le_trans eh.1 h1)⟩
  refine aloop mixed [2,3,4,21,22,23] (fun (y:Nat × List Item × Option Addr × Hp)=>[.string (S (pathOf ns)),.slice y.2.2.1 y.2.1.length y.2.1.length,.pointer (some ⟨h.length,0,none⟩),.slice al (dirI f (i:Int)).1.length (dirI f (i:Int)).1.length,.int .i64 (dirI f (i:Int)).1.length,.int .i64 y.1]) (fun y=>y.2.2.2)
    (fun y=>y.1≤(dirI f (i:Int)).1.length∧y.2.1++itemsL f (itemsOf f (k - 1)) ns ((dirI f (i:Int)).1.drop y.1)=t++itemsL f (itemsOf f (k - 1)) ns (dirI f (i:Int)).1∧y.2.1.length≤t.length+y.1 * (1+capI (k - 1))∧∃ G,PutR B Ft y.2.2.2 y.2.1 y.2.2.1 G) (fun y=>(dirI f (i:Int)).1.length - y.1) (0,t,at_,B) ⟨by simp,by simp,by simp,Ft,kB⟩ rfl rfl ?_
  rintro ⟨j,tj,bj,H⟩ ⟨hj,hu,hlen,G,pk⟩
  simp only at hj hu hlen pk
  simp [mkF]
  have kp:=pk.kp
  have q0:=kp.cell b0 hnF
  have q1:=kp.cell b1 hnF
  have sl2:=kp.sl sl hnl
  have hcan:h.length ∉ G:=fun hm=>(pk.sub _ hm).elim hnF (fun h1=>by have:=eh.1; have:h.length<B.length:=get_lt (cellAt_some b0).choose_spec.1; omega)
  have kk1:=kp.sl (k1.ext eh) d1
  have kk2:=kp.sl (k2.ext eh) d2
  refine aSI (fun hc=>?_) (fun hc=>?_) <;> simp at hc <;> simp [hc]
  · have hc':j<(dirI f (i:Int)).1.length:=by omega
    obtain ⟨oe,offe,rfl,c0,c1⟩:=entAt sl2 hc'
    have hmem:=List.getElem_mem hc'
    rw [itemsL_drop _ _ _ _ j hc'] at hu
    have hn6e:=hnm _ hmem
    simp [hc',c0,c1]
    by_cases e0:(dirI f (i:Int)).1[j].name=[126]
    · have hE:itemsE f (itemsOf f (k - 1)) ns (dirI f (i:Int)).1[j]=[]:=by unfold itemsE; rw [if_pos e0]
      rw [hE] at hu
      simp [e0]
      exact anext (j+1,tj,bj,_) ⟨hc',by simpa using hu,by simp only [Nat.succ_mul,Nat.add_mul] at hlen ⊢; omega,G,pk.ext (Ext.push _ _)⟩ (by simp only; omega) (by simp [pickF,wS (show j<9223372036854775807 by omega)]) rfl (by simp)
    have e0':((dirI f (i:Int)).1[j].name == [126])=false:=by simpa using e0
    simp [e0']
    obtain ⟨j',rfl,hp,hltm,hrec⟩:=v.step hmem
    have ihj:=ih j' rfl
    simp only [Nat.add_sub_cancel] at hu hlen
    obtain ⟨m,hm⟩:=Int.eq_ofNat_of_zero_le hp
    have hml:m<f.nodes.length:=by omega
    obtain ⟨on,offn,bb,Gb,rfl,x0,x1,x2,x3,x4,kb,-⟩:=nodeAt kk1 hml
    have hkn:nA_ f (m:Int)=f.nodes[m]:=nodeAtI_get hml
    rw [hm] at c1
    have hok1:=nameH_ok (hdok _ hmem).1 e0
    have hokn:(ns++[(dirI f (i:Int)).1[j].name]).all nameOk=true:=by simp [hok1]; simpa using hok
    have hpj:=pathJoin_of (by omega) hok (dirI f (i:Int)).1[j].name
    have hpl:=pathOf_len ns
    have qq0:∀ l,cellAt (H++l) h.length 0=some (.slice (some ⟨on,offn,none⟩) f.nodes.length f.nodes.length):=fun l=>cell_up (Ext.push H l) q0
    have qq1:∀ l,cellAt (H++l) h.length 1=some (.slice a2 f.data.length f.data.length):=fun l=>cell_up (Ext.push H l) q1
    have xx0:∀ l,cellAt (H++l) on (offn+m * 5)=some (.int .i64 f.nodes[m].kind):=fun l=>cell_up (Ext.push H l) x0
    have xx1:∀ l,cellAt (H++l) on (offn+m * 5+1)=some (.int .i64 f.nodes[m].gen):=fun l=>cell_up (Ext.push H l) x1
    have xx2:∀ l,cellAt (H++l) on (offn+m * 5+2)=some (.int .i64 f.nodes[m].time):=fun l=>cell_up (Ext.push H l) x2
    have xx3:∀ l,cellAt (H++l) on (offn+m * 5+3)=some (.int .i64 f.nodes[m].size):=fun l=>cell_up (Ext.push H l) x3
    have xx4:∀ l,cellAt (H++l) on (offn+m * 5+4)=some (.slice bb f.nodes[m].blocks.length f.nodes[m].blocks.length):=fun l=>cell_up (Ext.push H l) x4
    simp [qq0,hm,hml,xx0,xx1,xx2,xx3,xx4]
    refine drawS true 7 [0,1,2,3,4,5,6] [8] (by simp; rfl) (by simp; rfl) (by simp; rfl) (by kernel_rfl) ?_
    simp
    refine callK (pathJoin_impl_c (pathOf ns) (dirI f (i:Int)).1[j].name _ (by omega) (by omega)) ?_
    rintro _ _ ⟨⟨t1,rfl⟩,rfl⟩
    refine ⟨fun _=>Ext.push _ _,?_⟩
    rw [hpj]
    simp
    have hEk:itemOf f ns (dirI f (i:Int)).1[j]=⟨pathOf (ns++[(dirI f (i:Int)).1[j].name]),f.nodes[m].kind,if f.nodes[m].kind=2 then [] else contentI f (m:Int),if f.nodes[m].kind=2 then 0 else f.nodes[m].time⟩:=by unfold itemOf; rw [hm,hkn]
    have hcap:tj.length+(1+capI j')≤100000000:=by
      simp only [capI] at ht
      have:j * (1+capI j')+(1+capI j')≤80 * (1+capI j'):=by
        rw [← Nat.succ_mul]
        exact Nat.mul_le_mul_right _ (by omega)
      omega
    by_cases hk2:f.nodes[m].kind=2
    · simp [hk2]
      have hHG:∀ q∈G,q<H.length:=pk.sl.lt
      have sX:=pk.sl.ext (Ext.push H (⟨true,true,117,[.string (S (dirI f (i:Int)).1[j].name),.int .i64 m]⟩ :: ⟨true,true,60,[.int .i64 2,.int .i64 f.nodes[m].gen,.int .i64 f.nodes[m].time,.int .i64 f.nodes[m].size,.slice bb f.nodes[m].blocks.length f.nodes[m].blocks.length]⟩ :: (t1++[⟨true,true,38,[.string (S (pathOf (ns++[(dirI f (i:Int)).1[j].name]))),.int .i64 2,.string (S []),.int .i64 0]⟩])))
      obtain ⟨a',H',G',eq,pk'⟩:=PutR.app sX pk.nd ⟨pathOf (ns++[(dirI f (i:Int)).1[j].name]),2,[],0⟩ (by omega)
      have y0:=pk'.kp.cell (qq0 _) hcan
      have y1:=pk'.kp.cell (qq1 _) hcan
      have nH0:H.length ∉ G:=fun hmm=>by have:=hHG _ hmm; omega
      have nHx:H.length+(t1.length+1+1) ∉ G:=fun hmm=>by have:=hHG _ hmm; omega
      have ye:cellAt H' H.length 1=some (.int .i64 m):=pk'.kp.cell (by simp) nH0
      have yx:cellAt H' (H.length+(t1.length+1+1)) 0=some (.string (S (pathOf (ns++[(dirI f (i:Int)).1[j].name])))):=pk'.kp.cell (by simp) nHx
      simp [Item.cs] at eq
      refine drawE false [5,6,7] [0,1,2,3,4,8] [[1,3,8,0,2,4],[0,1,3,8,2,4],[1,2,3,8,0,4],[1,3,4,8,0,2],[0,1,2,3,8,4],[0,1,3,4,8,2],[1,2,3,4,8,0]] [9,10] (by simp; rfl) (by simp; rfl) (by simp; rfl) (by simp; rfl) (by kernel_rfl) rfl ?_
      simp [qq0,qq1,eq,y0,y1,ye,yx]
      have hE:itemsE f (itemsOf f j') ns (dirI f (i:Int)).1[j]=⟨pathOf (ns++[(dirI f (i:Int)).1[j].name]),2,[],0⟩ :: itemsOf f j' (m:Int) (ns++[(dirI f (i:Int)).1[j].name]):=by
        unfold itemsE
        rw [if_neg e0,hEk,hm,hkn,if_pos hk2,hk2]
        rfl
      rw [hE] at hu
      have hlen1:(tj++[(⟨pathOf (ns++[(dirI f (i:Int)).1[j].name]),2,[],0⟩:Item)]).length=tj.length+1:=by simp
      have pkX:=(pk.ext (Ext.push H _)).trans pk'
      rw [hm] at hrec
      have dG:∀ q,q<h.length→q ∉ Ft→q ∉ G':=fun q hq hn hmm=>by
        rcases pkX.sub q hmm with h1 | h1
        · exact hn h1
        · have:=eh.1; omega
      have dG0:∀ q,q<h.length→q ∉ Ft→q ∉ G:=fun q hq hn hmm=>by
        rcases pk.sub q hmm with h1 | h1
        · exact hn h1
        · have:=eh.1; omega
      have hb:=ihj (some ⟨on,offn,none⟩) a2 F1 F2 w tNode H' (pk'.kp.sl (kk1.to (by simp)) fun q hq=>dG0 q (k1.lt q hq) (d1 q hq)) (pk'.kp.sl (kk2.to (by simp)) fun q hq=>dG0 q (k2.lt q hq) (d2 q hq)) m hml (hrec (by rw [hkn]; exact hk2)) (ns++[(dirI f (i:Int)).1[j].name]) (by simp; omega) hokn (tj++[⟨pathOf (ns++[(dirI f (i:Int)).1[j].name]),2,[],0⟩]) a' G' pk'.sl pk'.nd
        (fun q hq=>dG q (k1.lt q hq) (d1 q hq)) (fun q hq=>dG q (k2.lt q hq) (d2 q hq)) (by rw [hlen1]; omega)
      rw [hlen1] at hb
      refine cK hb ?_
      rintro _ H2 ⟨b2,G2,rfl,pk2⟩
      have hl3:=itemsOf_len sh j' (m:Int) (ns++[(dirI f (i:Int)).1[j].name])
      simp
      exact anext (j+1,tj++[⟨pathOf (ns++[(dirI f (i:Int)).1[j].name]),2,[],0⟩]++itemsOf f j' (m:Int) (ns++[(dirI f (i:Int)).1[j].name]),b2,H2) ⟨hc',by rw [← hu]; simp,by simp only [Nat.succ_mul,Nat.add_mul,List.length_append,hlen1] at hlen ⊢; omega,G2,pkX.trans pk2⟩ (by simp only; omega) (by simp [pickF,wS (show j<9223372036854775807 by omega)]) rfl (by simp)
    · have hk2':(f.nodes[m].kind == 2)=false:=by simpa using hk2
      simp [hk2']
      refine drawE true [0,1,2,3] [4,5,6,7] [[6,7,4,5]] [8,9] (by simp; rfl) (by simp; rfl) (by simp; rfl) (by simp; rfl) (by kernel_rfl) rfl ?_
      simp [qq0,qq1]
      refine callK (content_c f (some ⟨on,offn,none⟩) a2 F1 F2 w tNode _ (kk1.to (by simp)) (kk2.to (by simp)) hl sh m hml) ?_
      rintro _ _ ⟨⟨t2,rfl⟩,rfl⟩
      refine ⟨fun _=>Ext.push _ _,?_⟩
      simp
      have hE:itemsE f (itemsOf f j') ns (dirI f (i:Int)).1[j]=[⟨pathOf (ns++[(dirI f (i:Int)).1[j].name]),f.nodes[m].kind,contentOf f f.nodes[m].blocks,f.nodes[m].time⟩]:=by
        unfold itemsE
        rw [if_neg e0,hEk,hm,hkn,if_neg hk2,if_neg hk2,if_neg hk2]
        unfold contentI
        rw [hkn]
      rw [hE] at hu
      have sX:=pk.sl.ext (Ext.push H (⟨true,true,117,[.string (S (dirI f (i:Int)).1[j].name),.int .i64 m]⟩ :: ⟨true,true,60,[.int .i64 f.nodes[m].kind,.int .i64 f.nodes[m].gen,.int .i64 f.nodes[m].time,.int .i64 f.nodes[m].size,.slice bb f.nodes[m].blocks.length f.nodes[m].blocks.length]⟩ :: (t1++⟨true,true,38,[.string (S (pathOf (ns++[(dirI f (i:Int)).1[j].name]))),.int .i64 f.nodes[m].kind,.string (S (contentOf f f.nodes[m].blocks)),.int .i64 f.nodes[m].time]⟩ :: t2)))
      obtain ⟨a',H',G',eq,pk'⟩:=PutR.app sX pk.nd ⟨pathOf (ns++[(dirI f (i:Int)).1[j].name]),f.nodes[m].kind,contentOf f f.nodes[m].blocks,f.nodes[m].time⟩ (by omega)
      simp [Item.cs] at eq
      simp [eq]
      exact anext (j+1,tj++[⟨pathOf (ns++[(dirI f (i:Int)).1[j].name]),f.nodes[m].kind,contentOf f f.nodes[m].blocks,f.nodes[m].time⟩],a',H') ⟨hc',by rw [← hu]; simp,by simp only [Nat.succ_mul,Nat.add_mul,List.length_append,List.length_cons,List.length_nil] at hlen ⊢; omega,G',(pk.ext (Ext.push H _)).trans pk'⟩ (by simp only; omega) (by simp [pickF,wS (show j<9223372036854775807 by omega)]) rfl (by simp)
  · obtain rfl:j=(dirI f (i:Int)).1.length:=by omega
    rw [List.drop_length] at hu
    have hu':tj=t++itemsL f (itemsOf f (k - 1)) ns (dirI f (i:Int)).1:=by simpa [itemsL] using hu
    subst hu'
    exact ⟨_,by simp,G,hfin pk⟩
theorem gather_all (f:Fs) (hl:f.nl≤1048576) (sh:ShapeOk f):∀ k,GatherC f k
  | 0=>gather_step f hl sh 0 (fun j e=>by cases e)
  | k+1=>gather_step f hl sh (k+1) (fun j e=>by
    have:j=k:=by omega
    subst this
    exact gather_all f hl sh j)
theorem treeItems_of {f:Fs} (e1:fsOk f=true) {ys:List Item} (hp:ys.Perm (itemsOf f 4 0 [])) (ho:ys.Pairwise fun x y=>Op.bytesLess y.path x.path=false):ys=tI_ f:=by
  have hd:=itemsOf_distinct 4 0 [] (vis_root e1) (by simp) (by simp)
  have hd2:ys.Pairwise fun a b=>a.path≠b.path:=(hp.pairwise_iff (fun h=>Ne.symm h)).2 hd
  have hs:SortedP ys:=by
    refine List.Pairwise.imp₂ ?_ ho hd2
    intro a b h1 h2
    have ht:=less_total a.path b.path
    rw [h1] at ht
    cases hl:Op.bytesLess a.path b.path
    · rw [hl] at ht
      simp at ht
      exact absurd ht.symm h2
    · rfl
  obtain ⟨s2,p2⟩:=foldPut_sorted (itemsOf f 4 0 []) [] (by simp [SortedP]) (by simpa using hd)
  unfold tI_
  rw [if_pos e1]
  exact sorted_eq hs s2 (hp.trans (by simpa using p2.symm))
theorem dir_le9 {es:List Ent} (h:entriesOk es=true):es.length≤9:=by
  have ho:=ok_ord h
  have ha:=ok_all h
  have nd:(es.map fun e=>e.node.toNat).Nodup:=by
    refine List.Pairwise.map _ ?_ (List.Pairwise.and_mem.1 ho)
    rintro a b ⟨h1,h2,_,hne⟩ e
    have:=(ha a h1).2
    have:=(ha b h2).2
    exact hne (by omega)
  have hs:(es.map fun e=>e.node.toNat) ⊆ List.range' 1 9:=by
    intro x hx
    obtain ⟨e,he,rfl⟩:=List.mem_map.1 hx
    have:=(ha e he).2
    rw [List.mem_range'_1]
    omega
  have h2:((List.range' 1 9).filter fun x=>decide (x∈es.map fun e=>e.node.toNat)).Perm (es.map fun e=>e.node.toNat):=by
    rw [List.perm_ext_iff_of_nodup (List.Pairwise.filter _ List.nodup_range') nd]
    intro x
    simp only [List.mem_filter,decide_eq_true_eq]
    exact ⟨fun h=>h.2,fun h=>⟨hs h,h⟩⟩
  have h3:=h2.length_eq
  have h4:=List.length_filter_le (fun x=>decide (x∈es.map fun e=>e.node.toNat)) (List.range' 1 9)
  rw [List.length_map] at h3
  rw [List.length_range'] at h4
  omega
def cap9:Nat→Nat
  | 0=>0
  | k+1=>9 * (1+cap9 k)
theorem itemsOf_le9 {f:Fs}:∀ (k:Nat) (i:Int) (ns:List Str),Vis f k i→(itemsOf f k i ns).length≤cap9 k
  | 0,i,ns,_=>by simp [itemsOf,cap9]
  | k+1,i,ns,v=>by
    have h9:=dir_le9 (dirI_two v.read).1
    have key:∀ es:List Ent,(∀ e∈es,e∈(dirI f i).1)→(itemsL f (itemsOf f k) ns es).length≤es.length * (1+cap9 k):=by
      intro es
      induction es with
      | nil=>intro _; simp [itemsL]
      | cons e es ih =>
        intro hes
        have h1:=ih fun x hx=>hes x (by simp [hx])
        have h2:(itemsE f (itemsOf f k) ns e).length≤1+cap9 k:=by
          unfold itemsE
          split
          · simp
          · split
            · rename_i hk2
              obtain ⟨j,hj,_,_,hrec⟩:=v.step (hes e (by simp))
              have:j=k:=by omega
              subst this
              have:=itemsOf_le9 j e.node (ns++[e.name]) (hrec hk2)
              simp; omega
            · simp
        have e1:itemsL f (itemsOf f k) ns (e :: es)=itemsE f (itemsOf f k) ns e++itemsL f (itemsOf f k) ns es:=rfl
        rw [e1,List.length_append,List.length_cons,Nat.succ_mul]; omega
    have h1:=key _ (fun e he=>he)
    have h2:(dirI f i).1.length * (1+cap9 k)≤9 * (1+cap9 k):=Nat.mul_le_mul_right _ h9
    simp only [itemsOf,cap9]; omega
theorem treeItems_le (f:Fs):(tI_ f).length≤7380:=by
  unfold tI_
  split
  · rename_i e1
    have h1:=itemsOf_le9 4 0 [] (vis_root e1)
    have h2:=foldPut_len (itemsOf f 4 0 []) []
    have:cap9 4=7380:=by decide
    simp only [List.length_nil] at h2
    omega
  · simp
theorem pathOf_root:pathOf []=[47]:=by decide
set_option maxHeartbeats 2000000 in
theorem treeOf_impl_c (f:Fs) (a1 a2:Option Addr) (F1 F2:List Nat) (w:Bool) (tNode:TypeId) (h:Hp) (k1:slR w tNode (nodeE w) h f.nodes a1 F1) (k2:slR w 9 strE h f.data a2 F2) (hl:f.nl≤1048576) :
    ACall Tryz.prog 15 [.agg #[.slice a1 f.nodes.length f.nodes.length,.slice a2 f.data.length f.data.length]] h fun r h'=>∃ b G,r=.agg #[.slice b (tI_ f).length (tI_ f).length]∧Own h 38 itemE h' (tI_ f) b G:=by
  refine acall mixed Tryz.func15 rfl (by kernel_rfl) ?_
  simp [Tryz.f15]
  refine cK (fsOk_impl_c f a1 a2 F1 F2 w tNode _ (k1.to (by simp)) (k2.to (by simp)) hl) ?_
  rintro _ _ ⟨⟨t1,rfl⟩,rfl⟩
  cases e1:fsOk f
  · simp [tI_,e1]
    exact ⟨_,Own.nil (Ext.push _ _)⟩
  have sh:=fsOk_shape e1
  obtain ⟨hr1,hr2⟩:=shape_root sh
  have hlen:(itemsOf f 4 0 []).length≤capI 4:=itemsOf_len sh 4 0 []
  simp
  have hb:=gather_all f hl sh 4 a1 a2 F1 F2 w tNode (h++⟨true,true,45,[.slice a1 f.nodes.length f.nodes.length,.slice a2 f.data.length f.data.length]⟩ :: ⟨true,true,32,[.slice none 0 0]⟩ :: t1) (k1.to (by simp)) (k2.to (by simp)) 0 (by omega) (by simpa using vis_root e1) [] (by simp) (by simp) [] none [] ⟨rfl,rfl⟩ List.nodup_nil (by simp) (by simp) (by simp [capI])
  rw [pathOf_root] at hb
  refine cK hb ?_
  rintro _ H ⟨b,G,rfl,pk⟩
  have xt:Ext _ H:=⟨pk.kp.1,fun q hq=>pk.kp.2 q hq (by simp)⟩
  obtain ⟨u,rfl⟩:=xt.pre
  have hG:∀ q∈G,h.length+2≤q:=fun q hq=>by
    rcases pk.sub q hq with h1 | h1
    · cases h1
    · simp at h1; omega
  have sl:=pk.sl
  simp only [List.nil_append] at sl
  have hlG:=sl.lt
  simp
  generalize hX:(h++⟨true,true,45,[.slice a1 f.nodes.length f.nodes.length,.slice a2 f.data.length f.data.length]⟩ :: ⟨true,true,32,[.slice none 0 0]⟩ :: (t1++(u++[⟨true,true,32,[.slice b (itemsOf f 4 0 []).length (itemsOf f 4 0 []).length]⟩])):Hp)=X
  have slX:slR true 38 itemE X (itemsOf f 4 0 []) b G:=by rw [← hX]; exact sl.to (by simp)
  have x1:X[h.length+1]?=some ⟨true,true,32,[.slice none 0 0]⟩:=by rw [← hX]; simp
  have x2:X[h.length+(t1.length+u.length+1+1)]?=some ⟨true,true,32,[.slice b (itemsOf f 4 0 []).length (itemsOf f 4 0 []).length]⟩:=by
    rw [← hX,List.getElem?_append_right (by omega),show h.length+(t1.length+u.length+1+1) - h.length=(t1.length+u.length)+1+1 by omega]
    simp only [List.getElem?_cons_succ]
    rw [List.getElem?_append_right (by omega),List.getElem?_append_right (by omega)]
    rw [show t1.length+u.length - t1.length - u.length=0 by omega]
    rfl
  have xe:Ext h X:=by rw [← hX]; exact Ext.push _ _
  clear hX
  refine cK (sortFunc_c (itemsOf f 4 0 []) b G X slX pk.nd (by simp only [capI] at hlen; omega)) ?_
  rintro _ H2 ⟨rfl,ys,hperm,hord,sl2,hl2,keep⟩
  have hys:=treeItems_of e1 hperm hord
  have hyl:ys.length=(itemsOf f 4 0 []).length:=hperm.length_eq
  have n1:h.length+1 ∉ G:=fun hm=>by have:=hG _ hm; omega
  have n2:h.length+(t1.length+u.length+1+1) ∉ G:=fun hm=>by have:=hlG _ hm; simp at this
  have y1:H2[h.length+1]?=some ⟨true,true,32,[.slice none 0 0]⟩:=by rw [keep _ n1]; exact x1
  have y2:cellAt H2 (h.length+(t1.length+u.length+1+1)) 0=some (.slice b (itemsOf f 4 0 []).length (itemsOf f 4 0 []).length):=by
    have:H2[h.length+(t1.length+u.length+1+1)]?=some ⟨true,true,32,[.slice b (itemsOf f 4 0 []).length (itemsOf f 4 0 []).length]⟩:=by rw [keep _ n2]; exact x2
    simp [cellAt,this]
  have hc1:cS_ H2 (h.length+1) 0 1=true:=by simp [cS_,y1]
  have hr1:cellAt (sA_ H2 (h.length+1) 0 [.slice b (itemsOf f 4 0 []).length (itemsOf f 4 0 []).length]) (h.length+1) 0=some (.slice b (itemsOf f 4 0 []).length (itemsOf f 4 0 []).length):=cell_after hc1
  simp [y2,hc1,hr1]
  rw [← hys,← hyl]
  have hne:∀ q,q≠h.length+1→(sA_ H2 (h.length+1) 0 [.slice b ys.length ys.length])[q]?=H2[q]?:=fun q hq=>by rw [sAg,if_neg (fun e=>hq e.symm)]
  refine ⟨b,⟨rfl,rfl⟩,G,⟨by rw [sAl,hl2]; exact xe.1,fun q hq=>?_⟩,sl2.frame fun q hq=>hne q (fun e=>n1 (e ▸ hq)),pk.nd,fun q hq=>by have:=hG q hq; omega⟩
  rw [hne q (by omega),keep q (fun hm=>by have:=hG q hm; omega)]
  exact xe.2 q hq
end Go.Proofs.YtmpgpkdijfcfhaaGreat.Hz
