/- Texts of the calculus and of the program's functions, merged: PW PK LK. -/
import Derived.Test.YtmpgpkdijfcfhaaHyGM
import Derived.Test.YtmpgpkdijfcfhaaHyGI
import Derived.Test.YtmpgpkdijfcfhaaHyGP
import Derived.Test.YtmpgpkdijfcfhaaHyRT
import Derived.Test.YtmpgpkdijfcfhaaHyGN
namespace Go.Proofs.Ytmpgpkdijfcfhaa.Hz
open Go.RowKit
set_option linter.unusedVariables false
set_option linter.unusedSimpArgs false
set_option maxRecDepth 20000
theorem putChunks_off (data:Str):∀ (bs:List Int) (k:Nat) (d:List Str) (q:Nat),(∀ b∈bs,b.toNat≠q)→(putChunks data bs k d)[q]?=d[q]?
  | [],_,_,_,_=>rfl
  | b :: bs,k,d,q,h=>by
    unfold putChunks
    rw [putChunks_off data bs _ _ q fun c hc=>h c (by simp [hc]),List.getElem?_set_ne (h b (by simp))]
theorem putChunks_at (data:Str):∀ (bs:List Int) (k:Nat) (d:List Str) (j:Nat) (hj:j<bs.length),bs.Nodup→(∀ b∈bs,0≤b∧b.toNat<d.length)→(putChunks data bs k d)[bs[j].toNat]?=some (chunk data (k+j))
  | b :: bs,k,d,0,hj,nd,hb=>by
    unfold putChunks
    have nd':=List.nodup_cons.1 nd
    simp only [List.getElem_cons_zero]
    rw [putChunks_off,List.getElem?_set_self (hb b (by simp)).2]
    · rfl
    · intro c hc e
      have h1:=(hb c (by simp [hc])).1
      have h2:=(hb b (by simp)).1
      have:c=b:=by omega
      exact nd'.1 (this ▸ hc)
  | b :: bs,k,d,j+1,hj,nd,hb=>by
    unfold putChunks
    simp only [List.getElem_cons_succ]
    rw [putChunks_at data bs (k+1) _ j (by simpa using hj) (List.nodup_cons.1 nd).2 fun c hc=>by simpa using hb c (by simp [hc])]
    rw [show k+1+j=k+(j+1) by omega]
theorem blkOk_iff:∀ (bs seen:List Int),blkOk seen bs=true↔(∀ b∈bs,0≤b∧b≤35)∧bs.Nodup∧∀ b∈bs,b ∉ seen
  | [],seen=>by simp [blkOk]
  | b :: bs,seen=>by
    simp only [blkOk,Bool.and_eq_true,blkOk_iff bs,inR_iff,Bool.not_eq_true',List.nodup_cons,List.mem_cons]
    constructor
    · rintro ⟨⟨h1,h2⟩,h3,h4,h5⟩
      have h2':b ∉ seen:=by simpa using h2
      refine ⟨?_,⟨fun hm=>h5 b hm (by simp),h4⟩,?_⟩
      · rintro c (rfl | hc)
        · exact h1
        · exact h3 c hc
      · rintro c (rfl | hc)
        · exact h2'
        · exact fun hs=>h5 c hc (by simp [hs])
    · rintro ⟨h1,⟨h2,h3⟩,h4⟩
      refine ⟨⟨h1 b (.inl rfl),by simpa using h4 b (.inl rfl)⟩,fun c hc=>h1 c (.inr hc),h3,fun c hc hs=>?_⟩
      rcases List.mem_append.1 hs with hs | hs
      · exact h4 c (.inr hc) hs
      · simp at hs
        subst hs
        exact h2 hc
theorem nodeOk_iff {n:Node}:nodeOk n=true↔(n.kind=0∧n.gen=0∧n.time=0∧n.size=0∧n.blocks=[])∨(n.kind≠0∧(1≤n.kind∧n.kind≤3)∧(0≤n.gen∧n.gen≤1000000)∧(0≤n.time∧n.time≤100000)∧(0≤n.size∧n.size≤80)∧(n.kind=2→n.gen=0∧n.time=0)∧(n.blocks.length:Int)=blocksFor n.size∧(∀ b∈n.blocks,0≤b∧b≤35)∧n.blocks.Nodup):=by
  unfold nodeOk
  by_cases h:n.kind=0
  · rw [if_pos (by simpa using h)]
    simp only [Bool.and_eq_true,beq_iff_eq]
    constructor
    · rintro ⟨⟨⟨h1,h2⟩,h3⟩,h4⟩
      exact .inl ⟨h,h1,h2,h3,List.eq_nil_of_length_eq_zero (by omega)⟩
    · rintro (⟨_,h1,h2,h3,h4⟩ | ⟨h1,_⟩)
      · exact ⟨⟨⟨h1,h2⟩,h3⟩,by simp [h4]⟩
      · exact absurd h h1
  · rw [if_neg (by simpa using h)]
    simp only [Bool.and_eq_true,inR_iff,Bool.not_eq_true',badDir,badLen,blkOk_iff,bne_eq_false_iff_eq,Bool.and_eq_false_iff,Bool.or_eq_false_iff,beq_eq_false_iff_ne]
    constructor
    · rintro ⟨⟨⟨⟨⟨⟨h1,h2⟩,h3⟩,h4⟩,h5⟩,h6⟩,h7,h8,_⟩
      exact .inr ⟨h,h1,h2,h3,h4,fun hk=>h5.resolve_left fun hn=>hn hk,h6,h7,h8⟩
    · rintro (⟨h0,_⟩ | ⟨_,h1,h2,h3,h4,h5,h6,h7,h8⟩)
      · exact absurd h0 h
      · refine ⟨⟨⟨⟨⟨⟨h1,h2⟩,h3⟩,h4⟩,?_⟩,h6⟩,h7,h8,by simp⟩
        by_cases hk:n.kind=2
        · exact .inr (h5 hk)
        · exact .inl hk
theorem held_mem {ns:List Node} {b:Int}:b∈held ns↔∃ (q:Nat) (hq:q<ns.length),b∈ns[q].blocks:=by
  simp only [held,List.mem_flatMap]
  constructor
  · rintro ⟨n,hn,hb⟩
    obtain ⟨q,hq,rfl⟩:=List.getElem_of_mem hn
    exact ⟨q,hq,hb⟩
  · rintro ⟨q,hq,hb⟩
    exact ⟨_,List.getElem_mem hq,hb⟩
theorem held_cut (ns:List Node) (i:Nat) (hi:i<ns.length) (x:Node):held (ns.set i x)=held (ns.take i)++(x.blocks++held (ns.drop (i+1))):=by
  rw [List.set_eq_take_append_cons_drop,if_pos hi]
  simp [held]
theorem held_self (ns:List Node) (i:Nat) (hi:i<ns.length):held ns=held (ns.take i)++(ns[i].blocks++held (ns.drop (i+1))):=by
  have:=held_cut ns i hi ns[i]
  rwa [List.set_getElem_self] at this
theorem held_set_nodup {ns:List Node} {i:Nat} (hi:i<ns.length) {x:Node} (nd:(held ns).Nodup) (hx:x.blocks.Nodup) (hd:∀ b∈x.blocks,b∈ns[i].blocks∨b ∉ held ns):(held (ns.set i x)).Nodup:=by
  rw [held_self ns i hi] at nd hd
  rw [held_cut ns i hi]
  rw [List.nodup_append] at nd ⊢
  obtain ⟨n1,n2,n3⟩:=nd
  rw [List.nodup_append] at n2 ⊢
  obtain ⟨m1,m2,m3⟩:=n2
  refine ⟨n1,⟨hx,m2,fun b hb c hc e=>?_⟩,fun b hb c hc e=>?_⟩
  · subst e
    rcases hd b hb with h | h
    · exact m3 b h b hc rfl
    · exact h (by simp [hc])
  · subst e
    rcases List.mem_append.1 hc with hc | hc
    · rcases hd b hc with h | h
      · exact n3 b hb b (by simp [h]) rfl
      · exact h (by simp [hb])
    · exact n3 b hb b (by simp [hc]) rfl
theorem held_set_back {ns:List Node} {i:Nat} (hi:i<ns.length) {x:Node} {b:Int} (h:b∈held (ns.set i x)):b∈x.blocks∨b∈held ns:=by
  rw [held_cut ns i hi] at h
  rw [held_self ns i hi]
  simp only [List.mem_append] at h ⊢
  rcases h with h | h | h
  · exact .inr (.inl h)
  · exact .inl h
  · exact .inr (.inr (.inr h))
theorem chunk_len (data:Str) (j:Nat):(chunk data j).length=min (data.length - 16 * j) 16:=by
  simp [chunk]
  omega
structure Wrote (f:Fs) (i:Nat) (data:Str):Prop where
  hi:i<f.nodes.length
  kind:f.nodes[i].kind≠0
  le:data.length≤80
  len:(writeBlocks f (i:Int) data).length=needOf data
  nodup:(writeBlocks f (i:Int) data).Nodup
  mem:∀ b∈writeBlocks f (i:Int) data,b∈f.nodes[i].blocks∨b ∉ held f.nodes
  range:∀ b∈writeBlocks f (i:Int) data,0≤b∧b<f.data.length
  pre:∀ b∈f.nodes[i].blocks,b∈writeBlocks f (i:Int) data∨b∈f.nodes[i].blocks.drop (needOf data)
theorem wrote_of {f:Fs} (s:ShapeOk f) {i:Nat} {data:Str} (hi:i<f.nodes.length) (hk:f.nodes[i].kind≠0) (hle:data.length≤80) (hn:needOf data≤(writeBlocks f (i:Int) data).length):Wrote f i data:=by
  have hnode:=nodeAtI_get hi
  have hu:writeBlocks f (i:Int) data=fillF (freeB f) (needOf data) (idxs f.data.length) (f.nodes[i].blocks.take (needOf data)):=by unfold writeBlocks; rw [hnode]
  have hok:=nodeOk_iff.1 (s.ok _ (List.getElem_mem hi))
  have hb:(∀ b∈f.nodes[i].blocks,0≤b∧b≤35)∧f.nodes[i].blocks.Nodup:=by
    rcases hok with ⟨h0,_⟩ | ⟨_,_,_,_,_,_,_,h7,h8⟩
    · exact absurd h0 hk
    · exact ⟨h7,h8⟩
  have inheld:∀ b∈f.nodes[i].blocks,b∈held f.nodes:=fun b hb=>held_mem.2 ⟨i,hi,hb⟩
  have hmem:∀ b∈writeBlocks f (i:Int) data,b∈f.nodes[i].blocks∨(b∈idxs f.data.length∧freeB f b=true):=fun b hb=>by
    rw [hu] at hb
    rcases fillF_mem _ _ _ hb with h | h
    · exact .inl (List.mem_of_mem_take h)
    · exact .inr h
  refine ⟨hi,hk,hle,?_,?_,fun b hb'=>?_,fun b hb'=>?_,fun b hb'=>?_⟩
  · have:(writeBlocks f (i:Int) data).length≤needOf data:=by rw [hu]; exact fillF_le _ _ (by simp; omega)
    omega
  · rw [hu]
    refine fillF_nodup _ _ (idxs_nodup _) (hb.2.sublist (List.take_sublist _ _)) fun x hx _=>?_
    have:=inheld x (List.mem_of_mem_take hx)
    simp [freeB,this]
  · rcases hmem b hb' with h | ⟨_,h⟩
    · exact .inl h
    · exact .inr (by simpa [freeB] using h)
  · rcases hmem b hb' with h | ⟨h,_⟩
    · exact s.own.1 b (inheld b h)
    · exact mem_idxs.1 h
  · rw [← List.take_append_drop (needOf data) f.nodes[i].blocks] at hb'
    rcases List.mem_append.1 hb' with h | h
    · left
      rw [hu]
      exact (fillF_pre _ _).subset h
    · exact .inr h
section
variable {f:Fs} {i:Nat} {data:Str} (W:Wrote f i data)
include W
theorem written_data_on {j:Nat} (hj:j<(writeBlocks f (i:Int) data).length):((written f (i:Int) data).data)[(writeBlocks f (i:Int) data)[j].toNat]?=some (chunk data j):=by
  have:=putChunks_at data (writeBlocks f (i:Int) data) 0 (dropData f.data ((nA_ f (i:Int)).blocks.drop (needOf data))) j hj W.nodup fun b hb=>by
    have:=W.range b hb
    rw [dropData_len]
    omega
  rw [Nat.zero_add] at this
  exact this
theorem written_data_off {q:Nat} (h1:∀ b∈writeBlocks f (i:Int) data,b.toNat≠q):((written f (i:Int) data).data)[q]?=(dropData f.data ((f.nodes[i]'W.hi).blocks.drop (needOf data)))[q]?:=by
  have hi:=W.hi
  have:=putChunks_off data (writeBlocks f (i:Int) data) 0 (dropData f.data ((nA_ f (i:Int)).blocks.drop (needOf data))) q h1
  rw [nodeAtI_get W.hi] at this
  have hw:(written f (i:Int) data).data=putChunks data (writeBlocks f (i:Int) data) 0 (dropData f.data (f.nodes[i].blocks.drop (needOf data))):=by unfold written; rw [nodeAtI_get W.hi]
  rw [hw]
  exact this
theorem written_shape (s:ShapeOk f):ShapeOk (written f (i:Int) data):=by
  have hi:=W.hi
  have hnode:=nodeAtI_get W.hi
  have hw:written f (i:Int) data=⟨f.nodes.set i { f.nodes[i] with size:=data.length,blocks:=writeBlocks f (i:Int) data },(written f (i:Int) data).data⟩:=by
    show Fs.mk _ _=_
    simp only [Int.toNat_natCast,hnode,written]
  have hdl:(written f (i:Int) data).data.length=f.data.length:=by simp [written,putChunks_len,dropData_len]
  have hneed:=needOf_le data W.le
  have hdata:=inR_iff.1 s.data
  have heldNew:∀ b,b∈held f.nodes→b∈held (f.nodes.set i { f.nodes[i] with size:=data.length,blocks:=writeBlocks f (i:Int) data })∨b∈f.nodes[i].blocks.drop (needOf data):=fun b hb=>by
    rcases held_set_mem W.hi (x:={ f.nodes[i] with size:=data.length,blocks:=writeBlocks f (i:Int) data }) hb with h | h
    · rcases W.pre b h with h | h
      · left
        exact held_mem.2 ⟨i,by simpa using W.hi,by simpa using h⟩
      · exact .inr h
    · exact .inl h
  generalize hD:(written f (i:Int) data).data=D at hw hdl
  rw [hw]
  refine ⟨by simpa using s.nodes,by simpa [hdl] using s.data,fun hk=>?_,fun n hn=>?_,⟨fun b hb=>?_,?_⟩,fun k hk=>?_,fun n hn j hj=>?_⟩
  · simp only [List.length_set] at hk
    have:=s.root hk
    by_cases h0:i=0
    · subst h0
      simpa using this
    · simp only
      rw [List.getElem_set_ne h0]
      exact this
  · rcases List.mem_or_eq_of_mem_set hn with h | h
    · exact s.ok n h
    · have hok:=nodeOk_iff.1 (s.ok _ (List.getElem_mem W.hi))
      rw [h,nodeOk_iff]
      rcases hok with ⟨h0,_⟩ | ⟨h0,h1,h2,h3,h4,h5,h6,h7,h8⟩
      · exact absurd h0 W.kind
      · have hle:=W.le
        refine .inr ⟨h0,h1,h2,h3,⟨?_,?_⟩,h5,?_,fun b hb=>?_,W.nodup⟩
        · show (0:Int)≤(data.length:Int)
          omega
        · show (data.length:Int)≤80
          omega
        · show ((writeBlocks f (i:Int) data).length:Int)=blocksFor (data.length:Int)
          rw [W.len,hneed.2.1]
        · have:=W.range b hb
          omega
  · show 0≤b∧b<(D.length:Int)
    rw [hdl]
    rcases held_set_back W.hi hb with h | h
    · exact W.range b h
    · exact s.own.1 b h
  · exact held_set_nodup W.hi s.own.2 W.nodup W.mem
  · simp only at hk ⊢
    have hk':k<f.data.length:=by omega
    by_cases hq:∃ (j:Nat) (hj:j<(writeBlocks f (i:Int) data).length),(writeBlocks f (i:Int) data)[j].toNat=k
    · obtain ⟨j,hj,e⟩:=hq
      have h1:=written_data_on W hj
      rw [hD,e,List.getElem?_eq_getElem hk] at h1
      injection h1 with h1
      refine ⟨by rw [h1,chunk_len]; omega,.inl ?_⟩
      have hr:=W.range _ (List.getElem_mem hj)
      have:(k:Int)=(writeBlocks f (i:Int) data)[j]:=by omega
      rw [this]
      exact held_mem.2 ⟨i,by simpa using W.hi,by simp⟩
    · have hoff:∀ b∈writeBlocks f (i:Int) data,b.toNat≠k:=fun b hb e=>by
        obtain ⟨j,hj,rfl⟩:=List.getElem_of_mem hb
        exact hq ⟨j,hj,e⟩
      have h1:=written_data_off W hoff
      have hk2:k<(dropData f.data (f.nodes[i].blocks.drop (needOf data))).length:=by rw [dropData_len]; exact hk'
      rw [hD,List.getElem?_eq_getElem hk,List.getElem?_eq_getElem hk2] at h1
      injection h1 with h1
      obtain ⟨d1,d2⟩:=dropData_at (f.nodes[i].blocks.drop (needOf data)) f.data k hk' hk2
      obtain ⟨g1,g2⟩:=s.blocks k hk'
      rw [h1]
      refine ⟨?_,?_⟩
      · rcases d1 with h | h <;> rw [h]
        · exact g1
        · simp
      · rcases g2 with g | g
        · rcases heldNew _ g with h | h
          · exact .inl h
          · exact .inr (d2 ⟨_,h,by simp⟩)
        · right
          rcases d1 with h | h
          · rw [h,g]
          · exact h
  · obtain ⟨q,hq,e⟩:=List.getElem_of_mem hn
    simp only [List.length_set] at hq
    by_cases hqi:i=q
    · subst hqi
      rw [List.getElem_set_self] at e
      subst e
      have h1:=written_data_on W (j:=j) hj
      rw [hD] at h1
      show (((D[(writeBlocks f (i:Int) data)[j].toNat]?).getD []).length:Int)=min ((data.length:Int) - 16 * j) 16
      rw [h1]
      simp only [Option.getD_some,chunk_len]
      have:=hneed.2.2.2 j (by have:=W.len; simp only at hj; omega)
      omega
    · rw [List.getElem_set_ne hqi] at e
      have h1:=s.lens n (by rw [← e]; exact List.getElem_mem hq) j hj
      rw [← h1]
      have m1:n.blocks[j]∈f.nodes[q].blocks:=by rw [e]; exact List.getElem_mem hj
      have p2:=s.own.1 _ (held_mem.2 ⟨q,hq,m1⟩)
      have hoff:∀ b∈writeBlocks f (i:Int) data,b.toNat≠n.blocks[j].toNat:=fun b hb eb=>by
        have p1:=W.range b hb
        have:b=n.blocks[j]:=by omega
        rcases W.mem b hb with h | h
        · exact held_disj s.own.2 W.hi hq hqi h (this ▸ m1)
        · exact h (held_mem.2 ⟨q,hq,this ▸ m1⟩)
      have h2:=written_data_off W hoff
      rw [hD] at h2
      unfold dlen
      simp only
      rw [h2,dropData_off]
      intro b hb hbk
      have hb':=List.mem_of_mem_drop hb
      have p1:=s.own.1 b (held_mem.2 ⟨i,W.hi,hb'⟩)
      have:b=n.blocks[j]:=by omega
      exact held_disj s.own.2 W.hi hq hqi hb' (this ▸ m1)
end
theorem nodeWrite_cases (f:Fs) (i:Int) (data:Str) (s:ShapeOk f):nW_ f i data=(f,false)∨∃ (m:Nat),i=m∧Wrote f m data∧nW_ f i data=(written f (m:Int) data,true):=by
  unfold nW_
  split
  · rename_i hc
    right
    simp only [Bool.and_eq_true,usable,decide_eq_true_eq] at hc
    obtain ⟨⟨⟨h1,h2,h3⟩,h4⟩,h5⟩:=hc
    have hin:=inR_iff.1 h2
    obtain ⟨m,rfl⟩:=Int.eq_ofNat_of_zero_le hin.1
    have hm:m<f.nodes.length:=by omega
    rw [nodeAtI_get hm] at h3
    exact ⟨m,rfl,wrote_of s hm (by simpa using h3) h4 h5,rfl⟩
  · exact .inl rfl
theorem nodeWrite_shape {f:Fs} (s:ShapeOk f) (i:Int) (data:Str):ShapeOk (nW_ f i data).1:=by
  rcases nodeWrite_cases f i data s with h | ⟨m,rfl,W,h⟩
  · rw [h]; exact s
  · rw [h]; exact written_shape W s
theorem freeAt_spec (f:Fs) (h:0≤freeAt f):∃ (m:Nat) (hm:m<f.nodes.length),freeAt f=m∧f.nodes[m].kind=0:=by
  unfold freeAt at h ⊢
  rcases findI_spec (fun n:Node=>n.kind == 0) f.nodes 0 with ⟨h1,_⟩ | ⟨j,hj,h1,h2,_⟩
  · rw [h1] at h
    exact absurd h (by decide)
  · exact ⟨j,hj,by rw [h1]; simp,by simpa using h2⟩
theorem nodeMake_cases (f:Fs) (kind:Int) (s:ShapeOk f):nodeMake f kind=(f,-1,false)∨∃ (m:Nat) (hm:m<f.nodes.length),(1≤kind∧kind≤3)∧f.nodes[m]=⟨0,0,0,0,[]⟩∧nodeMake f kind=(⟨f.nodes.set m ⟨kind,0,0,0,[]⟩,f.data⟩,(m:Int),true):=by
  unfold nodeMake
  split
  · rename_i hc
    simp only [Bool.and_eq_true,decide_eq_true_eq] at hc
    obtain ⟨m,hm,e,hk⟩:=freeAt_spec f hc.2
    have hn:f.nodes[m]=⟨0,0,0,0,[]⟩:=by
      rcases nodeOk_iff.1 (s.ok _ (List.getElem_mem hm)) with ⟨h0,h1,h2,h3,h4⟩ | ⟨h0,_⟩
      · cases hx:f.nodes[m]
        rw [hx] at h0 h1 h2 h3 h4
        simp only at h0 h1 h2 h3 h4
        subst h0; subst h1; subst h2; subst h3; subst h4
        rfl
      · exact absurd hk h0
    right
    refine ⟨m,hm,inR_iff.1 hc.1.2,hn,?_⟩
    rw [e,nodeAtI_get hm,hn]
    rfl
  · exact .inl rfl
theorem made_shape {f:Fs} (s:ShapeOk f) {m:Nat} (hm:m<f.nodes.length) (hn:f.nodes[m]=⟨0,0,0,0,[]⟩) {kind:Int} (hk:1≤kind∧kind≤3):ShapeOk ⟨f.nodes.set m ⟨kind,0,0,0,[]⟩,f.data⟩:=by
  have hh:held (f.nodes.set m ⟨kind,0,0,0,[]⟩)=held f.nodes:=by
    rw [held_cut _ _ hm,held_self f.nodes m hm,hn]
  refine ⟨by simpa using s.nodes,s.data,fun h0=>?_,fun n h=>?_,?_,?_,fun n h j hj=>?_⟩
  · simp only [List.length_set] at h0
    have hr:=s.root h0
    have:m≠0:=by
      rintro rfl
      rw [hn] at hr
      exact absurd hr (by decide)
    simp only
    rw [List.getElem_set_ne this]
    exact hr
  · rcases List.mem_or_eq_of_mem_set h with h | h
    · exact s.ok n h
    · rw [h,nodeOk_iff]
      exact .inr ⟨by simp only; omega,hk,⟨by simp,by simp⟩,⟨by simp,by simp⟩,⟨by simp,by simp⟩,fun _=>⟨rfl,rfl⟩,rfl,by simp,List.nodup_nil⟩
  · unfold OwnOk
    simp only
    rw [hh]
    exact s.own
  · unfold DataOk
    simp only
    rw [hh]
    exact s.blocks
  · rcases List.mem_or_eq_of_mem_set h with h | h
    · exact s.lens n h j hj
    · subst h
      simp at hj
theorem nodeMake_shape {f:Fs} (s:ShapeOk f) (kind:Int):ShapeOk (nodeMake f kind).1:=by
  rcases nodeMake_cases f kind s with h | ⟨m,hm,hk,hn,h⟩
  · rw [h]; exact s
  · rw [h]; exact made_shape s hm hn hk
theorem chunks_join (data:Str):∀ (n:Nat),data.length≤16 * n→((List.range n).map (chunk data)).flatten=data:=by
  have key:∀ n,((List.range n).map (chunk data)).flatten=data.take (16 * n):=by
    intro n
    induction n with
    | zero=>simp
    | succ n ih =>
      rw [List.range_succ,List.map_append,List.flatten_append,ih]
      simp only [List.map_cons,List.map_nil,List.flatten_cons,List.flatten_nil,List.append_nil,chunk]
      apply List.ext_getElem?
      intro q
      simp only [List.getElem?_append,List.getElem?_take,List.getElem?_drop,List.length_take]
      by_cases h1:q<16 * n
      · by_cases h2:q<data.length
        · rw [if_pos (by omega),if_pos h1,if_pos (by omega)]
        · rw [if_neg (by omega)]
          have e1:data[q]?=none:=List.getElem?_eq_none (by omega)
          have e2:data[16 * n+(q - min (16 * n) data.length)]?=none:=List.getElem?_eq_none (by omega)
          rw [e1,e2]
          simp
      · by_cases h2:16 * n≤data.length
        · have e0:min (16 * n) data.length=16 * n:=by omega
          rw [if_neg (by omega),e0,show 16 * n+(q - 16 * n)=q by omega]
          by_cases h3:q<16 * (n+1)
          · rw [if_pos h3]
            by_cases h4:q<data.length
            · rw [if_pos (by omega)]
            · rw [List.getElem?_eq_none (by omega:data.length≤q)]
              simp
          · rw [if_neg (by omega),if_neg h3]
        · have e1:data[q]?=none:=List.getElem?_eq_none (by omega)
          have e2:data[16 * n+(q - min (16 * n) data.length)]?=none:=List.getElem?_eq_none (by omega)
          rw [if_neg (by omega),e1,e2]
          simp
  intro n hn
  rw [key,List.take_of_length_le hn]
theorem contentOf_eq (f:Fs) (bs:List Int) (n:Nat) (g:Nat→Str) (hn:bs.length=n) (h:∀ (j:Nat) (hj:j<bs.length),f.data[bs[j].toNat]?=some (g j)):contentOf f bs=((List.range n).map g).flatten:=by
  unfold contentOf
  congr 1
  apply List.ext_getElem
  · simp [hn]
  · intro j h1 h2
    simp only [List.getElem_map,List.getElem_range]
    unfold dat
    rw [h j (by simpa using h1)]
    rfl
theorem written_content {f:Fs} (s:ShapeOk f) {i:Nat} {data:Str} (W:Wrote f i data):contentI (written f (i:Int) data) (i:Int)=data:=by
  have hb:(nA_ (written f (i:Int) data) (i:Int)).blocks=writeBlocks f (i:Int) data:=by
    have:i<(written f (i:Int) data).nodes.length:=by simp [written,W.hi]
    rw [nodeAtI_get this]
    simp [written]
  unfold contentI
  rw [hb,contentOf_eq _ _ (needOf data) (chunk data) W.len fun j hj=>written_data_on W hj]
  exact chunks_join data _ (needOf_le data W.le).2.2.1
theorem written_other {f:Fs} (s:ShapeOk f) {i:Nat} {data:Str} (W:Wrote f i data) {q:Nat} (hq:i≠q):nA_ (written f (i:Int) data) (q:Int)=nA_ f (q:Int)∧contentI (written f (i:Int) data) (q:Int)=contentI f (q:Int):=by
  have hi:=W.hi
  have h1:nA_ (written f (i:Int) data) (q:Int)=nA_ f (q:Int):=by
    simp only [nA_,written,Int.toNat_natCast]
    rw [List.getElem?_set_ne hq]
  refine ⟨h1,?_⟩
  unfold contentI
  rw [h1]
  by_cases hlt:q<f.nodes.length
  · rw [nodeAtI_get hlt]
    unfold contentOf
    congr 1
    refine List.map_congr_left fun b hb=>?_
    have p2:=s.own.1 _ (held_mem.2 ⟨q,hlt,hb⟩)
    have hoff:∀ c∈writeBlocks f (i:Int) data,c.toNat≠b.toNat:=fun c hc eb=>by
      have p1:=W.range c hc
      have:c=b:=by omega
      rcases W.mem c hc with h | h
      · exact held_disj s.own.2 W.hi hlt hq h (this ▸ hb)
      · exact h (held_mem.2 ⟨q,hlt,this ▸ hb⟩)
    unfold dat
    rw [written_data_off W hoff,dropData_off]
    intro c hc e
    have hc':=List.mem_of_mem_drop hc
    have p1:=s.own.1 c (held_mem.2 ⟨i,W.hi,hc'⟩)
    have:c=b:=by omega
    exact held_disj s.own.2 W.hi hlt hq hc' (this ▸ hb)
  · have:nA_ f (q:Int)=⟨0,0,0,0,[]⟩:=by simp [nA_,List.getElem?_eq_none (Nat.le_of_not_lt hlt)]
    rw [this]
    rfl
noncomputable def linkS (f:Fs) (d:Int) (name:Str) (node:Int):Fs × Bool :=
  if (dirAdd (dirI f d).1 name node).2 then nW_ f d (dirText (dirAdd (dirI f d).1 name node).1) else (f,false)
noncomputable def growS (f:Fs) (d:Int) (name:Str) (kind:Int):Fs × Int × Bool :=
  if (nodeMake f kind).2.2 then ((linkS (nodeMake f kind).1 d name (nodeMake f kind).2.1).1,(nodeMake f kind).2.1,(linkS (nodeMake f kind).1 d name (nodeMake f kind).2.1).2) else (f,-1,false)
noncomputable def climbS (f:Fs):List Str→Int→Fs × Int × Int
  | [],i=>if (nA_ f i).kind=2 then (f,i,0) else (f,-1,4)
  | n :: ns,i=>if (nA_ f i).kind=2 then
      (if dirFind (dirI f i).1 n<0 then (if (growS f i n 2).2.2 then climbS (growS f i n 2).1 ns (growS f i n 2).2.1 else (f,-1,5)) else climbS f ns (dirFind (dirI f i).1 n))
    else (f,-1,4)
theorem linkS_shape {f:Fs} (s:ShapeOk f) (d:Int) (name:Str) (node:Int):ShapeOk (linkS f d name node).1:=by
  unfold linkS
  split
  · exact nodeWrite_shape s _ _
  · exact s
theorem growS_shape {f:Fs} (s:ShapeOk f) (d:Int) (name:Str) (kind:Int):ShapeOk (growS f d name kind).1:=by
  unfold growS
  split
  · exact linkS_shape (nodeMake_shape s kind) _ _ _
  · exact s
theorem dirAdd_true {es:List Ent} {name:Str} {node:Int} (h:(dirAdd es name node).2=true):entriesOk es=true∧entriesOk (insE es name node)=true∧(dirAdd es name node).1=insE es name node:=by
  unfold dirAdd at h ⊢
  split at h
  · rename_i hc
    simp only [Bool.and_eq_true] at hc
    rw [if_pos (by simp [hc])]
    exact ⟨hc.1,hc.2,rfl⟩
  · cases h
theorem linkS_cases (f:Fs) (s:ShapeOk f) (d:Int) (name:Str) (node:Int):((linkS f d name node).2=false∧(linkS f d name node).1=f)∨∃ (m:Nat),d=m∧entriesOk (dirI f d).1=true∧entriesOk (insE (dirI f d).1 name node)=true∧Wrote f m (dirText (insE (dirI f d).1 name node))∧linkS f d name node=(written f (m:Int) (dirText (insE (dirI f d).1 name node)),true):=by
  unfold linkS
  split
  · rename_i h
    obtain ⟨h1,h2,h3⟩:=dirAdd_true h
    rw [h3]
    rcases nodeWrite_cases f d (dirText (insE (dirI f d).1 name node)) s with e | ⟨m,rfl,W,e⟩
    · rw [e]; exact .inl ⟨rfl,rfl⟩
    · exact .inr ⟨m,rfl,h1,h2,W,e⟩
  · exact .inl ⟨rfl,rfl⟩
structure Fresh (g:Fs) (m:Nat) (kind:Int):Prop where
  lt:m<g.nodes.length
  is:nA_ g (m:Int)=⟨kind,0,0,0,[]⟩
theorem growS_fresh {f:Fs} (s:ShapeOk f) {i:Nat} (hi:i<f.nodes.length) (hk:(nA_ f (i:Int)).kind≠0) {name:Str} {kind:Int} (h:(growS f (i:Int) name kind).2.2=true) :
    ∃ m:Nat,(growS f (i:Int) name kind).2.1=m∧i≠m∧Fresh (growS f (i:Int) name kind).1 m kind∧(growS f (i:Int) name kind).1.nodes.length=f.nodes.length∧m≠0:=by
  unfold growS at h ⊢
  split at h
  · rename_i hm
    rw [if_pos hm]
    rcases nodeMake_cases f kind s with e | ⟨m,hm',hkd,hn,e⟩
    · rw [e] at hm; cases hm
    · rw [e] at h ⊢
      simp only at h ⊢
      have hne:i≠m:=by
        rintro rfl
        rw [nodeAtI_get hi,hn] at hk
        exact hk rfl
      have h0:m≠0:=by
        rintro rfl
        have:=s.root hm'
        rw [hn] at this
        exact absurd this (by decide)
      have ms:=made_shape s hm' hn hkd
      have at1:nA_ ⟨f.nodes.set m ⟨kind,0,0,0,[]⟩,f.data⟩ (m:Int)=⟨kind,0,0,0,[]⟩:=by simp [nA_,hm']
      rcases linkS_cases _ ms (i:Int) name (m:Int) with ⟨e2,_⟩ | ⟨d,hd,_,_,W,e2⟩
      · rw [e2] at h; cases h
      · have hd':i=d:=by omega
        subst hd'
        rw [e2]
        refine ⟨m,rfl,hne,⟨?_,?_⟩,?_,h0⟩
        · simp only [written,List.length_set]
          exact hm'
        · rw [(written_other ms W hne).1,at1]
        · simp [written]
  · cases h
def Closed (f:Fs) (S:Int→Prop):Prop:=∀ i,S i→0≤i∧i<f.nodes.length∧((nA_ f i).kind=2→(dirI f i).2=true∧∀ e∈(dirI f i).1,S e.node)
def Good (f:Fs) (i:Int):Prop:=∃ S,Closed f S∧S i
theorem Okd.read {f:Fs} {i:Int} (o:Okd f i) (hk:(nA_ f i).kind=2):(dirI f i).2=true:=by
  obtain ⟨k,s,T,hv⟩:=o.2.2 hk
  cases k with
  | zero =>
    unfold visit at hv
    split at hv
    · rename_i h
      simp only [Bool.and_eq_true] at h
      exact h.1
    · cases hv
  | succ k =>
    unfold visit at hv
    split at hv
    · assumption
    · cases hv
theorem okd_closed (f:Fs):Closed f (Okd f):=fun i o=>⟨o.1,o.2.1,fun hk=>⟨o.read hk,fun e he=>o.step hk he⟩⟩
theorem Okd.good {f:Fs} {i:Int} (o:Okd f i):Good f i:=⟨_,okd_closed f,o⟩
theorem dirOf_empty:dirOf []=([],true):=by decide
theorem Fresh.dir {g:Fs} {m:Nat} {kind:Int} (k:Fresh g m kind):dirI g (m:Int)=([],true):=by
  unfold dirI contentI
  rw [k.is]
  exact dirOf_empty
theorem Fresh.good {g:Fs} {m:Nat} {kind:Int} (k:Fresh g m kind):Good g (m:Int) :=
  ⟨fun x=>x=(m:Int),fun i hi=>by
    subst hi
    have:=k.lt
    refine ⟨by omega,by omega,fun _=>?_⟩
    rw [k.dir]
    exact ⟨rfl,fun e he=>by cases he⟩,rfl⟩
theorem Good.lt {f:Fs} {i:Int} (k:Good f i):0≤i∧i<f.nodes.length:=by
  obtain ⟨S,c,hs⟩:=k
  exact ⟨(c i hs).1,(c i hs).2.1⟩
theorem Good.read {f:Fs} {i:Int} (k:Good f i) (hk:(nA_ f i).kind=2):(dirI f i).2=true:=by
  obtain ⟨S,c,hs⟩:=k
  exact ((c i hs).2.2 hk).1
theorem Good.find {f:Fs} {i:Int} (k:Good f i) (hk:(nA_ f i).kind=2) (n:Str):dirFind (dirI f i).1 n=-1∨Good f (dirFind (dirI f i).1 n):=by
  obtain ⟨S,c,hs⟩:=k
  rcases dirFind_cases (dirI f i).1 n with h | ⟨e,he,h⟩
  · exact .inl h
  · rw [h]
    exact .inr ⟨S,c,((c i hs).2.2 hk).2 e he⟩
theorem climbS_shape:∀ (ns:List Str) {f:Fs} (s:ShapeOk f) (i:Int),ShapeOk (climbS f ns i).1
  | [],f,s,i=>by
    unfold climbS
    split <;> exact s
  | n :: ns,f,s,i=>by
    unfold climbS
    split
    · split
      · split
        · exact climbS_shape ns (growS_shape s _ _ _) _
        · exact s
      · exact climbS_shape ns s _
    · exact s
theorem climbS_good:∀ (ns:List Str) {f:Fs} (s:ShapeOk f) {i:Int} (g:Good f i),(climbS f ns i).2.2=0→Good (climbS f ns i).1 (climbS f ns i).2.1∧(nA_ (climbS f ns i).1 (climbS f ns i).2.1).kind=2
  | [],f,s,i,g,h=>by
    unfold climbS at h ⊢
    split at h
    · rename_i hk
      rw [if_pos hk]
      exact ⟨g,hk⟩
    · cases h
  | n :: ns,f,s,i,g,h=>by
    unfold climbS at h ⊢
    split at h
    · rename_i hk
      rw [if_pos hk]
      obtain ⟨m,hm⟩:=Int.eq_ofNat_of_zero_le g.lt.1
      split at h
      · rename_i hn
        rw [if_pos hn]
        split at h
        · rename_i hg
          rw [if_pos hg]
          subst hm
          have hlt:m<f.nodes.length:=by have:=g.lt.2; omega
          obtain ⟨q,e1,e2,fr,e4,e5⟩:=growS_fresh s hlt (by rw [hk]; decide) hg
          refine climbS_good ns (growS_shape s _ _ _) ?_ h
          rw [e1]
          exact fr.good
        · cases h
      · rename_i hn
        rw [if_neg hn]
        rcases g.find hk n with h1 | h1
        · rw [h1] at hn; exact absurd (by decide) hn
        · exact climbS_good ns s h1 h
    · cases h
theorem climbS_step (f:Fs) (ns:List Str) (k:Nat) (hk:k<ns.length) (i:Int):climbS f (ns.drop k) i=if (nA_ f i).kind=2 then (if dirFind (dirI f i).1 ns[k]<0 then (if (growS f i ns[k] 2).2.2 then climbS (growS f i ns[k] 2).1 (ns.drop (k+1)) (growS f i ns[k] 2).2.1 else (f,-1,5)) else climbS f (ns.drop (k+1)) (dirFind (dirI f i).1 ns[k])) else (f,-1,4):=by
  rw [List.drop_eq_getElem_cons hk]
  conv=>lhs; unfold climbS
def Img (f:Fs) (a1 a2:Option Addr) (g:Fs) (h h':Hp) (v:Value):Prop:=(v=.agg #[.slice a1 f.nodes.length f.nodes.length,.slice a2 f.data.length f.data.length]∧g=f)∨FsRes g h h' v
theorem dirAdd_size {f:Fs} (s:ShapeOk f) (d:Int) (name:Str) (hn:name.length≤1000) (node:Int) :
    (dirI f d).1.length≤80∧sumL Ent.nl (dirI f d).1+name.length≤1480∧(dirAdd (dirI f d).1 name node).1.length≤81∧sumL Ent.nl (dirAdd (dirI f d).1 name node).1≤1480∧(dirText (dirAdd (dirI f d).1 name node).1).length≤1048576:=by
  have h1:=dirI_small s d
  have h2:sumL Ent.nl (dirI f d).1≤480:=names_sum _ (fun e he=>dirI_names f d e he) h1
  have h3:(dirAdd (dirI f d).1 name node).1.length≤81∧sumL Ent.nl (dirAdd (dirI f d).1 name node).1≤1480:=by
    unfold dirAdd
    split
    · have:=insE_len (dirI f d).1 name node
      have:=insE_nl (dirI f d).1 name node
      simp only
      omega
    · simp only
      omega
  have h4:=dirText_len (dirAdd (dirI f d).1 name node).1 (dirAdd (dirI f d).1 name node).1.length
  rw [List.take_length] at h4
  omega
theorem make_kind {f:Fs} (s:ShapeOk f) {d:Nat} (hd:d<f.nodes.length) (hk:(nA_ f (d:Int)).kind=2) (kind:Int):(nA_ (nodeMake f kind).1 (d:Int)).kind=2:=by
  rcases nodeMake_cases f kind s with e | ⟨m,hm,_,hn,e⟩
  · rw [e]; exact hk
  · rw [e]
    have hne:m≠d:=by
      rintro rfl
      rw [nodeAtI_get hd,hn] at hk
      exact absurd hk (by decide)
    simp only [nA_,Int.toNat_natCast] at hk ⊢
    rw [List.getElem?_set_ne hne]
    exact hk
section
variable (f:Fs) (a1 a2:Option Addr) (F1 F2:List Nat) (w:Bool) (tNode:TypeId) (h:Hp) (k1:slR w tNode (nodeE w) h f.nodes a1 F1) (k2:slR w 9 strE h f.data a2 F2) (hl:f.nl≤1048576) (s:ShapeOk f) (d:Nat) (hd:d<f.nodes.length) (name:Str) (hnm:name.length≤1000) (node:Int)
include k1 k2 hl s hd hnm
set_option maxHeartbeats 2000000 in
theorem enter_c (hk:(nA_ f (d:Int)).kind=2) :
    ACall Try.prog 102 [.agg #[.slice a1 f.nodes.length f.nodes.length,.slice a2 f.data.length f.data.length],.int .i64 d,.string (S name),.int .i64 node] h fun r h'=>∃ v,r=.tuple #[v,.bool (linkS f d name node).2]∧Ext h h'∧Img f a1 a2 (linkS f d name node).1 h h' v:=by
  refine acall mixed Try.func102 rfl (by kernel_rfl) ?_
  simp [Try.f102]
  obtain ⟨z1,z2,z3,z4,z5⟩:=dirAdd_size s (d:Int) name hnm node
  have hdk:dirK f d=dirI f d:=by simp [dirK,hk]
  refine cK (l9Dir_c f a1 a2 F1 F2 w tNode _ (k1.to (by simp)) (k2.to (by simp)) hl s d hd) ?_
  rintro _ _ ⟨a',F',rfl,oe⟩
  rw [hdk] at oe ⊢
  obtain ⟨u1,rfl⟩:=oe.ext.pre
  simp
  refine cK (dirAdd_spec_c _ name node a' F' true _ (oe.sl.to (by simp)) (by omega) (by omega)) ?_
  rintro _ _ ⟨b',G',rfl,od⟩
  obtain ⟨u2,rfl⟩:=od.ext.pre
  simp
  cases e1:(dirAdd (dirI f (d:Int)).1 name node).2
  · have hq:linkS f (d:Int) name node=(f,false):=by simp [linkS,e1]
    rw [hq]
    simp
    exact ⟨Ext.push _ _,.inl ⟨rfl,rfl⟩⟩
  have hq:linkS f (d:Int) name node=nW_ f (d:Int) (dirText (dirAdd (dirI f (d:Int)).1 name node).1):=by simp [linkS,e1]
  rw [hq]
  simp
  refine drawK true (by kernel_rfl) ?_
  simp
  refine callK (dirText_spec_c _ b' G' true _ _ (od.sl.to (by simp)) (by omega) (by omega)) ?_
  rintro _ _ ⟨⟨u3,rfl⟩,rfl⟩
  refine ⟨fun _=>Ext.push _ _,?_⟩
  simp
  refine callK (nodeWrite_spec_c f a1 a2 F1 F2 w tNode _ (k1.to (by simp)) (k2.to (by simp)) hl d _ z5) ?_
  generalize nW_ f (d:Int) (dirText (dirAdd (dirI f (d:Int)).1 name node).1)=q
  rintro _ _ ⟨v,rfl,b1,G1,b2,G2,rfl,o1,o2,dis⟩
  obtain ⟨u4,rfl⟩:=o1.ext.pre
  refine ⟨fun _=>Ext.push _ _,?_⟩
  simp
  simp at o1 o2
  refine ⟨Ext.push _ _,.inr ?_⟩
  have hr:=FsRes.early (h:=h) (t1:=u1++(u2++u3)) (u:=u4) (B:=⟨true,true,26,[.slice a1 f.nodes.length f.nodes.length,.slice a2 f.data.length f.data.length]⟩) (R:=⟨true,true,26,[.slice none 0 0,.slice none 0 0]⟩) (R':=⟨true,true,26,[.slice b1 q.1.nodes.length q.1.nodes.length,.slice b2 q.1.data.length q.1.data.length]⟩) (g:=q.1) (by simpa using o1) (by simpa using o2) dis
  simpa using hr
set_option maxHeartbeats 2000000 in
theorem new_c (kind:Int) (hk:(nA_ f (d:Int)).kind=2) :
    ACall Try.prog 79 [.agg #[.slice a1 f.nodes.length f.nodes.length,.slice a2 f.data.length f.data.length],.int .i64 d,.string (S name),.int .i64 kind] h fun r h'=>∃ v,r=.tuple #[v,.int .i64 (growS f d name kind).2.1,.bool (growS f d name kind).2.2]∧Ext h h'∧Img f a1 a2 (growS f d name kind).1 h h' v:=by
  refine acall mixed Try.func79 rfl (by kernel_rfl) ?_
  simp [Try.f79]
  refine cK (nodeMake_spec_c f a1 a2 F1 F2 w tNode _ (k1.to (by simp)) (k2.to (by simp)) hl kind) ?_
  have hms:=nodeMake_shape s kind
  have hml:(nodeMake f kind).1.nodes.length=f.nodes.length:=by unfold nodeMake; split <;> simp
  have hkq:(nA_ f (d:Int)).kind=2→(nA_ (nodeMake f kind).1 (d:Int)).kind=2:=fun hk=>make_kind s hd hk kind
  have hg:growS f d name kind=if (nodeMake f kind).2.2 then ((linkS (nodeMake f kind).1 d name (nodeMake f kind).2.1).1,(nodeMake f kind).2.1,(linkS (nodeMake f kind).1 d name (nodeMake f kind).2.1).2) else (f,-1,false):=rfl
  rw [hg]
  clear hg
  generalize nodeMake f kind=q at hms hml hkq ⊢
  obtain ⟨fq,iq,bq⟩:=q
  simp only at hms hml hkq ⊢
  replace hkq:=hkq hk
  rintro _ _ ⟨v,rfl,fr⟩
  have fr':=fr
  obtain ⟨b1,G1,b2,G2,rfl,o1,o2,dis⟩:=fr'
  obtain ⟨u1,rfl⟩:=o1.ext.pre
  cases bq
  · simp
    exact ⟨Ext.push _ _,.inl ⟨rfl,rfl⟩⟩
  simp
  refine cK (enter_c fq b1 b2 G1 G2 true _ _ (o1.sl.to (by simp)) (o2.sl.to (by simp)) (by have:=hms.small.nl; omega) hms d (by omega) name hnm iq hkq) ?_
  generalize linkS fq (d:Int) name iq=L
  obtain ⟨fl,bl⟩:=L
  simp only
  rintro _ _ ⟨v2,rfl,hx,im⟩
  obtain ⟨u2,rfl⟩:=hx.pre
  rcases im with ⟨rfl,rfl⟩ | fr2
  · simp
    refine ⟨Ext.push _ _,.inr ?_⟩
    have hr:=FsRes.tail (h:=h) (P1:=h++[⟨true,true,26,[.slice a1 f.nodes.length f.nodes.length,.slice a2 f.data.length f.data.length]⟩,⟨true,true,26,[.slice none 0 0,.slice none 0 0]⟩]) (P2:=h++[⟨true,true,26,[.slice a1 f.nodes.length f.nodes.length,.slice a2 f.data.length f.data.length]⟩,⟨true,true,26,[.slice b1 fl.nodes.length fl.nodes.length,.slice b2 fl.data.length fl.data.length]⟩]) (u:=u1++⟨true,true,26,[.slice b1 fl.nodes.length fl.nodes.length,.slice b2 fl.data.length fl.data.length]⟩ :: (u2++[⟨true,true,26,[.slice b1 fl.nodes.length fl.nodes.length,.slice b2 fl.data.length fl.data.length]⟩])) (by simpa using fr.grow (⟨true,true,26,[.slice b1 fl.nodes.length fl.nodes.length,.slice b2 fl.data.length fl.data.length]⟩ :: (u2++[⟨true,true,26,[.slice b1 fl.nodes.length fl.nodes.length,.slice b2 fl.data.length fl.data.length]⟩]))) (by simp) (by simp) (by simpa using Ext.push h _) (by simp)
    simpa using hr
  · have fr2':=fr2
    obtain ⟨c1,H1,c2,H2,rfl,p1,p2,dis2⟩:=fr2'
    simp
    refine ⟨Ext.push _ _,.inr ?_⟩
    have hr:=FsRes.tail (h:=h) (P1:=h++⟨true,true,26,[.slice a1 f.nodes.length f.nodes.length,.slice a2 f.data.length f.data.length]⟩ :: ⟨true,true,26,[.slice none 0 0,.slice none 0 0]⟩ :: (u1++[⟨true,true,26,[.slice b1 fq.nodes.length fq.nodes.length,.slice b2 fq.data.length fq.data.length]⟩])) (P2:=h++⟨true,true,26,[.slice a1 f.nodes.length f.nodes.length,.slice a2 f.data.length f.data.length]⟩ :: ⟨true,true,26,[.slice c1 fl.nodes.length fl.nodes.length,.slice c2 fl.data.length fl.data.length]⟩ :: (u1++[⟨true,true,26,[.slice b1 fq.nodes.length fq.nodes.length,.slice b2 fq.data.length fq.data.length]⟩])) (u:=u2++[⟨true,true,26,[.slice c1 fl.nodes.length fl.nodes.length,.slice c2 fl.data.length fl.data.length]⟩]) (by simpa using fr2.grow [⟨true,true,26,[.slice c1 fl.nodes.length fl.nodes.length,.slice c2 fl.data.length fl.data.length]⟩]) (by simp) (by simp) (by simpa using Ext.push h _) (by simp)
    simpa using hr
end
end Go.Proofs.Ytmpgpkdijfcfhaa.Hz
