/- Towards renaming: paths without a certificate, room for a write, entries put in. No program in sight. -/
import Derived.Test.YtmpgpkdijfcfhaaGreatHyZH
namespace Go.Proofs.YtmpgpkdijfcfhaaGreat.Hz
open Go.RowKit
set_option linter.unusedVariables false
set_option linter.unusedSimpArgs false
set_option maxRecDepth 20000
theorem kind_range {f:Fs} {i:Int} (h0:0≤i) (hk:(nodeAtI f i).kind≠0):i<f.nodes.length:=by
  by_cases h:i<f.nodes.length
  · exact h
  · exfalso
    apply hk
    unfold nodeAtI
    rw [List.getElem?_eq_none (by omega)]
    rfl
theorem edge_at {f:Fs} {ns:List Str} {a:Str} (h:0≤follow f (ns++[a]) 0):∃ e,0≤follow f ns 0∧Edge f (follow f ns 0) e∧e.name=a∧follow f (ns++[a]) 0=e.node:=by
  rw [follow_last] at h ⊢
  split at h
  · rename_i h1
    rw [if_pos h1]
    split at h
    · omega
    · rename_i h2
      rw [if_neg h2]
      obtain ⟨e,he,h3,h4⟩:=dirFind_pos (show 0≤dirFind _ a by omega)
      exact ⟨e,h1.1,⟨h1.1,kind_range h1.1 (by rw [h1.2]; decide),h1.2,he⟩,h3,h4⟩
  · omega
theorem follow_up {f g:Fs} (h:∀ i e,Edge f i e→Edge g i e):∀ (n:Nat) (ns:List Str),ns.length=n→0≤follow f ns 0→follow g ns 0=follow f ns 0:=by
  intro n
  induction n with
  | zero =>
    intro ns hl _
    obtain rfl:=List.length_eq_zero_iff.1 hl
    rfl
  | succ n ih =>
    intro ns hl h0
    rcases List.eq_nil_or_concat ns with rfl | ⟨ns,a,rfl⟩
    · simp at hl
    simp only [List.concat_eq_append] at hl h0 ⊢
    obtain ⟨e,h1,h2,rfl,h4⟩:=edge_at h0
    rw [h4]
    have:=ih ns (by simpa using hl) h1
    exact at_ext (by rw [this]; exact h _ _ h2)
theorem follow_upto {f g:Fs} {dep:Int→Nat} (C:Cert f dep) {x:Int} (h:∀ i e,Edge f i e→e.node≠x→Edge g i e):∀ (n:Nat) (ns:List Str),ns.length=n→ns.length<dep x→0≤follow f ns 0→follow g ns 0=follow f ns 0:=by
  intro n
  induction n with
  | zero =>
    intro ns hl _ _
    obtain rfl:=List.length_eq_zero_iff.1 hl
    rfl
  | succ n ih =>
    intro ns hl hlt h0
    have hd:=at_dep C _ ns rfl h0
    rcases List.eq_nil_or_concat ns with rfl | ⟨ns,a,rfl⟩
    · simp at hl
    simp only [List.concat_eq_append] at hl hlt h0 hd ⊢
    obtain ⟨e,h1,h2,rfl,h4⟩:=edge_at h0
    rw [h4] at hd ⊢
    have:=ih ns (by simpa using hl) (by simp at hlt; omega) h1
    have hne:e.node≠x:=fun e0=>by
      rw [e0] at hd
      omega
    exact at_ext (by rw [this]; exact h _ _ h2 hne)
theorem paths_uniq {f:Fs} (uni:∀ (i j:Int) (e d:Ent),Edge f i e→Edge f j d→e.node=d.node→i=j):∀ (n:Nat) (ns ms:List Str),ns.length=n→0≤follow f ns 0→follow f ns 0=follow f ms 0→ns=ms:=by
  intro n
  induction n with
  | zero =>
    intro ns ms hl h0 he
    obtain rfl:=List.length_eq_zero_iff.1 hl
    rcases List.eq_nil_or_concat ms with rfl | ⟨ms,b,rfl⟩
    · rfl
    · simp only [List.concat_eq_append] at he
      obtain ⟨e,-,h2,-,h4⟩:=edge_at (f:=f) (ns:=ms) (a:=b) (by rw [← he]; exact h0)
      have:=mem_node h2.2.2.2
      rw [h4] at he
      have h5:(0:Int)=e.node:=he
      omega
  | succ n ih =>
    intro ns ms hl h0 he
    rcases List.eq_nil_or_concat ns with rfl | ⟨ns,a,rfl⟩
    · simp at hl
    simp only [List.concat_eq_append] at hl h0 he ⊢
    obtain ⟨e,q1,q2,rfl,q4⟩:=edge_at h0
    have hn:=mem_node q2.2.2.2
    rcases List.eq_nil_or_concat ms with rfl | ⟨ms,b,rfl⟩
    · rw [q4] at he
      have h5:e.node=(0:Int):=he
      omega
    · simp only [List.concat_eq_append] at he ⊢
      obtain ⟨d,r1,r2,rfl,r4⟩:=edge_at (f:=f) (ns:=ms) (a:=b) (by rw [← he]; exact h0)
      have hnn:e.node=d.node:=by rw [← q4,← r4,he]
      have hu:=uni _ _ _ _ q2 r2 hnn
      rw [ih ns ms (by simpa using hl) q1 hu]
      rw [← hu] at r2
      have:e=d:=pw_inj (g:=Ent.node) ((ok_ord (mem_ok q2.2.2.2)).imp fun h=>h.2) q2.2.2.2 r2.2.2.2 hnn
      rw [this]
open Classical in
theorem cert_paths {f:Fs} (sh:ShapeOk f) (read:∀ i:Int,0≤i→i<f.nodes.length→(nodeAtI f i).kind=2→(dirI f i).2=true) (lo:∀ (i:Int) (e:Ent),Edge f i e→lost f e=false) (hi:∀ (i:Int) (e:Ent),Edge f i e→hiddenBad f i e=false)
    (uni:∀ (i j:Int) (e d:Ent),Edge f i e→Edge f j d→e.node=d.node→i=j) (paths:∀ j:Int,0≤j→j<f.nodes.length→(nodeAtI f j).kind≠0→∃ ns:List Str,ns.length≤4∧follow f ns 0=j):∃ dep,Cert f dep:=by
  have uq:=fun (ns ms:List Str)=>paths_uniq uni _ ns ms rfl
  let dep:Int→Nat:=fun j=>if hh:∃ ns,follow f ns 0=j∧0≤j then (Classical.choose hh).length else 0
  have hdep:∀ (ns:List Str),0≤follow f ns 0→dep (follow f ns 0)=ns.length:=fun ns h0=>by
    have hh:∃ ms,follow f ms 0=follow f ns 0∧0≤follow f ns 0:=⟨ns,rfl,h0⟩
    have hc:=Classical.choose_spec hh
    show (if hh:_ then _ else 0)=_
    rw [dif_pos hh]
    exact congrArg List.length (uq ns _ h0 hc.1.symm).symm
  refine ⟨dep,sh,read,lo,hi,uni,fun j h0 h1 h2=>?_,?_,fun i e he=>?_⟩
  · obtain ⟨ns,-,hns⟩:=paths j (by omega) h1 h2
    rcases List.eq_nil_or_concat ns with rfl | ⟨ns,a,rfl⟩
    · have:(0:Int)=j:=hns
      omega
    · simp only [List.concat_eq_append] at hns
      obtain ⟨e,q1,q2,-,q4⟩:=edge_at (f:=f) (ns:=ns) (a:=a) (by omega)
      exact ⟨_,e,q2,by rw [← q4,hns]⟩
  · exact hdep [] (Int.le_refl _)
  · obtain ⟨ns,-,hns⟩:=paths i he.1 he.2.1 (by rw [he.2.2.1]; decide)
    have hl:=lost_lt (lo i e he)
    have hn:=mem_node he.2.2.2
    obtain ⟨ms,hm4,hms⟩:=paths e.node (by omega) hl.1 hl.2
    have hx:follow f (ns++[e.name]) 0=e.node:=at_ext (by rw [hns]; exact he)
    have hi0:=he.1
    have h1:=hdep ns (by omega)
    have h2:=hdep (ns++[e.name]) (by omega)
    rw [hns] at h1
    rw [hx] at h2
    have h3:=uq (ns++[e.name]) ms (by omega) (by rw [hx,hms])
    rw [h1,h2]
    refine ⟨by simp,?_⟩
    rw [h3]; exact hm4
theorem fillF_len {fr:Int→Bool} {need:Nat}:∀ (cs bs:List Int),bs.length≤need→(fillF fr need cs bs).length=min need (bs.length+cs.countP fr)
  | [],bs,h=>by
    simp only [fillF,List.countP_nil]
    omega
  | b :: cs,bs,h=>by
    unfold fillF
    rw [List.countP_cons]
    split
    · cases hb:fr b
      · rw [if_neg (by decide),fillF_len cs bs h]
        simp
      · rw [if_pos rfl,fillF_len cs _ (by simp; omega)]
        simp
        omega
    · omega
theorem free_idxs {f:Fs} (s:ShapeOk f):((idxs f.data.length).countP (freeB f):Int)=freeOf f:=by
  have hc:=count_free (n:=f.data.length) (bs:=held f.nodes) s.own.2 s.own.1
  unfold freeOf idxs
  rw [if_pos (shapeOk_t s),List.countP_map]
  have:(List.range f.data.length).countP (freeB f ∘ fun (k:Nat)=>(k:Int))=(List.range f.data.length).countP (fun k:Nat=>!decide ((k:Int)∈held f.nodes)):=by
    refine List.countP_congr fun k _=>?_
    simp [freeB]
  rw [this]
  omega
theorem write_room {f:Fs} (s:ShapeOk f) {d:Nat} (hd:d<f.nodes.length) (hk:(nodeAtI f (d:Int)).kind≠0) {data:Str} (hle:data.length≤80) (hroom:blocksFor (data.length:Int)≤freeOf f+((nodeAtI f (d:Int)).blocks.length:Int)):(nodeWrite f (d:Int) data).2=true:=by
  have hn:=needOf_le data hle
  have hu:usable f (d:Int)=true:=by
    simp only [usable,shapeOk_t s,Bool.true_and,Bool.and_eq_true,bne_iff_ne]
    exact ⟨inR_iff.2 ⟨by omega,by omega⟩,hk⟩
  have hl:needOf data≤(writeBlocks f (d:Int) data).length:=by
    unfold writeBlocks
    have ht:((nodeAtI f (d:Int)).blocks.take (needOf data)).length≤needOf data:=by simp; omega
    rw [fillF_len _ _ ht]
    have hf:=free_idxs s
    rw [List.length_take]
    have h2:=hn.2.1
    rw [h2] at hroom
    omega
  unfold nodeWrite
  rw [if_pos (by simp only [Bool.and_eq_true,decide_eq_true_eq]; exact ⟨⟨hu,hle⟩,hl⟩)]
theorem nodup_len {α:Type} [DecidableEq α]:∀ {a b:List α},a.Nodup→(∀ x∈a,x∈b)→a.length≤b.length
  | [],b,_,_=>by simp
  | x :: a,b,nd,h=>by
    rw [List.nodup_cons] at nd
    have hx:=h x (by simp)
    have h1:=nodup_len (a:=a) (b:=b.erase x) nd.2 (fun y hy=>(List.mem_erase_of_ne (fun e=>nd.1 (by rw [← e]; exact hy))).2 (h y (by simp [hy])))
    rw [List.length_erase_of_mem hx] at h1
    have:=List.length_pos_of_mem hx
    simp only [List.length_cons]
    omega
theorem insE_ord {nm:Str} {nd:Int}:∀ {es:List Ent},Ord es→(∀ e∈es,e.name≠nm)→(∀ e∈es,e.node≠nd)→Ord (insE es nm nd)
  | [],_,_,_=>by simp [insE,insAt,Ord]
  | e :: r,ho,h1,h2=>by
    unfold Ord at ho
    rw [List.pairwise_cons] at ho
    rw [insE_cons]
    have hn1:=h1 e (by simp)
    have hn2:=h2 e (by simp)
    split
    · rename_i hl
      refine List.pairwise_cons.2 ⟨fun x hx=>?_,List.pairwise_cons.2 ho⟩
      rcases List.mem_cons.1 hx with rfl | hx
      · exact ⟨hl,fun e0=>hn2 e0.symm⟩
      · exact ⟨less_trans _ _ _ hl (ho.1 x hx).1,fun e0=>h2 x (by simp [hx]) e0.symm⟩
    · rename_i hl
      have ht:=less_total nm e.name
      have hlt:Op.bytesLess e.name nm=true:=by
        cases hb:Op.bytesLess e.name nm
        · rw [hb] at ht
          simp only [Bool.not_eq_true] at hl
          rw [hl] at ht
          simp at ht
          exact absurd ht.symm (fun e0=>hn1 (by first | exact e0 | exact e0.symm))
        · rfl
      have ih:=insE_ord (nm:=nm) (nd:=nd) ho.2 (fun x hx=>h1 x (by simp [hx])) (fun x hx=>h2 x (by simp [hx]))
      refine List.pairwise_cons.2 ⟨fun x hx=>?_,ih⟩
      rcases insE_mem.1 hx with hx | rfl
      · exact ho.1 x hx
      · exact ⟨hlt,hn2⟩
theorem sum_six:∀ {es:List Ent},(∀ e∈es,e.name.length≤6)→sumL Ent.nl es≤6 * es.length
  | [],_=>by simp [sumL]
  | e :: es,h=>by
    have h1:=sum_six (es:=es) fun x hx=>h x (by simp [hx])
    have h2:Ent.nl e≤6:=h e (by simp)
    simp only [sumL,List.length_cons]
    omega
theorem ord_entries {es:List Ent} (ho:Ord es) (hn:∀ e∈es,nameH e.name=true∧1≤e.node∧e.node≤9):entriesOk es=true:=by
  have h9:es.length≤9:=by
    have nd:(es.map fun e=>e.node.toNat).Nodup:=List.pairwise_map.2 (List.Pairwise.imp_of_mem (fun {a b} ha hb h e0=>h.2 (by have:=(hn a ha).2; have:=(hn b hb).2; omega)) ho)
    have:=nodup_len nd (b:=[1,2,3,4,5,6,7,8,9]) (fun x hx=>by
      obtain ⟨e,he,rfl⟩:=List.mem_map.1 hx
      have:=(hn e he).2
      have h3:e.node.toNat=1∨e.node.toNat=2∨e.node.toNat=3∨e.node.toNat=4∨e.node.toNat=5∨e.node.toNat=6∨e.node.toNat=7∨e.node.toNat=8∨e.node.toNat=9:=by omega
      rcases h3 with h | h | h | h | h | h | h | h | h <;> rw [h] <;> decide)
    simpa using this
  have hl6:∀ e∈es,e.name.length≤6:=fun e he=>nameH_le (hn e he).1
  have h1:=dirText_two es (fun e he=>⟨hl6 e he,(hn e he).2⟩)
  have h2:=sum_six hl6
  unfold entriesOk
  rw [Bool.and_eq_true,decide_eq_true_eq]
  exact ⟨ord_ok es ho hn es [] rfl,by omega⟩
theorem ins_ok {es:List Ent} {nm:Str} {nd:Int} (h:entriesOk es=true) (hnm:nameH nm=true) (hnd:1≤nd∧nd≤9) (h1:∀ e∈es,e.name≠nm) (h2:∀ e∈es,e.node≠nd):entriesOk (insE es nm nd)=true:=by
  refine ord_entries (insE_ord (ok_ord h) h1 h2) fun e he=>?_
  rcases insE_mem.1 he with he | rfl
  · exact ok_all h e he
  · exact ⟨hnm,hnd⟩
end Go.Proofs.YtmpgpkdijfcfhaaGreat.Hz
