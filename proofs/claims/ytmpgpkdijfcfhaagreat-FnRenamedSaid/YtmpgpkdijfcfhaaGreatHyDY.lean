/- PathJoin of the reference, and the draw of a renaming. -/
import Derived.Test.YtmpgpkdijfcfhaaGreatHyHE
namespace Go.Proofs.YtmpgpkdijfcfhaaGreat.Hz
open Go.RowKit
set_option linter.unusedVariables false
set_option linter.unusedSimpArgs false
set_option maxRecDepth 20000
theorem pathJoin_spec_c (p n:Str) (h:Hp) (hp:p.length≤1048576) (hn:n.length≤1000) :
    ACall Tryz.prog 52 [.string (S p),.string (S n)] h fun r h'=>(∃ t,h'=h++t)∧r=.string (S (pathJoin p n)):=by
  refine acall mixed Tryz.func52 rfl (by kernel_rfl) ?_
  simp [Tryz.f52]
  refine callK0 (pathOk_spec_c p h hp) ?_
  rintro _ _ ⟨⟨t0,rfl⟩,rfl⟩
  have hnl:=names_len p
  have hns:=names_small p
  cases e1:pathOk p
  · simp [pathJoin,e1]
  simp
  refine callK0 (names_spec_c p _ hp) ?_
  rintro _ H1 ⟨a,F,rfl,o1⟩
  obtain ⟨t1,rfl⟩:=o1.ext.pre
  obtain ⟨a2,H2,F2,eq2,o2⟩:=o1.append1 (P:=Tryz.prog) n (cs:=[.string (S n)]) rfl (st:=43) (xt:=43) (bt:=16) (z:=[.string (S [])]) (by simp) (by simp) (by unfold big; omega) (by unfold big; omega)
  obtain ⟨t2,ht2⟩:=o2.ext.pre
  simp at eq2
  simp [eq2]
  have hlen:(names p++[n]).length=(names p).length+1:=by simp
  have hsum:sumL List.length (names p++[n])=sumL List.length (names p)+n.length:=by rw [sumL_append]; simp [sumL]
  have hc:=pathOf_spec_c (names p++[n]) a2 F2 true _ H2 o2.sl (by rw [hlen,hsum]; omega)
  rw [hlen] at hc
  refine callK0 hc ?_
  rintro _ _ ⟨⟨t3,rfl⟩,rfl⟩
  subst ht2
  simp [pathJoin,e1]
theorem pathJoin_len (p n:Str) (hn:n.length≤1000):(pathJoin p n).length≤1048576:=by
  have hnl:=names_len p
  have hns:=names_small p
  unfold pathJoin
  split
  · unfold pathOf
    split
    · simp
    · rename_i hc
      have hlen:(names p++[n]).length=(names p).length+1:=by simp
      cases hl:names p++[n] with
      | nil=>rw [hl] at hlen; simp at hlen
      | cons x xs =>
        rw [raw_join,rawP_len]
        have hsum:sumL List.length (names p++[n])=sumL List.length (names p)+n.length:=by rw [sumL_append]; simp [sumL]
        rw [hl] at hsum hlen
        omega
  · simp
attribute [local simp] ares_four
set_option maxHeartbeats 4000000 in
theorem drawFsRename_c (code:Str) (a:Option Addr) (F:List Nat) (w:Bool) (t:TypeId) (h:Hp) (k:slR w t byteE h code a F) (hn:code.length≤1048576) :
    ACall Tryz.prog 17 [.slice a code.length code.length] h fun r h'=>∃ (f:Fs) (p q:Str) (ge:Int) (b1 b2:Option Addr) (G1 G2:List Nat),r=.tuple #[.agg #[.slice b1 f.nodes.length f.nodes.length,.slice b2 f.data.length f.data.length],.string (S p),.string (S q),.int .i64 ge]∧p.length≤10∧q.length≤1048576∧FsIn h' f b1 b2 G1 G2:=by
  refine acall mixed Tryz.func17 rfl (by kernel_rfl) ?_
  simp [Tryz.f17]
  obtain ⟨h0,hh0⟩:∃ h0:Hp,h0=h++[⟨true,true,45,[.slice none 0 0,.slice none 0 0]⟩]:=⟨_,rfl⟩
  have l0:h0.length=h.length+1:=by rw [hh0]; simp
  have q0:h0[h.length]?=some ⟨true,true,45,[.slice none 0 0,.slice none 0 0]⟩:=by rw [hh0]; simp
  have k0:slR w t byteE h0 code a F:=by rw [hh0]; exact k.ext (Ext.push _ _)
  rw [← hh0]
  refine callK0 (l1New_c code a F w t h0 k0 hn) ?_
  rintro _ H1 ⟨rfl,x1,d1⟩
  simp
  have hc:=d1.lt
  have hx1:=x1.1
  have q1:H1[h.length]?=some ⟨true,true,45,[.slice none 0 0,.slice none 0 0]⟩:=by rw [x1.2 _ (by omega)]; exact q0
  refine callK0 (l9Draw_c h0.length H1 d1) ?_
  rintro _ H2 ⟨f,⟨b1,b2,G1,G2,rfl,kf⟩,bd⟩
  have L:=kf.box hc
  simp
  obtain ⟨bi,hbi⟩:∃ bi,bi=H2.length:=⟨_,rfl⟩
  generalize hHb:H2++[(⟨true,true,45,[.slice b1 f.nodes.length f.nodes.length,.slice b2 f.data.length f.data.length]⟩:Ob)]=Hb at L ⊢
  rw [← hbi] at L ⊢
  clear hHb kf
  refine callK0 (l2Path_c h0.length Hb L.k.d) ?_
  rintro _ H3 ⟨dr3,d3,p,rfl,hp⟩
  have L3:=L.step hc dr3 d3
  simp
  refine callK0 (l2Path_c h0.length H3 L3.k.d) ?_
  rintro _ H4 ⟨dr4,d4,q,rfl,hq⟩
  have L4:=L3.step hc dr4 d4
  simp
  refine callK0 (l1Once_c 4 h0.length H4 L4.k.d) ?_
  rintro _ H5 ⟨dr5,d5,b,rfl⟩
  have L5:=L4.step hc dr5 d5
  have c5:=L5.cells
  cases b
  · simp
    refine drawLA false [3,4] [0] [5,1,2,6,7,8] (by simp; rfl) (by simp; rfl) (by simp; rfl) (by kernel_rfl) rfl ?_
    simp [c5]
    refine callK0 (l11Num_c h0.length H5 L5.k.d) ?_
    rintro _ H6 ⟨dr6,d6,ge,rfl⟩
    have L6:=L5.step hc dr6 d6
    have c6:=L6.cells
    obtain ⟨z1,z2,z3⟩:=L6.fin (r0:=h.length) (by omega) (by omega) q1 bd
    simp [c6,z1,z2]
    exact ⟨f,p,q,ge,_,_,⟨⟨⟨rfl,rfl⟩,rfl,rfl⟩,rfl,rfl,rfl⟩,hp,by omega,_,_,z3⟩
  · simp
    refine callK0 (pathJoin_spec_c p [113] H5 (by omega) (by simp)) ?_
    rintro _ _ ⟨⟨t6,rfl⟩,rfl⟩
    have hpj:=pathJoin_len p [113] (by simp)
    generalize pathJoin p [113]=q at hpj ⊢
    have L6:=L5.step hc (Dr.of_ext (Ext.push H5 t6)) (L5.k.d.ext (Ext.push _ _))
    generalize H5++t6=H6 at L6 ⊢
    have c6:=L6.cells
    simp
    refine drawLA false [3,4] [0] [5,1,2,6,7,8] (by simp; rfl) (by simp; rfl) (by simp; rfl) (by kernel_rfl) rfl ?_
    simp [c6]
    refine callK0 (l11Num_c h0.length H6 L6.k.d) ?_
    rintro _ H7 ⟨dr7,d7,ge,rfl⟩
    have L7:=L6.step hc dr7 d7
    have c7:=L7.cells
    obtain ⟨z1,z2,z3⟩:=L7.fin (r0:=h.length) (by omega) (by omega) q1 bd
    simp [c7,z1,z2]
    exact ⟨f,p,q,ge,_,_,⟨⟨⟨rfl,rfl⟩,rfl,rfl⟩,rfl,rfl,rfl⟩,hp,hpj,_,_,z3⟩
end Go.Proofs.YtmpgpkdijfcfhaaGreat.Hz
