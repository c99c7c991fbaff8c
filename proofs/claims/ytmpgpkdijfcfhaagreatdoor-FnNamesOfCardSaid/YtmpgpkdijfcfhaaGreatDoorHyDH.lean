/- strconv.Itoa, by the library's proved summary: the program's Digits. -/
import Derived.Test.YtmpgpkdijfcfhaaGreatDoorHyDG
namespace Go.Proofs.YtmpgpkdijfcfhaaGreatDoor.Hz
open Go.RowKit
set_option linter.unusedVariables false
set_option linter.unusedSimpArgs false
set_option maxRecDepth 100000
theorem ACall.liftZ {P:Program} {f:FuncId} {fn:Func} {c:Code} {args:List Value} {h:Hp} {Rv:Value→Prop} (hf:P.funcs[f]?=some fn) (hb:fn.body=some c) (hn:(fn.name == "runtime.NumGoroutine")=false)
    (k:∀ B w0 φ w args',Rel P B w0 φ h w→All2 (RelV φ) args args'→Calls P f args'.toArray w fun e w'=>∃ v v',e=.returned v'∧RelV φ v v'∧Rv v∧Below w.heap.size w w'):ACall P f args h fun r h'=>h'=h∧Rv r:=by
  intro B w0 φ w args' R ha
  have hen:(callFunc f args'.toArray).run P w=.ok (.enter f args'.toArray) w:=by
    unfold callFunc
    simp only [Sem.run_bind,run_program,Result.andThen_ok,hf]
    simp [hn,hb]
  unfold CallsV
  rw [hen]
  refine (k B w0 φ w args' R ha).mono ?_
  rintro e w' ⟨v,v',rfl,hv,hr,hbw⟩
  exact ⟨v',rfl,φ,v,h,List.prefix_rfl,R.grow hbw,hv,rfl,hr⟩
def itoaRen:Shelf.Ren:=⟨
  fun x=>if x=129 then 114 else if x=171 then 48 else if x=243 then 69 else if x=246 then 86 else if x=283 then 100 else if x=284 then 101 else if x=285 then 102 else if x=286 then 103 else if x=317 then 113 else if x=318 then 115 else if x=319 then 116 else if x=320 then 117 else if x=337 then 119 else 120,
  fun x=>if x=0 then 0 else if x=2 then 2 else if x=3 then 3 else if x=4 then 4 else if x=5 then 5 else if x=9 then 9 else if x=20 then 20 else if x=37 then 22 else if x=46 then 115 else if x=51 then 149 else if x=53 then 133 else if x=171 then 132 else if x=173 then 136 else if x=212 then 148 else if x=213 then 150 else if x=232 then 153 else 154,fun x=>if x=17 then 1 else if x=18 then 2 else 3⟩
theorem itoaLays:Go.Proofs.LaysM.n171 Tryz.prog itoaRen where
  mixed:=mixed
  f129:=by kernel_rfl
  f171:=by kernel_rfl
  f243:=by kernel_rfl
  f246:=by kernel_rfl
  f283:=by kernel_rfl
  f284:=by kernel_rfl
  f285:=by kernel_rfl
  f286:=by kernel_rfl
  f317:=by kernel_rfl
  f318:=by kernel_rfl
  f319:=by kernel_rfl
  f320:=by kernel_rfl
  f337:=by kernel_rfl
  f338:=by kernel_rfl
  t0:=by kernel_rfl
  a0:=fun _=>by kernel_rfl
  z0:=fun _=>by kernel_rfl
  v0:=fun _=>by kernel_rfl
  t2:=by kernel_rfl
  a2:=fun _=>by kernel_rfl
  z2:=fun _=>by kernel_rfl
  v2:=fun _=>by kernel_rfl
  t3:=by kernel_rfl
  a3:=fun _=>by kernel_rfl
  z3:=fun _=>by kernel_rfl
  v3:=fun _=>by kernel_rfl
  t4:=by kernel_rfl
  a4:=fun _=>by kernel_rfl
  z4:=fun _=>by kernel_rfl
  v4:=fun _=>by kernel_rfl
  t5:=by kernel_rfl
  a5:=fun _=>by kernel_rfl
  z5:=fun _=>by kernel_rfl
  v5:=fun _=>by kernel_rfl
  t9:=by kernel_rfl
  a9:=fun _=>by kernel_rfl
  z9:=fun _=>by kernel_rfl
  v9:=fun _=>by kernel_rfl
  t20:=by kernel_rfl
  a20:=fun _=>by kernel_rfl
  z20:=fun _=>by kernel_rfl
  v20:=fun _=>by kernel_rfl
  t37:=by kernel_rfl
  a37:=fun _=>by kernel_rfl
  z37:=fun _=>by kernel_rfl
  v37:=fun _=>by kernel_rfl
  t46:=by kernel_rfl
  a46:=fun _=>by kernel_rfl
  z46:=fun _=>by kernel_rfl
  v46:=fun _=>by kernel_rfl
  t51:=by kernel_rfl
  a51:=fun _=>by kernel_rfl
  z51:=fun _=>by kernel_rfl
  v51:=fun _=>by kernel_rfl
  t53:=by kernel_rfl
  a53:=fun _=>by kernel_rfl
  z53:=fun _=>by kernel_rfl
  v53:=fun _=>by kernel_rfl
  t171:=by kernel_rfl
  a171:=fun _=>by kernel_rfl
  z171:=fun _=>by kernel_rfl
  v171:=fun _=>by kernel_rfl
  t173:=by kernel_rfl
  a173:=fun _=>by kernel_rfl
  z173:=fun _=>by kernel_rfl
  v173:=fun _=>by kernel_rfl
  t212:=by kernel_rfl
  a212:=fun _=>by kernel_rfl
  z212:=fun _=>by kernel_rfl
  v212:=fun _=>by kernel_rfl
  t213:=by kernel_rfl
  a213:=fun _=>by kernel_rfl
  z213:=fun _=>by kernel_rfl
  t232:=by kernel_rfl
  a232:=fun _=>by kernel_rfl
  z232:=fun _=>by kernel_rfl
  v232:=fun _=>by kernel_rfl
  t233:=by kernel_rfl
  a233:=fun _=>by kernel_rfl
  z233:=fun _=>by kernel_rfl
  v233:=fun _=>by kernel_rfl
  g17:=by kernel_rfl
  g18:=by kernel_rfl
  g19:=by kernel_rfl
  i0:=by kernel_rfl
  i2:=by kernel_rfl
  i3:=by kernel_rfl
  i4:=by kernel_rfl
  i5:=by kernel_rfl
  i9:=by kernel_rfl
  i20:=by kernel_rfl
  i37:=by kernel_rfl
  i46:=by kernel_rfl
  i51:=by kernel_rfl
  i53:=by kernel_rfl
  i171:=by kernel_rfl
  i173:=by kernel_rfl
  i212:=by kernel_rfl
  i232:=by kernel_rfl
  i233:=by kernel_rfl
  m17:=by kernel_rfl
  m18:=by kernel_rfl
  m19:=by kernel_rfl
theorem needs:needTab Tryz.prog=true:=by kernel_rfl
theorem itoa_c (n:Int) (h:Hp) (h1:-9223372036854775808≤n) (h2:n≤9223372036854775807):ACall Tryz.prog 48 [.int .i64 n] h fun r h'=>h'=h∧r=.string (S (Lib.itoa n)):=by
  refine ACall.liftZ Tryz.func48 rfl (by kernel_rfl) ?_
  intro B w0 φ w args' R ha
  obtain ⟨v1,vs1,rfl,r1,ha⟩:=All2.cons_iff.1 ha
  obtain rfl:=All2.nil_iff.1 ha
  obtain rfl:v1=.int .i64 n:=r1
  refine (Any.strconv_Itoa itoaLays n h1 h2 w (R.base.2.2 needs w R.below)).mono ?_
  rintro e w' ⟨rfl,k,os,rfl⟩
  refine ⟨.string (S (Lib.itoa n)),_,rfl,show RelV φ (.string (S (Lib.itoa n))) (.string (S (Lib.itoa n))) from rfl,rfl,⟨rfl,rfl,rfl,?_,fun k hk=>?_⟩⟩
  · show w.heap.size≤(w.heap++os).size
    simp
  · show (w.heap++os)[k]?=w.heap[k]?
    rw [Array.getElem?_append_left hk]
theorem digits_impl_c (n:Int) (h:Hp) (h1:-9223372036854775808≤n) (h2:n≤9223372036854775807):ACall Tryz.prog 27 [.int .i64 n] h fun r h'=>h'=h∧r=.string (S (Lib.itoa n)):=by
  refine acall mixed Tryz.func27 rfl (by kernel_rfl) ?_
  simp [Tryz.f27]
  refine cK (itoa_c n h h1 h2) ?_
  rintro _ _ ⟨rfl,rfl⟩
  simp
end Go.Proofs.YtmpgpkdijfcfhaaGreatDoor.Hz
