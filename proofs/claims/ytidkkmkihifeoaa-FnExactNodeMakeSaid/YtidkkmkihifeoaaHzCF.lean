/- A copy of a file system's image: both programs. -/
import Derived.Test.YtidkkmkihifeoaaHzMF
import Derived.Test.YtidkkmkihifeoaaHzDL
namespace Go.Proofs.Ytidkkmkihifeoaa.Hz
open Go.RowKit
set_option linter.unusedVariables false
set_option linter.unusedSimpArgs false
set_option maxRecDepth 20000

theorem cloneInt_c (es : List Int) (a : Option Addr) (F : List Nat) (w : Bool) (t : TypeId) (h : Hp) (hr : slR w t intE h es a F) (hl : es.length ≤ 1048576) :
    ACall Try.prog 178 [.slice a es.length es.length] h fun r h' => ∃ a' F', r = .slice a' es.length es.length ∧ Own h 3 intE h' es a' F' := by
  refine acall mixed Try.func178 rfl (by kernel_rfl) ?_
  cases a with
  | none =>
    obtain ⟨rfl, rfl⟩ := hr
    simp [Try.f178]
    exact ⟨_, Own.nil (Ext.refl h)⟩
  | some ad =>
    obtain ⟨a', h', F', eq, own', _⟩ := (empty1 intE h 3).appendSl (P := Try.prog) (hr.ext (Ext.push h _)) (st := 135) (xt := 135) (bt := 8) (z := [.int .i64 0]) (by simp) (by simp) (by unfold big; simp; omega) (by unfold big; simp; omega)
    simp at eq own'
    simp [Try.f178, eq]
    exact ⟨_, own'⟩
theorem cloneStr_c (es : List Str) (a : Option Addr) (F : List Nat) (w : Bool) (t : TypeId) (h : Hp) (hr : slR w t strE h es a F) (hl : es.length ≤ 1048576) :
    ACall Try.prog 177 [.slice a es.length es.length] h fun r h' => ∃ a' F', r = .slice a' es.length es.length ∧ Own h 9 strE h' es a' F' := by
  refine acall mixed Try.func177 rfl (by kernel_rfl) ?_
  cases a with
  | none =>
    obtain ⟨rfl, rfl⟩ := hr
    simp [Try.f177]
    exact ⟨_, Own.nil (Ext.refl h)⟩
  | some ad =>
    obtain ⟨a', h', F', eq, own', _⟩ := (empty1 strE h 9).appendSl (P := Try.prog) (hr.ext (Ext.push h _)) (st := 69) (xt := 69) (bt := 16) (z := [.string (S [])]) (by simp) (by simp) (by unfold big; simp; omega) (by unfold big; simp; omega)
    simp at eq own'
    simp [Try.f177, eq]
    exact ⟨_, own'⟩
theorem l1Copy_c (es : List Str) (a : Option Addr) (F : List Nat) (w : Bool) (t : TypeId) (h : Hp) (hr : slR w t strE h es a F) (hl : es.length ≤ 1048576) :
    ACall Try.prog 176 [.slice a es.length es.length] h fun r h' => ∃ a' F', r = .slice a' es.length es.length ∧ Own h 9 strE h' es a' F' := by
  refine acall mixed Try.func176 rfl (by kernel_rfl) ?_
  obtain ⟨a', h', F', eq, own', _⟩ := (empty1 strE h 9).appendSl (P := Try.prog) (hr.ext (Ext.push h _)) (st := 69) (xt := 69) (bt := 16) (z := [.string (S [])]) (by simp) (by simp) (by unfold big; simp; omega) (by unfold big; simp; omega)
  simp at eq own'
  simp [Try.f176, eq]
  exact ⟨_, own'⟩

/-- What the loop of a copy knows. -/
structure CloneI (f : Fs) (a1 a2 : Option Addr) (h : Hp) (oi : Nat) (ad : Option Addr) (Fd : List Nat) (i : Nat) (an : Option Addr) (H : Hp) : Prop where
  ext : Ext h H
  box : H[h.length]? = some ⟨true, true, 77, [.slice a1 f.nodes.length f.nodes.length, .slice a2 f.data.length f.data.length]⟩
  res : H[h.length + 1]? = some ⟨true, true, 77, [.slice none 0 0, .slice none 0 0]⟩
  out : H[oi]? = some ⟨true, true, 77, [.slice an i i, .slice ad f.data.length f.data.length]⟩
  oi2 : h.length + 2 ≤ oi
  dat : Own h 9 strE H f.data ad Fd
  dd : ∀ q ∈ Fd, h.length + 2 ≤ q ∧ q ≠ oi
  nod : ∃ Fn, Own h 151 (nodeE true) H (f.nodes.take i) an Fn ∧ ∀ q ∈ Fn, h.length + 2 ≤ q ∧ q ≠ oi ∧ q ∉ Fd
theorem get_lt {h : Hp} {q : Nat} {ob : Ob} (e : h[q]? = some ob) : q < h.length := (List.getElem?_eq_some_iff.1 e).1
theorem cellAt_of_get {h : Hp} {q : Nat} {ob : Ob} (e : h[q]? = some ob) (hl : ob.live = true) (i : Nat) : cellAt h q i = ob.cells[i]? := by
  simp [cellAt, e, hl]
theorem CloneI.step {f : Fs} {a1 a2 : Option Addr} {h : Hp} {oi : Nat} {ad : Option Addr} {Fd : List Nat} {i : Nat} {an : Option Addr} {H : Hp} (k : CloneI f a1 a2 h oi ad Fd i an H) (hi : i < f.nodes.length) (hlen : f.nodes.length ≤ 1048576) {nb nb' : Ob} {t : Hp} {bc : Option Addr} {Fc : List Nat}
    (oc : Own (H ++ [nb]) 3 intE (H ++ [nb] ++ t) f.nodes[i].blocks bc Fc) :
    ∃ a' H'', aappend Try.prog (H ++ nb' :: (t ++ [⟨true, true, 151, [.int .i64 f.nodes[i].kind, .int .i64 f.nodes[i].gen, .int .i64 f.nodes[i].time, .int .i64 f.nodes[i].size, .slice bc f.nodes[i].blocks.length f.nodes[i].blocks.length]⟩])) 75 75 (.slice an i i) (.slice (some ⟨H.length + (t.length + 1), 0, none⟩) 1 1) = some (.slice a' (i + 1) (i + 1), H'') ∧
      canSet H'' oi 0 1 = true ∧ CloneI f a1 a2 h oi ad Fd (i + 1) a' (setsAt H'' oi 0 [.slice a' (i + 1) (i + 1)]) := by
  obtain ⟨ext, box, res, out, oi2, dat, dd, Fn, own, dn⟩ := k
  generalize hlit : (⟨true, true, 151, [.int .i64 f.nodes[i].kind, .int .i64 f.nodes[i].gen, .int .i64 f.nodes[i].time, .int .i64 f.nodes[i].size, .slice bc f.nodes[i].blocks.length f.nodes[i].blocks.length]⟩ : Ob) = lit
  have xx : Ext H (H ++ nb' :: (t ++ [lit])) := Ext.push H _
  have own1 := own.grow xx
  have slc : slR true 3 intE (H ++ nb' :: (t ++ [lit])) f.nodes[i].blocks bc Fc := by
    have s0 := oc.sl
    simp only [List.append_assoc] at s0
    exact slR.late (l := [nb]) (l' := [nb']) (u := t) (t := [lit]) s0 (fun q hq => by have := oc.new q hq; simpa using this) rfl
  have hcs : cellsAt (H ++ nb' :: (t ++ [lit])) (H.length + (t.length + 1)) 0 (1 * 5) = some lit.cells := by
    have e1 : H ++ nb' :: (t ++ [lit]) = (H ++ nb' :: t) ++ [lit] := by simp
    have e2 : H.length + (t.length + 1) = (H ++ nb' :: t).length := by simp
    rw [e1, e2, ← hlit]
    simp
  have hln : (f.nodes.take i).length = i := by simp; omega
  have hFcl : ∀ q ∈ Fc, H.length + 1 ≤ q := fun q hq => by have := oc.new q hq; simpa using this
  obtain ⟨a', H'', F', eq, own', keep, lenk, sub, _⟩ := own1.append (P := Try.prog) (st := 75) (xt := 75) (x := .slice (some ⟨H.length + (t.length + 1), 0, none⟩) 1 1) (css := [lit.cells]) (Fs := [Fc]) (ys := [f.nodes[i]]) (bt := 56) (z := [.int .i64 0, .int .i64 0, .int .i64 0, .int .i64 0, .slice none 0 0]) (by
      show srcOf Try.prog _ 5 _ _ = _
      simp only [srcOf, hcs, Option.map_some]
      simp) ⟨⟨bc, Fc, by rw [← hlit], rfl, slc⟩, trivial⟩ (by simp; rfl) (by rw [hln]; unfold big; simp; omega) (by rw [hln]; unfold big; simp; omega) (by simpa using oc.nd) (by
      intro q hq
      have hq' : q ∈ Fc := by simpa using hq
      have h1 := hFcl q hq'
      exact ⟨by have := ext.1; omega, fun hm => by have := own.sl.lt q hm; omega⟩)
  rw [hln] at eq
  have hoL : oi < H.length := get_lt out
  have hoF : oi ∉ Fn := fun hm => (dn oi hm).2.1 rfl
  have hkeep : ∀ q, q < H.length → q ∉ Fn → H''[q]? = H[q]? := fun q hq hm => by
    rw [keep q (by simp; omega) hm, List.getElem?_append_left hq]
  have hout : H''[oi]? = some ⟨true, true, 77, [.slice an i i, .slice ad f.data.length f.data.length]⟩ := by rw [hkeep oi hoL hoF]; exact out
  have hset : ∀ (v : Value) (q : Nat), q ≠ oi → (setsAt H'' oi 0 [v])[q]? = H''[q]? := fun v q hq => by rw [setsAt_get, if_neg (by omega)]
  have hn1 : h.length ∉ Fn := fun hm => by have := (dn _ hm).1; omega
  have hn2 : h.length + 1 ∉ Fn := fun hm => by have := (dn _ hm).1; omega
  have hF' : ∀ q ∈ F', h.length + 2 ≤ q ∧ q ≠ oi ∧ q ∉ Fd := fun q hq => by
    have hge : H.length ≤ q → h.length + 2 ≤ q ∧ q ≠ oi ∧ q ∉ Fd := fun hg => ⟨by omega, by omega, fun hm => by have := dat.sl.lt q hm; omega⟩
    rcases sub q hq with hh | hh | hh
    · exact dn q hh
    · exact hge (by have := hFcl q (by simpa using hh); omega)
    · exact hge (by simp at hh; omega)
  refine ⟨a', H'', eq, by simp [canSet, hout], ⟨?_, ?_, ?_, ?_, oi2, ?_, dd, F', ?_, hF'⟩⟩
  · exact own'.ext.set (by omega) 0 _
  · rw [hset _ _ (by omega), hkeep _ (get_lt box) hn1]; exact box
  · rw [hset _ _ (by omega), hkeep _ (get_lt res) hn2]; exact res
  · rw [setsAt_get, if_pos rfl, hout]; rfl
  · refine ⟨own'.ext.set (by omega) 0 _, dat.sl.frame fun q hq => ?_, dat.nd, dat.new⟩
    rw [hset _ _ (dd q hq).2, hkeep q (dat.sl.lt q hq) (fun hm => (dn q hm).2.2 hq)]
  · rw [List.take_succ_eq_append_getElem hi]
    exact ⟨own'.ext.set (by omega) 0 _, own'.sl.frame fun q hq => hset _ _ (hF' q hq).2.1, own'.nd, own'.new⟩
end Go.Proofs.Ytidkkmkihifeoaa.Hz
