/- math/bits.Mul of small numbers, by the library's proved summary of Mul64. -/
import Derived.Test.YtidkkmkihifeoaaHzF1
import Derived.Shelf.Bits.Mul64
namespace Go.Proofs.Ytidkkmkihifeoaa.Hz
open Go.RowKit
set_option linter.unusedVariables false
set_option linter.unusedSimpArgs false
set_option maxRecDepth 20000

def plainV : Value → Bool
  | .int _ _ | .string _ | .bool _ => true
  | _ => false
theorem relV_plain {φ : Inj} {a v : Value} (h : plainV a = true) (r : RelV φ a v) : v = a := by
  cases a <;> simp [plainV] at h <;> exact r
theorem all2_plain {φ : Inj} : ∀ {xs vs : List Value}, xs.all plainV = true → All2 (RelV φ) xs vs → vs = xs
  | [], _, _, r => by rw [All2.nil_iff] at r; exact r
  | a :: xs, vs, h, r => by
    obtain ⟨b, bs, rfl, h1, h2⟩ := All2.cons_iff.1 r
    simp only [List.all_cons, Bool.and_eq_true] at h
    rw [relV_plain h.1 h1, all2_plain h.2 h2]
/-- A summary of a function of plain values that leaves the world as it was. -/
theorem ACall.same {P : Program} {f : FuncId} {fn : Func} {c : Code} {args : List Value} {h : Hp} {v : Value} (hf : P.funcs[f]? = some fn) (hb : fn.body = some c) (hn : (fn.name == "runtime.NumGoroutine") = false)
    (hs : args.all plainV = true) (hv : ∀ φ, RelV φ v v) (k : ∀ w, Calls P f args.toArray w fun e w' => e = .returned v ∧ w' = w) : ACall P f args h fun r h' => h' = h ∧ r = v := by
  intro B w0 φ w args' R ha
  obtain rfl := all2_plain hs ha
  have hen : (callFunc f args'.toArray).run P w = .ok (.enter f args'.toArray) w := by
    unfold callFunc
    simp only [Sem.run_bind, run_program, Result.andThen_ok, hf]
    simp [hn, hb]
  unfold CallsV
  rw [hen]
  refine (k w).mono ?_
  rintro e w' ⟨rfl, rfl⟩
  exact ⟨v, rfl, φ, v, h, List.prefix_rfl, R, hv φ, rfl, rfl⟩

def mulRen : Shelf.Ren := ⟨fun _ => 206, fun x => if x = 46 then 181 else 211, fun x => x⟩
theorem mulLays : Go.Proofs.Lays.n264 Try.prog mulRen where
  mixed := mixed
  f264 := by kernel_rfl
  t46 := by kernel_rfl
  a46 := fun _ => by kernel_rfl
  z46 := fun _ => by kernel_rfl
  v46 := fun _ => by kernel_rfl
  t53 := by kernel_rfl
  a53 := fun _ => by kernel_rfl
  z53 := fun _ => by kernel_rfl
  v53 := fun _ => by kernel_rfl
theorem mul64_c (m : Nat) (hm : m ≤ 1048576) (h : Hp) : ACall Try.prog 206 [.int .u64 1, .int .u64 m] h fun r h' => h' = h ∧ r = .tuple #[.int .u64 0, .int .u64 m] := by
  refine ACall.same Try.func206 rfl (by kernel_rfl) rfl (fun φ => ⟨_, rfl, rfl, rfl, trivial⟩) fun w => ?_
  have := Any.bits_Mul64 mulLays 1 m (by omega) (by omega) w
  have e1 : 1 * m / 18446744073709551616 = 0 := by omega
  have e2 : 1 * m % 18446744073709551616 = m := by omega
  rw [e1, e2] at this
  exact this
theorem mul_c (m : Nat) (hm : m ≤ 1048576) (h : Hp) : ACall Try.prog 198 [.int .u64 1, .int .u64 m] h fun r h' => h' = h ∧ r = .tuple #[.int .u64 0, .int .u64 m] := by
  refine acall mixed Try.func198 rfl (by kernel_rfl) ?_
  simp [Try.f198]
  refine callK0 (mul64_c m hm _) ?_
  rintro _ _ ⟨rfl, rfl⟩
  simp
end Go.Proofs.Ytidkkmkihifeoaa.Hz
