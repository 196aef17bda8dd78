/- Parts of the proof: what is used by the law. No condition. -/
import Derived.Test.YtjbbfiagijjdoaaGreatRwW
set_option linter.unusedSimpArgs false
set_option linter.unusedVariables false
/- Calls into the library's own functions, floats. No condition. -/
set_option linter.unusedSimpArgs false
set_option linter.unusedVariables false
namespace Go.Rw

/-- is the function one of the library's own, and which? -/
def externT (P : Program) (f : FuncId) (e : String) : Bool :=
  match P.funcs[f]? with
  | some fn => fn.name == e && fn.body.isNone && (Extern.findNext fn).isNone
  | none => false

theorem ASpec.extern {P : Program} {f : FuncId} {fn : Func} {args : List AV} {x : AV} {e : Array Value → Sem Value} (hf : P.funcs[f]? = some fn) (hn : (fn.name == "runtime.NumGoroutine") = false) (hb : fn.body.isNone = true)
    (h1 : (Extern.findNext fn).isNone = true) (h2 : Extern.find fn = some e)
    (hr : ∀ (I : Imm) (w : World) (cargs : List Value), Reps I args cargs → ∃ v, (e cargs.toArray).run P w = .ok v w ∧ ∀ I', Rep I' x v) (hs : ∀ v n I w, FreshOK n I w x v) : ASpec P f args (· = x) := by
  intro I w cargs hI ha
  obtain ⟨v, hv, hx⟩ := hr I w cargs ha
  have h1' : Extern.findNext fn = none := by simpa using h1
  have : (callFunc f cargs.toArray).run P w = .ok (.value v) w := by
    have hb' : fn.body = none := by simpa using hb
    have hn' : ¬ fn.name = "runtime.NumGoroutine" := by simpa using hn
    simp [callFunc, run_program, hf, hn', hb', h1', h2, hv]
  rw [this]
  exact ⟨v, x, I, rfl, rfl, Ext.refl hI, hx I, hs _ _ _ _⟩

/-- is it not a number? -/
def nanB (b : Nat) : Bool := decide (9218868437227405312 < b % 9223372036854775808)

theorem datum_self (d : Ieee.Datum) : (d.order d == some .eq) = !d.isNaN := by
  have hself : ∀ (a : Int), compare a a = .eq := fun a => by simp [compare, compareOfLessAndEq]
  have hself' : ∀ (a : Nat), compare a a = .eq := fun a => by simp [compare, compareOfLessAndEq]
  cases d with
  | number s m e => simp only [Ieee.Datum.order, hself]; rfl
  | infinity s => simp only [Ieee.Datum.order, hself']; rfl
  | nan s t => rfl

theorem read_nan (b : Nat) : (Ieee.double.read b).isNaN = nanB b := by
  have e1 : Ieee.double.signWeight = 9223372036854775808 := by decide
  have e2 : Ieee.double.infRung = 9218868437227405312 := by decide
  have e3 : Ieee.double.binade = 4503599627370496 := by decide
  unfold Ieee.Format.read nanB
  simp only
  split
  · rename_i h; rw [e1, e3] at h
    have h4 : ¬ (9218868437227405312 < b % 9223372036854775808) := by omega
    simp [Ieee.Datum.isNaN, h4]
  · split
    · rename_i h; rw [e1, e2] at h
      have h4 : ¬ (9218868437227405312 < b % 9223372036854775808) := by omega
      simp [Ieee.Datum.isNaN, h4]
    · split
      · rename_i h; rw [e1, e2] at h
        have h4 : ¬ (9218868437227405312 < b % 9223372036854775808) := by omega
        simp [Ieee.Datum.isNaN, h4]
      · rename_i h1 h2 h3
        rw [e1, e2] at h2 h3
        have h4 : 9218868437227405312 < b % 9223372036854775808 := by omega
        simp [Ieee.Datum.isNaN, h4]

theorem order_self (b : Nat) : (FloatKind.f64.format.order b b == some .eq) = !nanB b := by
  rw [← read_nan, ← datum_self]; rfl
theorem order_self_ne (b : Nat) : (FloatKind.f64.format.order b b != some .eq) = nanB b := by
  rw [bne, order_self]; simp
theorem aNum_fself (b : Nat) : aNum .eql (.float .f64 b) (.float .f64 b) = some (.bool (!nanB b)) := by rw [aNum_feq, order_self]
theorem aNum_fnself (b : Nat) : aNum .neq (.float .f64 b) (.float .f64 b) = some (.bool (nanB b)) := by rw [aNum_fne, order_self_ne]
attribute [simp] aNum_fself aNum_fnself
end Go.Rw
