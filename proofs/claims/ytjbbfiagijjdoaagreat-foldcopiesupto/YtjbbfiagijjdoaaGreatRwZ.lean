/- Parts of the proof: what is used by the law. No condition. -/
import Derived.Test.YtjbbfiagijjdoaaGreatRwY
import Derived.Carry
import Derived.ProofKit
import Derived.SizedLaws
import Derived.Lib.RowBridge
import Derived.JoinedCond
import Derived.OpenShut
import Derived.Test.YtjbbfiagijjdoaaGreatRwAD
set_option linter.unusedSimpArgs false
set_option linter.unusedVariables false
/- From a contract to a row's statement. No condition. -/
set_option linter.unusedSimpArgs false
set_option linter.unusedVariables false
namespace Go.Rw
open Go.ChangeShapes Go.WideShapes Go.ChangeAt Go.RowKit

/-- all that lies in memory -/
def allI (W : World) : Imm := fun b i => W.cell? ⟨b, i, none⟩

theorem Ext.below {W w' : World} {I I' : Imm} (h : Ext W I w' I') : Below W.heap.size W w' := ⟨h.calm.os, h.calm.tape, h.calm.out, h.size, h.heap⟩

theorem ASpec.calls {P : Program} {f : FuncId} {args : List AV} {W : World} {cargs : List Value} {b : Bool} (hc : callT P f = true) (h : ASpec P f args (· = .v (.bool b))) (hr : Reps (allI W) args cargs) :
    Calls P f cargs.toArray W fun e w' => e = .returned (.bool b) ∧ Below W.heap.size W w' := by
  have := h (allI W) W cargs (fun _ _ _ h => h) hr
  rw [callFunc_run hc] at this
  refine Calls.mono this fun e w' ⟨v, r, I', he, hR, hext, hrep, _⟩ => ?_
  subst hR
  cases hrep
  exact ⟨he, hext.below⟩

section
variable {H : Type} {enc : TypeId × Value → H} {P : Program}

theorem trodAll_below (hl : laidOutB P = true) {W W' : World} {sp' : Nat → Bool} (hb : Below W.heap.size W W') : ∀ {ts : List TypeId} {vs : List Value} {ds : List (DataW H)} {ps : List MemPlace},
    (∀ t ∈ ts, P.readableRec t = true ∧ t < P.types.size) → DataW.TrodAll enc P W 0 (fun _ => true) true ts vs ds ps → (∀ p ∈ ps, p.block < W.heap.size) → (∀ p ∈ ps, sp' p.block = true) → DataW.TrodAll enc P W' 0 sp' true ts vs ds ps
  | [], vs, ds, ps, _, h, _, _ => by
    obtain ⟨rfl, rfl, rfl⟩ := trodAll_nil h
    exact h
  | t :: ts, vs, ds, ps, ht, h, hlt, hsp => by
    obtain ⟨v, vs1, d, ds1, a, b, rfl, rfl, rfl, h1, h2⟩ := trodAll_cons h
    obtain ⟨hr, hrow⟩ := ht t (by simp)
    exact ⟨a, b, WideElems.Trod_stays hl hr hrow h1 (fun x hx => hb.same (hlt x (by simp [hx]))) (fun x hx => hsp x (by simp [hx])),
      trodAll_below hl hb (fun t' h' => ht t' (by simp [h'])) h2 (fun x hx => hlt x (by simp [hx])) (fun x hx => hsp x (by simp [hx])), rfl⟩

theorem law_close {f : FuncId} {fn : Func} {s : ChangeSpec} {W : World} {args : Array Value} {ds gs : List (DataW H)} {before : List MemPlace} {tb : TypeId} (hl : laidOutB P = true) (hty : ∀ t ∈ fn.params.toList, P.readableRec t = true ∧ t < P.types.size)
    (hrt : fn.resultTypes = #[tb]) (hbt : P.underlying tb = some .bool) (hvars : s.vars = [])
    (hW : DataW.Whole enc P fn.params.toList s.vars false W args.toList ds gs before) (hres : (s.fn H (ds ++ gs)).results = [.lit (.bool true)]) (hargs : (s.fn H (ds ++ gs)).args = ds) (hva : (s.fn H (ds ++ gs)).vars = [])
    (hc : Calls P f args W fun e w' => e = .returned (.bool true) ∧ Below W.heap.size W w') :
    Calls P f args W fun e W' => ∃ v, e = .returned v ∧ s.post enc P fn false true false false W args v W' := by
  have hW' := hW
  obtain ⟨p, q, hA, hV, rfl, hfz, hnd⟩ := hW
  rw [hvars] at hV
  obtain ⟨rfl, rfl⟩ := trodVars_none hV
  refine hc.mono fun e W' ⟨he, hb⟩ => ⟨_, he, ?_⟩
  have hlt : ∀ x ∈ p, x.block < W.heap.size := fun x hx => by simpa using hW'.lt x (by simp [hx])
  refine ⟨ds, [], p ++ [], [], p, [], hW', ?_, ?_, ?_, hb.frame _, fun h => by cases h⟩
  · rw [hres, hrt]
    exact trodAll_cons_mk (shut_bool hbt _) trodAll_mk0
  · rw [hargs]
    exact trodAll_below hl hb hty hA hlt (fun x hx => by simpa using hlt x hx)
  · rw [hva, hvars]
    rfl
end
end Go.Rw
