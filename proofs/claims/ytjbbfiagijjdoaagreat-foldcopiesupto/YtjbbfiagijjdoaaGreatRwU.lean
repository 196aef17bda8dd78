/- Parts of the proof: what is used by the law. No condition. -/
import Derived.Test.YtjbbfiagijjdoaaGreatRwV
import Derived.Test.YtjbbfiagijjdoaaGreatRwQ
set_option linter.unusedSimpArgs false
set_option linter.unusedVariables false
/- A guarded call whose place in a drawn order is free. No condition. -/
set_option linter.unusedSimpArgs false
set_option linter.unusedVariables false
namespace Go.Rw
section
variable {P : Program} {M : Msk} {ops rest : List Oper} {d : Option Tmp} {op : Op} {ty : TypeId} {pos : String} {after : Array Edge} {s : ASt} {K : ASt → Prop}
theorem aopsE_lguard (ms : List Md) (j : Nat) (want : Bool) : aopsE P M ops (.l :: ms) (⟨d, op, ty, pos, after, some (j, want)⟩ :: rest) s K = @forceS s ⟨fun s =>
    @wantB s j want ⟨ops⟩ ⟨aloud P M ⟨d, op, ty, pos, after, some (j, want)⟩ s (fun s => aopsE P M ops ms rest s K)⟩ ⟨aopsE P M ops ms rest (s.put d (.v undef)) K⟩⟩ := rfl
theorem aloud_alloc {g : Option (Nat × Bool)} (e : TypeId) : aloud P M ⟨d, .alloc e, ty, pos, after, g⟩ s K = @forceL (zT P e) ⟨fun z => @forceL (some (z.map nl)) ⟨fun z => @allocK z s.h ⟨fun b => K ({ s with h := upd s.h b (some z) }.put d (.ptr b 0))⟩⟩⟩ := by
  simp only [aloud, forceL, allocK]
  cases zT P e <;> rfl
end
attribute [simp ↓] aopsE_lguard aloud_alloc
section
variable {P : Program} {n : Nat}
/-- what holds behind a branch, whichever way it went -/
theorem branch_cut {b : Bool} {x x' : Code} {t : Nat → AV} {h : Nat → Option (List AV)} {Q : AExit → ASt → Prop} (M : (Nat → AV) → (Nat → Option (List AV)) → Prop) (h1 : b = true → awp P x (cutQ M n Q) ⟨n, t, h⟩)
    (h2 : b = false → awp P x' (cutQ M n Q) ⟨n, t, h⟩) (hy : ∀ t h, M t h → Q .normal ⟨n, t, h⟩) : @branch b ⟨awp P x Q ⟨n, t, h⟩⟩ ⟨awp P x' Q ⟨n, t, h⟩⟩ := by
  have use : ∀ e s, cutQ M n Q e s → Q e s := fun e s' hi => by
    cases e with
    | normal =>
      obtain ⟨n', t', h'⟩ := s'
      obtain rfl : n' = n := hi.2
      exact hy t' h' hi.1
    | exit id => exact hi
    | ret => exact hi
  exact branch_intro (fun hb => awp_mono x use (h1 hb)) (fun hb => awp_mono x' use (h2 hb))
end
end Go.Rw
