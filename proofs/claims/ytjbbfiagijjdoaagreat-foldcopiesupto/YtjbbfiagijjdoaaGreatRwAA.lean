/- Parts of the proof: what is used by the law. No condition. -/
import Derived.JoinedOf
set_option linter.unusedSimpArgs false
set_option linter.unusedVariables false
/- Parts of a row. No condition. -/
namespace Go.Rw
open Go
def jfact (P : Program) (f : FuncId) (fn : Func) (s : ChangeSpec) (c : OpenClaim) : Nat → Bool
  | 0 => c.wf (OpenSpec.ofChange s)
  | 1 => laidOutB P
  | 2 => mapsRowed P
  | 3 => fn.params.all (P.readableRec ·)
  | 4 => namedTie P c.named s.vars
  | 5 => (c.stops == [])
  | 6 => (P.stops == [])
  | 7 => (c.knobs == [])
  | 8 => (P.stopKnobs == [])
  | 9 => (c.inPlace == P.inPlace f)
  | 10 => (c.unfollowed == P.unfollowed f)
  | 11 => (c.recurses == P.recurses f)
  | 12 => (c.named == P.varsNamed f)
  | 13 => (c.maps == (fn.params.toList ++ s.plain.varTypes P).any (P.mapsRec ·))
  | 14 => (c.ifaces == (fn.params.toList ++ s.plain.varTypes P).any (P.ifacesRec ·))
  | 15 => (c.mapsOut == P.mapsAmong fn.resultTypes.toList)
  | 16 => (c.loops == (fn.params.toList ++ s.plain.varTypes P).any (P.loopsFrom ·))
  | 17 => (c.wideKeys == (fn.params.toList ++ s.plain.varTypes P ++ fn.resultTypes.toList).any (P.wideKeysFrom ·))
  | 18 => s.vars.all (P.varReadable ·)
  | 19 => fn.resultTypes.all (fun t => P.readableRec t && decide (t < P.types.size))
  | 20 => (c.ifacesOut == fn.resultTypes.toList.any (P.ifacesRec ·))
  | 21 => (c.loopsOut == fn.resultTypes.toList.any (P.loopsFrom ·))
  | 22 => (c.plainKeys == P.plainKeys)
  | 23 => c.shortTexts.isNone
  | 24 => P.stopsHeard
  | 25 => P.mayEnter
  | 26 => (c.lifted == P.liftsFinal)
  | 27 => (P.make == some c.make)
  | 28 => (c.kinds == (if c.domain.isEmpty then [] else fn.params.toList.map fun t => match P.underlying t with | some (.int k) => some k | _ => none))
  | 29 => (c.pinned == c.pinnedBy)
  | 30 => (c.veiled == (fn.params.toList ++ s.plain.varTypes P ++ fn.resultTypes.toList).any (P.veiledRec ·))
  | 31 => c.veiledFits P fn.params.toList (fn.params.toList ++ s.plain.varTypes P ++ fn.resultTypes.toList)
  | _ => true
theorem joinedFacts_of {P : Program} {f : FuncId} {fn : Func} {s : ChangeSpec} {c : OpenClaim} (h0 : jfact P f fn s c 0 = true) (h1 : jfact P f fn s c 1 = true) (h2 : jfact P f fn s c 2 = true) (h3 : jfact P f fn s c 3 = true) (h4 : jfact P f fn s c 4 = true) (h5 : jfact P f fn s c 5 = true) (h6 : jfact P f fn s c 6 = true) (h7 : jfact P f fn s c 7 = true) (h8 : jfact P f fn s c 8 = true) (h9 : jfact P f fn s c 9 = true) (h10 : jfact P f fn s c 10 = true) (h11 : jfact P f fn s c 11 = true) (h12 : jfact P f fn s c 12 = true) (h13 : jfact P f fn s c 13 = true) (h14 : jfact P f fn s c 14 = true) (h15 : jfact P f fn s c 15 = true) (h16 : jfact P f fn s c 16 = true) (h17 : jfact P f fn s c 17 = true) (h18 : jfact P f fn s c 18 = true) (h19 : jfact P f fn s c 19 = true) (h20 : jfact P f fn s c 20 = true) (h21 : jfact P f fn s c 21 = true) (h22 : jfact P f fn s c 22 = true) (h23 : jfact P f fn s c 23 = true) (h24 : jfact P f fn s c 24 = true) (h25 : jfact P f fn s c 25 = true) (h26 : jfact P f fn s c 26 = true) (h27 : jfact P f fn s c 27 = true) (h28 : jfact P f fn s c 28 = true) (h29 : jfact P f fn s c 29 = true) (h30 : jfact P f fn s c 30 = true) (h31 : jfact P f fn s c 31 = true) : joinedFacts P f fn s c = true := by
  simp only [jfact] at h0 h1 h2 h3 h4 h5 h6 h7 h8 h9 h10 h11 h12 h13 h14 h15 h16 h17 h18 h19 h20 h21 h22 h23 h24 h25 h26 h27 h28 h29 h30 h31
  unfold joinedFacts
  simp only [Bool.and_eq_true]
  exact ⟨⟨⟨⟨⟨⟨⟨⟨⟨⟨⟨⟨⟨⟨⟨⟨⟨⟨⟨⟨⟨⟨⟨⟨⟨⟨⟨⟨⟨⟨⟨h0, h1⟩, h2⟩, h3⟩, h4⟩, h5⟩, h6⟩, h7⟩, h8⟩, h9⟩, h10⟩, h11⟩, h12⟩, h13⟩, h14⟩, h15⟩, h16⟩, h17⟩, h18⟩, h19⟩, h20⟩, h21⟩, h22⟩, h23⟩, h24⟩, h25⟩, h26⟩, h27⟩, h28⟩, h29⟩, h30⟩, h31⟩
section
variable {P : Program} {f : FuncId} {fn : Func} {s : ChangeSpec} {c c' : OpenClaim}
theorem jfact_1 (h : laidOutB P = true) : jfact P f fn s c 1 = true := h
theorem jfact_2 (h : mapsRowed P = true) : jfact P f fn s c 2 = true := h
theorem jfact_24 (h : P.stopsHeard = true) : jfact P f fn s c 24 = true := h
theorem jfact_25 (h : P.mayEnter = true) : jfact P f fn s c 25 = true := h
theorem jfact_26 (h : (c'.lifted == P.liftsFinal) = true) (e : c.lifted = c'.lifted) : jfact P f fn s c 26 = true := by
  show (c.lifted == P.liftsFinal) = true
  rw [e]; exact h
theorem jfact_27 (h : (P.make == some c'.make) = true) (e : c.make = c'.make) : jfact P f fn s c 27 = true := by
  show (P.make == some c.make) = true
  rw [e]; exact h
end
end Go.Rw
