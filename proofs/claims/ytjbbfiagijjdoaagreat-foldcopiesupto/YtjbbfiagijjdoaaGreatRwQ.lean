/- Parts of the proof: what is used by the law. No condition. -/
import Derived.Test.YtjbbfiagijjdoaaGreatRwX
import Derived.Lib.Overlaps
import Derived.Test.YtjbbfiagijjdoaaGreatRwT
set_option linter.unusedSimpArgs false
set_option linter.unusedVariables false
/- slices.overlaps of rows that never change and of one's own memory: no. No condition. -/
set_option linter.unusedSimpArgs false
set_option linter.unusedVariables false
namespace Go.Rw

/-- the first has cells, the second is plain memory -/
theorem run_overlaps_own {P : Program} (w : World) (tS tR e : TypeId) (ht : P.underlying tS = some (.slice e)) (size : Nat) (hz : ∀ w, (Go.sizeOf e).run P w = .ok size w)
    (a b : Addr) (la ca lb cb : Nat) (hne : a.block ≠ b.block) (tA tB : TypeId) (kA kB : Nat)
    (hsa : w.shape? a.block = some (tA, kA)) (hsb : w.shape? b.block = some (tB, kB)) (hkA : kA ≠ 0)
    (hfb : w.frozen? b = false) (hfe : w.frozen? { block := b.block, off := kB } = false) :
    (Extern.SlicesOverlaps.overlaps #[tS, tS] #[tR] #[.slice (some a) la ca, .slice (some b) lb cb]).run P w = .ok (.bool false) w := by
  have hnb : (a.block != b.block) = true := by simpa using hne
  have hnb' : (a.block == b.block) = false := by simpa using hne
  change Sem.run P (α := Value) (do
    let some t := (#[tS, tS] : Array TypeId)[0]? | stuck "slices.overlaps: no parameter types"
    let .slice elem ← underlying t | stuck "slices.overlaps: slice type expected"
    let size ← sizeOf elem
    match (some a : Option Addr), (some b : Option Addr) with
    | some a, some b =>
      if la = 0 ∨ lb = 0 ∨ size = 0 then pure (Value.bool false)
      else if a.block != b.block && (← frozen a) && (← frozen b) then unsupported .addressObserved
      else do
        if a.block != b.block then do
          noView a; noView b
          if ← mayBeOne a b then return Value.bool ((← choose (.extern "sameAddr.stringBytes" 2)) == 1)
        pure (Value.bool (a.block == b.block && a.off < b.off + lb * size && b.off < a.off + la * size))
    | _, _ => pure (Value.bool false)) w = _
  by_cases h0 : la = 0 ∨ lb = 0 ∨ size = 0
  · simp [run_underlying ht, hz, h0]
  · cases kA with
    | zero => exact absurd rfl hkA
    | succ kA =>
      cases hfa : w.frozen? a <;> cases hfea : w.frozen? { block := a.block, off := kA + 1 } <;>
        simp [run_underlying ht, hz, h0, hnb, hnb', frozen, noView, viewAt, mayBeOne, stringish, shape, Sem.run, hsa, hsb, hfa, hfb, hfe, hfea]

theorem MSpec.overlaps {P : Program} {f : FuncId} {fn : Func} {tS tR e sz by_ : Nat} (hf : P.funcs[f]? = some fn) (hn : (fn.name == "runtime.NumGoroutine") = false) (hb : fn.body.isNone = true)
    (h1 : (Extern.findNext fn).isNone = true) (h2 : Extern.find fn = some (Extern.SlicesOverlaps.overlaps #[tS, tS] #[tR])) (hs : slT P tS = some (e, sz, by_)) (hsz : 0 < sz)
    {tag : Tag} {rows : List (List AV)} {b off n c : Nat} {cells : List AV} {h : Nat → Option (List AV)} (hne : rows ≠ []) (hrs : ∀ r ∈ rows, r.length = sz) (hb2 : h b = some cells) :
    MSpec P f [.sl tag rows, .sm b off n c] h (fun r h' => r = .v (.bool false) ∧ h' = h) := by
  intro G w cargs hG hns ha
  obtain ⟨inf, hu, hinf, hisz, hiby⟩ := slT_some hs
  simp only at hu hinf hisz hiby
  match cargs, ha.1 with
  | [v1, v2], _ =>
    have r1 := ha.2 0 _ v1 rfl rfl
    have r2 := ha.2 1 _ v2 rfl rfl
    obtain ⟨ho, arr, T, hh, harr, _⟩ := hG.obj b cells hb2
    cases r2
    have key : (Extern.SlicesOverlaps.overlaps #[tS, tS] #[tR] #[v1, .slice (some ⟨b, off, none⟩) n c]).run P w = .ok (.bool false) w := by
      cases r1 with
      | nil => exact absurd rfl hne
      | empty => exact absurd rfl hne
      | @sl _ _ b0 o0 cap s0 cc ht hcap hlen hs0 hk hi hr =>
        obtain ⟨r0, hr0⟩ : ∃ r0, rows[0]? = some r0 := by
          cases rows with
          | nil => exact absurd rfl hne
          | cons r0 _ => exact ⟨r0, rfl⟩
        have hs1 : s0 = sz := by rw [← hs0 0 r0 hr0]; exact hrs r0 (List.mem_of_getElem? hr0)
        have hpos : 0 < rows.length := by
          cases rows with
          | nil => exact absurd rfl hne
          | cons => simp
        have himm := hi 0 0 hpos (by omega)
        have hcell := hG.imm _ _ _ himm
        obtain ⟨tA, kA, hsa, hlt, _⟩ := World.shape?_of_cell? hcell
        have hbb : b0 ≠ b := by
          rintro rfl
          rw [hG.excl b0 ho] at himm
          simp at himm
        refine run_overlaps_own w tS tR e hu inf.size (run_sizeOf' hinf) ⟨b0, o0, none⟩ ⟨b, off, none⟩ rows.length cap n c hbb tA T kA arr.size hsa (by simp [World.shape?, hh]) (by simp at hlt; omega) ?_ ?_
        · simp [World.frozen?, hh]
        · simp [World.frozen?, hh]
    have h1' : Extern.findNext fn = none := by simpa using h1
    have hrun : (callFunc f [v1, Value.slice (some ⟨b, off, none⟩) n c].toArray).run P w = .ok (.value (.bool false)) w := by
      have hb' : fn.body = none := by simpa using hb
      have hn' : ¬ fn.name = "runtime.NumGoroutine" := by simpa using hn
      simp [callFunc, run_program, hf, hn', hb', h1', h2, key]
    rw [hrun]
    exact ⟨_, _, h, G, rfl, ⟨rfl, rfl⟩, hG, hns, ⟨Nat.le_refl _, fun _ _ _ => rfl, fun _ _ _ => rfl, Sub.refl _, fun _ _ h => h, Calm.refl _⟩, .v _, trivial⟩
end Go.Rw
