/- Parts of the proof: what is used by the law. No condition. -/
import Derived.Test.YtbgifnlaaophcaaRows
import Derived.Test.YtbgifnlaaophcaaGC
set_option linter.unusedSimpArgs false
set_option linter.unusedVariables false
/- Contracts: records' bytes, told otherwise. No condition. -/
set_option linter.unusedSimpArgs false
set_option linter.unusedVariables false
set_option maxRecDepth 10000
namespace Go.Proofs.Ytbgifnlaaophcaa
open Go Go.Rw Go.Proofs
-- a goal is never to be run by the elaborator
attribute [local irreducible] awp aops aop aopsE aeff

theorem nums9_spec (r : PRec) (hr : rightR r = true) (hf : fitR r) : ASpec Try.prog 99 [.agg (eRc r)] (Nums r) := by
  obtain ⟨hk, hv, hc, hn⟩ := rightR_bounds hr
  have n1 := nameV_lt hv
  have n2 := nameV_lt hc
  have w1 := uW n1.1 (by omega)
  have w2 := uW n2.1 (by omega)
  have w3 : IntKind.u64.wrap r.kind = ((r.kind.toNat : Nat) : Int) := uW (by omega) (by omega)
  refine ASpec.of_awp Try.func99 (by kernel_rfl) rfl (by rw [Try.results99]) Try.ntmps99 ?_
  simp -implicitDefEqProofs [eRc]
  refine allocK.intro (fun b1 hb1 => ?_)
  simp -implicitDefEqProofs
  refine regionK.intro 11 follows_mixed (by kernel_rfl) ?_
  simp -implicitDefEqProofs
  refine CallQ.with (name4_spec r.view hv) (by simp [eV]) ?_
  simp -implicitDefEqProofs [w1]
  refine CallQ.with (name4_spec r.cell.change hc) (by simp [eV]) ?_
  simp -implicitDefEqProofs [w2, w3]
  cases rightR_of hr with
  | value v e h hv h1 h2 h3 h4 =>
    have ht := rightT_of h3
    have a1 : IntKind.u64.wrap e.key = ((e.key.toNat : Nat) : Int) := uW (by omega) (by omega)
    have a2 : IntKind.u64.wrap e.tag.num = ((e.tag.num.toNat : Nat) : Int) := uW (by omega) (by omega)
    have a3 : IntKind.u64.wrap e.tag.node = ((e.tag.node.toNat : Nat) : Int) := uW (by omega) (by omega)
    have k1 : r.kind = 1 := by rw [h]
    have ee : r.entry = e := by rw [h]
    simp -implicitDefEqProofs [k1]
    refine regionK.intro 22 follows_mixed (by kernel_rfl) ?_
    simp -implicitDefEqProofs [ee, a1, a2, a3]
    refine CallQ.eq (bits1_spec e.value (by have := hf; rw [h] at this; exact this)) ?_
    simp -implicitDefEqProofs [ee, a1, a2, a3]
    exact ⟨_, by simp [numsR, k1, ee, eU, encU]; exact ⟨rfl, rfl⟩⟩
  | cell v c h hv h1 h2 h3 h4 =>
    have k1 : r.kind = 2 := by rw [h]
    have ee : r.cell = c := by rw [h]
    have a1 : IntKind.u64.wrap c.node = ((c.node.toNat : Nat) : Int) := uW (by omega) (by omega)
    simp -implicitDefEqProofs [k1, ee, a1]
    exact ⟨_, by simp [numsR, k1, ee, eU, encU]; exact ⟨rfl, rfl⟩⟩
  | mark v h hv =>
    have k1 : r.kind = 3 := by rw [h]
    simp -implicitDefEqProofs [k1]
    exact ⟨_, by simp [numsR, k1, eU, encU]; exact ⟨rfl, rfl⟩⟩
  | num k n h hk h1 h2 =>
    have k1 : r.kind = k := by rw [h]
    have ee : r.n = n := by rw [h]
    have a1 : IntKind.u64.wrap n = ((n.toNat : Nat) : Int) := uW (by omega) (by omega)
    rcases hk with rfl | rfl
    · simp -implicitDefEqProofs [k1, ee, a1]
      exact ⟨_, by simp [numsR, k1, ee, eU, encU]; exact ⟨rfl, rfl⟩⟩
    · simp -implicitDefEqProofs [k1, ee, a1]
      exact ⟨_, by simp [numsR, k1, ee, eU, encU]; exact ⟨rfl, rfl⟩⟩
  | intent v u h hv hu h4 =>
    have k1 : r.kind = 5 := by rw [h]
    simp -implicitDefEqProofs [k1]
    exact ⟨_, by simp [numsR, k1, eU, encU]; exact ⟨rfl, rfl⟩⟩
theorem right9r_spec (r : PRec) (hf : fitR r) : ASpec Try.prog 40 [.agg (eRc r)] (· = .v (.bool (rightR r))) := by
  rw [← right9_eq]; exact right9_spec r hf
theorem bytes9_spec (r : PRec) (hf : fitR r) : ASpec Try.prog 37 [.agg (eRc r)] (· = bytesA (bytesR r)) := by
  refine ASpec.of_awp Try.func37 (by kernel_rfl) rfl (by rw [Try.results37]) Try.ntmps37 ?_
  simp -implicitDefEqProofs [eRc]
  refine allocK.intro (fun b1 hb1 => ?_)
  simp -implicitDefEqProofs
  refine CallK.with (right9r_spec r hf) (by simp [eRc]) ?_
  cases hr : rightR r
  · simp -implicitDefEqProofs [bytesR, hr, bytesA]
  simp -implicitDefEqProofs
  refine CallK.via (nums9_spec r hr hf) (by simp [eRc]) ?_
  rintro _ ⟨tag, rfl⟩
  have hl := numsR_length r
  have hfl := forms_length (numsR_lt hr hf)
  simp -implicitDefEqProofs
  refine CallK.of (put2_spec [] (numsR r) (numsR_lt hr hf) (by simp; omega)) ?_
  rintro _ ⟨tag2, _, rfl⟩
  simp -implicitDefEqProofs
  refine CallK.of (seal3_spec (forms (numsR r)) (by omega)) ?_
  rintro _ ⟨tag3, _, rfl⟩
  simp -implicitDefEqProofs
  refine CallK.eq (text2_spec [] (sealF (forms (numsR r))) (by simp)) ?_
  have h4 : ¬ 4000 < (sealF (forms (numsR r))).length := by rw [sealF_length]; omega
  rw [textA, if_neg h4]
  simp -implicitDefEqProofs [bytesR, hr, bytesA, recB, bodyR]
end Go.Proofs.Ytbgifnlaaophcaa

/- Contracts: the disk. No condition. -/
set_option linter.unusedSimpArgs false
set_option linter.unusedVariables false
set_option maxRecDepth 10000
namespace Go.Proofs.Ytbgifnlaaophcaa
open Go Go.Rw Go.Proofs
-- a goal is never to be run by the elaborator
attribute [local irreducible] awp aops aop aopsE aeff

section
variable {P : Program} {M : List Nat} {ops : List Oper} {d : Option Tmp} {ty : TypeId} {pos : String} {after : Array Edge} {g : Option (Nat × Bool)} {s : ASt} {E : Eff → Prop}
theorem aeff_max (x y : Operand) (ts : Array TypeId) : aeff P M ops ⟨d, .call ⟨.builtin .max, #[x, y], ts⟩, ty, pos, after, g⟩ s E = @effO (aMax (dead1 (s.ev x)) (dead1 (s.ev y))) ⟨E⟩ := by with_unfolding_all rfl
theorem aeff_min (x y : Operand) (ts : Array TypeId) : aeff P M ops ⟨d, .call ⟨.builtin .min, #[x, y], ts⟩, ty, pos, after, g⟩ s E = @effO (aMin (dead1 (s.ev x)) (dead1 (s.ev y))) ⟨E⟩ := by with_unfolding_all rfl
end
attribute [simp ↓] aeff_max aeff_min

structure PDisk where
  data : List UInt8
  safe : Int
  room : Int
  fuse : Int
  off : Bool
deriving Inhabited

abbrev eFl (l : List UInt8) : List AV := l.map vB
/-- the disk's bytes lie behind `x` -/
def DataAt (x : AV) (l : List UInt8) (q : Option Nat) (h : Nat → Option (List AV)) : Prop :=
  (q = none ∧ x = .mn ∧ l = []) ∨ ∃ b c cells, q = some b ∧ x = .sm b 0 l.length c ∧ h b = some cells ∧ cells.length = c ∧ cells.take l.length = eFl l
def DiskAt (d : Nat) (D : PDisk) (q : Option Nat) (h : Nat → Option (List AV)) : Prop :=
  q ≠ some d ∧ ∃ x, h d = some [x, eI D.safe, eI D.room, eI D.fuse, .v (.bool D.off)] ∧ DataAt x D.data q h
def foot (d : Nat) (q : Option Nat) (h : Nat → Option (List AV)) : Nat → Option (List AV) := fun b => if b = d ∨ q = some b then h b else none
theorem SubH_refl (h : Nat → Option (List AV)) : SubH h h := fun b c hb => ⟨c, hb, Weak.refl c⟩

theorem DiskAt.keep {d : Nat} {D : PDisk} {q : Option Nat} {h H : Nat → Option (List AV)} (hd : DiskAt d D q h) (hk : ∀ b, (b = d ∨ q = some b) → H b = h b) : DiskAt d D q H := by
  obtain ⟨hq, x, hx, hdat⟩ := hd
  refine ⟨hq, x, by rw [hk d (.inl rfl), hx], ?_⟩
  rcases hdat with h1 | ⟨b, c, cells, h1, h2, h3, h4, h5⟩
  · exact .inl h1
  · exact .inr ⟨b, c, cells, h1, h2, by rw [hk b (.inr h1), h3], h4, h5⟩
theorem DataAt.put {d : Nat} {x : AV} {l : List UInt8} {q : Option Nat} {h : Nat → Option (List AV)} {c : Option (List AV)} (hd : DataAt x l q h) (hq : q ≠ some d) : DataAt x l q (upd h d c) := by
  rcases hd with h1 | ⟨b, c', cells, h1, h2, h3, h4, h5⟩
  · exact .inl h1
  · exact .inr ⟨b, c', cells, h1, h2, by have : ¬ b = d := by { rintro rfl; exact hq h1 }; simpa [upd, this] using h3, h4, h5⟩
theorem DiskAt.set {d : Nat} {D D' : PDisk} {x : AV} {q : Option Nat} {h : Nat → Option (List AV)} {a b c o : AV} (hq : q ≠ some d) (hd : DataAt x D.data q h) (h0 : D'.data = D.data) (h1 : a = eI D'.safe) (h2 : b = eI D'.room) (h3 : c = eI D'.fuse) (h4 : o = .v (.bool D'.off)) :
    DiskAt d D' q (upd h d (some [x, a, b, c, o])) := ⟨hq, x, by simp [upd, h1, h2, h3, h4], by rw [h0]; exact hd.put hq⟩
theorem frz0_v {b : Nat} {rows : List (List AV)} (l : List UInt8) : (l.map vB).map (frz0 b rows) = l.map vB := by rw [List.map_map]; rfl
theorem DiskAt.frozen {d : Nat} {D : PDisk} {q : Option Nat} {h : Nat → Option (List AV)} (b2 : Nat) (rows : List (List AV)) (hd : DiskAt d D q h) (h1 : ¬ d = b2) (h2 : q ≠ some b2) : DiskAt d D q (frozenH b2 rows h) := by
  obtain ⟨hq, x, hx, hdat⟩ := hd
  rcases hdat with ⟨rfl, rfl, h0⟩ | ⟨b, c, cells, rfl, rfl, hb, hc, ht⟩
  · exact ⟨hq, .mn, by simp [frozenH, h1, hx, frz0], .inl ⟨rfl, rfl, h0⟩⟩
  · have hn : ¬ b = b2 := by rintro rfl; exact h2 rfl
    refine ⟨hq, .sm b 0 D.data.length c, by simp [frozenH, h1, hx, frz0, hn], .inr ⟨b, c, cells.map (frz0 b2 rows), rfl, rfl, by simp [frozenH, hn, hb], by simpa using hc, ?_⟩⟩
    rw [← List.map_take, ht, frz0_v]
theorem DiskAt.other {d : Nat} {D : PDisk} {q : Option Nat} {h : Nat → Option (List AV)} (b2 : Nat) (c : Option (List AV)) (hd : DiskAt d D q h) (h1 : ¬ d = b2) (h2 : q ≠ some b2) : DiskAt d D q (upd h b2 c) :=
  hd.keep fun b hb => by
    have : ¬ b = b2 := by
      rcases hb with rfl | hb
      · exact h1
      · rintro rfl; exact h2 hb
    simp [upd, this]
theorem max_if (a b : Int) : (if a < b then b else a) = max a b := by split <;> omega
theorem min_if (a b : Int) : (if b < a then b else a) = min a b := by split <;> omega
theorem off_spec (d : Nat) (D : PDisk) (q : Option Nat) (h : Nat → Option (List AV)) (hd : DiskAt d D q h) :
    MSpec Try.prog 53 [.ptr d 0] h (fun r h' => r = .v (.bool D.off) ∧ DiskAt d D q h') := by
  refine MSpec.of_awp Try.func53 (by kernel_rfl) rfl (by rw [Try.results53]) Try.ntmps53 ?_
  obtain ⟨hq, x, hx, hdat⟩ := id hd
  simp -implicitDefEqProofs [hx]
  exact ⟨h, SubH_refl h, hd⟩
theorem safe_spec (d : Nat) (D : PDisk) (q : Option Nat) (h : Nat → Option (List AV)) (hd : DiskAt d D q h) :
    MSpec Try.prog 43 [.ptr d 0] h (fun r h' => r = eI D.safe ∧ DiskAt d D q h') := by
  refine MSpec.of_awp Try.func43 (by kernel_rfl) rfl (by rw [Try.results43]) Try.ntmps43 ?_
  obtain ⟨hq, x, hx, hdat⟩ := id hd
  simp -implicitDefEqProofs [hx]
  exact ⟨h, SubH_refl h, hd⟩
theorem limit_spec (d : Nat) (D : PDisk) (q : Option Nat) (n : Int) (h : Nat → Option (List AV)) (hd : DiskAt d D q h) :
    MSpec Try.prog 95 [.ptr d 0, eI n] h (fun r h' => r = .tup [] ∧ DiskAt d { D with room := max 0 (min n 60000) } q h') := by
  refine MSpec.of_awp Try.func95 (by kernel_rfl) rfl (by rw [Try.results95]) Try.ntmps95 ?_
  obtain ⟨hq, x, hx, hdat⟩ := id hd
  simp -implicitDefEqProofs [hx, max_if, min_if]
  exact ⟨_, SubH_refl _, DiskAt.set (D := D) hq hdat rfl rfl (by simp [max_if, min_if, Int.min_comm]) rfl rfl⟩
theorem fuse_spec (d : Nat) (D : PDisk) (q : Option Nat) (n : Int) (h : Nat → Option (List AV)) (hd : DiskAt d D q h) :
    MSpec Try.prog 49 [.ptr d 0, eI n] h (fun r h' => r = .tup [] ∧ DiskAt d { D with fuse := max (-1) n } q h') := by
  refine MSpec.of_awp Try.func49 (by kernel_rfl) rfl (by rw [Try.results49]) Try.ntmps49 ?_
  obtain ⟨hq, x, hx, hdat⟩ := id hd
  simp -implicitDefEqProofs [hx, max_if, min_if]
  exact ⟨_, SubH_refl _, DiskAt.set (D := D) hq hdat rfl rfl rfl (by simp [max_if, min_if]) rfl⟩
theorem sync_spec (d : Nat) (D : PDisk) (q : Option Nat) (h : Nat → Option (List AV)) (hd : DiskAt d D q h) :
    MSpec Try.prog 94 [.ptr d 0] h (fun r h' => r = .tup [] ∧ DiskAt d (if D.off then D else { D with safe := D.data.length }) q h') := by
  refine MSpec.of_awp Try.func94 (by kernel_rfl) rfl (by rw [Try.results94]) Try.ntmps94 ?_
  obtain ⟨hq, x, hx, hdat⟩ := id hd
  cases ho : D.off
  · rcases hdat with ⟨rfl, rfl, h0⟩ | ⟨b, c, cells, rfl, rfl, hb, hc, ht⟩
    · simp -implicitDefEqProofs [hx, ho]
      exact ⟨_, SubH_refl _, DiskAt.set (D := D) hq (.inl ⟨rfl, rfl, h0⟩) rfl (by simp [h0]) rfl rfl (by simp [ho])⟩
    · simp -implicitDefEqProofs [hx, ho]
      intro _
      exact ⟨_, SubH_refl _, DiskAt.set (D := D) hq (.inr ⟨b, c, cells, rfl, rfl, hb, hc, ht⟩) rfl rfl rfl rfl (by simp [ho])⟩
  · simp -implicitDefEqProofs [hx, ho]
    exact ⟨h, SubH_refl h, by simpa [ho] using hd⟩

theorem limit_any (d : Nat) (x a b c o : AV) (n : Int) :
    MSpec Try.prog 95 [.ptr d 0, eI n] (one d [x, a, b, c, o]) (fun r h' => r = .tup [] ∧ h' = one d [x, a, eI (max 0 (min n 60000)), c, o]) := by
  refine MSpec.of_awp Try.func95 (by kernel_rfl) rfl (by rw [Try.results95]) Try.ntmps95 ?_
  have hx : one d [x, a, b, c, o] d = some [x, a, b, c, o] := by simp [one, upd]
  simp -implicitDefEqProofs [hx, max_if, min_if]
  trace_state
theorem new_spec (n : Int) : MSpec Try.prog 35 [eI n] (fun _ => none) (fun r h' => ∃ d, r = .ptr d 0 ∧ DiskAt d ⟨[], 0, max 0 (min n 60000), -1, false⟩ none h') := by
  refine MSpec.of_awpS Try.func35 (by kernel_rfl) rfl (by rw [Try.results35]) Try.ntmps35 ?_
  simp -implicitDefEqProofs
  refine allocK.intro (fun d hd => ?_)
  simp -implicitDefEqProofs
  refine CallK.mf (limit_any d (.sl .nil []) (eI 0) (eI 0) (eI (-1)) (.v (.bool false)) n) rfl (SubH_one.2 (by simp [Weak.refl])) ?_
  rintro _ h' ⟨rfl, rfl⟩ _
  simp -implicitDefEqProofs
  simp only [merge_one]
  refine shiftK.mn d 0 [AV.sl .nil [], eI 0, eI (max 0 (min n 60000)), eI (-1), .v (.bool false)] (by simp) rfl ?_
  simp only [List.set, forceL]
  refine shiftK.skip ?_
  simp -implicitDefEqProofs
  refine ⟨_, SubH_refl _, ?_⟩
  refine ⟨by simp, .mn, by simp, .inl ⟨rfl, rfl, rfl⟩⟩
def freshQ (q q' : Option Nat) (h : Nat → Option (List AV)) : Prop := q' = q ∨ ∃ b, q' = some b ∧ h b = none
theorem bytes_spec (d : Nat) (D : PDisk) (q : Option Nat) (h : Nat → Option (List AV)) (hd : DiskAt d D q h) (hl : D.data.length ≤ 1000000000) :
    MSpec Try.prog 42 [.ptr d 0] h (fun r h' => ∃ tag, r = .sl tag (eB D.data) ∧ DiskAt d D q h') := by
  refine MSpec.of_awpS Try.func42 (by kernel_rfl) rfl (by rw [Try.results42]) Try.ntmps42 ?_
  obtain ⟨hq, x, hx, hdat⟩ := id hd
  rcases hdat with ⟨rfl, rfl, h0⟩ | ⟨b, c, cells, rfl, rfl, hb, hc, ht⟩
  · simp -implicitDefEqProofs [hx]
    refine allocK.intro (fun b2 hb2 => ?_)
    have n1 : ¬ d = b2 := by rintro rfl; simp [hx] at hb2
    have n1' : ¬ b2 = d := fun h => n1 h.symm
    simp -implicitDefEqProofs [hx, n1, n1']
    refine shiftK.freeze (b := b2) (len := 0) (cap := 0) 2 5 (cells := []) (eB []) (by simp) (by simp) (chunks_bytes [] []) (by simp) (by simp) ?_
    simp -implicitDefEqProofs
    refine ⟨_, SubH_refl _, by rw [h0]; rfl, ?_⟩
    exact ((hd.other b2 _ n1 (by simp)).other b2 _ n1 (by simp)).frozen b2 _ n1 (by simp)
  · simp -implicitDefEqProofs [hx, hb]
    intro _
    refine ⟨⟨by omega, by omega⟩, ?_⟩
    refine allocK.intro (fun b2 hb2 => ?_)
    have n1 : ¬ d = b2 := by rintro rfl; simp [hx] at hb2
    have n1' : ¬ b2 = d := fun h => n1 h.symm
    have n2 : ¬ b = b2 := by rintro rfl; simp [hb] at hb2
    have n2' : ¬ b2 = b := fun h => n2 h.symm
    have hle : D.data.length ≤ cells.length := by
      have := congrArg List.length ht
      simp at this
      omega
    simp -implicitDefEqProofs [hx, hb, n1, n1', n2, n2', ht, hle, vB]
    refine shiftK.freeze (b := b2) (len := D.data.length) (cap := D.data.length) (cells := D.data.map vB) 2 5 (eB D.data) (by simp) (by simp [vB, Function.comp_def]) (by simpa using chunks_bytes D.data []) (by simp) (by simp) ?_
    simp -implicitDefEqProofs [n1, n1', n2, n2']
    exact ⟨_, SubH_refl _, ((hd.other b2 _ n1 (by simp [n2])).other b2 _ n1 (by simp [n2])).frozen b2 _ n1 (by simp [n2])⟩
def OkD (D : PDisk) : Prop := 0 ≤ D.room ∧ D.room ≤ 60000 ∧ -1 ≤ D.fuse ∧ D.fuse < 9223372036854775808 ∧ 0 ≤ D.safe ∧ D.safe ≤ D.data.length ∧ D.data.length ≤ 60000
def appendD (D : PDisk) (x : List UInt8) : PDisk × Int :=
  if D.off then (D, 82)
  else if max 0 (D.room - D.data.length) < x.length then (D, 81)
  else if D.fuse ≠ -1 ∧ D.fuse < x.length then ({ D with data := D.data ++ x.take D.fuse.toNat, off := true }, 82)
  else ({ D with data := D.data ++ x, fuse := if D.fuse ≠ -1 then D.fuse - x.length else D.fuse }, 0)
theorem take_left2 {l y : List UInt8} (spare : List AV) : (l.map vB ++ (y.map vB ++ spare)).take (l ++ y).length = eFl (l ++ y) := by
  rw [← List.append_assoc, ← List.map_append, List.take_left' (by simp)]
theorem dead_vB {cells : List AV} {l : List UInt8} (ht : cells.take l.length = eFl l) : (cells.map dead1).take l.length = l.map vB := by
  rw [← List.map_take, ht, List.map_map]; rfl
theorem DiskAt.mk_sm {d : Nat} {D : PDisk} {b c n : Nat} {cells : List AV} {h : Nat → Option (List AV)} (hn : n = D.data.length) (hbd : ¬ d = b) (h1 : h d = some [.sm b 0 n c, eI D.safe, eI D.room, eI D.fuse, .v (.bool D.off)])
    (h2 : h b = some cells) (h3 : cells.length = c) (h4 : cells.take D.data.length = eFl D.data) : DiskAt d D (some b) h := by
  subst hn
  exact ⟨fun h => hbd (by simpa using h.symm), _, h1, .inr ⟨b, c, cells, rfl, rfl, h2, h3, h4⟩⟩
theorem append_spec (d : Nat) (D : PDisk) (q : Option Nat) (x : List UInt8) (h : Nat → Option (List AV)) (hd : DiskAt d D q h) (ho : OkD D) (hx : x.length ≤ 1000000000) :
    MSpec Try.prog 51 [.ptr d 0, .sl .no (eB x)] h (fun r h' => r = eI (appendD D x).2 ∧ ∃ q', DiskAt d (appendD D x).1 q' h') := by
  refine MSpec.of_awp Try.func51 (by kernel_rfl) rfl (by rw [Try.results51]) Try.ntmps51 ?_
  obtain ⟨hq, v, hv, hdat⟩ := id hd
  obtain ⟨o1, o2, o3, o4, o5, o6, o7⟩ := ho
  have w1 : IntKind.i64.wrap (D.room - (D.data.length : Int)) = D.room - (D.data.length : Int) := w64 (by omega) (by omega)
  cases hoff : D.off
  · by_cases hA : max 0 (D.room - (D.data.length : Int)) < (x.length : Int)
    · have e : appendD D x = (D, 81) := by simp [appendD, hoff, hA]
      rcases hdat with ⟨rfl, rfl, h0⟩ | ⟨b, c, cells, rfl, rfl, hb, hc, ht⟩
      · have w0 : IntKind.i64.wrap D.room = D.room := w64 (by omega) (by omega)
        have hA' : max 0 D.room < (x.length : Int) := by rw [h0] at hA; simpa using hA
        simp -implicitDefEqProofs [hv, hoff]
        refine regionK.intro 15 follows_mixed (by kernel_rfl) ?_
        simp -implicitDefEqProofs [hv, hoff, max_if, w0, hA', e]
        exact ⟨h, SubH_refl h, _, hd⟩
      · have hA' : (if (D.data.length : Int) < D.room then D.room - (D.data.length : Int) else 0) < (x.length : Int) := by split <;> omega
        simp -implicitDefEqProofs [hv, hoff, hb]
        refine regionK.intro 15 follows_mixed (by kernel_rfl) ?_
        simp -implicitDefEqProofs [hv, hoff, hb, max_if, w1, hA', e]
        intros
        exact ⟨h, SubH_refl h, _, hd⟩
    · by_cases hF : D.fuse ≠ -1 ∧ D.fuse < (x.length : Int)
      · have e : appendD D x = ({ D with data := D.data ++ x.take D.fuse.toNat, off := true }, 82) := by simp only [appendD, hoff, if_neg hA, if_pos hF]; rfl
        obtain ⟨hF1, hF2⟩ := hF
        rcases hdat with ⟨rfl, rfl, h0⟩ | ⟨b, c, cells, rfl, rfl, hb, hc, ht⟩
        · have w0 : IntKind.i64.wrap D.room = D.room := w64 (by omega) (by omega)
          have hA' : ¬ max 0 D.room < (x.length : Int) := by rw [h0] at hA; simpa using hA
          simp -implicitDefEqProofs [hv, hoff]
          refine regionK.intro 15 follows_mixed (by kernel_rfl) ?_
          simp -implicitDefEqProofs [hv, hoff, max_if, w0, hA', e, hF1, hF2]
          intro _
          have f0 : 0 ≤ D.fuse := by omega
          have f1 : D.fuse ≤ (x.length : Int) := by omega
          refine regionK.modes [] [.q, .q, .q, .q, .q, .q, .q, .q, .q, .q, .q, .l, .s, .s, .s] follows_mixed (by kernel_rfl) ?_
          simp -implicitDefEqProofs [hv, f0, f1, maskH]
          refine ⟨by omega, growMnK.intro (fun hr => ?_) (fun hne b' c' spare hb' hc' hs' => ?_)⟩
          · have hr' : x.take D.fuse.toNat = [] := by simpa [eB] using hr
            simp -implicitDefEqProofs [hv]
            exact ⟨_, SubH_refl _, none, by simp, .mn, by simp [upd], .inl ⟨rfl, rfl, by simp only [h0, hr']; rfl⟩⟩
          · have nd : ¬ d = b' := by rintro rfl; simp [hv] at hb'
            have nd' : ¬ b' = d := fun h => nd h.symm
            have hm : min D.fuse.toNat x.length = D.fuse.toNat := by omega
            simp only [eB, List.length_map, List.length_take, hm] at hc' hs'
            simp -implicitDefEqProofs [hv, nd, nd', hm]
            refine ⟨_, SubH_refl _, some b', DiskAt.mk_sm (c := c') (n := D.fuse.toNat) (cells := List.take D.fuse.toNat (x.map vB) ++ spare) ?_ nd (by simp [upd]) (by simp [upd, nd']) ?_ ?_⟩
            · simp [h0, hm]
            · simp [hm]; omega
            · rw [h0, ← List.map_take]
              exact take_left2 (l := []) spare
        · have nb : ¬ d = b := fun h => hq (by rw [h])
          have nb' : ¬ b = d := fun h => nb h.symm
          have hA' : ¬ (if (D.data.length : Int) < D.room then D.room - (D.data.length : Int) else 0) < (x.length : Int) := by split <;> omega
          simp -implicitDefEqProofs [hv, hoff, hb]
          refine regionK.intro 15 follows_mixed (by kernel_rfl) ?_
          simp -implicitDefEqProofs [hv, hoff, hb, max_if, w1, hA', e, hF1, hF2]
          intro _
          have f0 : 0 ≤ D.fuse := by omega
          have f1 : D.fuse ≤ (x.length : Int) := by omega
          refine regionK.modes [b] [.q, .q, .q, .q, .q, .q, .q, .q, .q, .q, .q, .l, .s, .s, .s] follows_mixed (by kernel_rfl) ?_
          simp -implicitDefEqProofs [hv, hb, f0, f1, maskH, nb, nb']
          refine ⟨by omega, hc, growSmK.intro (fun b' c' spare hb' hc' hs' => ?_)⟩
          have nd : ¬ d = b' := by
            rintro rfl
            rcases hb' with h1 | h1
            · exact nb h1
            · simp [hv] at h1
          have nd' : ¬ b' = d := fun h => nd h.symm
          have hm : min D.fuse.toNat x.length = D.fuse.toNat := by omega
          have hle : D.data.length ≤ cells.length := by
            have := congrArg List.length ht
            simp at this
            omega
          simp only [eB, List.length_map, List.length_take, hm] at hc' hs'
          simp -implicitDefEqProofs [hv, nb, nb', nd, nd', hm]
          refine ⟨_, SubH_refl _, some b', DiskAt.mk_sm (c := c') (n := D.data.length + D.fuse.toNat) (cells := List.take D.data.length (List.map dead1 cells) ++ (List.take D.fuse.toNat (List.map vB x) ++ spare)) ?_ nd (by simp [upd]) (by simp [upd, nd']) ?_ ?_⟩
          · simp [hm]
          · simp [hm]; omega
          · rw [dead_vB ht, ← List.map_take]
            exact take_left2 spare
      · by_cases hm1 : D.fuse = -1
        · have e : appendD D x = ({ D with data := D.data ++ x }, 0) := by simp only [appendD, hoff, if_neg hA, if_neg hF]; simp [hm1]
          rcases hdat with ⟨rfl, rfl, h0⟩ | ⟨b, c, cells, rfl, rfl, hb, hc, ht⟩
          · have w0 : IntKind.i64.wrap D.room = D.room := w64 (by omega) (by omega)
            have hA' : ¬ max 0 D.room < (x.length : Int) := by rw [h0] at hA; simpa using hA
            simp -implicitDefEqProofs [hv, hoff]
            refine regionK.intro 15 follows_mixed (by kernel_rfl) ?_
            simp -implicitDefEqProofs [hv, hoff, max_if, w0, hA', e, hm1]
            intros
            refine ⟨by omega, growMnK.intro (fun hr => ?_) (fun hne b' c' spare hb' hc' hs' => ?_)⟩
            · have hr' : x = [] := by simpa [eB] using hr
              simp -implicitDefEqProofs [hv]
              exact ⟨_, SubH_refl _, none, by simp, .mn, by simp [upd, hm1, hoff], .inl ⟨rfl, rfl, by simp only [h0, hr']; rfl⟩⟩
            · have nd : ¬ d = b' := by rintro rfl; simp [hv] at hb'
              have nd' : ¬ b' = d := fun h => nd h.symm
              simp only [eB, List.length_map] at hc' hs'
              simp -implicitDefEqProofs [hv, nd, nd']
              refine ⟨_, SubH_refl _, some b', DiskAt.mk_sm (c := c') (n := x.length) (cells := x.map vB ++ spare) ?_ nd (by simp [upd, hm1, hoff]) (by simp [upd, nd']) ?_ ?_⟩
              · simp [h0]
              · simp; omega
              · rw [h0]
                exact take_left2 (l := []) spare
          · have nb : ¬ d = b := fun h => hq (by rw [h])
            have nb' : ¬ b = d := fun h => nb h.symm
            have hA' : ¬ (if (D.data.length : Int) < D.room then D.room - (D.data.length : Int) else 0) < (x.length : Int) := by split <;> omega
            simp -implicitDefEqProofs [hv, hoff, hb]
            refine regionK.intro 15 follows_mixed (by kernel_rfl) ?_
            simp -implicitDefEqProofs [hv, hoff, hb, max_if, w1, hA', e, hm1, nb, nb']
            intros
            refine ⟨by omega, hc, growSmK.intro (fun b' c' spare hb' hc' hs' => ?_)⟩
            have nd : ¬ d = b' := by
              rintro rfl
              rcases hb' with h1 | h1
              · exact nb h1
              · simp [hv] at h1
            have nd' : ¬ b' = d := fun h => nd h.symm
            have hle : D.data.length ≤ cells.length := by
              have := congrArg List.length ht
              simp at this
              omega
            simp only [eB, List.length_map] at hc' hs'
            simp -implicitDefEqProofs [hv, nb, nb', nd, nd']
            refine ⟨_, SubH_refl _, some b', DiskAt.mk_sm (c := c') (n := D.data.length + x.length) (cells := List.take D.data.length (List.map dead1 cells) ++ (List.map vB x ++ spare)) ?_ nd (by simp [upd, hm1, hoff]) (by simp [upd, nd']) ?_ ?_⟩
            · simp
            · simp; omega
            · rw [dead_vB ht]
              exact take_left2 spare
        · have hF3 : ¬ D.fuse < (x.length : Int) := fun h => hF ⟨hm1, h⟩
          have w3 : IntKind.i64.wrap (D.fuse - (x.length : Int)) = D.fuse - (x.length : Int) := w64 (by omega) (by omega)
          have e : appendD D x = ({ D with data := D.data ++ x, fuse := D.fuse - x.length }, 0) := by simp only [appendD, hoff, if_neg hA, if_neg hF]; simp [hm1]
          rcases hdat with ⟨rfl, rfl, h0⟩ | ⟨b, c, cells, rfl, rfl, hb, hc, ht⟩
          · have w0 : IntKind.i64.wrap D.room = D.room := w64 (by omega) (by omega)
            have hA' : ¬ max 0 D.room < (x.length : Int) := by rw [h0] at hA; simpa using hA
            simp -implicitDefEqProofs [hv, hoff]
            refine regionK.intro 15 follows_mixed (by kernel_rfl) ?_
            simp -implicitDefEqProofs [hv, hoff, max_if, w0, hA', e, hm1, hF3, w3]
            intros
            refine ⟨by omega, growMnK.intro (fun hr => ?_) (fun hne b' c' spare hb' hc' hs' => ?_)⟩
            · have hr' : x = [] := by simpa [eB] using hr
              simp -implicitDefEqProofs [hv]
              exact ⟨_, SubH_refl _, none, by simp, .mn, by simp [upd, hm1, hoff], .inl ⟨rfl, rfl, by simp only [h0, hr']; rfl⟩⟩
            · have nd : ¬ d = b' := by rintro rfl; simp [hv] at hb'
              have nd' : ¬ b' = d := fun h => nd h.symm
              simp only [eB, List.length_map] at hc' hs'
              simp -implicitDefEqProofs [hv, nd, nd']
              refine ⟨_, SubH_refl _, some b', DiskAt.mk_sm (c := c') (n := x.length) (cells := x.map vB ++ spare) ?_ nd (by simp [upd, hm1, hoff]) (by simp [upd, nd']) ?_ ?_⟩
              · simp [h0]
              · simp; omega
              · rw [h0]
                exact take_left2 (l := []) spare
          · have nb : ¬ d = b := fun h => hq (by rw [h])
            have nb' : ¬ b = d := fun h => nb h.symm
            have hA' : ¬ (if (D.data.length : Int) < D.room then D.room - (D.data.length : Int) else 0) < (x.length : Int) := by split <;> omega
            simp -implicitDefEqProofs [hv, hoff, hb]
            refine regionK.intro 15 follows_mixed (by kernel_rfl) ?_
            simp -implicitDefEqProofs [hv, hoff, hb, max_if, w1, hA', e, hm1, hF3, w3, nb, nb']
            intros
            refine ⟨by omega, hc, growSmK.intro (fun b' c' spare hb' hc' hs' => ?_)⟩
            have nd : ¬ d = b' := by
              rintro rfl
              rcases hb' with h1 | h1
              · exact nb h1
              · simp [hv] at h1
            have nd' : ¬ b' = d := fun h => nd h.symm
            have hle : D.data.length ≤ cells.length := by
              have := congrArg List.length ht
              simp at this
              omega
            simp only [eB, List.length_map] at hc' hs'
            simp -implicitDefEqProofs [hv, nb, nb', nd, nd']
            refine ⟨_, SubH_refl _, some b', DiskAt.mk_sm (c := c') (n := D.data.length + x.length) (cells := List.take D.data.length (List.map dead1 cells) ++ (List.map vB x ++ spare)) ?_ nd (by simp [upd, hm1, hoff]) (by simp [upd, nd']) ?_ ?_⟩
            · simp
            · simp; omega
            · rw [dead_vB ht]
              exact take_left2 spare
  · have e : appendD D x = (D, 82) := by simp [appendD, hoff]
    simp -implicitDefEqProofs [hv, hoff, e]
    exact ⟨h, SubH_refl h, _, hd⟩

def crashD (D : PDisk) (keep : Int) : PDisk := { data := D.data.take (D.safe + max 0 (min keep ((D.data.length : Int) - D.safe))).toNat, safe := D.safe + max 0 (min keep ((D.data.length : Int) - D.safe)), room := D.room, fuse := -1, off := false }
theorem crash_spec (d : Nat) (D : PDisk) (q : Option Nat) (keep : Int) (h : Nat → Option (List AV)) (hd : DiskAt d D q h) (ho : OkD D) :
    MSpec Try.prog 47 [.ptr d 0, eI keep] h (fun r h' => r = .tup [] ∧ DiskAt d (crashD D keep) q h') := by
  refine MSpec.of_awp Try.func47 (by kernel_rfl) rfl (by rw [Try.results47]) Try.ntmps47 ?_
  obtain ⟨hq, v, hv, hdat⟩ := id hd
  obtain ⟨o1, o2, o3, o4, o5, o6, o7⟩ := ho
  rcases hdat with ⟨rfl, rfl, h0⟩ | ⟨b, c, cells, rfl, rfl, hb, hc, ht⟩
  · have s0 : D.safe = 0 := by rw [h0] at o6; simp at o6; omega
    simp -implicitDefEqProofs [hv]
    refine regionK.intro 24 follows_mixed (by kernel_rfl) ?_
    have w0 : IntKind.i64.wrap (max 0 (min keep (IntKind.i64.wrap 0))) = 0 := by
      have : IntKind.i64.wrap 0 = 0 := by decide
      rw [this, show max 0 (min keep 0) = 0 by omega, this]
    simp -implicitDefEqProofs [hv, s0, max_if, min_if, w0]
    refine ⟨_, SubH_refl _, by simp, .mn, by simp [upd, crashD, h0, s0]; omega, .inl ⟨rfl, rfl, by simp [crashD, h0]⟩⟩
  · have w1 : IntKind.i64.wrap ((D.data.length : Int) - D.safe) = (D.data.length : Int) - D.safe := w64 (by omega) (by omega)
    obtain ⟨m, hm⟩ : ∃ m : Nat, (m : Int) = D.safe + max 0 (min keep ((D.data.length : Int) - D.safe)) := ⟨(D.safe + max 0 (min keep ((D.data.length : Int) - D.safe))).toNat, by omega⟩
    have nb : ¬ d = b := fun h => hq (by rw [h])
    have nb' : ¬ b = d := fun h => nb h.symm
    have w2 : IntKind.i64.wrap (D.safe + max 0 (min keep ((D.data.length : Int) - D.safe))) = (m : Int) := by rw [← hm]; exact w64 (by omega) (by omega)
    have hml : m ≤ D.data.length := by omega
    have hml' : (m : Int) ≤ (D.data.length : Int) := by omega
    have hmin : min m D.data.length = m := by omega
    have e : crashD D keep = ⟨D.data.take m, m, D.room, -1, false⟩ := by simp only [crashD, ← hm, Int.toNat_natCast]
    rw [e]
    have fin : ∀ H : Nat → Option (List AV), H d = some [.sm b 0 m c, eI m, eI D.room, eI (-1), .v (.bool false)] → H b = some cells → DiskAt d ⟨D.data.take m, m, D.room, -1, false⟩ (some b) H := by
      intro H h1 h2
      refine DiskAt.mk_sm (n := m) (by simp [hmin]) nb h1 h2 hc ?_
      have : (cells.take D.data.length).take m = eFl (D.data.take m) := by rw [ht, ← List.map_take]
      rw [List.take_take, hmin] at this
      simpa [hmin] using this
    simp -implicitDefEqProofs [hv, hb]
    refine regionK.intro 24 follows_mixed (by kernel_rfl) ?_
    by_cases hm0 : 0 < m
    · simp -implicitDefEqProofs [hv, hb, w1, w2, max_if, min_if, hml', hm0, nb, nb']
      intros
      exact ⟨_, SubH_refl _, fin _ (by simp [upd]) (by simp [upd, nb', hb])⟩
    · obtain rfl : m = 0 := by omega
      simp -implicitDefEqProofs [hv, hb, w1, w2, max_if, min_if, hml', nb, nb']
      exact ⟨_, SubH_refl _, fin _ (by simp [upd]) (by simp [upd, nb', hb])⟩
def cutD (D : PDisk) (n : Int) : PDisk := if D.off then D else { D with data := D.data.take (max 0 (min n D.data.length)).toNat, safe := min D.safe (max 0 (min n D.data.length)) }
theorem diskcut_spec (d : Nat) (D : PDisk) (q : Option Nat) (n : Int) (h : Nat → Option (List AV)) (hd : DiskAt d D q h) (ho : OkD D) :
    MSpec Try.prog 55 [.ptr d 0, eI n] h (fun r h' => r = .tup [] ∧ DiskAt d (cutD D n) q h') := by
  refine MSpec.of_awp Try.func55 (by kernel_rfl) rfl (by rw [Try.results55]) Try.ntmps55 ?_
  obtain ⟨hq, v, hv, hdat⟩ := id hd
  obtain ⟨o1, o2, o3, o4, o5, o6, o7⟩ := ho
  cases hoff : D.off
  · rcases hdat with ⟨rfl, rfl, h0⟩ | ⟨b, c, cells, rfl, rfl, hb, hc, ht⟩
    · have s0 : D.safe = 0 := by rw [h0] at o6; simp at o6; omega
      have w0 : max 0 (min n 0) = 0 := by omega
      simp -implicitDefEqProofs [hv, hoff]
      refine regionK.intro 14 follows_mixed (by kernel_rfl) ?_
      simp -implicitDefEqProofs [hv, max_if, min_if, w0]
      refine regionK.intro 11 follows_mixed (by kernel_rfl) ?_
      simp -implicitDefEqProofs [hv, s0, max_if, min_if]
      refine ⟨_, SubH_refl _, by simp, .mn, by simp [upd, cutD, hoff, h0, s0]; omega, .inl ⟨rfl, rfl, by simp [cutD, hoff, h0]⟩⟩
    · obtain ⟨m, hm⟩ : ∃ m : Nat, (m : Int) = max 0 (min n (D.data.length : Int)) := ⟨(max 0 (min n (D.data.length : Int))).toNat, by omega⟩
      have nb : ¬ d = b := fun h => hq (by rw [h])
      have nb' : ¬ b = d := fun h => nb h.symm
      have hml : m ≤ D.data.length := by omega
      have hml' : (m : Int) ≤ (D.data.length : Int) := by omega
      have hmin : min m D.data.length = m := by omega
      have e : cutD D n = ⟨D.data.take m, min D.safe m, D.room, D.fuse, false⟩ := by simp only [cutD, hoff, ← hm, Int.toNat_natCast]; simp
      rw [e]
      have fin : ∀ H : Nat → Option (List AV), H d = some [.sm b 0 m c, eI (min D.safe m), eI D.room, eI D.fuse, .v (.bool false)] → H b = some cells → DiskAt d ⟨D.data.take m, min D.safe m, D.room, D.fuse, false⟩ (some b) H := by
        intro H h1 h2
        refine DiskAt.mk_sm (n := m) (by simp [hmin]) nb h1 h2 hc ?_
        have : (cells.take D.data.length).take m = eFl (D.data.take m) := by rw [ht, ← List.map_take]
        rw [List.take_take, hmin] at this
        simpa [hmin] using this
      simp -implicitDefEqProofs [hv, hb, hoff]
      refine regionK.intro 14 follows_mixed (by kernel_rfl) ?_
      by_cases hm0 : 0 < m
      · simp -implicitDefEqProofs [hv, hb, ← hm, max_if, min_if, hml', hm0, nb, nb']
        intros
        refine regionK.intro 11 follows_mixed (by kernel_rfl) ?_
        simp -implicitDefEqProofs [hv, hb, max_if, min_if, nb, nb']
        intros
        exact ⟨_, SubH_refl _, fin _ (by simp [upd, hoff]) (by simp [upd, nb', hb])⟩
      · obtain rfl : m = 0 := by omega
        simp -implicitDefEqProofs [hv, hb, ← hm, max_if, min_if, hml', nb, nb']
        refine regionK.intro 11 follows_mixed (by kernel_rfl) ?_
        simp -implicitDefEqProofs [hv, hb, max_if, min_if, nb, nb']
        intros
        exact ⟨_, SubH_refl _, fin _ (by simp [upd, hoff]) (by simp [upd, nb', hb])⟩
  · have e : cutD D n = D := by simp [cutD, hoff]
    simp -implicitDefEqProofs [hv, hoff, e]
    exact ⟨h, SubH_refl h, hd⟩

/-- a disk is called: what the caller keeps -/
theorem foot_at {d : Nat} {D : PDisk} {q : Option Nat} {h : Nat → Option (List AV)} (hd : DiskAt d D q h) : DiskAt d D q (foot d q h) := hd.keep fun b hb => by simp [foot, hb]
theorem disk_call {P : Program} {g : FuncId} {args args' : List AV} {s : ASt} {dst : Option Tmp} {K : ASt → Prop} {d : Nat} {D D' : PDisk} {q : Option Nat} {R : AV → Prop}
    (hm : ∀ h, DiskAt d D q h → MSpec P g args' h (fun r h' => R r ∧ ∃ q', DiskAt d D' q' h')) (ha : args = args') (hd : DiskAt d D q s.h)
    (hk : ∀ r q' H, R r → DiskAt d D' q' H → (∀ b c, ¬ b = d → q ≠ some b → s.h b = some c → H b = some c ∧ q' ≠ some b) → @force r ⟨fun r => K ({ s with h := H }.put dst r)⟩) : @CallK P g args s dst ⟨K⟩ := by
  refine CallK.mh (hm (foot d q s.h) (foot_at hd)) ha (SubH.of fun b c hb => ?_) ?_
  · unfold foot at hb
    split at hb
    · exact hb
    · simp at hb
  · rintro r h' H ⟨hr, q', hd'⟩ h1 h2 h3
    have e : DiskAt d D' q' H := by
      obtain ⟨hq, x, hx, hdat⟩ := hd'
      refine ⟨hq, x, h2 _ _ hx, ?_⟩
      rcases hdat with h4 | ⟨b, c, cells, e1, e2, e3, e4, e5⟩
      · exact .inl h4
      · exact .inr ⟨b, c, cells, e1, e2, h2 _ _ e3, e4, e5⟩
    refine hk r q' H hr e fun b c hb hqb hs => ?_
    have hn : foot d q s.h b = none := by simp [foot, hb, hqb]
    refine ⟨h1 b c hn hs, fun hq' => ?_⟩
    obtain ⟨_, x, hx, hdat⟩ := hd'
    rcases hdat with ⟨e0, _⟩ | ⟨b', c', cells, e1, e2, e3, e4, e5⟩
    · rw [e0] at hq'; simp at hq'
    · rw [hq'] at e1
      cases e1
      have := h3 _ _ e3 hn
      rw [hs] at this; simp at this
end Go.Proofs.Ytbgifnlaaophcaa

/- Contracts: log.Read, log.Add over a disk. No condition. -/
set_option linter.unusedSimpArgs false
set_option linter.unusedVariables false
set_option maxRecDepth 10000
namespace Go.Proofs.Ytbgifnlaaophcaa
open Go Go.Rw Go.Proofs
-- a goal is never to be run by the elaborator
attribute [local irreducible] awp aops aop aopsE aeff

theorem DiskAt.ne {d : Nat} {D : PDisk} {q : Option Nat} {h : Nat → Option (List AV)} (hd : DiskAt d D q h) {b : Nat} (hb : h b = none) : ¬ d = b ∧ q ≠ some b := by
  obtain ⟨hq, x, hx, hdat⟩ := hd
  refine ⟨by rintro rfl; rw [hx] at hb; simp at hb, ?_⟩
  rcases hdat with ⟨e, _⟩ | ⟨b', c, cells, e1, e2, e3, e4, e5⟩
  · simp [e]
  · rw [e1]; intro h; cases h; rw [e3] at hb; simp at hb
theorem bytes_call (d : Nat) (D : PDisk) (q : Option Nat) (hl : D.data.length ≤ 1000000000) (h : Nat → Option (List AV)) (hd : DiskAt d D q h) :
    MSpec Try.prog 42 [.ptr d 0] h (fun r h' => (∃ tag, r = .sl tag (eB D.data)) ∧ ∃ q', DiskAt d D q' h') :=
  (bytes_spec d D q h hd hl).mono fun r h' ⟨tag, e, hd'⟩ => ⟨⟨tag, e⟩, q, hd'⟩
theorem logread_spec (d : Nat) (D : PDisk) (q : Option Nat) (hl : D.data.length ≤ 1000000000) (h : Nat → Option (List AV)) (hd : DiskAt d D q h) :
    MSpec Try.prog 54 [.ptr d 0] h (fun r h' => r = .sl .no (eRs (scanR D.data).1) ∧ ∃ q', DiskAt d D q' h') := by
  refine MSpec.of_awp Try.func54 (by kernel_rfl) rfl (by rw [Try.results54]) Try.ntmps54 ?_
  simp -implicitDefEqProofs
  refine disk_call (D' := D) (bytes_call d D q hl) rfl hd ?_
  rintro _ q' H ⟨tag, rfl⟩ hd' _
  simp -implicitDefEqProofs
  refine CallK.with (scan_spec D.data hl) (by simp) ?_
  rw [scanA]
  simp -implicitDefEqProofs
  exact ⟨H, SubH_refl H, q', hd'⟩

def syncD (D : PDisk) : PDisk := if D.off then D else { D with safe := D.data.length }
def addD (D : PDisk) (l : List PRec) : PDisk × Int := if l.all rightR = true then (if (appendD D (recsB l)).2 = 0 then (syncD (appendD D (recsB l)).1, 0) else appendD D (recsB l)) else (D, 91)
theorem append_call (d : Nat) (D : PDisk) (q : Option Nat) (x : List UInt8) (ho : OkD D) (hx : x.length ≤ 1000000000) (h : Nat → Option (List AV)) (hd : DiskAt d D q h) :
    MSpec Try.prog 51 [.ptr d 0, .sl .no (eB x)] h (fun r h' => r = eI (appendD D x).2 ∧ ∃ q', DiskAt d (appendD D x).1 q' h') := append_spec d D q x h hd ho hx
theorem sync_call (d : Nat) (D : PDisk) (q : Option Nat) (h : Nat → Option (List AV)) (hd : DiskAt d D q h) :
    MSpec Try.prog 94 [.ptr d 0] h (fun r h' => r = .tup [] ∧ ∃ q', DiskAt d (syncD D) q' h') :=
  (sync_spec d D q h hd).mono fun r h' ⟨e, hd'⟩ => ⟨e, q, hd'⟩
theorem recsB_le : ∀ (l : List PRec), (∀ r ∈ l, rightR r = true ∧ fitR r) → (recsB l).length ≤ 70 * l.length
  | [], _ => by simp
  | r :: l, h => by
    have h1 := recsB_le l fun x hx => h x (by simp [hx])
    obtain ⟨h2, h3⟩ := h r (by simp)
    have h4 := recB_length h2 h3
    have h5 := bodyR_length h2 h3
    rw [recsB_cons, List.length_append, List.length_cons]
    omega
def AddI (d : Nat) (D : PDisk) (q : Option Nat) (l : List PRec) (t : Nat → AV) (h : Nat → Option (List AV)) : Prop := ∃ (k : Nat) (tag : Tag), t 0 = .ptr d 0 ∧ t 11 = .sl .no (eRs l) ∧ t 12 = eI l.length ∧ t 13 = eI k ∧ t 5 = .sl tag (eB (recsB (l.take k))) ∧ appOK tag 5 1 ∧ k ≤ l.length ∧ (∀ r ∈ l.take k, rightR r = true) ∧ DiskAt d D q h
def AddM (d : Nat) (D : PDisk) (q : Option Nat) (l : List PRec) (t : Nat → AV) (h : Nat → Option (List AV)) : Prop := ∃ (tag : Tag), t 0 = .ptr d 0 ∧ t 5 = .sl tag (eB (recsB l)) ∧ (∀ r ∈ l, rightR r = true) ∧ DiskAt d D q h
theorem logadd_spec (d : Nat) (D : PDisk) (q : Option Nat) (l : List PRec) (ho : OkD D) (hfit : ∀ r ∈ l, fitR r) (hl : l.length ≤ 10000000) (h : Nat → Option (List AV)) (hd : DiskAt d D q h) :
    MSpec Try.prog 34 [.ptr d 0, .sl .no (eRs l)] h (fun r h' => r = eI (addD D l).2 ∧ ∃ q', DiskAt d (addD D l).1 q' h') := by
  refine MSpec.of_awp Try.func34 (by kernel_rfl) rfl (by rw [Try.results34]) Try.ntmps34 ?_
  simp -implicitDefEqProofs
  intro _
  refine loopK.post (AddI d D q l) (fun t => l.length - natOf (t 13)) (AddM d D q l) ?_ ?_ ?_
  · exact ⟨0, .nil, by simp, by simp, by simp, by simp, by simp [eB], by simp, by omega, by simp, hd⟩
  · rintro t hh ⟨k, tag, g0, g11, g12, g13, g5, gt, hk, hrt, gd⟩
    by_cases hlt : k < l.length
    · have hlt' : (k : Int) < (l.length : Int) := by omega
      obtain ⟨x, hx⟩ : ∃ x, l[k]? = some x := ⟨l[k], by simp [hlt]⟩
      have hmem := List.mem_of_getElem? hx
      have hj1 : IntKind.i64.wrap ((k : Int) + 1) = (k : Int) + 1 := w64 (by omega) (by omega)
      have htk : l.take (k + 1) = l.take k ++ [x] := by
        rw [List.take_add_one, hx]; rfl
      simp -implicitDefEqProofs [g11, g12, g13, hlt', hx, eRc]
      refine allocK.intro (fun b1 hb1 => ?_)
      have hne := gd.ne (b := b1) (by simpa using hb1)
      simp -implicitDefEqProofs
      refine CallK.with (logbytes_spec x (hfit x hmem)) (by simp [eRc]) ?_
      cases hr : rightR x
      · have e : addD D l = (D, 91) := by
          unfold addD
          rw [if_neg]
          simp only [List.all_eq_true]
          intro h9
          rw [h9 x hmem] at hr; simp at hr
        simp -implicitDefEqProofs [bytesR, hr, bytesA, e]
        exact ⟨_, SubH_refl _, q, (gd.other b1 _ hne.1 hne.2).other b1 _ hne.1 hne.2⟩
      · have hlen := recsB_le (l.take k) (fun r hr => ⟨hrt r hr, hfit r (List.mem_of_mem_take hr)⟩)
        have hlen2 := recB_length hr (hfit x hmem)
        have hlen3 := bodyR_length hr (hfit x hmem)
        rw [List.length_take] at hlen
        have hone : recsB (l.take (k + 1)) = recsB (l.take k) ++ recB x := by
          rw [htk, recsB_append, recsB_cons, recsB_nil, List.append_nil]
        have hone2 : eB (recsB (l.take k)) ++ eB (recB x) = eB (recsB (l.take (k + 1))) := by rw [hone]; simp [eB]
        simp -implicitDefEqProofs [bytesR, hr, bytesA, g5, gt, g13, hj1]
        rw [← hone]
        refine ⟨by omega, ⟨k + 1, appTag tag 5 1 (eB (recB x)), by simp [g0], by simp [g11], by simp [g12], by simp, by simp, by simp [gt], by omega, ?_, (gd.other b1 _ hne.1 hne.2).other b1 _ hne.1 hne.2⟩, by omega⟩
        intro r h9
        rw [htk] at h9
        rcases List.mem_append.1 h9 with h9 | h9
        · exact hrt r h9
        · rw [List.mem_singleton.1 h9]; exact hr
    · have hlt' : ¬ (k : Int) < (l.length : Int) := by omega
      simp -implicitDefEqProofs [g12, g13, hlt']
      rw [List.take_of_length_le (by omega)] at hrt g5
      exact ⟨tag, by simp [g0], by simp [g5], hrt, gd⟩
  · rintro t hh ⟨tag, g0, g5, hrt, gd⟩
    have hlen := recsB_le l (fun r hr => ⟨hrt r hr, hfit r hr⟩)
    simp -implicitDefEqProofs [g0, g5]
    refine disk_call (append_call d D q (recsB l) ho (by omega)) (by simp) gd ?_
    rintro _ q' H rfl hd' _
    have hall : l.all rightR = true := List.all_eq_true.2 hrt
    by_cases h0 : (appendD D (recsB l)).2 = 0
    · have e : addD D l = (syncD (appendD D (recsB l)).1, 0) := by unfold addD; rw [if_pos hall, if_pos h0]
      simp -implicitDefEqProofs [h0, e, g0]
      refine disk_call (sync_call d _ q') (by simp) hd' ?_
      rintro _ q2 H2 rfl hd2 _
      simp -implicitDefEqProofs [e]
      exact ⟨H2, SubH_refl H2, q2, hd2⟩
    · have e : addD D l = appendD D (recsB l) := by unfold addD; rw [if_pos hall, if_neg h0]
      simp -implicitDefEqProofs [h0, e]
      exact ⟨H, SubH_refl H, q', hd'⟩
end Go.Proofs.Ytbgifnlaaophcaa

/- Contracts: the disk, told otherwise, as a value. No condition. -/
set_option linter.unusedSimpArgs false
set_option linter.unusedVariables false
set_option maxRecDepth 10000
namespace Go.Proofs.Ytbgifnlaaophcaa
open Go Go.Rw Go.Proofs
-- a goal is never to be run by the elaborator
attribute [local irreducible] awp aops aop aopsE aeff

def eD (D : PDisk) : List AV := [.sl .no (eB D.data), eI D.safe, eI D.room, eI D.fuse, .v (.bool D.off)]
theorem limit8_spec (D : PDisk) (n : Int) : ASpec Try.prog 106 [.agg (eD D), eI n] (· = .agg (eD { D with room := max 0 (min n 60000) })) := by
  refine ASpec.of_awp Try.func106 (by kernel_rfl) rfl (by rw [Try.results106]) Try.ntmps106 ?_
  simp -implicitDefEqProofs [eD]
  refine allocK.intro (fun b1 hb1 => ?_)
  simp -implicitDefEqProofs
  refine allocK.intro (fun b2 hb2 => ?_)
  have hbb : ¬ b1 = b2 := by rintro rfl; simp at hb2
  have hbb' : ¬ b2 = b1 := fun h => hbb h.symm
  by_cases h1 : n < 0
  · have h2 : ¬ 60000 < n := by omega
    have e : max 0 (min n 60000) = 0 := by omega
    simp -implicitDefEqProofs [hbb, hbb', h1, h2, e, eD]
  · by_cases h2 : 60000 < n
    · have e : max 0 (min n 60000) = 60000 := by omega
      simp -implicitDefEqProofs [hbb, hbb', h1, h2, e, eD]
    · have e : max 0 (min n 60000) = n := by omega
      simp -implicitDefEqProofs [hbb, hbb', h1, h2, e, eD]
theorem new8_spec (n : Int) : ASpec Try.prog 45 [eI n] (· = .agg (eD ⟨[], 0, max 0 (min n 60000), -1, false⟩)) := by
  refine ASpec.of_awp Try.func45 (by kernel_rfl) rfl (by rw [Try.results45]) Try.ntmps45 ?_
  simp -implicitDefEqProofs [eD]
  refine allocK.intro (fun b1 hb1 => ?_)
  simp -implicitDefEqProofs
  refine CallK.with (limit8_spec ⟨[], 0, 0, -1, false⟩ n) (by simp [eD, eB]) ?_
  simp -implicitDefEqProofs [eD, eB]
theorem sync8_spec (D : PDisk) : ASpec Try.prog 107 [.agg (eD D)] (· = .agg (eD (syncD D))) := by
  refine ASpec.of_awp Try.func107 (by kernel_rfl) rfl (by rw [Try.results107]) Try.ntmps107 ?_
  simp -implicitDefEqProofs [eD]
  refine allocK.intro (fun b1 hb1 => ?_)
  simp -implicitDefEqProofs
  refine allocK.intro (fun b2 hb2 => ?_)
  have hbb : ¬ b1 = b2 := by rintro rfl; simp at hb2
  have hbb' : ¬ b2 = b1 := fun h => hbb h.symm
  cases ho : D.off
  · simp -implicitDefEqProofs [hbb, hbb', ho, syncD, eD]
  · simp -implicitDefEqProofs [hbb, hbb', ho, syncD, eD]
theorem fuse8_spec (D : PDisk) (n : Int) : ASpec Try.prog 50 [.agg (eD D), eI n] (· = .agg (eD { D with fuse := max (-1) n })) := by
  refine ASpec.of_awp Try.func50 (by kernel_rfl) rfl (by rw [Try.results50]) Try.ntmps50 ?_
  simp -implicitDefEqProofs [eD]
  refine allocK.intro (fun b1 hb1 => ?_)
  simp -implicitDefEqProofs
  refine allocK.intro (fun b2 hb2 => ?_)
  have hbb : ¬ b1 = b2 := by rintro rfl; simp at hb2
  have hbb' : ¬ b2 = b1 := fun h => hbb h.symm
  by_cases h1 : n < 0
  · have e : max (-1) n = -1 := by omega
    simp -implicitDefEqProofs [hbb, hbb', h1, e, eD]
  · have e : max (-1) n = n := by omega
    simp -implicitDefEqProofs [hbb, hbb', h1, e, eD]
def Cr8I (D : PDisk) (keep : Int) (b1 b2 : Nat) (t : Nat → AV) (h : Nat → Option (List AV)) : Prop := ∃ (k : Nat) (tag : Tag), t 1 = eI keep ∧ t 2 = .ptr b1 0 ∧ t 4 = .ptr b2 0 ∧ t 5 = .sl tag (eB (D.data.take k)) ∧ t 6 = eI k ∧ appOK tag 5 1 ∧
  h b1 = some (eD D) ∧ h b2 = some [.sl .nil [], eI 0, eI 0, eI 0, .v (.bool false)] ∧ D.safe ≤ k ∧ k ≤ D.data.length ∧ (k : Int) - D.safe ≤ max 0 keep
def Cr8M (D : PDisk) (keep : Int) (b1 b2 : Nat) (t : Nat → AV) (h : Nat → Option (List AV)) : Prop := ∃ (k : Nat) (tag : Tag), t 2 = .ptr b1 0 ∧ t 4 = .ptr b2 0 ∧ t 5 = .sl tag (eB (D.data.take k)) ∧
  h b1 = some (eD D) ∧ h b2 = some [.sl .nil [], eI 0, eI 0, eI 0, .v (.bool false)] ∧ (k : Int) = D.safe + max 0 (min keep ((D.data.length : Int) - D.safe)) ∧ k ≤ D.data.length
theorem crash8_spec (D : PDisk) (keep : Int) (ho : OkD D) : ASpec Try.prog 48 [.agg (eD D), eI keep] (· = .agg (eD (crashD D keep))) := by
  obtain ⟨o1, o2, o3, o4, o5, o6, o7⟩ := ho
  obtain ⟨s, hs⟩ : ∃ s : Nat, (s : Int) = D.safe := ⟨D.safe.toNat, by omega⟩
  have hsl : (s : Int) ≤ (D.data.length : Int) := by omega
  refine ASpec.of_awp Try.func48 (by kernel_rfl) rfl (by rw [Try.results48]) Try.ntmps48 ?_
  simp -implicitDefEqProofs [eD]
  refine allocK.intro (fun b1 hb1 => ?_)
  simp -implicitDefEqProofs
  refine allocK.intro (fun b2 hb2 => ?_)
  have hbb : ¬ b1 = b2 := by rintro rfl; simp at hb2
  have hbb' : ¬ b2 = b1 := fun h => hbb h.symm
  have hmin : min s D.data.length = s := by omega
  simp -implicitDefEqProofs [hbb, hbb', ← hs, hsl, hmin]
  refine ⟨by omega, loopK.post (Cr8I D keep b1 b2) (fun t => D.data.length - natOf (t 6)) (Cr8M D keep b1 b2) ?_ ?_ ?_⟩
  · refine ⟨s, _, by simp, by simp, by simp, by simp; rfl, by simp, by simp, by simp [hbb, eD, hs], by simp [hbb'], by omega, by omega, by omega⟩
  · rintro t hh ⟨k, tag, g1, g2, g4, g5, g6, gt, gb, gb2, k1, k2, k3⟩
    rw [eD] at gb
    have w1 : IntKind.i64.wrap ((k : Int) - D.safe) = (k : Int) - D.safe := w64 (by omega) (by omega)
    have w2 : IntKind.i64.wrap ((k : Int) + 1) = (k : Int) + 1 := w64 (by omega) (by omega)
    by_cases h1 : k < D.data.length
    · have h1' : (k : Int) < (D.data.length : Int) := by omega
      by_cases h2 : (k : Int) - D.safe < keep
      · obtain ⟨x, hx⟩ : ∃ x, D.data[k]? = some x := ⟨D.data[k], by simp [h1]⟩
        have hm : min k D.data.length = k := by omega
        have htk : D.data.take (k + 1) = D.data.take k ++ [x] := by rw [List.take_add_one, hx]; rfl
        simp -implicitDefEqProofs [g1, g2, g4, g5, g6, gt, gb, w1, w2, h1', h2, hx, hm, encB]
        intro _
        have hone : eB (D.data.take k) ++ [[AV.v (.int .u8 (x.toNat : Int))]] = eB (D.data.take (k + 1)) := by rw [htk]; simp [eB, encB]
        rw [hone]
        refine ⟨by omega, ⟨k + 1, appTag tag 5 1 [[AV.v (.int .u8 (x.toNat : Int))]], by simp [g1], by simp [g2], by simp [g4], by simp, by simp, by simp [gt], by rw [eD]; exact gb, gb2, by omega, by omega, by omega⟩, by omega⟩
      · simp -implicitDefEqProofs [g1, g2, g4, g5, g6, gt, gb, w1, w2, h1', h2]
        intros
        exact ⟨k, tag, by simp [g2], by simp [g4], by simp [g5], by rw [eD]; exact gb, gb2, by omega, k2⟩
    · have h1' : ¬ (k : Int) < (D.data.length : Int) := by omega
      simp -implicitDefEqProofs [g1, g2, g4, g5, g6, gt, gb, w1, w2, h1']
      intros
      exact ⟨k, tag, by simp [g2], by simp [g4], by simp [g5], by rw [eD]; exact gb, gb2, by omega, k2⟩
  · rintro t hh ⟨k, tag, g2, g4, g5, gb, gb2, hk, hk2⟩
    rw [eD] at gb
    have e : crashD D keep = ⟨D.data.take k, k, D.room, -1, false⟩ := by simp only [crashD, ← hk, Int.toNat_natCast]
    have hm : min k D.data.length = k := by omega
    rw [e]
    simp -implicitDefEqProofs [g2, g4, g5, gb, gb2, hm, hbb, hbb', eD]

/-- more bytes, byte by byte: as `appendD`, but nothing is left of a fuse that went off -/
def append8D (D : PDisk) (x : List UInt8) : PDisk × Int :=
  if D.off then (D, 82)
  else if max 0 (D.room - D.data.length) < x.length then (D, 81)
  else if D.fuse ≠ -1 ∧ D.fuse < x.length then ({ D with data := D.data ++ x.take D.fuse.toNat, fuse := 0, off := true }, 82)
  else ({ D with data := D.data ++ x, fuse := if D.fuse ≠ -1 then D.fuse - x.length else D.fuse }, 0)
def Ap8I (D : PDisk) (x : List UInt8) (b1 b2 : Nat) (t : Nat → AV) (h : Nat → Option (List AV)) : Prop := ∃ (k : Nat) (f : Int) (tag : Tag), t 2 = .ptr b1 0 ∧ t 4 = .ptr b2 0 ∧ t 7 = .sl tag (eB (D.data ++ x.take k)) ∧ t 33 = .sl .no (eB x) ∧ t 34 = eI x.length ∧ t 35 = eI k ∧ appOK tag 5 1 ∧
  h b1 = some (eD { D with fuse := f }) ∧ h b2 = some [.sl .nil [], eI 0, eI 0, eI 0, .v (.bool false)] ∧ k ≤ x.length ∧ f = (if D.fuse = -1 then -1 else D.fuse - k) ∧ -1 ≤ f ∧ (D.fuse ≠ -1 → (k : Int) ≤ D.fuse)
def Ap8M (D : PDisk) (x : List UInt8) (b1 b2 : Nat) (t : Nat → AV) (h : Nat → Option (List AV)) : Prop := ∃ (f : Int) (tag : Tag), t 2 = .ptr b1 0 ∧ t 4 = .ptr b2 0 ∧ t 7 = .sl tag (eB (D.data ++ x)) ∧
  h b1 = some (eD { D with fuse := f }) ∧ h b2 = some [.sl .nil [], eI 0, eI 0, eI 0, .v (.bool false)] ∧ f = (if D.fuse = -1 then -1 else D.fuse - x.length) ∧ (D.fuse ≠ -1 → (x.length : Int) ≤ D.fuse)
theorem append8_spec (D : PDisk) (x : List UInt8) (ho : OkD D) (hx : x.length ≤ 1000000000) : ASpec Try.prog 52 [.agg (eD D), .sl .no (eB x)] (· = .tup [.agg (eD (append8D D x).1), eI (append8D D x).2]) := by
  obtain ⟨o1, o2, o3, o4, o5, o6, o7⟩ := ho
  refine ASpec.of_awp Try.func52 (by kernel_rfl) rfl (by rw [Try.results52]) Try.ntmps52 ?_
  simp -implicitDefEqProofs [eD]
  refine allocK.intro (fun b1 hb1 => ?_)
  simp -implicitDefEqProofs
  refine allocK.intro (fun b2 hb2 => ?_)
  have hbb : ¬ b1 = b2 := by rintro rfl; simp at hb2
  have hbb' : ¬ b2 = b1 := fun h => hbb h.symm
  cases hoff : D.off
  · have w1 : IntKind.i64.wrap (D.room - (D.data.length : Int)) = D.room - (D.data.length : Int) := w64 (by omega) (by omega)
    by_cases hAB : 0 < x.length ∧ D.room - (D.data.length : Int) < (x.length : Int)
    · obtain ⟨hA, hB⟩ := hAB
      have e : append8D D x = (D, 81) := by
        unfold append8D
        rw [if_neg (by simp [hoff]), if_pos (by omega)]
      simp -implicitDefEqProofs [hbb, hbb', hoff, w1, hA, hB, e, eD]
      try (intros; simp -implicitDefEqProofs [hbb, hbb', hoff, w1, hA, hB, e, eD])
    · have e : append8D D x = if D.fuse ≠ -1 ∧ D.fuse < x.length then ({ D with data := D.data ++ x.take D.fuse.toNat, fuse := 0, off := true }, 82) else ({ D with data := D.data ++ x, fuse := if D.fuse ≠ -1 then D.fuse - x.length else D.fuse }, 0) := by
        unfold append8D
        rw [if_neg (by simp [hoff]), if_neg (by omega)]
      by_cases hA : 0 < x.length
      case' pos =>
        have hB : ¬ D.room - (D.data.length : Int) < (x.length : Int) := fun h => hAB ⟨hA, h⟩
        simp -implicitDefEqProofs [hbb, hbb', hoff, w1, hA, hB]
      case' neg =>
        simp -implicitDefEqProofs [hbb, hbb', hoff, w1, hA]
      all_goals
        intro _ _
        refine ⟨by omega, fun _ => ?_⟩
        refine loopK.post (Ap8I D x b1 b2) (fun t => x.length - natOf (t 35)) (Ap8M D x b1 b2) ?_ ?_ ?_
        · refine ⟨0, D.fuse, _, by simp, by simp, by simp; rfl, by simp, by simp, by simp, by simp, by simp [hbb, eD, hoff], by simp [hbb'], by omega, by simp, by omega, by omega⟩
        · rintro t hh ⟨k, f, tag, g2, g4, g7, g33, g34, g35, gt, gb, gb2, hk, hf, hf1, hf2⟩
          rw [eD] at gb
          by_cases hlt : k < x.length
          · have hlt' : (k : Int) < (x.length : Int) := by omega
            obtain ⟨y, hy⟩ : ∃ y, x[k]? = some y := ⟨x[k], by simp [hlt]⟩
            have hw : IntKind.i64.wrap ((k : Int) + 1) = ((k + 1 : Nat) : Int) := by rw [w64 (by omega) (by omega)]; omega
            have hw' : IntKind.i64.wrap ((k : Int) + 1) = (k : Int) + 1 := w64 (by omega) (by omega)
            have htk : x.take (k + 1) = x.take k ++ [y] := by rw [List.take_add_one, hy]; rfl
            have hone : eB (D.data ++ x.take k) ++ [[AV.v (.int .u8 (y.toNat : Int))]] = eB (D.data ++ x.take (k + 1)) := by rw [htk]; simp [eB, encB]
            by_cases hz : f = 0
            · have hkf : (k : Int) = D.fuse := by split at hf <;> omega
              have hfk : D.fuse.toNat = k := by omega
              have e2 : append8D D x = ({ D with data := D.data ++ x.take k, fuse := 0, off := true }, 82) := by
                rw [e, if_pos ⟨by omega, by omega⟩, hfk]
              rw [e2]
              simp -implicitDefEqProofs [g2, g4, g7, g33, g34, g35, gt, gb, gb2, hlt', hy, encB, hz, hbb, hbb', eD]
            · by_cases hp : 0 < f
              · have hw2 : IntKind.i64.wrap (f - 1) = f - 1 := w64 (by omega) (by omega)
                simp -implicitDefEqProofs [g2, g4, g7, g33, g34, g35, gt, gb, gb2, hlt', hy, encB, hz, hp, hw2, hw', hbb, hbb', eD]
                rw [hone]
                refine ⟨by omega, ⟨k + 1, f - 1, appTag tag 5 1 [[AV.v (.int .u8 (y.toNat : Int))]], by simp [g2], by simp [g4], by simp, by simp [g33], by simp [g34], by simp, by simp [gt], by simp [hbb, eD], by simp [hbb', gb2], by omega, ?_, by omega, ?_⟩, by omega⟩
                · split at hf <;> rename_i hq <;> simp [hq] <;> omega
                · intro hq; rw [if_neg hq] at hf; omega
              · have hq : D.fuse = -1 := by split at hf <;> omega
                have hfm : f = -1 := by rw [if_pos hq] at hf; exact hf
                simp -implicitDefEqProofs [g2, g4, g7, g33, g34, g35, gt, gb, gb2, hlt', hy, encB, hz, hp, hw', hbb, hbb', eD]
                rw [hone]
                refine ⟨by omega, ⟨k + 1, f, appTag tag 5 1 [[AV.v (.int .u8 (y.toNat : Int))]], by simp [g2], by simp [g4], by simp, by simp [g33], by simp [g34], by simp, by simp [gt], by simp [gb, eD], by simp [gb2], by omega, by rw [hfm]; simp [hq], by omega, by omega⟩, by omega⟩
          · have hlt' : ¬ (k : Int) < (x.length : Int) := by omega
            have hk' : k = x.length := by omega
            simp -implicitDefEqProofs [g34, g35, hlt']
            refine ⟨f, tag, by simp [g2], by simp [g4], by simp [g7]; rw [List.take_of_length_le (by omega)], by rw [gb, eD], gb2, by rw [hf, hk'], by omega⟩
        · rintro t hh ⟨f, tag, g2, g4, g7, gb, gb2, hf, hf2⟩
          rw [eD] at gb
          have e2 : append8D D x = ({ D with data := D.data ++ x, fuse := f }, 0) := by
            rw [e, if_neg (by omega)]
            split at hf <;> rename_i hq <;> simp [hq, hf]
          rw [e2]
          simp -implicitDefEqProofs [g2, g4, g7, gb, gb2, hbb, hbb', eD, hoff]
  · have e : append8D D x = (D, 82) := by simp [append8D, hoff]
    simp -implicitDefEqProofs [hbb, hbb', hoff, e, eD]
end Go.Proofs.Ytbgifnlaaophcaa

/- Plain: two records in a row, and one bit turned over. -/
set_option linter.unusedSimpArgs false
set_option linter.unusedVariables false
set_option maxRecDepth 10000
namespace Go.Proofs.Ytbgifnlaaophcaa
open Go Go.Rw Go.Proofs

def al1 : PRec := ⟨4, zV, zC, zE, 5⟩
def al2 : PRec := ⟨3, ⟨3, 0⟩, zC, zE, 0⟩
theorem al1_right : rightR al1 = true := rightR_to (.num 4 5 rfl (.inl rfl) (by decide) (by decide))
theorem al2_right : rightR al2 = true := rightR_to (.mark ⟨3, 0⟩ rfl (by decide))
theorem al_len : (recB al1).length = 10 := by decide +kernel
theorem al_len2 : (recsB [al1, al2]).length = 20 := by decide +kernel
theorem al_n : (scanR (burstF (recsB [al1, al2]) 100 1)).2 = 10 := by decide +kernel
theorem al_l : ((scanR (burstF (recsB [al1, al2]) 100 1)).1.map fun r => r.n) = [5] := by decide +kernel
theorem al_all : ((scanR (recsB [al1, al2])).1.length) = 2 := by decide +kernel
theorem al_add : addD ⟨[], 0, 200, -1, false⟩ [al1, al2] = (⟨recsB [al1, al2], 20, 200, -1, false⟩, 0) := by
  have h1 : [al1, al2].all rightR = true := by simp [al1_right, al2_right]
  have h2 : appendD ⟨[], 0, 200, -1, false⟩ (recsB [al1, al2]) = (⟨recsB [al1, al2], 0, 200, -1, false⟩, 0) := by
    simp [appendD, al_len2]; omega
  unfold addD
  rw [if_pos h1, h2, if_pos rfl]
  simp [syncD, al_len2]
end Go.Proofs.Ytbgifnlaaophcaa

/- Plain: the record that numbers seem to be; logs that are cut off or spoilt. No condition. -/
set_option linter.unusedSimpArgs false
set_option linter.unusedVariables false
set_option maxRecDepth 10000
namespace Go.Proofs.Ytbgifnlaaophcaa
open Go Go.Rw Go.Proofs

/-- the record that numbers seem to be -/
def guessR (ns : List Nat) : PRec :=
  if atN ns 0 = 1 then ⟨1, viewN (atN ns 1), zC, ⟨atN ns 2, ⟨atN ns 3, atN ns 4⟩, (ns[5]?).getD 0⟩, 0⟩
  else if atN ns 0 = 2 then ⟨2, viewN (atN ns 1), ⟨atN ns 2, viewN (atN ns 3)⟩, zE, 0⟩
  else if atN ns 0 = 3 then ⟨3, viewN (atN ns 1), zC, zE, 0⟩
  else if atN ns 0 = 4 ∨ atN ns 0 = 6 then ⟨atN ns 0, zV, zC, zE, atN ns 1⟩
  else if atN ns 0 = 5 then ⟨5, viewN (atN ns 1), ⟨0, viewN (atN ns 2)⟩, zE, 0⟩
  else ⟨atN ns 0, zV, zC, zE, 0⟩
theorem guess_nums {r : PRec} (hr : rightR r = true) : guessR (numsR r) = cleanR r := by
  cases rightR_of hr with
  | value v e h hv h1 h2 h3 h4 =>
    subst h
    have ht := rightT_of h3
    have hn := nameV_lt hv
    have e0 : numsR ⟨1, v, zC, e, 0⟩ = [1, (nameV v).toNat, e.key.toNat, e.tag.num.toNat, e.tag.node.toNat, bitsF e.value] := by simp [numsR]
    have a0 : atN (numsR ⟨1, v, zC, e, 0⟩) 0 = 1 := atN_int (n := 1) (by rw [e0]; rfl) (by omega) (by omega)
    have a1 : atN (numsR ⟨1, v, zC, e, 0⟩) 1 = nameV v := atN_int (by rw [e0]; rfl) (by omega) (by omega)
    have a2 : atN (numsR ⟨1, v, zC, e, 0⟩) 2 = e.key := atN_int (by rw [e0]; rfl) (by omega) (by omega)
    have a3 : atN (numsR ⟨1, v, zC, e, 0⟩) 3 = e.tag.num := atN_int (by rw [e0]; rfl) (by omega) (by omega)
    have a4 : atN (numsR ⟨1, v, zC, e, 0⟩) 4 = e.tag.node := atN_int (by rw [e0]; rfl) (by omega) (by omega)
    have a5 : (numsR ⟨1, v, zC, e, 0⟩)[5]? = some (bitsF e.value) := by rw [e0]; rfl
    unfold guessR
    rw [if_pos a0, a1, a2, a3, a4, a5, viewN_name hv]
    simp [cleanR, cleanE]
  | cell v c h hv h1 h2 h3 h4 =>
    subst h
    have hn := nameV_lt hv
    have hm := nameV_lt h3
    have e0 : numsR ⟨2, v, c, zE, 0⟩ = [2, (nameV v).toNat, c.node.toNat, (nameV c.change).toNat] := by simp [numsR]
    have a0 : atN (numsR ⟨2, v, c, zE, 0⟩) 0 = 2 := atN_int (n := 2) (by rw [e0]; rfl) (by omega) (by omega)
    have a1 : atN (numsR ⟨2, v, c, zE, 0⟩) 1 = nameV v := atN_int (by rw [e0]; rfl) (by omega) (by omega)
    have a2 : atN (numsR ⟨2, v, c, zE, 0⟩) 2 = c.node := atN_int (by rw [e0]; rfl) (by omega) (by omega)
    have a3 : atN (numsR ⟨2, v, c, zE, 0⟩) 3 = nameV c.change := atN_int (by rw [e0]; rfl) (by omega) (by omega)
    unfold guessR
    rw [if_neg (by rw [a0]; decide), if_pos a0, a1, a2, a3, viewN_name hv, viewN_name h3]
    simp [cleanR, cleanE, zE, bitsF_zero]
  | mark v h hv =>
    subst h
    have hn := nameV_lt hv
    have e0 : numsR ⟨3, v, zC, zE, 0⟩ = [3, (nameV v).toNat] := by simp [numsR]
    have a0 : atN (numsR ⟨3, v, zC, zE, 0⟩) 0 = 3 := atN_int (n := 3) (by rw [e0]; rfl) (by omega) (by omega)
    have a1 : atN (numsR ⟨3, v, zC, zE, 0⟩) 1 = nameV v := atN_int (by rw [e0]; rfl) (by omega) (by omega)
    unfold guessR
    rw [if_neg (by rw [a0]; decide), if_neg (by rw [a0]; decide), if_pos a0, a1, viewN_name hv]
    simp [cleanR, cleanE, zE, bitsF_zero]
  | num k n h hk h1 h2 =>
    subst h
    have e0 : numsR ⟨k, zV, zC, zE, n⟩ = [k.toNat, n.toNat] := by rcases hk with rfl | rfl <;> simp [numsR]
    have a0 : atN (numsR ⟨k, zV, zC, zE, n⟩) 0 = k := atN_int (by rw [e0]; rfl) (by omega) (by omega)
    have a1 : atN (numsR ⟨k, zV, zC, zE, n⟩) 1 = n := atN_int (by rw [e0]; rfl) (by omega) (by omega)
    unfold guessR
    rw [if_neg (by rw [a0]; omega), if_neg (by rw [a0]; omega), if_neg (by rw [a0]; omega), if_pos (by rw [a0]; exact hk), a0, a1]
    simp [cleanR, cleanE, zE, bitsF_zero]
  | intent v u h hv hu h4 =>
    subst h
    have hn := nameV_lt hv
    have hm := nameV_lt hu
    have e0 : numsR ⟨5, v, ⟨0, u⟩, zE, 0⟩ = [5, (nameV v).toNat, (nameV u).toNat] := by simp [numsR]
    have a0 : atN (numsR ⟨5, v, ⟨0, u⟩, zE, 0⟩) 0 = 5 := atN_int (n := 5) (by rw [e0]; rfl) (by omega) (by omega)
    have a1 : atN (numsR ⟨5, v, ⟨0, u⟩, zE, 0⟩) 1 = nameV v := atN_int (by rw [e0]; rfl) (by omega) (by omega)
    have a2 : atN (numsR ⟨5, v, ⟨0, u⟩, zE, 0⟩) 2 = nameV u := atN_int (by rw [e0]; rfl) (by omega) (by omega)
    unfold guessR
    rw [if_neg (by rw [a0]; decide), if_neg (by rw [a0]; decide), if_neg (by rw [a0]; decide), if_neg (by rw [a0]; decide), if_pos a0, a1, a2, viewN_name hv, viewN_name hu]
    simp [cleanR, cleanE, zE, bitsF_zero]
theorem guess_fit {ns : List Nat} (h : ∀ n ∈ ns, n < 18446744073709551616) : fitR (guessR ns) := by
  unfold guessR fitR
  split
  · cases h5 : ns[5]? with
    | none => simp
    | some x => simpa using h x (List.mem_of_getElem? h5)
  split
  · simp [zE]
  split
  · simp [zE]
  split
  · simp [zE]
  split <;> simp [zE]
theorem first_eq {b t rest body : List UInt8} {ns : List Nat} (hc : cutF b = some (t, rest)) (ho : openF t = some body) (ha : allF body = some ns) :
    stepS b = if rightR (guessR ns) = true ∧ recB (guessR ns) <+: b then some (guessR ns, (recB (guessR ns)).length) else none := by
  have hlt := (allF_some ha).2
  cases hs : stepS b with
  | some p =>
    obtain ⟨r, n⟩ := p
    obtain ⟨h1, h2, h3, h4, h5⟩ := stepS_some hs
    have hp : parseR ns = some r := by
      unfold stepS at hs
      rw [hc] at hs
      simp only [oneR, ho, ha] at hs
      cases hq : parseR ns with
      | none => rw [hq] at hs; simp at hs
      | some x => rw [hq] at hs; simp at hs; rw [hs.1]
    obtain ⟨_, q2, q3, _⟩ := parse_some hp hlt
    have hg : guessR ns = r := by rw [← q2, guess_nums h1, q3]
    rw [hg, if_pos ⟨h1, ⟨b.drop n, h5.symm⟩⟩, h4]
  | none =>
    rw [if_neg]
    rintro ⟨h1, l, hl⟩
    have := stepS_rec h1 (guess_fit hlt) l
    rw [hl, hs] at this
    simp at this
theorem step_cut_none {b : List UInt8} (h : cutF b = none) : stepS b = none := by unfold stepS; rw [h]
theorem step_open_none {b t r : List UInt8} (h : cutF b = some (t, r)) (ho : openF t = none) : stepS b = none := by unfold stepS; rw [h]; simp only [oneR, ho]
theorem step_all_none {b t r body : List UInt8} (h : cutF b = some (t, r)) (ho : openF t = some body) (ha : allF body = none) : stepS b = none := by unfold stepS; rw [h]; simp only [oneR, ho, ha]

/-- the first records that are whole within so many bytes -/
def wholeR : List PRec → Nat → List PRec
  | [], _ => []
  | r :: l, n => if (recB r).length ≤ n then r :: wholeR l (n - (recB r).length) else []
theorem step_short {r : PRec} (hr : rightR r = true) (hf : fitR r) {n : Nat} (h : n < (recB r).length) : stepS ((recB r).take n) = none := by
  cases hs : stepS ((recB r).take n) with
  | none => rfl
  | some p =>
    obtain ⟨x, m⟩ := p
    obtain ⟨h1, h2, h3, h4, h5⟩ := stepS_some hs
    have h6 := stepS_rec h1 h3 (((recB r).take n).drop m ++ (recB r).drop n)
    have h7 : recB x ++ (((recB r).take n).drop m ++ (recB r).drop n) = recB r := by
      rw [← List.append_assoc, ← h5, List.take_append_drop]
    rw [h7] at h6
    have h8 := stepS_rec hr hf []
    rw [List.append_nil, h6] at h8
    have h9 : (recB x).length = (recB r).length := (Prod.mk.inj (Option.some.inj h8)).2
    have h10 := (stepS_le hs).2
    rw [List.length_take] at h10
    omega
theorem scan_nil : scanR [] = ([], 0) := rfl
theorem scan_take : ∀ (l : List PRec) (n : Nat), (∀ r ∈ l, rightR r = true ∧ fitR r) → scanR ((recsB l).take n) = ((wholeR l n).map cleanR, (recsB (wholeR l n)).length)
  | [], n, _ => by simp [wholeR, scan_nil]
  | r :: l, n, h => by
    obtain ⟨h1, h2⟩ := h r (by simp)
    by_cases hn : (recB r).length ≤ n
    · have e : (recsB (r :: l)).take n = recB r ++ (recsB l).take (n - (recB r).length) := by
        rw [recsB_cons, List.take_append, List.take_of_length_le hn]
      rw [e, scanR_step (stepS_rec h1 h2 _), List.drop_left, scan_take l _ (fun x hx => h x (by simp [hx]))]
      simp [wholeR, hn, recsB_cons]
    · rw [recsB_cons, List.take_append_of_le_length (by omega), scanR_none (step_short h1 h2 (by omega))]
      simp [wholeR, hn]
theorem scan_prefix {l : List PRec} {p : List UInt8} (h : ∀ r ∈ l, rightR r = true ∧ fitR r) (hp : p <+: recsB l) : scanR p = ((wholeR l p.length).map cleanR, (recsB (wholeR l p.length)).length) := by
  have e := List.prefix_iff_eq_take.1 hp
  have := scan_take l p.length h
  rwa [← e] at this
theorem whole_prefix : ∀ (l : List PRec) (n : Nat), wholeR l n <+: l
  | [], n => by simp [wholeR]
  | r :: l, n => by
    unfold wholeR
    split
    · exact List.prefix_cons_inj r |>.2 (whole_prefix l _)
    · exact List.nil_prefix
theorem whole_le : ∀ (l : List PRec) (n : Nat), (recsB (wholeR l n)).length ≤ n
  | [], n => by simp [wholeR]
  | r :: l, n => by
    unfold wholeR
    split
    · have := whole_le l (n - (recB r).length)
      rw [recsB_cons, List.length_append]; omega
    · simp
theorem whole_ge : ∀ (l : List PRec) (n k : Nat), (recsB (l.take k)).length ≤ n → min k l.length ≤ (wholeR l n).length
  | [], n, k, _ => by simp
  | r :: l, n, 0, _ => by simp
  | r :: l, n, k + 1, h => by
    rw [List.take_succ_cons, recsB_cons, List.length_append] at h
    have := whole_ge l (n - (recB r).length) k (by omega)
    unfold wholeR
    rw [if_pos (by omega)]
    simp only [List.length_cons]; omega
theorem whole_all (l : List PRec) : wholeR l (recsB l).length = l := by
  have h1 := whole_ge l (recsB l).length l.length (by rw [List.take_length]; omega)
  have h2 := whole_prefix l (recsB l).length
  exact List.IsPrefix.eq_of_length_le h2 (by omega)

theorem modify_append {α : Type} (f : α → α) : ∀ (p l : List α) (i : Nat), (p ++ l).modify (p.length + i) f = p ++ l.modify i f
  | [], l, i => by simp
  | x :: p, l, i => by
    rw [List.cons_append, List.length_cons, show p.length + 1 + i = (p.length + i) + 1 by omega, List.modify_succ_cons, modify_append f p l i, List.cons_append]
theorem flip_append (p l : List UInt8) (i : Nat) : flipBit (p ++ l) (8 * p.length + i) = p ++ flipBit l i := by
  unfold flipBit
  rw [show (8 * p.length + i) / 8 = p.length + i / 8 by omega, show (8 * p.length + i) % 8 = i % 8 by omega, modify_append]
theorem burstK_append (p l : List UInt8) (a : Nat) (m : BitVec 32) : ∀ k, burstK (p ++ l) (8 * p.length + a) m k = p ++ burstK l a m k
  | 0 => rfl
  | k + 1 => by
    simp only [burstK, burstK_append p l a m k]
    split
    · rw [Nat.add_assoc, flip_append]
    · rfl
theorem burst_append (p l : List UInt8) (a : Nat) (m : BitVec 32) : burstF (p ++ l) ((8 * p.length + a : Nat) : Int) m = p ++ burstF l a m := by
  unfold burstF
  have e : (((8 * p.length + a : Nat) : Int) < 0 ∨ (0 < wide m ∧ 8 * ((p ++ l).length : Int) - wide m < ((8 * p.length + a : Nat) : Int))) ↔ ((a : Int) < 0 ∨ (0 < wide m ∧ 8 * (l.length : Int) - wide m < (a : Int))) := by
    rw [List.length_append]; omega
  by_cases h : (a : Int) < 0 ∨ (0 < wide m ∧ 8 * (l.length : Int) - wide m < (a : Int))
  · rw [if_pos h, if_pos (e.2 h)]
  · rw [if_neg h, if_neg (fun h2 => h (e.1 h2))]
    simp only [Int.toNat_natCast]
    exact burstK_append p l a m _
/-- bits of a record are turned behind the bytes that say how long it is -/
theorem burst_scan {l : List PRec} (h : ∀ r ∈ l, rightR r = true ∧ fitR r) {k : Nat} (hk : k < l.length) (a : Nat) (m : BitVec 32) {x : List UInt8}
    (hx : x = burstF (recsB (l.take (k + 1))) ((8 * ((recsB (l.take k)).length + 2) + a : Nat) : Int) m) (hne : x ≠ recsB (l.take (k + 1))) (rest : List UInt8) :
    scanR (x ++ rest) = ((l.take k).map cleanR, (recsB (l.take k)).length) := by
  obtain ⟨h1, h2⟩ := h l[k] (by simp)
  have hb := bodyR_length h1 h2
  have hl := recB_length h1 h2
  have hlf : (formF (bodyR l[k]).length).length = 2 := by
    simp only [recB, List.length_append] at hl; omega
  have htk : recsB (l.take (k + 1)) = (recsB (l.take k) ++ formF (bodyR l[k]).length) ++ bodyR l[k] := by
    rw [List.take_add_one, List.getElem?_eq_getElem hk]
    simp only [Option.toList_some, recsB_append, recsB_cons, recsB_nil, List.append_nil, recB, List.append_assoc]
  have hp : (recsB (l.take k) ++ formF (bodyR l[k]).length).length = (recsB (l.take k)).length + 2 := by rw [List.length_append, hlf]
  rw [htk, ← hp, burst_append] at hx
  have hne2 : burstF (bodyR l[k]) a m ≠ bodyR l[k] := fun e => hne (by rw [hx, e, htk])
  have ho : openF (burstF (bodyR l[k]) a m) = none := by
    cases ho : openF (burstF (bodyR l[k]) a m) with
    | none => rfl
    | some l2 => exact absurd (burst_found (forms (numsR l[k])) a m l2 ho) hne2
  rw [hx, List.append_assoc, List.append_assoc, scanR_recs _ _ (fun r hr => h r (List.mem_of_mem_take hr))]
  have hc : cutF (formF (bodyR l[k]).length ++ (burstF (bodyR l[k]) a m ++ rest)) = some (burstF (bodyR l[k]) a m, rest) := by
    have := cutF_rec (burstF (bodyR l[k]) a m) rest (by rw [burstF_length]; omega)
    rwa [burstF_length, List.append_assoc] at this
  rw [scanR_none (step_open_none hc ho)]
  simp
theorem scan_zero : scanR [0] = ([], 0) := by decide +kernel
theorem scan_back {l : List PRec} (h : ∀ r ∈ l, rightR r = true ∧ fitR r) : scanR (recsB l ++ [0]) = (l.map cleanR, (recsB l).length) := by
  rw [scanR_recs l _ h, scan_zero]; simp
theorem scan_all {l : List PRec} (h : ∀ r ∈ l, rightR r = true ∧ fitR r) : scanR (recsB l) = (l.map cleanR, (recsB l).length) := by
  have := scanR_recs l [] h
  rw [List.append_nil, scan_nil] at this
  simpa using this
theorem sameR_clean (r : PRec) : sameR (cleanR r) r = true := by
  rw [sameR_iff]
  refine ⟨rfl, rfl, rfl, rfl, ?_⟩
  rw [sameE_iff]
  exact ⟨rfl, rfl, bitsF_idem _⟩
theorem sameRs_clean : ∀ l : List PRec, sameRs (l.map cleanR) l = true
  | [] => rfl
  | r :: l => by rw [List.map_cons, sameRs, sameR_clean, sameRs_clean l]; rfl
theorem sameR_self (r : PRec) : sameR r r = true := by rw [sameR_iff, sameE_iff]; simp
theorem sameRs_self : ∀ l : List PRec, sameRs l l = true
  | [] => rfl
  | r :: l => by rw [sameRs, sameR_self, sameRs_self l]; rfl
end Go.Proofs.Ytbgifnlaaophcaa

/- Contracts: the records with which bytes begin, told otherwise. No condition. -/
set_option linter.unusedSimpArgs false
set_option linter.unusedVariables false
set_option maxRecDepth 10000
namespace Go.Proofs.Ytbgifnlaaophcaa
open Go Go.Rw Go.Proofs
-- a goal is never to be run by the elaborator
attribute [local irreducible] awp aops aop aopsE aeff

theorem at9_spec (ns : List Nat) (i : Nat) : ASpec Try.prog 133 [.sl .no (eU ns), eI i] (· = eI (atN ns i)) := by
  refine ASpec.of_awp Try.func133 (by kernel_rfl) rfl (by rw [Try.results133]) Try.ntmps133 ?_
  by_cases h1 : i < ns.length
  · obtain ⟨n, hn⟩ : ∃ n, ns[i]? = some n := ⟨ns[i], by simp [h1]⟩
    have h1' : ¬ (ns.length : Int) ≤ i := by omega
    by_cases h2 : 1099511627776 < n
    · have h2' : (1099511627776 : Int) < n := by omega
      simp -implicitDefEqProofs [h1', hn, encU, h2', atN]
      intro _ _
      omega
    · have h2' : ¬ (1099511627776 : Int) < n := by omega
      have w : IntKind.i64.wrap (n : Int) = n := w64 (by omega) (by omega)
      simp -implicitDefEqProofs [h1', hn, encU, h2', w, atN]
      try (intro _; simp -implicitDefEqProofs [h1', hn, encU, h2, h2', w, atN])
  · have h1' : (ns.length : Int) ≤ i := by omega
    have hn : ns[i]? = none := by simp; omega
    simp -implicitDefEqProofs [h1, h1', hn, atN]
theorem set9_spec (ns : List Nat) (i : Nat) : ASpec Try.prog 134 [.sl .no (eU ns), eI i] (· = .agg (eV (viewN (atN ns i)))) := by
  refine ASpec.of_awp Try.func134 (by kernel_rfl) rfl (by rw [Try.results134]) Try.ntmps134 ?_
  simp -implicitDefEqProofs
  refine allocK.intro (fun b1 hb1 => ?_)
  simp -implicitDefEqProofs
  refine CallK.with (at9_spec ns i) (by simp) ?_
  simp -implicitDefEqProofs
  refine CallK.eq (named4_spec (atN ns i)) ?_
  obtain ⟨c5, hc5⟩ := namedA_view (atN ns i)
  rw [hc5]
  simp -implicitDefEqProofs [eV]
  refine allocK.intro (fun b2 hb2 => ?_)
  have hbb : ¬ b1 = b2 := by rintro rfl; simp at hb2
  have hbb' : ¬ b2 = b1 := fun h => hbb h.symm
  simp -implicitDefEqProofs [hbb, hbb', eV]
theorem guess_spec (ns : List Nat) : ASpec Try.prog 127 [.sl .no (eU ns)] (· = .agg (eRc (guessR ns))) := by
  refine ASpec.of_awp Try.func127 (by kernel_rfl) rfl (by rw [Try.results127]) Try.ntmps127 ?_
  simp -implicitDefEqProofs
  refine allocK.intro (fun b1 hb1 => ?_)
  simp -implicitDefEqProofs
  refine CallK.with (at9_spec ns 0) (by simp) ?_
  simp -implicitDefEqProofs
  refine allocK.intro (fun b2 hb2 => ?_)
  have hbb : ¬ b1 = b2 := by rintro rfl; simp at hb2
  have hbb' : ¬ b2 = b1 := fun h => hbb h.symm
  by_cases k1 : atN ns 0 = 1
  · have e : guessR ns = ⟨1, viewN (atN ns 1), zC, ⟨atN ns 2, ⟨atN ns 3, atN ns 4⟩, (ns[5]?).getD 0⟩, 0⟩ := by unfold guessR; rw [if_pos k1]
    rw [e]
    simp -implicitDefEqProofs [hbb, hbb', k1]
    refine CallK.with (set9_spec ns 1) (by simp) ?_
    simp -implicitDefEqProofs [hbb, hbb', k1, eV]
    refine CallK.with (at9_spec ns 2) (by simp) ?_
    simp -implicitDefEqProofs
    refine CallK.with (at9_spec ns 3) (by simp) ?_
    simp -implicitDefEqProofs
    refine CallK.with (at9_spec ns 4) (by simp) ?_
    by_cases h5 : 5 < ns.length
    · have h5' : (5 : Int) < (ns.length : Int) := by omega
      obtain ⟨x, hx⟩ : ∃ x, ns[5]? = some x := ⟨ns[5], by simp [h5]⟩
      simp -implicitDefEqProofs [hbb, hbb', h5', hx, encU]
      intro _
      refine CallK.eq (f64from_spec x) ?_
      simp -implicitDefEqProofs [eF, hbb, hbb', hx, eRc, zC, zV, zE]
    · have h5' : ¬ (5 : Int) < (ns.length : Int) := by omega
      have hx : ns[5]? = none := by simp; omega
      simp -implicitDefEqProofs [hbb, hbb', h5', hx, eRc, zC, zV, zE]
      try intro _
      try simp -implicitDefEqProofs [hbb, hbb', h5', hx, eRc, zC, zV, zE]
  by_cases k2 : atN ns 0 = 2
  · have e : guessR ns = ⟨2, viewN (atN ns 1), ⟨atN ns 2, viewN (atN ns 3)⟩, zE, 0⟩ := by unfold guessR; rw [if_neg k1, if_pos k2]
    rw [e]
    simp -implicitDefEqProofs [hbb, hbb', k1, k2]
    refine CallK.with (set9_spec ns 1) (by simp) ?_
    simp -implicitDefEqProofs [hbb, hbb', eV]
    refine CallK.with (at9_spec ns 2) (by simp) ?_
    simp -implicitDefEqProofs
    refine CallK.with (set9_spec ns 3) (by simp) ?_
    simp -implicitDefEqProofs [hbb, hbb', eV, eRc, zC, zV, zE]
  by_cases k3 : atN ns 0 = 3
  · have e : guessR ns = ⟨3, viewN (atN ns 1), zC, zE, 0⟩ := by unfold guessR; rw [if_neg k1, if_neg k2, if_pos k3]
    rw [e]
    simp -implicitDefEqProofs [hbb, hbb', k1, k2, k3]
    refine CallK.with (set9_spec ns 1) (by simp) ?_
    simp -implicitDefEqProofs [hbb, hbb', eV, eRc, zC, zV, zE]
  by_cases k4 : atN ns 0 = 4
  · have e : guessR ns = ⟨4, zV, zC, zE, atN ns 1⟩ := by unfold guessR; rw [if_neg k1, if_neg k2, if_neg k3, if_pos (.inl k4), k4]
    rw [e]
    simp -implicitDefEqProofs [hbb, hbb', k1, k2, k3, k4]
    refine CallK.with (at9_spec ns 1) (by simp) ?_
    simp -implicitDefEqProofs [hbb, hbb', eV, eRc, zC, zV, zE]
  by_cases k6 : atN ns 0 = 6
  · have e : guessR ns = ⟨6, zV, zC, zE, atN ns 1⟩ := by unfold guessR; rw [if_neg k1, if_neg k2, if_neg k3, if_pos (.inr k6), k6]
    rw [e]
    simp -implicitDefEqProofs [hbb, hbb', k1, k2, k3, k4, k6]
    refine CallK.with (at9_spec ns 1) (by simp) ?_
    simp -implicitDefEqProofs [hbb, hbb', eV, eRc, zC, zV, zE]
  by_cases k5 : atN ns 0 = 5
  · have e : guessR ns = ⟨5, viewN (atN ns 1), ⟨0, viewN (atN ns 2)⟩, zE, 0⟩ := by unfold guessR; rw [if_neg k1, if_neg k2, if_neg k3, if_neg (by omega), if_pos k5]
    rw [e]
    simp -implicitDefEqProofs [hbb, hbb', k1, k2, k3, k4, k6, k5]
    refine CallK.with (set9_spec ns 1) (by simp) ?_
    simp -implicitDefEqProofs [hbb, hbb', eV]
    refine CallK.with (set9_spec ns 2) (by simp) ?_
    simp -implicitDefEqProofs [hbb, hbb', eV, eRc, zC, zV, zE]
  have e : guessR ns = ⟨atN ns 0, zV, zC, zE, 0⟩ := by unfold guessR; rw [if_neg k1, if_neg k2, if_neg k3, if_neg (by omega), if_neg k5]
  rw [e]
  simp -implicitDefEqProofs [hbb, hbb', k1, k2, k3, k4, k6, k5, eV, eRc, zC, zV, zE]

def firstA (o : Option (PRec × Nat)) : AV := match o with
  | none => .tup [.agg (eRc zR), eI 0, .v (.bool false)]
  | some (r, n) => .tup [.agg (eRc r), eI n, .v (.bool true)]
def FirI (b body : List UInt8) (b1 : Nat) (t : Nat → AV) (h : Nat → Option (List AV)) : Prop := ∃ (k : Nat) (rest : List UInt8) (cur : List Nat) (tag : Tag), t 0 = .sl .no (eB b) ∧ t 2 = .ptr b1 0 ∧ t 8 = .sl .no (eB rest) ∧ t 10 = .sl tag (eU cur) ∧ appOK tag 102 1 ∧
  h b1 = some (eRc zR) ∧ rest.length ≤ k ∧ rest.length + cur.length ≤ body.length ∧ allF body = (getsF k rest).map (cur ++ ·)
def FirM (b body : List UInt8) (b1 : Nat) (t : Nat → AV) (h : Nat → Option (List AV)) : Prop := ∃ (cur : List Nat) (tag : Tag), t 0 = .sl .no (eB b) ∧ t 2 = .ptr b1 0 ∧ t 10 = .sl tag (eU cur) ∧ h b1 = some (eRc zR) ∧ allF body = some cur
theorem pre_take {x b : List UInt8} : x <+: b ↔ ¬ b.length < x.length ∧ x = b.take x.length := by
  rw [List.prefix_iff_eq_take]
  constructor
  · intro h
    refine ⟨fun h2 => ?_, h⟩
    have := congrArg List.length h
    rw [List.length_take] at this; omega
  · exact fun h => h.2
theorem first9_spec (b : List UInt8) (hl : b.length ≤ 1000000000) : ASpec Try.prog 100 [.sl .no (eB b)] (· = firstA (stepS b)) := by
  refine ASpec.of_awp Try.func100 (by kernel_rfl) rfl (by rw [Try.results100]) Try.ntmps100 ?_
  simp -implicitDefEqProofs
  refine allocK.intro (fun b1 hb1 => ?_)
  simp -implicitDefEqProofs
  refine CallK.eq (cut2_spec b (by omega)) ?_
  cases hc : cutF b with
  | none =>
    rw [step_cut_none hc]
    simp -implicitDefEqProofs [cutA, firstA, eRc, zR, zV, zC, zE]
  | some p =>
    obtain ⟨x, rest⟩ := p
    have hx := cutF_len hc
    simp -implicitDefEqProofs [cutA]
    refine CallK.eq (open3_spec x (by omega)) ?_
    cases ho : openF x with
    | none =>
      rw [step_open_none hc ho]
      simp -implicitDefEqProofs [openA, firstA, eRc, zR, zV, zC, zE]
    | some body =>
      have hbl := openF_len ho
      simp -implicitDefEqProofs [openA]
      refine loopK.post (FirI b body b1) (fun t => rowsIn (t 8)) (FirM b body b1) ?_ ?_ ?_
      · refine ⟨body.length, body, [], _, by simp, by simp, by simp, by simp [eU]; rfl, by simp, by simp [eRc, zR, zV, zC, zE], by omega, by simp, ?_⟩
        simp [allF]
      · rintro t hh ⟨k, rs, cur, tag, g0, g2, g8, g10, gt, gb, hk, hrl, he⟩
        cases rs with
        | nil =>
          simp -implicitDefEqProofs [g8, g10]
          exact ⟨cur, tag, by simp [g0], by simp [g2], by simp [g10], gb, by rw [he, getsF_nil]; simp⟩
        | cons y l =>
          have p1 : ¬ (l.length : Int) + 1 ≤ 0 := by omega
          have p2 : (0 : Int) < (l.length : Int) + 1 := by omega
          simp only [List.length_cons] at hk hrl
          simp -implicitDefEqProofs [g8, g10, p1, p2]
          intro _
          refine CallK.eq (get2_spec (y :: l) (by simp only [List.length_cons]; omega)) ?_
          obtain ⟨k', rfl⟩ : ∃ k', k = k' + 1 := ⟨k - 1, by omega⟩
          cases hg : getF (y :: l) with
          | none =>
            rw [getsF_none _ hg] at he
            rw [step_all_none hc ho (by rw [he]; rfl)]
            simp -implicitDefEqProofs [getA, g2, gb, firstA, eRc, zR, zV, zC, zE]
          | some p =>
            obtain ⟨n, r⟩ := p
            have hr := (getF_len hg).1
            simp only [List.length_cons] at hr
            rw [getsF_some _ hg] at he
            simp -implicitDefEqProofs [getA, g10, gt]
            have hone : eU cur ++ [[AV.v (.int .u64 n)]] = eU (cur ++ [n]) := by simp [eU, encU]
            rw [hone]
            refine ⟨by omega, ⟨k', r, cur ++ [n], appTag tag 102 1 [[AV.v (.int .u64 n)]], by simp [g0], by simp [g2], by simp, by simp, by simp [gt], gb, by omega, by rw [List.length_append, List.length_singleton]; omega, ?_⟩, ?_⟩
            · rw [he]
              simp [Function.comp_def]
            · simp [g8]; omega
      rintro t hh ⟨cur, tag, g0, g2, g10, gb, he⟩
      rw [first_eq hc ho he]
      have hfit := guess_fit (allF_some he).2
      simp -implicitDefEqProofs [g10]
      refine CallK.with (guess_spec cur) (by simp) ?_
      simp -implicitDefEqProofs
      refine allocK.intro (fun b2 hb2 => ?_)
      have hbb : ¬ b1 = b2 := by rintro rfl; rw [gb] at hb2; simp at hb2
      have hbb' : ¬ b2 = b1 := fun h => hbb h.symm
      simp -implicitDefEqProofs [eRc]
      refine CallK.with (bytes9_spec (guessR cur) hfit) (by simp [eRc]) ?_
      cases hr : rightR (guessR cur)
      · simp -implicitDefEqProofs [bytesR, hr, bytesA]
        refine regionK.intro 19 follows_mixed (by kernel_rfl) ?_
        simp -implicitDefEqProofs [g0, g2, gb, hbb, hbb', firstA, eRc, zR, zV, zC, zE]
      · simp -implicitDefEqProofs [bytesR, hr, bytesA]
        refine regionK.intro 19 follows_mixed (by kernel_rfl) ?_
        by_cases h1 : b.length < (recB (guessR cur)).length
        · have h1' : (b.length : Int) < ((recB (guessR cur)).length : Int) := by omega
          have hp : ¬ (recB (guessR cur) <+: b) := fun h => (pre_take.1 h).1 h1
          simp -implicitDefEqProofs [g0, g2, gb, hbb, hbb', h1', hp, firstA, eRc, zR, zV, zC, zE]
        · have h1' : ¬ (b.length : Int) < ((recB (guessR cur)).length : Int) := by omega
          have h1'' : ((recB (guessR cur)).length : Int) ≤ (b.length : Int) := by omega
          by_cases h2 : recB (guessR cur) = b.take (recB (guessR cur)).length
          · have hp : recB (guessR cur) <+: b := pre_take.2 ⟨h1, h2⟩
            simp -implicitDefEqProofs [g0, g2, gb, hbb, hbb', h1', h1'', ← h2, hp, firstA, eRc, zR, zV, zC, zE]
          · have hp : ¬ (recB (guessR cur) <+: b) := fun h => h2 (pre_take.1 h).2
            simp -implicitDefEqProofs [g0, g2, gb, hbb, hbb', h1', h1'', h2, hp, firstA, eRc, zR, zV, zC, zE]

def Sc9I (b : List UInt8) (t : Nat → AV) (h : Nat → Option (List AV)) : Prop := ∃ (n : Nat) (cur : List PRec) (tag : Tag), t 0 = .sl .no (eB b) ∧ t 4 = .sl tag (eRs cur) ∧ t 5 = eI n ∧ appOK tag 61 11 ∧ n ≤ b.length ∧ cur.length ≤ n ∧
  scanR b = (cur ++ (scanR (b.drop n)).1, n + (scanR (b.drop n)).2)
theorem scan9_spec (b : List UInt8) (hl : b.length ≤ 1000000000) : ASpec Try.prog 38 [.sl .no (eB b)] (· = scanA b) := by
  refine ASpec.of_awp Try.func38 (by kernel_rfl) rfl (by rw [Try.results38]) Try.ntmps38 ?_
  simp -implicitDefEqProofs
  refine loopK.intro (Sc9I b) (fun t => b.length - natOf (t 5)) ?_ ?_
  · exact ⟨0, [], _, by simp, by simp [eRs]; rfl, by simp, by simp, by omega, by simp, by simp⟩
  rintro t hh ⟨n, cur, tag, g0, g4, g5, gt, hn, hc, he⟩
  have hle' : (n : Int) ≤ (b.length : Int) := by omega
  simp -implicitDefEqProofs [g0, g5, hle']
  refine CallK.eq (first9_spec (b.drop n) (by rw [List.length_drop]; omega)) ?_
  cases hs : stepS (b.drop n) with
  | none =>
    rw [scanR_none hs] at he
    simp -implicitDefEqProofs [firstA, eRc]
    refine allocK.intro (fun b1 hb1 => ?_)
    simp -implicitDefEqProofs [g4, g5]
    rw [scanA, he]
    simp
  | some p =>
    obtain ⟨rc, m⟩ := p
    have hst := stepS_le hs
    rw [List.length_drop] at hst
    rw [scanR_step hs, List.drop_drop] at he
    have w : IntKind.i64.wrap ((n : Int) + (m : Int)) = ((n + m : Nat) : Int) := by rw [w64 (by omega) (by omega)]; omega
    simp -implicitDefEqProofs [firstA, eRc]
    refine allocK.intro (fun b1 hb1 => ?_)
    simp -implicitDefEqProofs [g4, gt, g5, w]
    have hone : eRs cur ++ [eRc rc] = eRs (cur ++ [rc]) := by simp [eRs]
    simp only [eRc] at hone
    simp only [eI] at hone
    rw [hone]
    refine ⟨by omega, ⟨n + m, cur ++ [rc], _, by simp [g0], by simp; rfl, by simp, by simp [gt], by omega, by rw [List.length_append, List.length_singleton]; omega, ?_⟩, ?_⟩
    · rw [he]
      simp
      omega
    · omega
end Go.Proofs.Ytbgifnlaaophcaa

/- Contracts: logAlive. No condition. -/
set_option linter.unusedSimpArgs false
set_option linter.unusedVariables false
set_option maxRecDepth 10000
namespace Go.Proofs.Ytbgifnlaaophcaa
open Go Go.Rw Go.Proofs
-- a goal is never to be run by the elaborator
attribute [local irreducible] awp aops aop aopsE aeff

theorem safe_call (d : Nat) (D : PDisk) (q : Option Nat) (h : Nat → Option (List AV)) (hd : DiskAt d D q h) :
    MSpec Try.prog 43 [.ptr d 0] h (fun r h' => r = eI D.safe ∧ ∃ q', DiskAt d D q' h') :=
  (safe_spec d D q h hd).mono fun r h' ⟨e, hd'⟩ => ⟨e, q, hd'⟩
theorem logalive_spec : ASpec Try.prog 33 [] (· = .v (.bool true)) := by
  refine ASpec.of_awp Try.func33 (by kernel_rfl) rfl (by rw [Try.results33]) Try.ntmps33 ?_
  simp -implicitDefEqProofs
  refine CallK.fresh (new_spec 200) rfl ?_
  rintro _ h' H ⟨d, rfl, hd0⟩ _ hH _
  have hd : DiskAt d ⟨[], 0, 200, -1, false⟩ none H := by
    obtain ⟨hq, x, hx, hdat⟩ := hd0
    refine ⟨hq, x, hH _ _ hx, ?_⟩
    rcases hdat with e | ⟨b, c, cells, e, _⟩
    · exact .inl e
    · simp at e
  simp -implicitDefEqProofs
  refine disk_call (logadd_spec d ⟨[], 0, 200, -1, false⟩ none [al1, al2] (by simp [OkD]) (by simp [fitR, al1, al2, zE]) (by simp)) (by simp [eRs, eRc, al1, al2, zV, zC, zE]) hd ?_
  rw [al_add]
  rintro _ q1 H1 rfl hd1 _
  simp -implicitDefEqProofs
  refine disk_call (logread_spec d _ q1 (by simp [al_len2])) (by simp) hd1 ?_
  rintro _ q2 H2 rfl hd2 _
  have hall := al_all
  simp -implicitDefEqProofs [eRs, hall]
  refine disk_call (bytes_call d _ q2 (by simp [al_len2])) (by simp) hd2 ?_
  rintro _ q3 H3 ⟨tag, rfl⟩ hd3 _
  simp -implicitDefEqProofs
  refine CallK.with (logbytes_spec al1 (by simp [fitR, al1, zE])) (by simp [eRc, al1, zV, zC, zE]) ?_
  rw [bytesR, al1_right, if_pos rfl]
  simp -implicitDefEqProofs [bytesA, al_len]
  have wA : IntKind.i64.wrap (IntKind.i64.wrap 80 + 20) = 100 := by decide
  rw [wA]
  refine CallK.via (crc_burst (recsB [al1, al2]) 100 1 (by simp [al_len2]) (by decide)) rfl ?_
  rintro _ ⟨tag2, _, rfl⟩
  simp -implicitDefEqProofs
  refine CallK.with (scan_spec (burstF (recsB [al1, al2]) 100 1) (by simp [al_len2])) (by simp) ?_
  obtain ⟨r0, hr0, hn0⟩ : ∃ r0, (scanR (burstF (recsB [al1, al2]) 100 1)).1 = [r0] ∧ r0.n = 5 := by
    have h := al_l
    match hq : (scanR (burstF (recsB [al1, al2]) 100 1)).1, h with
    | [r0], h => exact ⟨r0, rfl, by simpa using h⟩
    | [], h => simp at h
    | _ :: _ :: _, h => simp at h
  rw [scanA, al_n, hr0]
  simp -implicitDefEqProofs [eRs, eRc, hn0, al_len]
  refine disk_call (safe_call d _ q3) (by simp) hd3 ?_
  rintro _ q4 H4 rfl hd4 _
  simp -implicitDefEqProofs [al_len2]
end Go.Proofs.Ytbgifnlaaophcaa

/- Plain: what is done with a disk and a log. No condition. -/
set_option linter.unusedSimpArgs false
set_option linter.unusedVariables false
set_option maxRecDepth 10000
namespace Go.Proofs.Ytbgifnlaaophcaa
open Go Go.Rw Go.Proofs

theorem appendD_ok {D : PDisk} {x : List UInt8} (h : OkD D) : OkD (appendD D x).1 := by
  obtain ⟨o1, o2, o3, o4, o5, o6, o7⟩ := h
  unfold appendD
  cases D.off with
  | true => exact ⟨o1, o2, o3, o4, o5, o6, o7⟩
  | false =>
    simp only [Bool.false_eq_true, if_false]
    by_cases h1 : max 0 (D.room - (D.data.length : Int)) < (x.length : Int)
    · rw [if_pos h1]; exact ⟨o1, o2, o3, o4, o5, o6, o7⟩
    · rw [if_neg h1]
      by_cases h2 : D.fuse ≠ -1 ∧ D.fuse < (x.length : Int)
      · rw [if_pos h2]
        refine ⟨o1, o2, o3, o4, o5, ?_, ?_⟩
        · simp only [List.length_append]; omega
        · simp only [List.length_append, List.length_take]; omega
      · rw [if_neg h2]
        refine ⟨o1, o2, ?_, ?_, o5, ?_, ?_⟩
        · simp only; split <;> omega
        · simp only; split <;> omega
        · simp only [List.length_append]; omega
        · simp only [List.length_append]; omega
theorem syncD_ok {D : PDisk} (h : OkD D) : OkD (syncD D) := by
  obtain ⟨o1, o2, o3, o4, o5, o6, o7⟩ := h
  unfold syncD
  split
  · exact ⟨o1, o2, o3, o4, o5, o6, o7⟩
  · exact ⟨o1, o2, o3, o4, by simp, by simp, o7⟩
theorem addD_ok {D : PDisk} {l : List PRec} (h : OkD D) : OkD (addD D l).1 := by
  unfold addD
  split
  · split
    · exact syncD_ok (appendD_ok h)
    · exact appendD_ok h
  · exact h
theorem crashD_ok {D : PDisk} {keep : Int} (h : OkD D) : OkD (crashD D keep) := by
  obtain ⟨o1, o2, o3, o4, o5, o6, o7⟩ := h
  refine ⟨o1, o2, by simp [crashD], by simp [crashD], ?_, ?_, ?_⟩
  · simp only [crashD]; omega
  · simp only [crashD, List.length_take]; omega
  · simp only [crashD, List.length_take]; omega
theorem cutD_ok {D : PDisk} {n : Int} (h : OkD D) : OkD (cutD D n) := by
  obtain ⟨o1, o2, o3, o4, o5, o6, o7⟩ := h
  unfold cutD
  split
  · exact ⟨o1, o2, o3, o4, o5, o6, o7⟩
  · refine ⟨o1, o2, o3, o4, ?_, ?_, ?_⟩
    · simp only; omega
    · simp only [List.length_take]; omega
    · simp only [List.length_take]; omega
theorem fuseD_ok {D : PDisk} {n : Int} (h : OkD D) (hn : n ≤ 9223372036854775807) : OkD { D with fuse := max (-1) n } := by
  obtain ⟨o1, o2, o3, o4, o5, o6, o7⟩ := h
  exact ⟨o1, o2, by simp only; omega, by simp only; omega, o5, o6, o7⟩
theorem newD_ok (n : Int) : OkD ⟨[], 0, max 0 (min n 60000), -1, false⟩ := by
  refine ⟨?_, ?_, ?_, ?_, ?_, ?_, ?_⟩ <;> simp <;> omega

theorem add_wrong {D : PDisk} {l : List PRec} (h : ¬ l.all rightR = true) : addD D l = (D, 91) := by unfold addD; rw [if_neg h]
/-- a disk without a fuse and with room takes what can be -/
theorem add_fits {D : PDisk} {l : List PRec} (h : l.all rightR = true) (ho : D.off = false) (hf : D.fuse = -1) (hr : (D.data.length : Int) + (recsB l).length ≤ D.room) :
    addD D l = (⟨D.data ++ recsB l, ((D.data ++ recsB l).length : Nat), D.room, -1, false⟩, 0) := by
  have h2 : appendD D (recsB l) = ({ D with data := D.data ++ recsB l }, 0) := by
    unfold appendD
    rw [if_neg (by simp [ho]), if_neg (by omega), if_neg (by omega)]
    simp [hf]
  unfold addD
  rw [if_pos h, h2, if_pos rfl]
  simp [syncD, ho, hf]
theorem add_full {D : PDisk} {l : List PRec} (h : l.all rightR = true) (ho : D.off = false) (hr : max 0 (D.room - D.data.length) < (recsB l).length) : addD D l = (D, 81) := by
  have h2 : appendD D (recsB l) = (D, 81) := by
    unfold appendD
    rw [if_neg (by simp [ho]), if_pos (by omega)]
  unfold addD
  rw [if_pos h, h2, if_neg (by simp)]
/-- what an addition leads to, where the power is on -/
theorem add_any (D : PDisk) (l : List PRec) (ho : D.off = false) (h : OkD D) :
    ((addD D l).2 = 91 ∧ (addD D l).1 = D ∧ ¬ l.all rightR = true) ∨
    ((addD D l).2 = 0 ∧ l.all rightR = true ∧ (addD D l).1.data = D.data ++ recsB l ∧ (addD D l).1.safe = (addD D l).1.data.length ∧ (addD D l).1.off = false) ∨
    (((addD D l).2 = 81 ∨ (addD D l).2 = 82) ∧ l.all rightR = true ∧ (addD D l).1.data <+: D.data ++ recsB l ∧ (addD D l).1.safe = D.safe) := by
  obtain ⟨o1, o2, o3, o4, o5, o6, o7⟩ := h
  by_cases hr : l.all rightR = true
  · right
    by_cases h1 : max 0 (D.room - (D.data.length : Int)) < ((recsB l).length : Int)
    · right
      rw [add_full hr ho h1]
      exact ⟨.inl rfl, hr, ⟨recsB l, rfl⟩, rfl⟩
    · by_cases h2 : D.fuse ≠ -1 ∧ D.fuse < ((recsB l).length : Int)
      · right
        have h3 : appendD D (recsB l) = ({ D with data := D.data ++ (recsB l).take D.fuse.toNat, off := true }, 82) := by
          unfold appendD
          rw [if_neg (by simp [ho]), if_neg h1, if_pos h2]
        have h4 : addD D l = ({ D with data := D.data ++ (recsB l).take D.fuse.toNat, off := true }, 82) := by
          unfold addD
          rw [if_pos hr, h3, if_neg (by simp)]
        rw [h4]
        refine ⟨.inr rfl, hr, ?_, rfl⟩
        exact (List.prefix_append_right_inj _).2 (List.take_prefix _ _)
      · left
        have h3 : appendD D (recsB l) = ({ D with data := D.data ++ recsB l, fuse := if D.fuse ≠ -1 then D.fuse - (recsB l).length else D.fuse }, 0) := by
          unfold appendD
          rw [if_neg (by simp [ho]), if_neg h1, if_neg h2]
        have h4 : addD D l = ({ D with data := D.data ++ recsB l, safe := ((D.data ++ recsB l).length : Nat), fuse := if D.fuse ≠ -1 then D.fuse - (recsB l).length else D.fuse }, 0) := by
          unfold addD
          rw [if_pos hr, h3, if_pos rfl]
          simp [syncD, ho]
        rw [h4]
        exact ⟨rfl, hr, rfl, rfl, ho⟩
  · left
    rw [add_wrong hr]
    exact ⟨rfl, rfl, hr⟩
theorem all_right {l : List PRec} (h : l.all rightR = true) : ∀ r ∈ l, rightR r = true := List.all_eq_true.1 h
/-- behind a crash those are found that were safe, and some of the others, from the first one on -/
theorem crash_found {D : PDisk} {l : List PRec} {safe : Nat} (keep : Int) (h : OkD D) (hl : ∀ r ∈ l, rightR r = true ∧ fitR r) (hd : D.data <+: recsB l) (hs : ((recsB (l.take safe)).length : Int) ≤ D.safe) :
    ∃ k, (scanR (crashD D keep).data).1 = (l.take k).map cleanR ∧ min safe l.length ≤ k ∧ k ≤ l.length := by
  obtain ⟨o1, o2, o3, o4, o5, o6, o7⟩ := h
  have hp : (crashD D keep).data <+: recsB l := (List.take_prefix _ _).trans hd
  have e := scan_prefix hl hp
  have hw := whole_prefix l (crashD D keep).data.length
  have hg := whole_ge l (crashD D keep).data.length safe (by simp only [crashD, List.length_take]; omega)
  refine ⟨(wholeR l (crashD D keep).data.length).length, ?_, hg, hw.length_le⟩
  rw [e]
  simp only
  conv => lhs; rw [List.prefix_iff_eq_take.1 hw]

/-- alike but for a fuse that went off -/
def LikeD (D E : PDisk) : Prop := E.data = D.data ∧ E.safe = D.safe ∧ E.room = D.room ∧ E.off = D.off ∧ (D.off = false → E.fuse = D.fuse) ∧ -1 ≤ E.fuse ∧ E.fuse < 9223372036854775808
theorem LikeD.ok {D E : PDisk} (h : LikeD D E) (ho : OkD D) : OkD E := by
  obtain ⟨h1, h2, h3, h4, h5, h6, h7⟩ := h
  obtain ⟨o1, o2, o3, o4, o5, o6, o7⟩ := ho
  exact ⟨by rw [h3]; exact o1, by rw [h3]; exact o2, h6, h7, by rw [h2]; exact o5, by rw [h1, h2]; exact o6, by rw [h1]; exact o7⟩
theorem LikeD.refl {D : PDisk} (ho : OkD D) : LikeD D D := ⟨rfl, rfl, rfl, rfl, fun _ => rfl, ho.2.2.1, ho.2.2.2.1⟩
theorem LikeD.append {D E : PDisk} (h : LikeD D E) (ho : OkD D) (x : List UInt8) : LikeD (appendD D x).1 (append8D E x).1 ∧ (append8D E x).2 = (appendD D x).2 := by
  have hoE := h.ok ho
  obtain ⟨h1, h2, h3, h4, h5, h6, h7⟩ := h
  obtain ⟨o1, o2, o3, o4, o5, o6, o7⟩ := ho
  cases hoff : D.off with
  | true =>
    have e1 : appendD D x = (D, 82) := by simp [appendD, hoff]
    have e2 : append8D E x = (E, 82) := by simp [append8D, h4, hoff]
    rw [e1, e2]
    exact ⟨⟨h1, h2, h3, h4, h5, h6, h7⟩, rfl⟩
  | false =>
    have hf := h5 hoff
    by_cases hA : max 0 (D.room - (D.data.length : Int)) < (x.length : Int)
    · have e1 : appendD D x = (D, 81) := by unfold appendD; rw [if_neg (by simp [hoff]), if_pos hA]
      have e2 : append8D E x = (E, 81) := by unfold append8D; rw [if_neg (by simp [h4, hoff]), if_pos (by rw [h3, h1]; exact hA)]
      rw [e1, e2]
      exact ⟨⟨h1, h2, h3, h4, h5, h6, h7⟩, rfl⟩
    · by_cases hB : D.fuse ≠ -1 ∧ D.fuse < (x.length : Int)
      · have e1 : appendD D x = ({ D with data := D.data ++ x.take D.fuse.toNat, off := true }, 82) := by unfold appendD; rw [if_neg (by simp [hoff]), if_neg hA, if_pos hB]
        have e2 : append8D E x = ({ E with data := E.data ++ x.take E.fuse.toNat, fuse := 0, off := true }, 82) := by unfold append8D; rw [if_neg (by simp [h4, hoff]), if_neg (by rw [h3, h1]; exact hA), if_pos (by rw [hf]; exact hB)]
        rw [e1, e2]
        exact ⟨⟨by simp [h1, hf], h2, h3, rfl, by simp, by simp, by simp⟩, rfl⟩
      · have e1 : appendD D x = ({ D with data := D.data ++ x, fuse := if D.fuse ≠ -1 then D.fuse - x.length else D.fuse }, 0) := by unfold appendD; rw [if_neg (by simp [hoff]), if_neg hA, if_neg hB]
        have e2 : append8D E x = ({ E with data := E.data ++ x, fuse := if E.fuse ≠ -1 then E.fuse - x.length else E.fuse }, 0) := by unfold append8D; rw [if_neg (by simp [h4, hoff]), if_neg (by rw [h3, h1]; exact hA), if_neg (by rw [hf]; exact hB)]
        rw [e1, e2]
        refine ⟨⟨by simp [h1], h2, h3, h4, by simp [hf], ?_, ?_⟩, rfl⟩
        · simp only; split <;> omega
        · simp only; split <;> omega
theorem LikeD.sync {D E : PDisk} (h : LikeD D E) : LikeD (syncD D) (syncD E) := by
  obtain ⟨h1, h2, h3, h4, h5, h6, h7⟩ := h
  unfold syncD
  rw [h4]
  split
  · exact ⟨h1, h2, h3, h4, h5, h6, h7⟩
  · exact ⟨h1, by simp [h1], h3, by first | exact h4 | rfl, h5, h6, h7⟩
def add8D (D : PDisk) (l : List PRec) : PDisk × Int := if l.all rightR = true then (if (append8D D (recsB l)).2 = 0 then (syncD (append8D D (recsB l)).1, 0) else append8D D (recsB l)) else (D, 91)
theorem LikeD.add {D E : PDisk} (h : LikeD D E) (ho : OkD D) (l : List PRec) : LikeD (addD D l).1 (add8D E l).1 ∧ (add8D E l).2 = (addD D l).2 := by
  obtain ⟨h1, h2⟩ := h.append ho (recsB l)
  unfold addD add8D
  rw [h2]
  split
  · split
    · exact ⟨h1.sync, rfl⟩
    · exact ⟨h1, h2⟩
  · exact ⟨h, rfl⟩
theorem LikeD.crash {D E : PDisk} (h : LikeD D E) (keep : Int) : crashD E keep = crashD D keep := by
  obtain ⟨h1, h2, h3, h4, h5, h6, h7⟩ := h
  simp [crashD, h1, h2, h3]
theorem LikeD.fuse {D E : PDisk} (h : LikeD D E) {n : Int} (hn : n ≤ 9223372036854775807) : LikeD { D with fuse := max (-1) n } { E with fuse := max (-1) n } := by
  obtain ⟨h1, h2, h3, h4, h5, h6, h7⟩ := h
  exact ⟨h1, h2, h3, h4, fun _ => rfl, by simp only; omega, by simp only; omega⟩
theorem syncD_data (D : PDisk) : (syncD D).data = D.data := by unfold syncD; split <;> rfl
end Go.Proofs.Ytbgifnlaaophcaa

/- Plain: where records end. No condition. -/
set_option linter.unusedSimpArgs false
set_option linter.unusedVariables false
set_option maxRecDepth 10000
namespace Go.Proofs.Ytbgifnlaaophcaa
open Go Go.Rw Go.Proofs

/-- whole numbers as rows -/
def eIn (l : List Nat) : List (List AV) := l.map fun n => [eI (n : Nat)]
@[simp] theorem eIn_length (l : List Nat) : (eIn l).length = l.length := by simp [eIn]
@[simp] theorem eIn_get (l : List Nat) (i : Nat) : (eIn l)[i]? = (l[i]?).map fun n => [eI (n : Nat)] := by simp [eIn]
@[simp] theorem eIn_nil : eIn [] = [] := rfl
theorem eIn_append (l m : List Nat) : eIn l ++ eIn m = eIn (l ++ m) := by simp [eIn]
theorem eIn_one (l : List Nat) : ∀ r ∈ eIn l, r.length = 1 := by
  intro r hr
  obtain ⟨b, _, rfl⟩ := List.mem_map.1 hr
  rfl
@[simp] theorem eIn_rows (l : List Nat) : (∀ r : List AV, r ∈ eIn l → r.length = 1) ↔ True := iff_of_true (eIn_one l) trivial
/-- where each record ends -/
def endsR (l : List PRec) : List Nat := (List.range l.length).map fun i => (recsB (l.take (i + 1))).length
@[simp] theorem endsR_length (l : List PRec) : (endsR l).length = l.length := by simp [endsR]
theorem endsR_get {l : List PRec} {i : Nat} (h : i < l.length) : (endsR l)[i]? = some (recsB (l.take (i + 1))).length := by simp [endsR, h]
theorem endsR_snoc (l : List PRec) (x : PRec) : endsR (l ++ [x]) = endsR l ++ [(recsB (l ++ [x])).length] := by
  unfold endsR
  rw [List.length_append, List.length_singleton, List.range_succ, List.map_append, List.map_singleton]
  congr 1
  · apply List.map_congr_left
    intro i hi
    rw [List.mem_range] at hi
    rw [List.take_append_of_le_length (by omega)]
  · rw [List.take_of_length_le (by simp)]
theorem whole_fits : ∀ (l : List PRec) (n : Nat), (recsB l).length ≤ n → wholeR l n = l
  | [], n, _ => rfl
  | r :: l, n, h => by
    rw [recsB_cons, List.length_append] at h
    unfold wholeR
    rw [if_pos (by omega), whole_fits l _ (by omega)]
theorem whole_snoc : ∀ (l : List PRec) (x : PRec) (n : Nat), ¬ (recsB (l ++ [x])).length ≤ n → wholeR (l ++ [x]) n = wholeR l n
  | [], x, n, h => by
    rw [List.nil_append, recsB_cons, recsB_nil, List.append_nil] at h
    simp [wholeR, h]
  | r :: l, x, n, h => by
    rw [List.cons_append, recsB_cons, List.length_append] at h
    rw [List.cons_append]
    unfold wholeR
    split
    · rw [whole_snoc l x _ (by omega)]
    · rfl
/-- those that can be -/
def wantR (l : List PRec) (k : Nat) : List PRec := (l.take k).filter rightR
theorem want_succ {l : List PRec} {k : Nat} {x : PRec} (h : l[k]? = some x) : wantR l (k + 1) = wantR l k ++ (if rightR x = true then [x] else []) := by
  unfold wantR
  rw [List.take_add_one, h, List.filter_append]
  cases hr : rightR x <;> simp [hr]
theorem want_right {l : List PRec} {k : Nat} : ∀ r ∈ wantR l k, rightR r = true := fun r hr => (List.mem_filter.1 hr).2
theorem want_mem {l : List PRec} {k : Nat} : ∀ r ∈ wantR l k, r ∈ l := fun r hr => List.mem_of_mem_take (List.mem_filter.1 hr).1
theorem want_ok {l : List PRec} (hf : ∀ r ∈ l, fitR r) {k : Nat} : ∀ r ∈ wantR l k, rightR r = true ∧ fitR r := fun r hr => ⟨want_right r hr, hf r (want_mem r hr)⟩
theorem want_len (l : List PRec) (k : Nat) : (wantR l k).length ≤ k := by
  have h1 : (wantR l k).length ≤ (l.take k).length := List.length_filter_le _ _
  rw [List.length_take] at h1; omega
theorem want_bytes {l : List PRec} (hf : ∀ r ∈ l, fitR r) (k : Nat) : (recsB (wantR l k)).length ≤ 70 * k := by
  have h1 := recsB_le (wantR l k) (want_ok hf)
  have h2 := want_len l k
  omega
theorem scan_own (b : List UInt8) : (scanR b).2 = (recsB (scanR b).1).length ∧ b.take (scanR b).2 = recsB (scanR b).1 ∧ (scanR b).2 ≤ b.length := by
  obtain ⟨_, h2, h3, _⟩ := scanR_own _ b (Nat.le_refl _)
  refine ⟨h3, ?_, ?_⟩
  · have h4 : b.take (scanR b).2 = (recsB (scanR b).1 ++ b.drop (scanR b).2).take (scanR b).2 := by rw [← h2]
    rw [h4]
    conv => lhs; arg 1; rw [h3]
    rw [List.take_left]
  · have := congrArg List.length h2
    rw [List.length_append, List.length_drop] at this
    omega
theorem recsB_take_le (l : List PRec) (k : Nat) : (recsB (l.take k)).length ≤ (recsB l).length := by
  conv => rhs; rw [← List.take_append_drop k l, recsB_append, List.length_append]
  omega
theorem scan_fit (b : List UInt8) : ∀ r ∈ (scanR b).1, rightR r = true ∧ cleanR r = r ∧ fitR r := (scanR_own _ b (Nat.le_refl _)).1
theorem clean_fit {r : PRec} (h : fitR r) : fitR (cleanR r) := bitsF_lt h
/-- the disk that has records alone -/
def diskR (w : List PRec) : PDisk := ⟨recsB w, ((recsB w).length : Nat), 60000, -1, false⟩
theorem diskR_ok {w : List PRec} (h : (recsB w).length ≤ 60000) : OkD (diskR w) := by
  refine ⟨?_, ?_, ?_, ?_, ?_, ?_, ?_⟩ <;> simp [diskR, h]
theorem diskR_add {w : List PRec} {x : PRec} (hr : rightR x = true) (h : (recsB (w ++ [x])).length ≤ 60000) : addD (diskR w) [x] = (diskR (w ++ [x]), 0) := by
  have e : recsB (w ++ [x]) = recsB w ++ recsB [x] := recsB_append _ _
  rw [e, List.length_append] at h
  rw [add_fits (by simp [hr]) rfl rfl (by simp only [diskR]; omega)]
  simp only [diskR, e]
theorem diskR_new : (⟨[], 0, max 0 (min 60000 60000), -1, false⟩ : PDisk) = diskR [] := by simp [diskR]; omega
end Go.Proofs.Ytbgifnlaaophcaa

/- The law LogBytes, walked. No condition. -/
set_option linter.unusedSimpArgs false
set_option linter.unusedVariables false
set_option maxRecDepth 10000
namespace Go.Proofs.Ytbgifnlaaophcaa
open Go Go.Rw Go.Proofs
-- a goal is never to be run by the elaborator
attribute [local irreducible] awp aops aop aopsE aeff

theorem bytesA_any (r : PRec) : ∃ (x : List UInt8) (c : Int), bytesA (bytesR r) = .tup [.sl .no (eB x), eI c] ∧ (c = 0 ↔ rightR r = true) ∧ (rightR r = true → x = recB r) := by
  cases hr : rightR r
  · exact ⟨[], 91, by simp [bytesR, hr, bytesA], by simp, by simp⟩
  · exact ⟨recB r, 0, by simp [bytesR, hr, bytesA], by simp, by simp⟩
theorem logbytes_law (r : PRec) (b : List UInt8) (hf : fitR r) (hb : b.length ≤ 1048576) : ASpec Try.prog 11 [.agg (eRc r), .sl .no (eB b)] (· = .v (.bool true)) := by
  refine ASpec.of_awp Try.func11 (by kernel_rfl) rfl (by rw [Try.results11]) Try.ntmps11 ?_
  obtain ⟨x, c, hx, _, _⟩ := bytesA_any r
  simp -implicitDefEqProofs [eRc]
  refine allocK.intro (fun b1 hb1 => ?_)
  simp -implicitDefEqProofs
  refine CallK.with (logbytes_spec r hf) (by simp [eRc]) ?_
  rw [hx]
  simp -implicitDefEqProofs
  refine CallK.with (bytes9_spec r hf) (by simp [eRc]) ?_
  rw [hx]
  simp -implicitDefEqProofs
  refine ⟨by omega, ?_⟩
  refine CallK.with (scan_spec b (by omega)) (by simp) ?_
  rw [scanA]
  simp -implicitDefEqProofs
  refine CallK.with (scan9_spec b (by omega)) (by simp) ?_
  rw [scanA]
  simp -implicitDefEqProofs
  refine regionK.intro 31 follows_mixed (by kernel_rfl) ?_
  simp -implicitDefEqProofs
  refine CallQ.eq logalive_spec ?_
  simp -implicitDefEqProofs
  refine CallQ.with (logright_spec r) (by simp [eRc]) ?_
  simp -implicitDefEqProofs
  refine CallQ.with (right9r_spec r hf) (by simp [eRc]) ?_
  simp -implicitDefEqProofs
  refine CallQ.with (same9_spec _ _ (fun y hy => (scan_fit b y hy).2.2) (fun y hy => (scan_fit b y hy).2.2)) (by simp) ?_
  rw [sameRs_self]
  simp -implicitDefEqProofs
end Go.Proofs.Ytbgifnlaaophcaa

/- Arguments of the laws on messages, read as plain data. No condition. -/
set_option linter.unusedSimpArgs false
set_option linter.unusedVariables false
set_option maxRecDepth 10000
namespace Go.Proofs.Ytbgifnlaaophcaa
open Go Go.Rw Go.Proofs

theorem own : ownKnob Try.prog.godebug = none := by kernel_rfl
theorem laidOut : laidOutB Try.prog = true := by kernel_rfl

theorem bulkAll_sum {H : Type} : ∀ l : List (DataW H), Rows.uptoBulkAll l = (l.map Rows.uptoBulk).sum
  | [] => by simp [Rows.uptoBulkAll]
  | d :: l => by simp [Rows.uptoBulkAll, bulkAll_sum l]
theorem bulkOK {H : Type} : BulkOK (Rows.uptoBulk (H := H)) where
  one := fun d => by
    cases d with
    | lit l => cases l <;> simp [Rows.uptoBulk]
    | nil => simp [Rows.uptoBulk]
    | ptr d => simp [Rows.uptoBulk]
    | slice elems spare => simp [Rows.uptoBulk]
    | agg parts => simp [Rows.uptoBulk]
    | iface t d => simp [Rows.uptoBulk]
    | map entries => simp [Rows.uptoBulk]
    | held h => simp [Rows.uptoBulk]
  slice := fun e s => by simp only [Rows.uptoBulk, bulkAll_sum]; omega
  agg := fun p => by simp only [Rows.uptoBulk, bulkAll_sum]; omega
theorem bulk_of {H : Type} {l : List (DataW H)} (hk : Rows.uptoSmall H l = true) : Rows.uptoBulkAll l ≤ 1048576 := of_decide_eq_true hk

section
variable {H : Type} {enc0 : TypeId × Value → H} {W : World}
def inI (n : Int) : Prop := -9223372036854775808 ≤ n ∧ n ≤ 9223372036854775807
theorem inI_of {n : Int} (h : IntKind.i64.min ≤ n ∧ n ≤ IntKind.i64.max) : inI n := h
theorem reads_int : Reads Try.prog Rows.uptoBulk enc0 W 3 (fun n : Int => [eI n]) (fun n _ => inI n) := Reads.int Try.underlying3
theorem reads_f64 : Reads Try.prog Rows.uptoBulk enc0 W 50 (fun n : Nat => [AV.v (.float .f64 n)]) (fun n _ => n < 18446744073709551616) := Reads.float Try.underlying50
theorem reads_u32 : Reads Try.prog Rows.uptoBulk enc0 W 38 (fun n : BitVec 32 => [AV.v (.int .u32 (n32 n))]) (fun _ _ => True) := by
  have h : Reads Try.prog Rows.uptoBulk enc0 W 38 (fun n : Int => [AV.v (.int .u32 n)]) (fun n _ => IntKind.u32.min ≤ n ∧ n ≤ IntKind.u32.max) := Reads.int Try.underlying38
  intro fuel cs x hx hb
  obtain ⟨n, h1, h2, h3⟩ := h fuel cs x hx hb
  have e1 : IntKind.u32.min = 0 := rfl
  have e2 : IntKind.u32.max = 4294967295 := rfl
  refine ⟨BitVec.ofNat 32 n.toNat, ?_, trivial⟩
  have e3 : n32 (BitVec.ofNat 32 n.toNat) = n := by
    simp only [n32, BitVec.toNat_ofNat]
    omega
  show Reps _ [AV.v (.int .u32 (n32 _))] cs
  rw [e3]; exact h1
theorem reads_byte : Reads Try.prog Rows.uptoBulk enc0 W 5 encB (fun _ _ => True) := by
  have h : Reads Try.prog Rows.uptoBulk enc0 W 5 (fun n : Int => [AV.v (.int .u8 n)]) (fun n _ => IntKind.u8.min ≤ n ∧ n ≤ IntKind.u8.max) := Reads.int Try.underlying5
  intro fuel cs x hx hb
  obtain ⟨n, h1, h2, h3⟩ := h fuel cs x hx hb
  have e1 : IntKind.u8.min = 0 := rfl
  have e2 : IntKind.u8.max = 255 := rfl
  refine ⟨UInt8.ofNat n.toNat, ?_, trivial⟩
  have e4 : (UInt8.ofNat n.toNat).toNat = n.toNat % 256 := by simp
  have e3 : ((UInt8.ofNat n.toNat).toNat : Int) = n := by rw [e4]; omega
  rw [encB, e3]; exact h1
theorem reads_bytes : Reads Try.prog Rows.uptoBulk enc0 W 30 (fun l : List UInt8 => [AV.sl .no (eB l)]) (fun l n => l.length ≤ n) :=
  (Reads.slice (sz := 1) bulkOK Try.underlying30 (by kernel_rfl) (by omega) reads_byte (by intro a x hx; simp [encB] at hx; subst hx; rfl)).weaken id (fun _ => rfl) fun _ _ h => h.length
theorem reads_view : Reads Try.prog Rows.uptoBulk enc0 W 25 eV (fun v _ => inI v.add ∧ inI v.del) :=
  (Reads.struct bulkOK Try.underlying25 (by kernel_rfl) (.cons (sz := 1) rfl (by kernel_rfl) reads_int (.cons (sz := 1) rfl (by kernel_rfl) reads_int .nil)) (fun _ _ _ ⟨m, k, h1, h2⟩ _ => ⟨m, k, by omega, h2⟩)).weaken (β := PView)
    (fun p => ⟨p.1, p.2.1⟩) (fun p => rfl) (fun p n ⟨m, k, _, h1, m', k', _, h2, _⟩ => ⟨h1, h2⟩)
theorem reads_tag : Reads Try.prog Rows.uptoBulk enc0 W 49 eT (fun v _ => inI v.num ∧ inI v.node) :=
  (Reads.struct bulkOK Try.underlying49 (by kernel_rfl) (.cons (sz := 1) rfl (by kernel_rfl) reads_int (.cons (sz := 1) rfl (by kernel_rfl) reads_int .nil)) (fun _ _ _ ⟨m, k, h1, h2⟩ _ => ⟨m, k, by omega, h2⟩)).weaken (β := PTag)
    (fun p => ⟨p.1, p.2.1⟩) (fun p => rfl) (fun p n ⟨m, k, _, h1, m', k', _, h2, _⟩ => ⟨h1, h2⟩)
def goodC (c : PCell) (_ : Nat) : Prop := inI c.node ∧ inI c.change.add ∧ inI c.change.del
theorem reads_cell : Reads Try.prog Rows.uptoBulk enc0 W 47 eC goodC :=
  (Reads.struct bulkOK Try.underlying47 (by kernel_rfl) (.cons (sz := 1) rfl (by kernel_rfl) reads_int (.cons (sz := 2) rfl (by kernel_rfl) reads_view .nil)) (fun _ _ _ ⟨m, k, h1, h2⟩ _ => ⟨m, k, by omega, h2⟩)).weaken (β := PCell)
    (fun p => ⟨p.1, p.2.1⟩) (fun p => rfl) (fun p n ⟨m, k, _, h1, m', k', _, h2, _⟩ => ⟨h1, h2⟩)
def goodE (x : PEntry) (_ : Nat) : Prop := inI x.key ∧ (inI x.tag.num ∧ inI x.tag.node) ∧ x.value < 18446744073709551616
theorem reads_entry : Reads Try.prog Rows.uptoBulk enc0 W 52 eE goodE :=
  (Reads.struct bulkOK Try.underlying52 (by kernel_rfl) (.cons (sz := 1) rfl (by kernel_rfl) reads_int (.cons (sz := 2) rfl (by kernel_rfl) reads_tag (.cons (sz := 1) rfl (by kernel_rfl) reads_f64 .nil))) (fun _ _ _ ⟨m, k, h1, h2⟩ _ => ⟨m, k, by omega, h2⟩)).weaken (β := PEntry)
    (fun p => ⟨p.1, p.2.1, p.2.2.1⟩) (fun p => rfl) (fun p n ⟨m, k, _, h1, m', k', _, h2, m2, k2, _, h3, _⟩ => ⟨h1, h2, h3⟩)
theorem reads_cells : Reads Try.prog Rows.uptoBulk enc0 W 26 (fun l : List PCell => [AV.sl .no (eCs l)]) (fun l n => Goods goodC l n) :=
  Reads.slice (sz := 3) bulkOK Try.underlying26 (by kernel_rfl) (by omega) reads_cell (by intro a x hx; simp [eC] at hx; rcases hx with rfl | rfl | rfl <;> rfl)
theorem reads_entries : Reads Try.prog Rows.uptoBulk enc0 W 27 (fun l : List PEntry => [AV.sl .no (eEs l)]) (fun l n => Goods goodE l n) :=
  Reads.slice (sz := 4) bulkOK Try.underlying27 (by kernel_rfl) (by omega) reads_entry (by intro a x hx; simp [eE] at hx; rcases hx with rfl | rfl | rfl | rfl <;> rfl)
structure GoodM (m : PMsg) (n : Nat) : Prop where
  kind : inI m.kind
  frm : inI m.frm
  to : inI m.to
  inc : inI m.inc
  seq : inI m.seq
  view : inI m.view.add ∧ inI m.view.del
  lists : ∃ a b, a + b ≤ n ∧ Goods goodC m.cells a ∧ Goods goodE m.book b
set_option maxHeartbeats 2000000 in
theorem reads_msg : Reads Try.prog Rows.uptoBulk enc0 W 29 eM GoodM :=
  (Reads.struct bulkOK Try.underlying29 (by kernel_rfl) (.cons (sz := 1) rfl (by kernel_rfl) reads_int (.cons (sz := 1) rfl (by kernel_rfl) reads_int (.cons (sz := 1) rfl (by kernel_rfl) reads_int (.cons (sz := 1) rfl (by kernel_rfl) reads_int (.cons (sz := 1) rfl (by kernel_rfl) reads_int
    (.cons (sz := 2) rfl (by kernel_rfl) reads_view (.cons (sz := 1) rfl (by kernel_rfl) reads_cells (.cons (sz := 1) rfl (by kernel_rfl) reads_entries .nil)))))))) (fun _ _ _ ⟨m, k, h1, h2⟩ _ => ⟨m, k, by omega, h2⟩)).weaken (β := PMsg)
    (fun p => ⟨p.1, p.2.1, p.2.2.1, p.2.2.2.1, p.2.2.2.2.1, p.2.2.2.2.2.1, p.2.2.2.2.2.2.1, p.2.2.2.2.2.2.2.1⟩) (fun p => rfl)
    (fun p n ⟨_, _, l1, h1, _, _, l2, h2, _, _, l3, h3, _, _, l4, h4, _, _, l5, h5, _, _, l6, h6, _, _, l7, h7, _, _, l8, h8, _⟩ => ⟨h1, h2, h3, h4, h5, h6, _, _, by omega, h7, h8⟩)
theorem GoodM.lens {m : PMsg} {n : Nat} (h : GoodM m n) : m.cells.length + m.book.length ≤ n := by
  obtain ⟨a, b, h1, h2, h3⟩ := h.lists
  have := h2.length; have := h3.length
  omega
theorem GoodM.fit {m : PMsg} {n : Nat} (h : GoodM m n) : ∀ x ∈ m.book, x.value < 18446744073709551616 := by
  obtain ⟨a, b, h1, h2, h3⟩ := h.lists
  intro x hx
  obtain ⟨_, _, h4⟩ := h3.mem x hx
  exact h4.2.2

def zeroMsg : Value := .agg #[.int .i64 0, .int .i64 0, .int .i64 0, .int .i64 0, .int .i64 0, .int .i64 0, .int .i64 0, .slice none 0 0, .slice none 0 0]
def z0 : DataW H := .lit (.int .i64 0)
def zeroMsgD : DataW H := .agg [z0, z0, z0, z0, z0, .agg [z0, z0], .nil, .nil]
theorem reps_two {I : Imm} {x1 x2 : AV} {y1 y2 : Value} (h1 : Rep I x1 y1) (h2 : Rep I x2 y2) : Reps I [x1, x2] [y1, y2] := cell_reps (reps_one h1) [x2] [y2] (reps_one h2)
theorem reps_three {I : Imm} {x1 x2 x3 : AV} {y1 y2 y3 : Value} (h1 : Rep I x1 y1) (h2 : Rep I x2 y2) (h3 : Rep I x3 y3) : Reps I [x1, x2, x3] [y1, y2, y3] := cell_reps (reps_one h1) [x2, x3] [y2, y3] (reps_two h2 h3)
/-- an argument that is a struct -/
theorem arg_agg {t : TypeId} {fs : Array Field} {α : Type} {enc : α → List AV} {good : α → Nat → Prop} (hr : Reads Try.prog Rows.uptoBulk enc0 W t enc good) (ht : Try.prog.underlying t = some (.struct fs)) {v : Value} {d : DataW H} {p : List MemPlace} {base : Nat}
    (hok : Value.okWide Try.prog W .any base t v) (h : DataW.Trod enc0 Try.prog W 0 (fun _ => true) true t v d p) (hb : Rows.uptoBulk d ≤ 1048576) : ∃ a, Rep (allI W) (.agg (enc a)) v ∧ good a (Rows.uptoBulk d) := by
  simp only [Value.okWide, ht] at hok
  obtain ⟨cs, rfl, _, _⟩ := hok
  obtain ⟨fuel, hf⟩ := h
  obtain ⟨a, h1, h2⟩ := hr fuel _ _ hf (show Rows.uptoBulk d ≤ 281474976710656 by omega)
  refine ⟨a, ?_, h2⟩
  have : cs = (Value.agg cs).cells.toList.toArray := by simp [Value.cells]
  conv => rhs; rw [this]
  exact .agg _ h1.1 h1.2
/-- an argument of one cell -/
theorem arg_one {t : TypeId} {α : Type} {enc : α → AV} {good : α → Nat → Prop} (hr : Reads Try.prog Rows.uptoBulk enc0 W t (fun a => [enc a]) good) {v : Value} {d : DataW H} {p : List MemPlace}
    (hv : v.cells.toList = [v]) (h : DataW.Trod enc0 Try.prog W 0 (fun _ => true) true t v d p) (hb : Rows.uptoBulk d ≤ 1048576) : ∃ a, Rep (allI W) (enc a) v ∧ good a (Rows.uptoBulk d) := by
  obtain ⟨fuel, hf⟩ := h
  obtain ⟨a, h1, h2⟩ := hr fuel _ _ hf (show Rows.uptoBulk d ≤ 281474976710656 by omega)
  rw [hv] at h1
  exact ⟨a, h1.2 0 _ _ rfl rfl, h2⟩
/-- a value that is no struct is one cell -/
theorem one_cell {t : TypeId} {u : TypeDesc} (ht : Try.prog.underlying t = some u) (h1 : ∀ fs, u ≠ .struct fs) (h2 : ∀ n e, u ≠ .array n e) {v : Value} {base : Nat} (hok : Value.okWide Try.prog W .any base t v) : v.cells.toList = [v] := by
  unfold Value.okWide at hok
  rw [ht] at hok
  have hcell : Cell.okWide Try.prog W .any base t v := by
    cases u <;> first | exact hok | exact absurd rfl (h1 _) | exact absurd rfl (h2 _ _)
  cases v with
  | agg cs =>
    unfold Cell.okWide at hcell
    rw [ht] at hcell
    cases u <;> simp [Cell.ok, ht] at hcell
  | _ => rfl
end
end Go.Proofs.Ytbgifnlaaophcaa

/- Arguments of the laws on records, read as plain data. No condition. -/
set_option linter.unusedSimpArgs false
set_option linter.unusedVariables false
set_option maxRecDepth 10000
namespace Go.Proofs.Ytbgifnlaaophcaa
open Go Go.Rw Go.Proofs

section
variable {H : Type} {enc0 : TypeId × Value → H} {W : World}
def goodR (r : PRec) (_ : Nat) : Prop := inI r.kind ∧ (inI r.view.add ∧ inI r.view.del) ∧ goodC r.cell 0 ∧ goodE r.entry 0 ∧ inI r.n
theorem goodR.fit {r : PRec} {n : Nat} (h : goodR r n) : fitR r := h.2.2.2.1.2.2
set_option maxHeartbeats 2000000 in
theorem reads_rec : Reads Try.prog Rows.uptoBulk enc0 W 61 eRc goodR :=
  (Reads.struct bulkOK Try.underlying61 (by kernel_rfl) (.cons (sz := 1) rfl (by kernel_rfl) reads_int (.cons (sz := 2) rfl (by kernel_rfl) reads_view (.cons (sz := 3) rfl (by kernel_rfl) reads_cell (.cons (sz := 4) rfl (by kernel_rfl) reads_entry (.cons (sz := 1) rfl (by kernel_rfl) reads_int .nil))))) (fun _ _ _ ⟨m, k, h1, h2⟩ _ => ⟨m, k, by omega, h2⟩)).weaken (β := PRec)
    (fun p => ⟨p.1, p.2.1, p.2.2.1, p.2.2.2.1, p.2.2.2.2.1⟩) (fun p => rfl)
    (fun p n ⟨_, _, _, h1, _, _, _, h2, _, _, _, h3, _, _, _, h4, _, _, _, h5, _⟩ => ⟨h1, h2, h3, h4, h5⟩)
theorem reads_recs : Reads Try.prog Rows.uptoBulk enc0 W 54 (fun l : List PRec => [AV.sl .no (eRs l)]) (fun l n => Goods goodR l n) :=
  Reads.slice (sz := 11) bulkOK Try.underlying54 (by kernel_rfl) (by omega) reads_rec (by intro a x hx; simp [eRc] at hx; rcases hx with rfl | rfl | rfl | rfl | rfl | rfl | rfl | rfl | rfl | rfl | rfl <;> rfl)
theorem goods_fits {l : List PRec} {n : Nat} (h : Goods goodR l n) : ∀ r ∈ l, fitR r := fun r hr => by
  obtain ⟨_, _, h2⟩ := h.mem r hr
  exact h2.fit
def zeroRec : Value := .agg #[.int .i64 0, .int .i64 0, .int .i64 0, .int .i64 0, .int .i64 0, .int .i64 0, .int .i64 0, .int .i64 0, .int .i64 0, .float .f64 0, .int .i64 0]
def zeroRecD : DataW H := .agg [z0, .agg [z0, z0], .agg [z0, .agg [z0, z0]], .agg [z0, .agg [z0, z0], .lit (.float .f64 0)], z0]
end
end Go.Proofs.Ytbgifnlaaophcaa

/- The law LogBack, walked. No condition. -/
set_option linter.unusedSimpArgs false
set_option linter.unusedVariables false
set_option maxRecDepth 10000
namespace Go.Proofs.Ytbgifnlaaophcaa
open Go Go.Rw Go.Proofs
-- a goal is never to be run by the elaborator
attribute [local irreducible] awp aops aop aopsE aeff

def BkI (l : List PRec) (b : List UInt8) (t : Nat → AV) (h : Nat → Option (List AV)) : Prop := ∃ (k : Nat) (ta tw : Tag), t 1 = .sl .no (eB b) ∧ t 27 = .sl .no (eRs l) ∧ t 28 = eI l.length ∧ t 29 = eI k ∧ t 5 = .sl ta (eB (recsB (wantR l k))) ∧ t 6 = .sl tw (eRs (wantR l k)) ∧
  appOK ta 5 1 ∧ appOK tw 61 11 ∧ k ≤ l.length
def BkM (l : List PRec) (b : List UInt8) (t : Nat → AV) (h : Nat → Option (List AV)) : Prop := ∃ (ta tw : Tag), t 1 = .sl .no (eB b) ∧ t 5 = .sl ta (eB (recsB (wantR l l.length))) ∧ t 6 = .sl tw (eRs (wantR l l.length))
def BkJ (b : List UInt8) (t : Nat → AV) (h : Nat → Option (List AV)) : Prop := ∃ (k : Nat) (tag : Tag), t 1 = .sl .no (eB b) ∧ t 14 = eI (scanR b).2 ∧ t 80 = .sl .no (eRs (scanR b).1) ∧ t 81 = eI (scanR b).1.length ∧ t 82 = eI k ∧ t 15 = .sl tag (eB (recsB ((scanR b).1.take k))) ∧ appOK tag 5 1 ∧ k ≤ (scanR b).1.length
def BkN (b : List UInt8) (t : Nat → AV) (h : Nat → Option (List AV)) : Prop := ∃ (tag : Tag), t 1 = .sl .no (eB b) ∧ t 14 = eI (scanR b).2 ∧ t 15 = .sl tag (eB (recsB (scanR b).1))
theorem logback_law (l : List PRec) (b : List UInt8) (hf : ∀ r ∈ l, fitR r) (hb : b.length ≤ 1048576) : ASpec Try.prog 13 [.sl .no (eRs l), .sl .no (eB b)] (· = .v (.bool true)) := by
  refine ASpec.of_awp Try.func13 (by kernel_rfl) rfl (by rw [Try.results13]) Try.ntmps13 ?_
  simp -implicitDefEqProofs
  refine CallK.eq logalive_spec ?_
  simp -implicitDefEqProofs
  intro _
  by_cases h40 : 40 < (l.length : Int)
  · simp -implicitDefEqProofs [h40]
  have h40' : l.length ≤ 40 := by omega
  simp -implicitDefEqProofs [h40]
  intro _
  refine loopK.post (BkI l b) (fun t => l.length - natOf (t 29)) (BkM l b) ?_ ?_ ?_
  · exact ⟨0, _, _, by simp, by simp, by simp, by simp, by simp [wantR, eB]; rfl, by simp [wantR, eRs]; rfl, by simp, by simp, by omega⟩
  · rintro t hh ⟨k, ta, tw, g1, g27, g28, g29, g5, g6, ga, gw, hk⟩
    by_cases hlt : k < l.length
    · have hlt' : (k : Int) < (l.length : Int) := by omega
      obtain ⟨x, hx⟩ : ∃ x, l[k]? = some x := ⟨l[k], by simp [hlt]⟩
      have hmem := List.mem_of_getElem? hx
      have hw : IntKind.i64.wrap ((k : Int) + 1) = ((k + 1 : Nat) : Int) := by rw [w64 (by omega) (by omega)]; omega
      have hs := want_succ hx
      have hl1 := want_bytes hf k
      have hl2 := want_len l k
      simp -implicitDefEqProofs [g27, g28, g29, hlt', hx, eRc]
      refine allocK.intro (fun b1 hb1 => ?_)
      simp -implicitDefEqProofs
      refine CallK.with (logbytes_spec x (hf x hmem)) (by simp [eRc]) ?_
      cases hr : rightR x
      · rw [hr] at hs
        have hs' : wantR l (k + 1) = wantR l k := by simpa using hs
        simp -implicitDefEqProofs [bytesR, hr, bytesA]
        refine CallK.with (logright_spec x) (by simp [eRc]) ?_
        simp -implicitDefEqProofs [hr, g29, hw]
        exact ⟨⟨k + 1, ta, tw, by simp [g1], by simp [g27], by simp [g28], by simp, by simp [g5, hs'], by simp [g6, hs'], ga, gw, by omega⟩, by omega⟩
      · rw [hr] at hs
        have hs' : wantR l (k + 1) = wantR l k ++ [x] := by simpa using hs
        have hlen := recB_length hr (hf x hmem)
        have hlen2 := bodyR_length hr (hf x hmem)
        have e1 : eB (recsB (wantR l k)) ++ eB (recB x) = eB (recsB (wantR l (k + 1))) := by rw [hs', recsB_append, recsB_cons]; simp [eB]
        have e2 : eRs (wantR l k) ++ [eRc x] = eRs (wantR l (k + 1)) := by rw [hs']; simp [eRs]
        simp -implicitDefEqProofs [bytesR, hr, bytesA]
        refine CallK.with (logright_spec x) (by simp [eRc]) ?_
        simp -implicitDefEqProofs [hr, g5, ga, g6, gw, g29, hw]
        refine ⟨by omega, by omega, ⟨k + 1, appTag ta 5 1 (eB (recB x)), appTag tw 61 11 [eRc x], by simp [g1], by simp [g27], by simp [g28], by simp, by simp [hs', recsB_append, recsB_cons], by simp [hs', eRs, eRc], by simp [ga], by simp [gw], by omega⟩, by omega⟩
    · have hlt' : ¬ (k : Int) < (l.length : Int) := by omega
      obtain rfl : k = l.length := by omega
      simp -implicitDefEqProofs [g28, g29, hlt']
      exact ⟨ta, tw, by simp [g1], by simp [g5], by simp [g6]⟩
  rintro t hh ⟨ta, tw, g1, g5, g6⟩
  have hl1 := want_bytes hf l.length
  have hl2 := want_len l l.length
  have hok := want_ok (k := l.length) hf
  generalize wantR l l.length = w at *
  have hz : eB (recsB w) ++ [[AV.v (.int .u8 0)]] = eB (recsB w ++ [0]) := by simp [eB, encB]
  simp -implicitDefEqProofs [g5]
  rw [hz]
  refine ⟨by omega, by omega, ?_⟩
  refine CallK.with (scan_spec (recsB w ++ [0]) (by simp; omega)) rfl ?_
  rw [scanA, scan_back hok]
  simp -implicitDefEqProofs [g5, g6]
  intro _
  refine CallK.with (logSame_spec (w.map cleanR) w) rfl ?_
  rw [sameRs_clean]
  have hso := scan_own b
  have hsf := scan_fit b
  simp -implicitDefEqProofs [g1]
  refine ⟨by omega, ?_⟩
  refine CallK.with (scan_spec b (by omega)) (by simp) ?_
  rw [scanA]
  simp -implicitDefEqProofs
  intro _
  refine loopK.post (BkJ b) (fun t => (scanR b).1.length - natOf (t 82)) (BkN b) ?_ ?_ ?_
  · exact ⟨0, _, by simp [g1], by simp, by simp, by simp, by simp, by simp [eB]; rfl, by simp, by omega⟩
  · clear g1 g5 g6
    rintro t hh ⟨k, tag, g1, g14, g80, g81, g82, g15, gt, hk⟩
    have hkl : (scanR b).1.length ≤ b.length := by
      have h1 := hso.1
      have h2 : (scanR b).1.length ≤ (recsB (scanR b).1).length := by
        generalize (scanR b).1 = l0
        induction l0 with
        | nil => simp
        | cons r l0 ih => have := recB_pos r; rw [recsB_cons, List.length_append, List.length_cons]; omega
      omega
    by_cases hlt : k < (scanR b).1.length
    · have hlt' : (k : Int) < ((scanR b).1.length : Int) := by omega
      obtain ⟨x, hx⟩ : ∃ x, (scanR b).1[k]? = some x := ⟨(scanR b).1[k], by simp [hlt]⟩
      have hmem := List.mem_of_getElem? hx
      have hw : IntKind.i64.wrap ((k : Int) + 1) = ((k + 1 : Nat) : Int) := by rw [w64 (by omega) (by omega)]; omega
      obtain ⟨r1, r2, r3⟩ := hsf x hmem
      have htk : (scanR b).1.take (k + 1) = (scanR b).1.take k ++ [x] := by rw [List.take_add_one, hx]; rfl
      have hone : recsB ((scanR b).1.take (k + 1)) = recsB ((scanR b).1.take k) ++ recB x := by
        rw [htk, recsB_append, recsB_cons, recsB_nil, List.append_nil]
      have hl3 := recsB_take_le (scanR b).1 (k + 1)
      rw [hone, List.length_append] at hl3
      simp -implicitDefEqProofs [g80, g81, g82, hlt', hx, eRc]
      refine allocK.intro (fun b1 hb1 => ?_)
      simp -implicitDefEqProofs
      refine CallK.with (logbytes_spec x r3) (by simp [eRc]) ?_
      rw [bytesR, if_pos r1, bytesA]
      simp -implicitDefEqProofs [g15, gt, g82, hw]
      refine ⟨by omega, ⟨k + 1, appTag tag 5 1 (eB (recB x)), by simp [g1], by simp [g14], by simp [g80], by simp [g81], by simp, by simp [hone], by simp [gt], by omega⟩, by omega⟩
    · have hlt' : ¬ (k : Int) < ((scanR b).1.length : Int) := by omega
      rw [List.take_of_length_le (by omega)] at g15
      simp -implicitDefEqProofs [g81, g82, hlt']
      exact ⟨tag, by simp [g1], by simp [g14], by simp [g15]⟩
  clear g1 g5 g6
  rintro t hh ⟨tag, g1, g14, g15⟩
  have h1 : ((scanR b).2 : Int) ≤ (b.length : Int) := by omega
  have h2 : eB (b.take (scanR b).2) = eB (recsB (scanR b).1) := by rw [hso.2.1]
  simp -implicitDefEqProofs
  refine regionK.intro 13 follows_mixed (by kernel_rfl) ?_
  simp -implicitDefEqProofs [g1, g14, g15, h1, h2, hso.2.1]
  try trace_state
end Go.Proofs.Ytbgifnlaaophcaa

/- Contracts: a disk called by laws; ref09.Add. No condition. -/
set_option linter.unusedSimpArgs false
set_option linter.unusedVariables false
set_option maxRecDepth 10000
namespace Go.Proofs.Ytbgifnlaaophcaa
open Go Go.Rw Go.Proofs
-- a goal is never to be run by the elaborator
attribute [local irreducible] awp aops aop aopsE aeff

theorem fuse_call (d : Nat) (D : PDisk) (q : Option Nat) (n : Int) (h : Nat → Option (List AV)) (hd : DiskAt d D q h) :
    MSpec Try.prog 49 [.ptr d 0, eI n] h (fun r h' => r = .tup [] ∧ ∃ q', DiskAt d { D with fuse := max (-1) n } q' h') :=
  (fuse_spec d D q n h hd).mono fun r h' ⟨e, hd'⟩ => ⟨e, q, hd'⟩
theorem crash_call (d : Nat) (D : PDisk) (q : Option Nat) (n : Int) (ho : OkD D) (h : Nat → Option (List AV)) (hd : DiskAt d D q h) :
    MSpec Try.prog 47 [.ptr d 0, eI n] h (fun r h' => r = .tup [] ∧ ∃ q', DiskAt d (crashD D n) q' h') :=
  (crash_spec d D q n h hd ho).mono fun r h' ⟨e, hd'⟩ => ⟨e, q, hd'⟩
theorem diskcut_call (d : Nat) (D : PDisk) (q : Option Nat) (n : Int) (ho : OkD D) (h : Nat → Option (List AV)) (hd : DiskAt d D q h) :
    MSpec Try.prog 55 [.ptr d 0, eI n] h (fun r h' => r = .tup [] ∧ ∃ q', DiskAt d (cutD D n) q' h') :=
  (diskcut_spec d D q n h hd ho).mono fun r h' ⟨e, hd'⟩ => ⟨e, q, hd'⟩
theorem off_call (d : Nat) (D : PDisk) (q : Option Nat) (h : Nat → Option (List AV)) (hd : DiskAt d D q h) :
    MSpec Try.prog 53 [.ptr d 0] h (fun r h' => r = .v (.bool D.off) ∧ ∃ q', DiskAt d D q' h') :=
  (off_spec d D q h hd).mono fun r h' ⟨e, hd'⟩ => ⟨e, q, hd'⟩
theorem DiskAt.along {d : Nat} {D : PDisk} {q : Option Nat} {h H : Nat → Option (List AV)} (hd : DiskAt d D q h) (hk : ∀ b c, (b = d ∨ q = some b) → h b = some c → H b = some c) : DiskAt d D q H := by
  refine hd.keep fun b hb => ?_
  obtain ⟨hq, x, hx, hdat⟩ := hd
  rcases hb with rfl | hb
  · rw [hx, hk _ _ (.inl rfl) hx]
  · rcases hdat with ⟨h1, _⟩ | ⟨b', c, cells, h1, h2, h3, h4, h5⟩
    · rw [h1] at hb; simp at hb
    · rw [h1] at hb
      cases hb
      rw [h3, hk _ _ (.inr h1) h3]
/-- two disks with nothing in common -/
def ApartD (d : Nat) (q : Option Nat) (d2 : Nat) (q2 : Option Nat) : Prop := d ≠ d2 ∧ q ≠ some d2 ∧ q2 ≠ some d ∧ ∀ b, q = some b → q2 ≠ some b
/-- a disk is looked at in a region that draws its order -/
theorem disk_loud {P : Program} {M : List Nat} {g : FuncId} {args args' : List AV} {s : ASt} {dst : Option Tmp} {K : ASt → Prop} {d : Nat} {D : PDisk} {q : Option Nat} {R : AV → Prop}
    (hm : ∀ h, DiskAt d D q h → MSpec P g args' h (fun r h' => R r ∧ DiskAt d D q h')) (ha : args = args') (hM : d ∈ M) (hqM : ∀ b, q = some b → b ∈ M) (hd : DiskAt d D q s.h)
    (hk : ∀ r H, R r → DiskAt d D q H → (∀ b c, ¬ b = d → q ≠ some b → s.h b = some c → H b = some c) → @force r ⟨fun r => K ({ s with h := H }.put dst r)⟩) : @LoudK P M g args s dst ⟨K⟩ := by
  refine LoudK.mh (hm (foot d q s.h) (foot_at hd)) ha (fun b hb => ?_) (SubH.of fun b c hb => ?_) ?_
  · unfold foot
    rw [if_neg]
    rintro (rfl | hq)
    · exact hb hM
    · exact hb (hqM _ hq)
  · unfold foot at hb
    split at hb
    · exact hb
    · simp at hb
  · rintro r h' H ⟨hr, hd'⟩ h1 h2 h3
    have e : DiskAt d D q H := hd'.along fun b c _ hb => h2 _ _ hb
    refine hk r H hr e fun b c hb hqb hs => ?_
    have hn : foot d q s.h b = none := by simp [foot, hb, hqb]
    exact h1 b c hn hs
theorem safe_loud (d : Nat) (D : PDisk) (q : Option Nat) (h : Nat → Option (List AV)) (hd : DiskAt d D q h) :
    MSpec Try.prog 43 [.ptr d 0] h (fun r h' => r = eI D.safe ∧ DiskAt d D q h') := safe_spec d D q h hd
theorem off_loud (d : Nat) (D : PDisk) (q : Option Nat) (h : Nat → Option (List AV)) (hd : DiskAt d D q h) :
    MSpec Try.prog 53 [.ptr d 0] h (fun r h' => r = .v (.bool D.off) ∧ DiskAt d D q h') := off_spec d D q h hd
theorem bytes_loud (d : Nat) (D : PDisk) (q : Option Nat) (hl : D.data.length ≤ 1000000000) (h : Nat → Option (List AV)) (hd : DiskAt d D q h) :
    MSpec Try.prog 42 [.ptr d 0] h (fun r h' => (∃ tag, r = .sl tag (eB D.data)) ∧ DiskAt d D q h') :=
  (bytes_spec d D q h hd hl).mono fun r h' ⟨tag, e, hd'⟩ => ⟨⟨tag, e⟩, hd'⟩
theorem disk_callR {P : Program} {g : FuncId} {args args' : List AV} {s : ASt} {dst : Option Tmp} {K : ASt → Prop} {d : Nat} {D D' : PDisk} {q : Option Nat} {R : AV → Prop}
    (hm : ∀ h, DiskAt d D q h → MSpec P g args' h (fun r h' => R r ∧ DiskAt d D' q h')) (ha : args = args') (hd : DiskAt d D q s.h)
    (hk : ∀ r H, R r → DiskAt d D' q H → (∀ b c, ¬ b = d → q ≠ some b → s.h b = some c → H b = some c) → @force r ⟨fun r => K ({ s with h := H }.put dst r)⟩) : @CallK P g args s dst ⟨K⟩ := by
  refine CallK.mh (hm (foot d q s.h) (foot_at hd)) ha (SubH.of fun b c hb => ?_) ?_
  · unfold foot at hb
    split at hb
    · exact hb
    · simp at hb
  · rintro r h' H ⟨hr, hd'⟩ h1 h2 h3
    have e : DiskAt d D' q H := hd'.along fun b c _ hb => h2 _ _ hb
    refine hk r H hr e fun b c hb hqb hs => ?_
    have hn : foot d q s.h b = none := by simp [foot, hb, hqb]
    exact h1 b c hn hs
theorem logread_loud (d : Nat) (D : PDisk) (q : Option Nat) (hl : D.data.length ≤ 1000000000) (h : Nat → Option (List AV)) (hd : DiskAt d D q h) :
    MSpec Try.prog 54 [.ptr d 0] h (fun r h' => r = .sl .no (eRs (scanR D.data).1) ∧ DiskAt d D q h') := by
  refine MSpec.of_awp Try.func54 (by kernel_rfl) rfl (by rw [Try.results54]) Try.ntmps54 ?_
  simp -implicitDefEqProofs
  refine disk_callR (D' := D) (bytes_loud d D q hl) rfl hd ?_
  rintro _ H ⟨tag, rfl⟩ hd' _
  simp -implicitDefEqProofs
  refine CallK.with (scan_spec D.data hl) (by simp) ?_
  rw [scanA]
  simp -implicitDefEqProofs
  exact ⟨H, SubH_refl H, hd'⟩

def zD8 : List AV := [.sl .nil [], eI 0, eI 0, eI 0, .v (.bool false)]
def A9I (D : PDisk) (l : List PRec) (b1 b2 : Nat) (t : Nat → AV) (h : Nat → Option (List AV)) : Prop := ∃ k : Nat, t 1 = .sl .no (eRs l) ∧ t 2 = .ptr b1 0 ∧ t 4 = .ptr b2 0 ∧ t 14 = .sl .no (eRs l) ∧ t 15 = eI l.length ∧ t 16 = eI k ∧ h b1 = some (eD D) ∧ h b2 = some zD8 ∧ k ≤ l.length ∧ ∀ r ∈ l.take k, rightR r = true
def A9M (D : PDisk) (l : List PRec) (b1 b2 : Nat) (t : Nat → AV) (h : Nat → Option (List AV)) : Prop := t 1 = .sl .no (eRs l) ∧ t 2 = .ptr b1 0 ∧ t 4 = .ptr b2 0 ∧ h b1 = some (eD D) ∧ h b2 = some zD8 ∧ ∀ r ∈ l, rightR r = true
def A9J (D : PDisk) (l : List PRec) (b1 b2 : Nat) (t : Nat → AV) (h : Nat → Option (List AV)) : Prop := ∃ (k : Nat) (tag : Tag), t 2 = .ptr b1 0 ∧ t 4 = .ptr b2 0 ∧ t 8 = .sl tag (eB (recsB (l.take k))) ∧ t 26 = .sl .no (eRs l) ∧ t 27 = eI l.length ∧ t 28 = eI k ∧ appOK tag 5 1 ∧ h b1 = some (eD D) ∧ h b2 = some zD8 ∧ k ≤ l.length
def A9N (D : PDisk) (l : List PRec) (b1 b2 : Nat) (t : Nat → AV) (h : Nat → Option (List AV)) : Prop := ∃ (tag : Tag), t 2 = .ptr b1 0 ∧ t 4 = .ptr b2 0 ∧ t 8 = .sl tag (eB (recsB l)) ∧ h b1 = some (eD D) ∧ h b2 = some zD8
theorem ne_of_none {h : Nat → Option (List AV)} {b b' : Nat} {c : List AV} (h1 : h b = some c) (h2 : h b' = none) : ¬ b = b' := by rintro rfl; rw [h1] at h2; simp at h2
theorem add9_spec (D : PDisk) (l : List PRec) (ho : OkD D) (hfit : ∀ r ∈ l, fitR r) (hl : l.length ≤ 10000000) : ASpec Try.prog 46 [.agg (eD D), .sl .no (eRs l)] (· = .tup [.agg (eD (add8D D l).1), eI (add8D D l).2]) := by
  refine ASpec.of_awp Try.func46 (by kernel_rfl) rfl (by rw [Try.results46]) Try.ntmps46 ?_
  simp -implicitDefEqProofs [eD]
  refine allocK.intro (fun b1 hb1 => ?_)
  simp -implicitDefEqProofs
  refine allocK.intro (fun b2 hb2 => ?_)
  have hbb : ¬ b1 = b2 := by rintro rfl; simp at hb2
  have hbb' : ¬ b2 = b1 := fun h => hbb h.symm
  simp -implicitDefEqProofs [hbb, hbb']
  intro _
  refine loopK.post (A9I D l b1 b2) (fun t => l.length - natOf (t 16)) (A9M D l b1 b2) ?_ ?_ ?_
  · exact ⟨0, by simp, by simp, by simp, by simp, by simp, by simp, by simp [hbb, eD], by simp [hbb', zD8], by omega, by simp⟩
  · rintro t hh ⟨k, g1, g2, g4, g14, g15, g16, gb, gb2, hk, hrt⟩
    by_cases hlt : k < l.length
    · have hlt' : (k : Int) < (l.length : Int) := by omega
      obtain ⟨x, hx⟩ : ∃ x, l[k]? = some x := ⟨l[k], by simp [hlt]⟩
      have hmem := List.mem_of_getElem? hx
      have hw : IntKind.i64.wrap ((k : Int) + 1) = ((k + 1 : Nat) : Int) := by rw [w64 (by omega) (by omega)]; omega
      have htk : l.take (k + 1) = l.take k ++ [x] := by rw [List.take_add_one, hx]; rfl
      simp -implicitDefEqProofs [g14, g15, g16, hlt', hx, eRc]
      refine allocK.intro (fun b3 hb3 => ?_)
      have n1 := ne_of_none gb hb3
      have n2 := ne_of_none gb2 hb3
      simp -implicitDefEqProofs
      refine CallK.with (right9r_spec x (hfit x hmem)) (by simp [eRc]) ?_
      cases hr : rightR x
      · have e : add8D D l = (D, 91) := by
          unfold add8D
          rw [if_neg]
          simp only [List.all_eq_true]
          intro h9
          rw [h9 x hmem] at hr; simp at hr
        rw [e]
        rw [eD] at gb
        rw [zD8] at gb2
        have n1' : ¬ b3 = b1 := fun h => n1 h.symm
        have n2' : ¬ b3 = b2 := fun h => n2 h.symm
        simp -implicitDefEqProofs [g2, g4, gb, gb2, n1, n2, n1', n2', hbb, hbb', eD]
      · simp -implicitDefEqProofs [g16, hw]
        refine ⟨⟨k + 1, by simp [g1], by simp [g2], by simp [g4], by simp [g14], by simp [g15], by simp, by simp [n1, gb], by simp [n2, gb2], by omega, ?_⟩, by omega⟩
        intro r h9
        rw [htk] at h9
        rcases List.mem_append.1 h9 with h9 | h9
        · exact hrt r h9
        · rw [List.mem_singleton.1 h9]; exact hr
    · have hlt' : ¬ (k : Int) < (l.length : Int) := by omega
      simp -implicitDefEqProofs [g15, g16, hlt']
      rw [List.take_of_length_le (by omega)] at hrt
      exact ⟨by simp [g1], by simp [g2], by simp [g4], gb, gb2, hrt⟩
  rintro t hh ⟨g1, g2, g4, gb, gb2, hrt⟩
  simp -implicitDefEqProofs [g1]
  intro _
  refine loopK.post (A9J D l b1 b2) (fun t => l.length - natOf (t 28)) (A9N D l b1 b2) ?_ ?_ ?_
  · exact ⟨0, _, by simp [g2], by simp [g4], by simp [eB]; rfl, by simp, by simp, by simp, by simp, gb, gb2, by omega⟩
  · clear g1 g2 g4 gb gb2
    rintro t hh ⟨k, tag, g2, g4, g8, g26, g27, g28, gt, gb, gb2, hk⟩
    by_cases hlt : k < l.length
    · have hlt' : (k : Int) < (l.length : Int) := by omega
      obtain ⟨x, hx⟩ : ∃ x, l[k]? = some x := ⟨l[k], by simp [hlt]⟩
      have hmem := List.mem_of_getElem? hx
      have hw : IntKind.i64.wrap ((k : Int) + 1) = ((k + 1 : Nat) : Int) := by rw [w64 (by omega) (by omega)]; omega
      have hlen := recsB_le (l.take k) (fun r hr => ⟨hrt r (List.mem_of_mem_take hr), hfit r (List.mem_of_mem_take hr)⟩)
      have hlen2 := recB_length (hrt x hmem) (hfit x hmem)
      have hlen3 := bodyR_length (hrt x hmem) (hfit x hmem)
      rw [List.length_take] at hlen
      have htk : l.take (k + 1) = l.take k ++ [x] := by rw [List.take_add_one, hx]; rfl
      have hone : recsB (l.take (k + 1)) = recsB (l.take k) ++ recB x := by
        rw [htk, recsB_append, recsB_cons, recsB_nil, List.append_nil]
      simp -implicitDefEqProofs [g26, g27, g28, hlt', hx, eRc]
      refine allocK.intro (fun b3 hb3 => ?_)
      have n1 := ne_of_none gb hb3
      have n2 := ne_of_none gb2 hb3
      simp -implicitDefEqProofs
      refine CallK.with (bytes9_spec x (hfit x hmem)) (by simp [eRc]) ?_
      rw [bytesR, if_pos (hrt x hmem), bytesA]
      simp -implicitDefEqProofs [g8, gt, g28, hw]
      rw [← hone]
      exact ⟨by omega, ⟨k + 1, appTag tag 5 1 (eB (recB x)), by simp [g2], by simp [g4], by simp, by simp [g26], by simp [g27], by simp, by simp [gt], by simp [n1, gb], by simp [n2, gb2], by omega⟩, by omega⟩
    · have hlt' : ¬ (k : Int) < (l.length : Int) := by omega
      simp -implicitDefEqProofs [g27, g28, hlt']
      rw [List.take_of_length_le (by omega)] at g8
      exact ⟨tag, by simp [g2], by simp [g4], by simp [g8], gb, gb2⟩
  clear g1 g2 g4 gb gb2
  rintro t hh ⟨tag, g2, g4, g8, gb, gb2⟩
  have hlen := recsB_le l (fun r hr => ⟨hrt r hr, hfit r hr⟩)
  have hall : l.all rightR = true := List.all_eq_true.2 hrt
  rw [eD] at gb
  rw [zD8] at gb2
  simp -implicitDefEqProofs [g2, g8, gb]
  refine CallK.with (append8_spec D (recsB l) ho (by omega)) (by simp [eD]) ?_
  by_cases h0 : (append8D D (recsB l)).2 = 0
  · have e : add8D D l = (syncD (append8D D (recsB l)).1, 0) := by unfold add8D; rw [if_pos hall, if_pos h0]
    rw [e, h0]
    simp -implicitDefEqProofs [g2, g4, gb, gb2, hbb, hbb', eD]
    refine CallK.with (sync8_spec (append8D D (recsB l)).1) (by simp [eD]) ?_
    simp -implicitDefEqProofs [g2, g4, gb, gb2, hbb, hbb', eD]
  · have e : add8D D l = append8D D (recsB l) := by unfold add8D; rw [if_pos hall, if_neg h0]
    rw [e]
    simp -implicitDefEqProofs [g2, g4, gb, gb2, hbb, hbb', eD, h0]
end Go.Proofs.Ytbgifnlaaophcaa

/- The law LogNames. No condition. -/
set_option linter.unusedSimpArgs false
set_option linter.unusedVariables false
set_option maxRecDepth 10000
namespace Go.Proofs.Ytbgifnlaaophcaa
open Go Go.Rw Go.Proofs
-- a goal is never to be run by the elaborator
attribute [local irreducible] awp aops aop aopsE aeff

theorem new_disk {d : Nat} {D : PDisk} {h' H : Nat → Option (List AV)} (hd0 : DiskAt d D none h') (hH : ∀ b c, h' b = some c → H b = some c) : DiskAt d D none H := by
  obtain ⟨hq, x, hx, hdat⟩ := hd0
  refine ⟨hq, x, hH _ _ hx, ?_⟩
  rcases hdat with e | ⟨b, c, cells, e, _⟩
  · exact .inl e
  · simp at e
theorem zero_add (D : PDisk) : addD D [zR] = (D, 91) := by
  have h : rightR zR = false := by decide +kernel
  unfold addD
  rw [if_neg (by simp [h])]
theorem lognames_spec : ASpec Try.prog 10 [] (· = .v (.bool true)) := by
  refine ASpec.of_awp Try.func10 (by kernel_rfl) rfl (by rw [Try.results10]) Try.ntmps10 ?_
  simp -implicitDefEqProofs
  refine CallK.with (scan_spec [] (by simp)) (by simp [eB]) ?_
  have hz : scanR [] = ([], 0) := rfl
  rw [scanA, hz]
  simp -implicitDefEqProofs [eRs]
  refine CallK.eq logalive_spec ?_
  simp -implicitDefEqProofs [eRs]
  refine CallK.fresh (new_spec 9) rfl ?_
  rintro _ h' H ⟨d, rfl, hd0⟩ _ hH _
  have hd := new_disk hd0 hH
  simp -implicitDefEqProofs
  refine disk_call (logadd_spec d _ none [zR] (by simp [OkD]; omega) (by simp [fitR, zR, zE]) (by simp)) (by simp [eRs, eRc, zR, zV, zC, zE]) hd ?_
  rw [zero_add]
  rintro _ q1 H1 rfl hd1 _
  simp -implicitDefEqProofs
end Go.Proofs.Ytbgifnlaaophcaa

/- The law LogParts, walked. No condition. -/
set_option linter.unusedSimpArgs false
set_option linter.unusedVariables false
set_option maxRecDepth 10000
namespace Go.Proofs.Ytbgifnlaaophcaa
open Go Go.Rw Go.Proofs
-- a goal is never to be run by the elaborator
attribute [local irreducible] awp aops aop aopsE aeff

theorem ApartD.symm {d d2 : Nat} {q q2 : Option Nat} (h : ApartD d q d2 q2) : ApartD d2 q2 d q :=
  ⟨fun e => h.1 e.symm, h.2.2.1, h.2.1, fun b h1 h2 => h.2.2.2 b h2 h1⟩
theorem ApartD.keep {da : Nat} {Da : PDisk} {qa : Option Nat} {db : Nat} {qb q' : Option Nat} {h H : Nat → Option (List AV)} (hA : DiskAt da Da qa h) (ap : ApartD da qa db qb)
    (hk : ∀ b c, ¬ b = db → qb ≠ some b → h b = some c → H b = some c ∧ q' ≠ some b) : DiskAt da Da qa H ∧ ApartD da qa db q' := by
  obtain ⟨a1, a2, a3, a4⟩ := ap
  obtain ⟨hq, x, hx, hdat⟩ := id hA
  have h1 := hk da _ a1 a3 hx
  have h2 : ∀ b, qa = some b → q' ≠ some b := by
    intro b hb
    rcases hdat with ⟨e, _⟩ | ⟨b', c, cells, e1, e2, e3, e4, e5⟩
    · rw [e] at hb; simp at hb
    · rw [e1] at hb
      cases hb
      exact (hk b _ (fun e => a2 (by rw [e1, e])) (a4 b e1) e3).2
  refine ⟨hA.along fun b c hb hc => (hk b c ?_ ?_ hc).1, a1, a2, h1.2, h2⟩
  · rcases hb with rfl | hb
    · exact a1
    · rintro rfl; exact a2 hb
  · rcases hb with rfl | hb
    · exact a3
    · exact a4 b hb
theorem ApartD.other {da : Nat} {Da : PDisk} {qa : Option Nat} {db : Nat} {qb : Option Nat} {h H : Nat → Option (List AV)} (hA : DiskAt da Da qa h) (ap : ApartD da qa db qb)
    (hk : ∀ b c, ¬ b = db → qb ≠ some b → h b = some c → H b = some c) : DiskAt da Da qa H :=
  hA.along fun b c hb hc => hk b c (by
    rcases hb with rfl | hb
    · exact ap.1
    · rintro rfl; exact ap.2.1 hb) (by
    rcases hb with rfl | hb
    · exact ap.2.2.1
    · exact ap.2.2.2 b hb) hc
def PaI (l : List PRec) (room : Int) (da db : Nat) (Da : PDisk) (e : Int) (t : Nat → AV) (h : Nat → Option (List AV)) : Prop := ∃ (k : Nat) (qa qb : Option Nat), t 0 = .sl .no (eRs l) ∧ t 1 = eI room ∧ t 5 = .ptr da 0 ∧ t 6 = .ptr db 0 ∧ t 7 = eI e ∧ t 21 = .sl .no (eRs l) ∧ t 22 = eI l.length ∧ t 23 = eI k ∧
  DiskAt da Da qa h ∧ DiskAt db (diskR (l.take k)) qb h ∧ ApartD da qa db qb ∧ k ≤ l.length ∧ ∀ r ∈ l.take k, rightR r = true
def PaM (l : List PRec) (room : Int) (da db : Nat) (Da : PDisk) (e : Int) (t : Nat → AV) (h : Nat → Option (List AV)) : Prop := ∃ (qa qb : Option Nat), t 0 = .sl .no (eRs l) ∧ t 1 = eI room ∧ t 5 = .ptr da 0 ∧ t 6 = .ptr db 0 ∧ t 7 = eI e ∧
  DiskAt da Da qa h ∧ DiskAt db (diskR l) qb h ∧ ApartD da qa db qb ∧ ∀ r ∈ l, rightR r = true
theorem logparts_law (l : List PRec) (room : Int) (hf : ∀ r ∈ l, fitR r) : ASpec Try.prog 12 [.sl .no (eRs l), eI room] (· = .v (.bool true)) := by
  refine ASpec.of_awp Try.func12 (by kernel_rfl) rfl (by rw [Try.results12]) Try.ntmps12 ?_
  simp -implicitDefEqProofs
  refine CallK.eq logalive_spec ?_
  simp -implicitDefEqProofs
  intro _
  by_cases h30 : 30 < (l.length : Int)
  · simp -implicitDefEqProofs [h30]
  have h30' : l.length ≤ 30 := by omega
  simp -implicitDefEqProofs [h30]
  refine CallK.fresh (new_spec room) (by simp) ?_
  rintro _ h1 H1 ⟨da, rfl, ha0⟩ _ hH1 _
  have ha1 := new_disk ha0 hH1
  simp -implicitDefEqProofs
  refine CallK.fresh (new_spec 60000) (by simp) ?_
  rintro _ h2 H2 ⟨db, rfl, hb0⟩ hold2 hH2 hfr2
  have hb2 := new_disk hb0 hH2
  have ha2 : DiskAt da ⟨[], 0, max 0 (min room 60000), -1, false⟩ none H2 := ha1.along fun b c _ hb => hold2 b c (by simpa using hb)
  have hne : da ≠ db := by
    rintro rfl
    obtain ⟨_, x, hx, _⟩ := id ha1
    obtain ⟨_, y, hy, _⟩ := id hb0
    have := hfr2 _ _ hy
    simp at this
    rw [hx] at this; simp at this
  rw [diskR_new] at hb2
  simp -implicitDefEqProofs
  refine disk_call (logadd_spec da _ none l (newD_ok room) hf (by omega)) (by simp) ha2 ?_
  rintro _ qa H3 rfl ha3 hk3
  obtain ⟨hb3, ap3⟩ := ApartD.keep hb2 (ApartD.symm ⟨hne, by simp, by simp, by simp⟩) hk3
  have ap := ap3.symm

  obtain ⟨Da, hDa⟩ : ∃ Da, Da = (addD ⟨[], 0, max 0 (min room 60000), -1, false⟩ l).1 := ⟨_, rfl⟩
  obtain ⟨e, he⟩ : ∃ e, e = (addD ⟨[], 0, max 0 (min room 60000), -1, false⟩ l).2 := ⟨_, rfl⟩
  rw [← hDa] at ha3
  rw [← he]
  have hDl : Da.data.length ≤ 1000000000 := by have := (addD_ok (l := l) (newD_ok room)).2.2.2.2.2.2; rw [← hDa] at this; omega
  simp -implicitDefEqProofs
  intro _
  refine loopK.post (PaI l room da db Da e) (fun t => l.length - natOf (t 23)) (PaM l room da db Da e) ?_ ?_ ?_
  · exact ⟨0, qa, none, by simp, by simp, by simp, by simp, by simp, by simp, by simp, by simp, ha3, hb3, ap, by omega, by simp⟩
  · clear ha3 hb3 ap3 ap hk3
    rintro t hh ⟨k, qa, qb, g0, g1, g5, g6, g7, g21, g22, g23, ga, gb, ap, hk, hrt⟩
    by_cases hlt : k < l.length
    · have hlt' : (k : Int) < (l.length : Int) := by omega
      obtain ⟨x, hx⟩ : ∃ x, l[k]? = some x := ⟨l[k], by simp [hlt]⟩
      have hmem := List.mem_of_getElem? hx
      have hw : IntKind.i64.wrap ((k : Int) + 1) = ((k + 1 : Nat) : Int) := by rw [w64 (by omega) (by omega)]; omega
      have htk : l.take (k + 1) = l.take k ++ [x] := by rw [List.take_add_one, hx]; rfl
      have hfk : ∀ m, ∀ r ∈ l.take m, fitR r := fun m r hr => hf r (List.mem_of_mem_take hr)
      have hl1 := recsB_le (l.take k) (fun r hr => ⟨hrt r hr, hfk k r hr⟩)
      rw [List.length_take] at hl1
      simp -implicitDefEqProofs [g21, g22, g23, hlt', hx, eRc]
      refine allocK.intro (fun b1 hb1 => ?_)
      have hne1 := ga.ne (b := b1) (by simpa using hb1)
      have hne2 := gb.ne (b := b1) (by simpa using hb1)
      simp -implicitDefEqProofs [g6]
      refine disk_call (logadd_spec db _ qb [x] (diskR_ok (by omega)) (by intro y hy; rw [List.mem_singleton.1 hy]; exact hf x hmem) (by simp)) (by simp [eRs, eRc]) ((gb.other b1 _ hne2.1 hne2.2).other b1 _ hne2.1 hne2.2) ?_
      rintro _ q' H rfl hd' hkeep
      obtain ⟨ga', ap'⟩ := ApartD.keep ((ga.other b1 _ hne1.1 hne1.2).other b1 _ hne1.1 hne1.2) ap hkeep
      cases hrx : rightR x
      · have e1 : addD (diskR (l.take k)) [x] = (diskR (l.take k), 91) := add_wrong (by simp [hrx])
        have e2 : addD ⟨[], 0, max 0 (min room 60000), -1, false⟩ l = (⟨[], 0, max 0 (min room 60000), -1, false⟩, 91) := add_wrong (by simp only [List.all_eq_true]; intro h9; rw [h9 x hmem] at hrx; simp at hrx)
        rw [e2] at he hDa
        simp only at he hDa
        subst he
        rw [e1]
        simp -implicitDefEqProofs [g7, g5]
        refine disk_callR (bytes_loud da Da qa hDl) (by simp) ga' ?_
        rintro _ H2 ⟨tag, rfl⟩ _ _
        rw [hDa]
        simp -implicitDefEqProofs
      · have hl2 := recB_length hrx (hf x hmem)
        have hl3 := bodyR_length hrx (hf x hmem)
        have e1 : addD (diskR (l.take k)) [x] = (diskR (l.take (k + 1)), 0) := by
          rw [htk]
          exact diskR_add hrx (by rw [recsB_append, List.length_append, recsB_cons, recsB_nil, List.append_nil]; omega)
        rw [e1] at hd' ⊢
        simp -implicitDefEqProofs [g23, hw]
        refine ⟨⟨k + 1, qa, q', by simp [g0], by simp [g1], by simp [g5], by simp [g6], by simp [g7], by simp [g21], by simp [g22], by simp, ga', hd', ap', by omega, ?_⟩, by omega⟩
        intro r h9
        rw [htk] at h9
        rcases List.mem_append.1 h9 with h9 | h9
        · exact hrt r h9
        · rw [List.mem_singleton.1 h9]; exact hrx
    · have hlt' : ¬ (k : Int) < (l.length : Int) := by omega
      rw [List.take_of_length_le (by omega)] at hrt gb
      simp -implicitDefEqProofs [g22, g23, hlt']
      exact ⟨qa, qb, by simp [g0], by simp [g1], by simp [g5], by simp [g6], by simp [g7], ga, gb, ap, hrt⟩
  clear ha3 hb3 ap3 ap hk3
  rintro t hh ⟨qa, qb, g0, g1, g5, g6, g7, ga, gb, ap, hrt⟩
  have hall : l.all rightR = true := List.all_eq_true.2 hrt
  have hl1 := recsB_le l (fun r hr => ⟨hrt r hr, hf r hr⟩)
  have hdb : (diskR l).data.length ≤ 1000000000 := by simp only [diskR]; omega
  have hdd : (diskR l).data = recsB l := rfl
  have hds : (diskR l).safe = (recsB l).length := rfl
  by_cases hz : l = []
  · subst hz
    have e2 : addD ⟨[], 0, max 0 (min room 60000), -1, false⟩ [] = (⟨[], 0, max 0 (min room 60000), -1, false⟩, 0) := by
      rw [add_fits (by simp) rfl rfl (by simp; omega)]
      simp
    rw [e2] at he hDa
    simp only at he hDa
    subst he
    simp -implicitDefEqProofs [g0, g7]
    refine regionK.order [da, qa.getD da, db, qb.getD db] [0, 1, 2, 3, 6, 4, 5, 7, 8, 9, 10, 11, 12, 14, 13, 15, 16, 17, 18] [.q, .q, .q, .q, .q, .l, .q, .l, .q, .q, .q, .q, .q, .q, .l, .l, .q, .q, .q] follows_mixed (by kernel_rfl) rfl ?_
    simp -implicitDefEqProofs [pickL, g0, g5, g6, g7]
    refine disk_loud (bytes_loud da Da qa hDl) (by simp) (by simp) (by intro b hb; simp [hb]) ga ?_
    rintro _ K1 ⟨tag1, rfl⟩ ga1 hk1
    have gb1 := ap.symm.other gb hk1
    simp -implicitDefEqProofs [pickL, g0, g5, g6, g7]
    refine disk_loud (bytes_loud db _ qb hdb) (by simp) (by simp) (by intro b hb; simp [hb]) gb1 ?_
    rintro _ K2 ⟨tag2, rfl⟩ gb2 hk2
    have ga2 := ap.other ga1 hk2
    have hDd : Da.data = (diskR []).data := by rw [hDa]; rfl
    have hDs : Da.safe = (diskR []).safe := by rw [hDa]; rfl
    simp -implicitDefEqProofs [pickL, g0, g5, g6, g7, hDd]
    refine disk_loud (safe_loud da Da qa) (by simp) (by simp) (by intro b hb; simp [hb]) ga2 ?_
    rintro _ K3 rfl ga3 hk3
    have gb3 := ap.symm.other gb2 hk3
    simp -implicitDefEqProofs [pickL, g0, g5, g6, g7, hDs]
    refine disk_loud (safe_loud db _ qb) (by simp) (by simp) (by intro b hb; simp [hb]) gb3 ?_
    rintro _ K4 rfl gb4 hk4
    simp -implicitDefEqProofs
  · have hlz : 0 < l.length := List.length_pos_iff.2 hz
    have hbz : 0 < (recsB l).length := by
      cases l with
      | nil => exact absurd rfl hz
      | cons r l => have := recB_pos r; rw [recsB_cons, List.length_append]; omega
    simp -implicitDefEqProofs [g0, hlz, g6]
    intro _
    refine disk_callR (bytes_loud db _ qb hdb) (by simp) gb ?_
    rintro _ H ⟨tag, rfl⟩ gb' hkeep
    have ga' := ap.other ga hkeep
    rw [hdd]
    by_cases hfull : min room 60000 < (recsB l).length
    · have e2 : addD ⟨[], 0, max 0 (min room 60000), -1, false⟩ l = (⟨[], 0, max 0 (min room 60000), -1, false⟩, 81) := add_full hall rfl (by simp; omega)
      rw [e2] at he hDa
      simp only at he hDa
      subst he
      have hm : (if (60000 : Int) < room then 60000 else room) < ((recsB l).length : Int) := by split <;> omega
      simp -implicitDefEqProofs [g1, g7, g5, hm]
      try intro _
      refine disk_callR (bytes_loud da Da qa hDl) (by simp) ga' ?_
      rintro _ H2 ⟨tag2, rfl⟩ _ _
      rw [hDa]
      simp -implicitDefEqProofs
    · have e2 : addD ⟨[], 0, max 0 (min room 60000), -1, false⟩ l = (⟨recsB l, ((recsB l).length : Nat), max 0 (min room 60000), -1, false⟩, 0) := by
        rw [add_fits hall rfl rfl (by simp; omega)]
        simp
      rw [e2] at he hDa
      simp only at he hDa
      subst he
      have hm : ¬ (if (60000 : Int) < room then 60000 else room) < ((recsB l).length : Int) := by split <;> omega
      simp -implicitDefEqProofs [g1, g7, g5, hm]
      intro _
      refine regionK.order [da, qa.getD da, db, qb.getD db] [0, 1, 2, 3, 6, 4, 5, 7, 8, 9, 10, 11, 12, 14, 13, 15, 16, 17, 18] [.q, .q, .q, .q, .q, .l, .q, .l, .q, .q, .q, .q, .q, .q, .l, .l, .q, .q, .q] follows_mixed (by kernel_rfl) rfl ?_
      simp -implicitDefEqProofs [pickL, g0, g5, g6, g7]
      refine disk_loud (bytes_loud da Da qa hDl) (by simp) (by simp) (by intro b hb; simp [hb]) ga' ?_
      rintro _ K1 ⟨tag1, rfl⟩ ga1 hk1
      have gb1 := ap.symm.other gb' hk1
      simp -implicitDefEqProofs [pickL, g0, g5, g6, g7]
      refine disk_loud (bytes_loud db _ qb hdb) (by simp) (by simp) (by intro b hb; simp [hb]) gb1 ?_
      rintro _ K2 ⟨tag2, rfl⟩ gb2 hk2
      have ga2 := ap.other ga1 hk2
      have hDd : Da.data = (diskR l).data := by rw [hDa]; rfl
      have hDs : Da.safe = (diskR l).safe := by rw [hDa]; rfl
      simp -implicitDefEqProofs [pickL, g0, g5, g6, g7, hDd]
      refine disk_loud (safe_loud da Da qa) (by simp) (by simp) (by intro b hb; simp [hb]) ga2 ?_
      rintro _ K3 rfl ga3 hk3
      have gb3 := ap.symm.other gb2 hk3
      simp -implicitDefEqProofs [pickL, g0, g5, g6, g7, hDs]
      refine disk_loud (safe_loud db _ qb) (by simp) (by simp) (by intro b hb; simp [hb]) gb3 ?_
      rintro _ K4 rfl gb4 hk4
      simp -implicitDefEqProofs
end Go.Proofs.Ytbgifnlaaophcaa

/- Arguments of the laws on logs, read as plain data. No condition. -/
set_option linter.unusedSimpArgs false
set_option linter.unusedVariables false
set_option maxRecDepth 10000
namespace Go.Proofs.Ytbgifnlaaophcaa
open Go Go.Rw Go.Proofs

/-- lists of records, as rows -/
def eRss (l : List (List PRec)) : List (List AV) := l.map fun a => [AV.sl .no (eRs a)]
structure PAct where
  kind : Int
  n : Int
  recs : List PRec
  data : List UInt8
def eAct (a : PAct) : List AV := [eI a.kind, eI a.n, .sl .no (eRs a.recs), .sl .no (eB a.data)]
def eActs (l : List PAct) : List (List AV) := l.map eAct
section
variable {H : Type} {enc0 : TypeId × Value → H} {W : World}
theorem reads_recss : Reads Try.prog Rows.uptoBulk enc0 W 87 (fun l : List (List PRec) => [AV.sl .no (eRss l)]) (fun l n => Goods (fun a n => Goods goodR a n) l n) :=
  Reads.slice (sz := 1) bulkOK Try.underlying87 (by kernel_rfl) (by omega) reads_recs (by intro a x hx; simp at hx; subst hx; rfl)
def goodA (a : PAct) (n : Nat) : Prop := inI a.kind ∧ inI a.n ∧ (∃ m, m ≤ n ∧ Goods goodR a.recs m) ∧ a.data.length ≤ n
theorem reads_act : Reads Try.prog Rows.uptoBulk enc0 W 78 eAct goodA :=
  (Reads.struct bulkOK Try.underlying78 (by kernel_rfl) (.cons (sz := 1) rfl (by kernel_rfl) reads_int (.cons (sz := 1) rfl (by kernel_rfl) reads_int (.cons (sz := 1) rfl (by kernel_rfl) reads_recs (.cons (sz := 1) rfl (by kernel_rfl) reads_bytes .nil)))) (fun _ _ _ ⟨m, k, h1, h2⟩ _ => ⟨m, k, by omega, h2⟩)).weaken (β := PAct)
    (fun p => ⟨p.1, p.2.1, p.2.2.1, p.2.2.2.1⟩) (fun p => rfl)
    (fun p n ⟨_, _, l1, h1, _, _, l2, h2, _, _, l3, h3, _, _, l4, h4, _⟩ => ⟨h1, h2, ⟨_, by omega, h3⟩, Nat.le_trans h4 (by omega)⟩)
theorem reads_acts : Reads Try.prog Rows.uptoBulk enc0 W 73 (fun l : List PAct => [AV.sl .no (eActs l)]) (fun l n => Goods goodA l n) :=
  Reads.slice (sz := 4) bulkOK Try.underlying73 (by kernel_rfl) (by omega) reads_act (by intro a x hx; simp [eAct] at hx; rcases hx with rfl | rfl | rfl | rfl <;> rfl)
theorem recss_fit {l : List (List PRec)} {n : Nat} (h : Goods (fun a n => Goods goodR a n) l n) : ∀ a ∈ l, ∀ r ∈ a, fitR r := fun a ha => by
  obtain ⟨_, _, h2⟩ := h.mem a ha
  exact goods_fits h2
theorem acts_fit {l : List PAct} {n : Nat} (h : Goods goodA l n) (hn : n ≤ 1048576) : (∀ a ∈ l, ∀ r ∈ a.recs, fitR r) ∧ (∀ a ∈ l, a.n ≤ 9223372036854775807) ∧ (∀ a ∈ l, a.data.length ≤ 1048576) := by
  refine ⟨fun a ha => ?_, fun a ha => ?_, fun a ha => ?_⟩
  · obtain ⟨_, _, _, _, ⟨_, _, h3⟩, _⟩ := h.mem a ha
    exact goods_fits h3
  · obtain ⟨_, _, _, h3, _⟩ := h.mem a ha
    exact h3.2
  · obtain ⟨_, h1, _, _, _, h3⟩ := h.mem a ha
    omega
end
end Go.Proofs.Ytbgifnlaaophcaa

/- The law LogKeeps, walked. No condition. -/
set_option linter.unusedSimpArgs false
set_option linter.unusedVariables false
set_option maxRecDepth 10000
namespace Go.Proofs.Ytbgifnlaaophcaa
open Go Go.Rw Go.Proofs
-- a goal is never to be run by the elaborator
attribute [local irreducible] awp aops aop aopsE aeff

@[simp] theorem eRss_length (l : List (List PRec)) : (eRss l).length = l.length := by simp [eRss]
@[simp] theorem eRss_get (l : List (List PRec)) (i : Nat) : (eRss l)[i]? = (l[i]?).map fun a => [AV.sl .no (eRs a)] := by simp [eRss]
def KeI (adds : List (List PRec)) (keep : Int) (d : Nat) (t : Nat → AV) (h : Nat → Option (List AV)) : Prop := ∃ (k : Nat) (tag : Tag) (D : PDisk) (q : Option Nat) (all : List PRec), t 2 = eI keep ∧ t 7 = .ptr d 0 ∧ t 24 = .sl .no (eRss adds) ∧ t 25 = eI adds.length ∧ t 26 = eI k ∧ t 8 = .sl tag (eRs all) ∧ t 9 = eI all.length ∧
  DiskAt d D q h ∧ OkD D ∧ D.off = false ∧ D.data = recsB all ∧ D.safe = D.data.length ∧ (∀ r ∈ all, rightR r = true ∧ fitR r) ∧ all.length ≤ 20 * k ∧ k ≤ adds.length ∧ appOK tag 61 11
def KeM (keep : Int) (d : Nat) (t : Nat → AV) (h : Nat → Option (List AV)) : Prop := ∃ (tag : Tag) (D : PDisk) (q : Option Nat) (all : List PRec) (safe : Nat), t 2 = eI keep ∧ t 7 = .ptr d 0 ∧ t 8 = .sl tag (eRs all) ∧ t 9 = eI safe ∧
  DiskAt d D q h ∧ OkD D ∧ D.data <+: recsB all ∧ ((recsB (all.take safe)).length : Int) ≤ D.safe ∧ safe ≤ all.length ∧ (∀ r ∈ all, rightR r = true ∧ fitR r) ∧ all.length ≤ 1000
theorem logkeeps_law (adds : List (List PRec)) (fuse keep : Int) (hf : ∀ l ∈ adds, ∀ r ∈ l, fitR r) (hfu : fuse ≤ 9223372036854775807) : ASpec Try.prog 16 [.sl .no (eRss adds), eI fuse, eI keep] (· = .v (.bool true)) := by
  refine ASpec.of_awp Try.func16 (by kernel_rfl) rfl (by rw [Try.results16]) Try.ntmps16 ?_
  simp -implicitDefEqProofs
  refine CallK.eq logalive_spec ?_
  simp -implicitDefEqProofs
  intro _
  by_cases h30 : 30 < (adds.length : Int)
  · simp -implicitDefEqProofs [h30]
  have h30' : adds.length ≤ 30 := by omega
  simp -implicitDefEqProofs [h30]
  refine CallK.fresh (new_spec 60000) (by simp) ?_
  rintro _ h1 H1 ⟨d, rfl, hd0⟩ _ hH1 _
  have hd1 := new_disk hd0 hH1
  simp -implicitDefEqProofs
  refine disk_call (fuse_call d _ none fuse) (by simp) hd1 ?_
  rintro _ q2 H2 rfl hd2 _
  simp -implicitDefEqProofs
  intro _
  refine loopK.post (KeI adds keep d) (fun t => adds.length - natOf (t 26)) (KeM keep d) ?_ ?_ ?_
  · refine ⟨0, _, _, q2, [], by simp, by simp, by simp, by simp, by simp, by simp [eRs]; rfl, by simp, hd2, fuseD_ok (newD_ok _) hfu, rfl, rfl, rfl, by simp, by simp, by omega, by simp⟩
  · rintro t hh ⟨k, tag, D, q, all, g2, g7, g24, g25, g26, g8, g9, gd, go, goff, gdat, gsafe, gall, glen, hk, gt⟩
    by_cases hlt : k < adds.length
    · have hlt' : (k : Int) < (adds.length : Int) := by omega
      obtain ⟨x, hx⟩ : ∃ x, adds[k]? = some x := ⟨adds[k], by simp [hlt]⟩
      have hmem := List.mem_of_getElem? hx
      have hw : IntKind.i64.wrap ((k : Int) + 1) = ((k + 1 : Nat) : Int) := by rw [w64 (by omega) (by omega)]; omega
      simp -implicitDefEqProofs [g24, g25, g26, hlt', hx]
      intro _
      by_cases h20 : 20 < (x.length : Int)
      · simp -implicitDefEqProofs [h20]
      have h20' : x.length ≤ 20 := by omega
      simp -implicitDefEqProofs [h20, g7]
      refine disk_call (logadd_spec d D q x go (hf x hmem) (by omega)) (by simp) gd ?_
      rintro _ q' H rfl hd' _
      have okx : x.all rightR = true → ∀ r ∈ all ++ x, rightR r = true ∧ fitR r := by
        intro ha r hr
        rcases List.mem_append.1 hr with hr | hr
        · exact gall r hr
        · exact ⟨all_right ha r hr, hf x hmem r hr⟩
      rcases add_any D x goff go with ⟨c1, c2, c3⟩ | ⟨c1, c2, c3, c4, c5⟩ | ⟨c1, c2, c3, c4⟩
      · rw [c1]
        rw [c2] at hd'
        simp -implicitDefEqProofs [g26, hw]
        exact ⟨⟨k + 1, tag, D, q', all, by simp [g2], by simp [g7], by simp [g24], by simp [g25], by simp, by simp [g8], by simp [g9], hd', go, goff, gdat, gsafe, gall, by omega, by omega, gt⟩, by omega⟩
      · rw [c1]
        simp -implicitDefEqProofs [g8, gt, g26, hw]
        refine ⟨by omega, fun _ => ⟨⟨k + 1, appTag tag 61 11 (eRs x), _, q', all ++ x, by simp [g2], by simp [g7], by simp [g24], by simp [g25], by simp, by simp, by simp, hd', addD_ok go, c5, by rw [c3, gdat, recsB_append], c4, okx c2, by rw [List.length_append]; omega, by omega, by simp [gt]⟩, by omega⟩⟩
      · have hsf : ((recsB ((all ++ x).take all.length)).length : Int) ≤ (addD D x).1.safe := by
          rw [c4, gsafe, gdat, List.take_left]; omega
        rcases c1 with c1 | c1
        · rw [c1]
          simp -implicitDefEqProofs [g8, gt, g26, hw]
          refine ⟨by omega, appTag tag 61 11 (eRs x), _, q', all ++ x, all.length, by simp [g2], by simp [g7], by simp, by simp [g9], hd', addD_ok go, by rw [recsB_append, ← gdat]; exact c3, hsf, by simp, okx c2, by rw [List.length_append]; omega⟩
        · rw [c1]
          simp -implicitDefEqProofs [g8, gt, g26, hw]
          refine ⟨by omega, appTag tag 61 11 (eRs x), _, q', all ++ x, all.length, by simp [g2], by simp [g7], by simp, by simp [g9], hd', addD_ok go, by rw [recsB_append, ← gdat]; exact c3, hsf, by simp, okx c2, by rw [List.length_append]; omega⟩
    · have hlt' : ¬ (k : Int) < (adds.length : Int) := by omega
      simp -implicitDefEqProofs [g25, g26, hlt']
      refine ⟨tag, D, q, all, all.length, by simp [g2], by simp [g7], by simp [g8], by simp [g9], gd, go, ?_, ?_, by omega, gall, by omega⟩
      · rw [gdat]; exact List.prefix_refl _
      · rw [gsafe, gdat, List.take_length]; omega
  rintro t hh ⟨tag, D, q, all, safe, g2, g7, g8, g9, gd, go, gpre, gsafe, hsafe, gall, glen⟩
  simp -implicitDefEqProofs [g7, g2]
  refine disk_call (crash_call d D q keep go) (by simp) gd ?_
  rintro _ q' H rfl hd' _
  obtain ⟨k, hk1, hk2, hk3⟩ := crash_found keep go gall gpre gsafe
  have hcl : (crashD D keep).data.length ≤ 1000000000 := by have := (crashD_ok (keep := keep) go).2.2.2.2.2.2; omega
  simp -implicitDefEqProofs [g7]
  refine disk_call (logread_spec d _ q' hcl) (by simp) hd' ?_
  rintro _ q2 H2 rfl hd2 _
  rw [hk1]
  have p0 : min k all.length = k := by omega
  have p1 : (safe : Int) ≤ (k : Int) := by omega
  have p2 : (k : Int) ≤ (all.length : Int) := by omega
  have p3 : safe ≤ k := by omega
  simp -implicitDefEqProofs [g8, g9, p0, p1, p2, p3, hk3]
  intros
  refine CallK.with (logSame_spec ((all.take k).map cleanR) (all.take k)) (by simp [p0]) ?_
  rw [sameRs_clean]
  simp -implicitDefEqProofs
end Go.Proofs.Ytbgifnlaaophcaa

/- The law LogCuts, walked. No condition. -/
set_option linter.unusedSimpArgs false
set_option linter.unusedVariables false
set_option maxRecDepth 10000
namespace Go.Proofs.Ytbgifnlaaophcaa
open Go Go.Rw Go.Proofs
-- a goal is never to be run by the elaborator
attribute [local irreducible] awp aops aop aopsE aeff

def CuI (l : List PRec) (n : Int) (r : PRec) (d br : Nat) (t : Nat → AV) (h : Nat → Option (List AV)) : Prop := ∃ (k : Nat) (q : Option Nat) (te tw : Tag), t 1 = eI n ∧ t 5 = .ptr br 0 ∧ t 7 = .ptr d 0 ∧ t 8 = .sl te (eIn (endsR (wantR l k))) ∧ t 9 = .sl tw (eRs (wantR l k)) ∧
  t 30 = .sl .no (eRs l) ∧ t 31 = eI l.length ∧ t 32 = eI k ∧ appOK te 3 1 ∧ appOK tw 61 11 ∧ DiskAt d (diskR (wantR l k)) q h ∧ h br = some (eRc r) ∧ ¬ br = d ∧ q ≠ some br ∧ k ≤ l.length
def CuM (w : List PRec) (n : Int) (r : PRec) (d br : Nat) (t : Nat → AV) (h : Nat → Option (List AV)) : Prop := ∃ (q : Option Nat) (te tw : Tag), t 1 = eI n ∧ t 5 = .ptr br 0 ∧ t 7 = .ptr d 0 ∧ t 8 = .sl te (eIn (endsR w)) ∧ t 9 = .sl tw (eRs w) ∧
  DiskAt d (diskR w) q h ∧ h br = some (eRc r) ∧ ¬ br = d ∧ q ≠ some br
def CuJ (w : List PRec) (n : Nat) (r : PRec) (d br : Nat) (t : Nat → AV) (h : Nat → Option (List AV)) : Prop := ∃ (j : Nat) (q : Option Nat) (tw : Tag), t 1 = eI n ∧ t 5 = .ptr br 0 ∧ t 7 = .ptr d 0 ∧ t 9 = .sl tw (eRs w) ∧
  t 57 = .sl .no (eIn (endsR w)) ∧ t 58 = eI w.length ∧ t 59 = eI j ∧ t 12 = eI (wholeR (w.take j) n).length ∧ t 13 = eI (recsB (wholeR (w.take j) n)).length ∧ DiskAt d (diskR w) q h ∧ h br = some (eRc r) ∧ ¬ br = d ∧ q ≠ some br ∧ j ≤ w.length
def CuN (w : List PRec) (n : Nat) (r : PRec) (d br : Nat) (t : Nat → AV) (h : Nat → Option (List AV)) : Prop := ∃ (q : Option Nat) (tw : Tag), t 1 = eI n ∧ t 5 = .ptr br 0 ∧ t 7 = .ptr d 0 ∧ t 9 = .sl tw (eRs w) ∧
  t 12 = eI (wholeR w n).length ∧ t 13 = eI (recsB (wholeR w n)).length ∧ DiskAt d (diskR w) q h ∧ h br = some (eRc r) ∧ ¬ br = d ∧ q ≠ some br
theorem mask_disk {d : Nat} {q : Option Nat} {b : Nat} {c : List AV} {h : Nat → Option (List AV)} (h1 : ¬ b = d) (h2 : q ≠ some b) (hb : h b = some c) : maskH [d, q.getD d] h b = some c := by
  unfold maskH
  rw [if_neg, hb]
  intro hm
  rcases List.mem_cons.1 hm with hm | hm
  · exact h1 hm
  · rw [List.mem_singleton.1 hm] at h1 h2
    cases q with
    | none => exact h1 rfl
    | some x => exact h2 rfl
theorem logcuts_law (l : List PRec) (n : Int) (r : PRec) (hf : ∀ r ∈ l, fitR r) (hr : fitR r) : ASpec Try.prog 17 [.sl .no (eRs l), eI n, .agg (eRc r)] (· = .v (.bool true)) := by
  refine ASpec.of_awp Try.func17 (by kernel_rfl) rfl (by rw [Try.results17]) Try.ntmps17 ?_
  simp -implicitDefEqProofs [eRc]
  refine allocK.intro (fun br hbr => ?_)
  simp -implicitDefEqProofs
  refine CallK.eq logalive_spec ?_
  simp -implicitDefEqProofs
  intro _
  by_cases h30 : 30 < (l.length : Int)
  · simp -implicitDefEqProofs [h30]
  have h30' : l.length ≤ 30 := by omega
  by_cases hn : n < 0
  · simp -implicitDefEqProofs [h30, hn]
  simp -implicitDefEqProofs [h30, hn]
  refine CallK.fresh (new_spec 60000) (by simp) ?_
  rintro _ h1 H1 ⟨d, rfl, hd0⟩ hold1 hH1 hfr1
  have hd1 := new_disk hd0 hH1
  rw [diskR_new] at hd1
  have hb1 : H1 br = some (eRc r) := hold1 br _ (by simp [eRc])
  have hbd : ¬ br = d := by
    rintro rfl
    obtain ⟨_, y, hy, _⟩ := id hd0
    have := hfr1 _ _ hy
    simp at this
  simp -implicitDefEqProofs
  intro _
  refine loopK.post (CuI l n r d br) (fun t => l.length - natOf (t 32)) (CuM (wantR l l.length) n r d br) ?_ ?_ ?_
  · refine ⟨0, none, _, _, by simp, by simp, by simp, by simp [wantR, endsR]; rfl, by simp [wantR, eRs]; rfl, by simp, by simp, by simp, by simp, by simp, by simpa [wantR] using hd1, hb1, hbd, by simp, by omega⟩
  · rintro t hh ⟨k, q, te, tw, g1, g5, g7, g8, g9, g30, g31, g32, gte, gtw, gd, gb, _, gq, hk⟩
    by_cases hlt : k < l.length
    · have hlt' : (k : Int) < (l.length : Int) := by omega
      obtain ⟨x, hx⟩ : ∃ x, l[k]? = some x := ⟨l[k], by simp [hlt]⟩
      have hmem := List.mem_of_getElem? hx
      have hw : IntKind.i64.wrap ((k : Int) + 1) = ((k + 1 : Nat) : Int) := by rw [w64 (by omega) (by omega)]; omega
      have hs := want_succ hx
      have hl1 := want_bytes hf k
      have hl3 := want_bytes hf (k + 1)
      have hl2 := want_len l k
      simp -implicitDefEqProofs [g30, g31, g32, hlt', hx, eRc]
      refine allocK.intro (fun b1 hb1 => ?_)
      have hne := gd.ne (b := b1) (by simpa using hb1)
      have n1 := ne_of_none gb hb1
      have gd1 : ∀ c, DiskAt d (diskR (wantR l k)) q (upd hh b1 c) := fun c => gd.other b1 c hne.1 hne.2
      simp -implicitDefEqProofs [g7]
      refine disk_call (logadd_spec d _ q [x] (diskR_ok (by omega)) (by intro y hy; rw [List.mem_singleton.1 hy]; exact hf x hmem) (by simp)) (by simp [eRs, eRc]) ((gd1 _).other b1 _ hne.1 hne.2) ?_
      rintro _ q' H rfl hd' hkeep
      have hbr' := hkeep br (eRc r) hbd gq (by simp [n1, gb])
      have hb1' := hkeep b1 (eRc x) (fun e => hne.1 e.symm) hne.2 (by simp [eRc])
      cases hrx : rightR x
      · have e1 : addD (diskR (wantR l k)) [x] = (diskR (wantR l k), 91) := add_wrong (by simp [hrx])
        rw [e1] at hd' ⊢
        have hs' : wantR l (k + 1) = wantR l k := by simpa [hrx] using hs
        simp -implicitDefEqProofs [g32, hw]
        exact ⟨⟨k + 1, q', te, tw, by simp [g1], by simp [g5], by simp [g7], by simp [g8, hs'], by simp [g9, hs'], by simp [g30], by simp [g31], by simp, gte, gtw, by rw [hs']; exact hd', hbr'.1, hbd, hbr'.2, by omega⟩, by omega⟩
      · have hs' : wantR l (k + 1) = wantR l k ++ [x] := by simpa [hrx] using hs
        have e1 : addD (diskR (wantR l k)) [x] = (diskR (wantR l (k + 1)), 0) := by rw [hs']; exact diskR_add hrx (by rw [← hs']; omega)
        rw [e1] at hd' ⊢
        have e2 : endsR (wantR l (k + 1)) = endsR (wantR l k) ++ [(recsB (wantR l (k + 1))).length] := by rw [hs']; exact endsR_snoc _ _
        simp -implicitDefEqProofs [g8, g7]
        refine disk_callR (bytes_loud d _ q' (by simp only [diskR]; omega)) (by simp) hd' ?_
        rintro _ H2 ⟨tag, rfl⟩ hd2 hk2
        have hbr2 := hk2 br _ hbd hbr'.2 hbr'.1
        have hb12 := hk2 b1 _ (fun e => hne.1 e.symm) hb1'.2 hb1'.1
        have hdd : (diskR (wantR l (k + 1))).data = recsB (wantR l (k + 1)) := rfl
        simp -implicitDefEqProofs [hdd, g8, gte, g9, gtw, hb12, eRc, g32, hw]
        refine fun _ => ⟨by omega, by omega, ⟨k + 1, q', appTag te 3 1 [[eI (recsB (wantR l (k + 1))).length]], appTag tw 61 11 [eRc x], by simp [g1], by simp [g5], by simp [g7], by rw [e2]; simp [eIn], by simp [hs', eRs, eRc], by simp [g30], by simp [g31], by simp, by simp [gte], by simp [gtw], hd2, hbr2, hbd, hbr'.2, by omega⟩, by omega⟩
    · have hlt' : ¬ (k : Int) < (l.length : Int) := by omega
      obtain rfl : k = l.length := by omega
      simp -implicitDefEqProofs [g31, g32, hlt']
      exact ⟨q, te, tw, by simp [g1], by simp [g5], by simp [g7], by simp [g8], by simp [g9], gd, gb, hbd, gq⟩
  have hok := want_ok (k := l.length) hf
  have hlen := want_len l l.length
  have hlb := want_bytes hf l.length
  generalize wantR l l.length = w at *
  rintro t hh ⟨q, te, tw, g1, g5, g7, g8, g9, gd, gb, _, gq⟩
  have hdl : (diskR w).data.length ≤ 1000000000 := by simp only [diskR]; omega
  simp -implicitDefEqProofs [g1, g7]
  refine disk_callR (bytes_loud d _ q hdl) (by simp) gd ?_
  rintro _ H ⟨tag, rfl⟩ hd' hkeep
  have hb' := hkeep br _ hbd gq gb
  have hdd : (diskR w).data = recsB w := rfl
  obtain ⟨N, hN⟩ : ∃ N : Nat, (N : Int) = (if ((recsB w).length : Int) < n then ((recsB w).length : Int) else n) := ⟨(if ((recsB w).length : Int) < n then ((recsB w).length : Int) else n).toNat, by split <;> omega⟩
  have hNl : N ≤ (recsB w).length := by split at hN <;> omega
  simp -implicitDefEqProofs [hdd, g8, ← hN]
  intro _ _
  refine loopK.post (CuJ w N r d br) (fun t => w.length - natOf (t 59)) (CuN w N r d br) ?_ ?_ ?_
  · exact ⟨0, q, tw, by simp, by simp [g5], by simp [g7], by simp [g9], by simp, by simp, by simp, by simp [wholeR], by simp [wholeR], hd', hb', hbd, gq, by omega⟩
  · clear g1 g5 g7 g8 g9 gd gb gq hd' hb' hkeep
    rintro t hh ⟨j, q, tw, g1, g5, g7, g9, g57, g58, g59, g12, g13, gd, gb, _, gq, hj⟩
    by_cases hlt : j < w.length
    · have hlt' : (j : Int) < (w.length : Int) := by omega
      have hen : (endsR w)[j]? = some (recsB (w.take (j + 1))).length := endsR_get hlt
      have hw : IntKind.i64.wrap ((j : Int) + 1) = ((j + 1 : Nat) : Int) := by rw [w64 (by omega) (by omega)]; omega
      have hjl : (w.take (j + 1)).length = j + 1 := by rw [List.length_take]; omega
      by_cases hfit : (recsB (w.take (j + 1))).length ≤ N
      · have hwh := whole_fits _ _ hfit
        simp -implicitDefEqProofs [g57, g58, g59, hlt', hen, g1, hfit, hw]
        intros
        exact ⟨⟨j + 1, q, tw, by simp [g1], by simp [g5], by simp [g7], by simp [g9], by simp [g57], by simp [g58], by simp, by simp [hwh, hjl], by simp [hwh], gd, gb, hbd, gq, by omega⟩, by omega⟩
      · have hwh : wholeR (w.take (j + 1)) N = wholeR (w.take j) N := by
          have e : w.take (j + 1) = w.take j ++ [w[j]] := by rw [List.take_add_one, List.getElem?_eq_getElem hlt]; rfl
          rw [e] at hfit ⊢
          exact whole_snoc _ _ _ hfit
        simp -implicitDefEqProofs [g57, g58, g59, hlt', hen, g1, hfit, hw]
        intros
        exact ⟨⟨j + 1, q, tw, by simp [g1], by simp [g5], by simp [g7], by simp [g9], by simp [g57], by simp [g58], by simp, by simp [hwh, g12], by simp [hwh, g13], gd, gb, hbd, gq, by omega⟩, by omega⟩
    · have hlt' : ¬ (j : Int) < (w.length : Int) := by omega
      rw [List.take_of_length_le (by omega)] at g12 g13
      simp -implicitDefEqProofs [g58, g59, hlt']
      exact ⟨q, tw, by simp [g1], by simp [g5], by simp [g7], by simp [g9], by simp [g12], by simp [g13], gd, gb, hbd, gq⟩
  clear g1 g5 g7 g8 g9 gd gb gq hd' hb' hkeep
  rintro t hh ⟨q, tw, g1, g5, g7, g9, g12, g13, gd, gb, _, gq⟩
  have hst := scan_take w N hok
  have hwp := whole_prefix w N
  have hwl := whole_le w N
  have hwt : w.take (wholeR w N).length = wholeR w N := (List.prefix_iff_eq_take.1 hwp).symm
  have hwle : (wholeR w N).length ≤ w.length := hwp.length_le
  have hwok : ∀ y ∈ wholeR w N, rightR y = true ∧ fitR y := fun y hy => hok y (hwp.mem hy)
  simp -implicitDefEqProofs [g7]
  refine disk_callR (bytes_loud d _ q hdl) (by simp) gd ?_
  rintro _ H2 ⟨tag2, rfl⟩ hd2 hkeep2
  have hb2 := hkeep2 br _ hbd gq gb
  rw [hdd]
  simp -implicitDefEqProofs [g1, hNl]
  refine CallK.with (scan_spec ((recsB w).take N) (by simp; omega)) (by simp) ?_
  rw [scanA, hst]
  simp -implicitDefEqProofs [g13, g9, g12, hwle, hwt]
  refine CallK.with (same9_spec ((wholeR w N).map cleanR) (wholeR w N) (fun y hy => by
    obtain ⟨z, hz, rfl⟩ := List.mem_map.1 hy
    exact clean_fit (hwok z hz).2) (fun y hy => (hwok y hy).2)) (by simp) ?_
  rw [sameRs_clean]
  have hcut : cutD (diskR w) ((recsB (wholeR w N)).length : Nat) = diskR (wholeR w N) := by
    have e1 : (recsB w).take (recsB (wholeR w N)).length = recsB (wholeR w N) := by
      have hp : recsB (wholeR w N) <+: recsB w := by
        obtain ⟨z, hz⟩ := hwp
        exact ⟨recsB z, by rw [← recsB_append, hz]⟩
      exact (List.prefix_iff_eq_take.1 hp).symm
    have e2 : max 0 (min ((recsB (wholeR w N)).length : Int) ((recsB w).length : Int)) = ((recsB (wholeR w N)).length : Int) := by omega
    have e3 : min ((recsB w).length : Int) ((recsB (wholeR w N)).length : Int) = ((recsB (wholeR w N)).length : Int) := by omega
    simp [cutD, diskR, e1, e2, e3]
  simp -implicitDefEqProofs [g7]
  refine disk_callR (D' := diskR (wholeR w N)) (fun h hd => (diskcut_spec d (diskR w) q ((recsB (wholeR w N)).length : Nat) h hd (diskR_ok (by omega))).mono fun r h' ⟨e, hd'⟩ => ⟨e, by rw [← hcut]; exact hd'⟩) (by simp) hd2 ?_
  rintro _ H3 rfl hd3 hkeep3
  have hb3 := hkeep3 br _ hbd gq hb2
  simp -implicitDefEqProofs [g7, g5, hb3, eRc]
  refine disk_call (logadd_spec d _ q [r] (diskR_ok (by omega)) (by intro y hy; rw [List.mem_singleton.1 hy]; exact hr) (by simp)) (by simp [eRs, eRc]) hd3 ?_
  rintro _ q4 H4 rfl hd4 hkeep4
  have hb4 := hkeep4 br _ hbd gq hb3
  cases hrr : rightR r
  · have e1 : addD (diskR (wholeR w N)) [r] = (diskR (wholeR w N), 91) := add_wrong (by simp [hrr])
    rw [e1]
    simp -implicitDefEqProofs [g5, hb4.1, eRc]
    refine CallK.with (logright_spec r) (by simp [eRc]) ?_
    simp -implicitDefEqProofs [hrr]
  · have hl2 := recB_length hrr hr
    have hl3 := bodyR_length hrr hr
    have e1 : addD (diskR (wholeR w N)) [r] = (diskR (wholeR w N ++ [r]), 0) := diskR_add hrr (by rw [recsB_append, List.length_append, recsB_cons, recsB_nil, List.append_nil]; omega)
    rw [e1] at hd4 ⊢
    have hd4' : DiskAt d (diskR (wholeR w N ++ [r])) q4 H4 := hd4
    have hok2 : ∀ y ∈ wholeR w N ++ [r], rightR y = true ∧ fitR y := by
      intro y hy
      rcases List.mem_append.1 hy with hy | hy
      · exact hwok y hy
      · rw [List.mem_singleton.1 hy]; exact ⟨hrr, hr⟩
    simp -implicitDefEqProofs [g7]
    have hM : ∀ b, q4 = some b → b ∈ [d, q4.getD d] := by intro b hb; simp [hb]
    refine regionK.order [d, q4.getD d] [0, 2, 3, 4, 5, 7, 8, 1, 6, 9, 10, 11] [.q, .q, .q, .q, .q, .q, .q, .l, .q, .q, .q, .q] follows_mixed (by kernel_rfl) rfl ?_
    have hmk := mask_disk hbd hb4.2 hb4.1
    simp -implicitDefEqProofs [pickL, g7, g9, g12, g5, hwle, hwt, hmk, eRc]
    refine disk_loud (logread_loud d (diskR (wholeR w N ++ [r])) q4 (by simp only [diskR]; rw [recsB_append, List.length_append, recsB_cons, recsB_nil, List.append_nil]; omega)) rfl (by simp) hM hd4' ?_
    rintro _ H5 rfl hd5 hkeep5
    have hb5 := hkeep5 br _ hbd hb4.2 hb4.1
    have hsc : (scanR (diskR (wholeR w N ++ [r])).data).1 = (wholeR w N ++ [r]).map cleanR := by
      show (scanR (recsB (wholeR w N ++ [r]))).1 = _
      rw [scan_all hok2]
    rw [hsc]
    simp -implicitDefEqProofs [g7, g9]
    refine ⟨by omega, by omega, ?_⟩
    refine CallQ.with (same9_spec ((wholeR w N ++ [r]).map cleanR) (wholeR w N ++ [r]) (fun y hy => by
      obtain ⟨z, hz, rfl⟩ := List.mem_map.1 hy
      exact clean_fit (hok2 z hz).2) (fun y hy => (hok2 y hy).2)) (by simp [eRs, eRc]) ?_
    rw [sameRs_clean]
    simp -implicitDefEqProofs
end Go.Proofs.Ytbgifnlaaophcaa

/- The law LogRuns, walked. No condition. -/
set_option linter.unusedSimpArgs false
set_option linter.unusedVariables false
set_option maxRecDepth 10000
namespace Go.Proofs.Ytbgifnlaaophcaa
open Go Go.Rw Go.Proofs
-- a goal is never to be run by the elaborator
attribute [local irreducible] awp aops aop aopsE aeff

@[simp] theorem eActs_length (l : List PAct) : (eActs l).length = l.length := by simp [eActs]
@[simp] theorem eActs_get (l : List PAct) (i : Nat) : (eActs l)[i]? = (l[i]?).map eAct := by simp [eActs]
@[simp] theorem ptrT_disk : ptrT Try.prog 58 = true := by kernel_rfl
def RuI (acts : List PAct) (d b6 : Nat) (t : Nat → AV) (h : Nat → Option (List AV)) : Prop := ∃ (k : Nat) (D E : PDisk) (q : Option Nat), t 5 = .ptr d 0 ∧ t 6 = .ptr b6 0 ∧ t 28 = .sl .no (eActs acts) ∧ t 29 = eI acts.length ∧ t 30 = eI k ∧
  DiskAt d D q h ∧ OkD D ∧ LikeD D E ∧ h b6 = some (eD E) ∧ ¬ b6 = d ∧ q ≠ some b6 ∧ k ≤ acts.length
def RuM (acts : List PAct) (k d b6 : Nat) (t : Nat → AV) (h : Nat → Option (List AV)) : Prop := ∃ (D E : PDisk) (q : Option Nat) (e : Int), t 5 = .ptr d 0 ∧ t 6 = .ptr b6 0 ∧ t 28 = .sl .no (eActs acts) ∧ t 29 = eI acts.length ∧ t 30 = eI k ∧ t 9 = eI e ∧ t 10 = eI e ∧
  DiskAt d D q h ∧ OkD D ∧ LikeD D E ∧ h b6 = some (eD E) ∧ ¬ b6 = d ∧ q ≠ some b6
theorem logruns_law (room : Int) (acts : List PAct) (hf : ∀ a ∈ acts, ∀ r ∈ a.recs, fitR r) (hn : ∀ a ∈ acts, a.n ≤ 9223372036854775807) (hl : ∀ a ∈ acts, a.data.length ≤ 1048576) :
    ASpec Try.prog 15 [eI room, .sl .no (eActs acts)] (· = .v (.bool true)) := by
  refine ASpec.of_awp Try.func15 (by kernel_rfl) rfl (by rw [Try.results15]) Try.ntmps15 ?_
  simp -implicitDefEqProofs
  refine CallK.eq logalive_spec ?_
  simp -implicitDefEqProofs
  refine CallK.fresh (new_spec room) (by simp) ?_
  rintro _ h1 H1 ⟨d, rfl, hd0⟩ _ hH1 _
  have hd1 := new_disk hd0 hH1
  simp -implicitDefEqProofs
  refine CallK.with (new8_spec room) (by simp) ?_
  simp -implicitDefEqProofs [eD]
  refine allocK.intro (fun b6 hb6 => ?_)
  have hne := hd1.ne (b := b6) (by simpa using hb6)
  simp -implicitDefEqProofs [ptrV]
  intro _
  by_cases h60 : 60 < (acts.length : Int)
  · simp -implicitDefEqProofs [h60, ptrV]
  have h60' : acts.length ≤ 60 := by omega
  simp -implicitDefEqProofs [h60]
  intro _
  refine loopK.intro (RuI acts d b6) (fun t => acts.length - natOf (t 30)) ?_ ?_
  · exact ⟨0, _, _, none, by simp, by simp, by simp, by simp, by simp, (hd1.other b6 _ hne.1 hne.2).other b6 _ hne.1 hne.2, newD_ok room, LikeD.refl (newD_ok room), by simp [eD], fun e => hne.1 e.symm, by simp, by omega⟩
  clear hd1 hd0 hH1 hb6 hne
  rintro t hh ⟨k, D, E, q, g5, g6, g28, g29, g30, gd, go, gl, gb, gbd, gq, hk⟩
  by_cases hlt : k < acts.length
  · have hlt' : (k : Int) < (acts.length : Int) := by omega
    obtain ⟨a, hx⟩ : ∃ a, acts[k]? = some a := ⟨acts[k], by simp [hlt]⟩
    have hmem := List.mem_of_getElem? hx
    have hw : IntKind.i64.wrap ((k : Int) + 1) = ((k + 1 : Nat) : Int) := by rw [w64 (by omega) (by omega)]; omega
    have hlikeok := gl.ok go
    simp -implicitDefEqProofs [g28, g29, g30, hlt', hx, eAct]
    refine allocK.intro (fun b1 hb1 => ?_)
    have hne := gd.ne (b := b1) (by simpa using hb1)
    have n1 := ne_of_none gb hb1
    have n1' : ¬ b1 = b6 := fun h => n1 h.symm
    have gd1 : DiskAt d D q (upd hh b1 none) := gd.other b1 none hne.1 hne.2
    simp -implicitDefEqProofs [g28, g29, g30, hlt', hx, eAct]
    have gd2 : ∀ c c', DiskAt d D q (upd (upd hh b1 c) b1 c') := fun c c' => (gd.other b1 c hne.1 hne.2).other b1 c' hne.1 hne.2
    have hfa := hf a hmem
    have hna := hn a hmem
    have hla := hl a hmem
    have hm : natOf (t 30) = k := by rw [g30]; simp
    refine branch_cut (RuM acts k d b6) ?_ ?_ ?_
    · intro hd
      have k0 : a.kind = 0 := of_decide_eq_true hd
      by_cases h20 : (a.recs.length : Int) < 20
      · simp -implicitDefEqProofs [h20, g5, g6, n1, n1']
        intro _
        refine ⟨by omega, ?_⟩
        refine disk_call (logadd_spec d D q a.recs go hfa (by omega)) (by simp) (gd2 _ _) ?_
        rintro _ q' H rfl hd' hkeep
        have hb6 := hkeep b6 (eD E) gbd gq (by simp [n1, gb])
        have hb1' := hkeep b1 (eAct a) (fun e => hne.1 e.symm) hne.2 (by simp [eAct])
        obtain ⟨l1, l2⟩ := gl.add go a.recs
        simp -implicitDefEqProofs [g5, g6, n1, n1', hb6.1, hb1'.1, eD, eAct]
        refine CallK.with (add9_spec E a.recs hlikeok hfa (by omega)) (by simp [eD]) ?_
        rw [l2]
        simp -implicitDefEqProofs [g5, g6, n1, n1', hb6.1, hb1'.1, eD, eAct]
        exact ⟨_, _, q', (addD D a.recs).2, by simp [g5], by simp [g6], by simp [g28], by simp [g29], by simp [g30], by simp, by simp, hd'.other b6 _ (fun e => gbd e.symm) hb6.2, addD_ok go, l1, by simp [eD], gbd, hb6.2⟩
      · simp -implicitDefEqProofs [h20, g5, g6, n1, n1']
        intro _
        exact ⟨D, E, q, 0, by simp [g5], by simp [g6], by simp [g28], by simp [g29], by simp [g30], by simp, by simp, gd2 _ _, go, gl, by simp [n1, gb], gbd, gq⟩
    · intro hd
      have k0 : ¬ a.kind = 0 := of_decide_eq_false hd
      by_cases k1 : a.kind = 1
      · simp -implicitDefEqProofs [k1, g5, g6, n1, n1']
        refine disk_call (crash_call d D q a.n go) (by simp) (gd2 _ _) ?_
        rintro _ q' H rfl hd' hkeep
        have hb6 := hkeep b6 (eD E) gbd gq (by simp [n1, gb])
        have hb1' := hkeep b1 (eAct a) (fun e => hne.1 e.symm) hne.2 (by simp [eAct, k1])
        simp -implicitDefEqProofs [g5, g6, n1, n1', hb6.1, hb1'.1, eD, eAct]
        refine CallK.with (crash8_spec E a.n hlikeok) (by simp [eD]) ?_
        rw [gl.crash]
        simp -implicitDefEqProofs [g5, g6, n1, n1', hb6.1, hb1'.1, eD, eAct]
        exact ⟨_, _, q', 0, by simp [g5], by simp [g6], by simp [g28], by simp [g29], by simp [g30], by simp, by simp, hd'.other b6 _ (fun e => gbd e.symm) hb6.2, crashD_ok go, LikeD.refl (crashD_ok go), by simp [eD], gbd, hb6.2⟩
      by_cases k2 : a.kind = 2
      · simp -implicitDefEqProofs [k1, k2, g5, g6, n1, n1']
        refine disk_call (fuse_call d D q a.n) (by simp) (gd2 _ _) ?_
        rintro _ q' H rfl hd' hkeep
        have hb6 := hkeep b6 (eD E) gbd gq (by simp [n1, gb])
        have hb1' := hkeep b1 (eAct a) (fun e => hne.1 e.symm) hne.2 (by simp [eAct, k2])
        simp -implicitDefEqProofs [g5, g6, n1, n1', hb6.1, hb1'.1, eD, eAct]
        refine CallK.with (fuse8_spec E a.n) (by simp [eD]) ?_
        simp -implicitDefEqProofs [g5, g6, n1, n1', hb6.1, hb1'.1, eD, eAct]
        exact ⟨_, _, q', 0, by simp [g5], by simp [g6], by simp [g28], by simp [g29], by simp [g30], by simp, by simp, hd'.other b6 _ (fun e => gbd e.symm) hb6.2, fuseD_ok go hna, gl.fuse hna, by simp [eD], gbd, hb6.2⟩
      by_cases k3 : a.kind = 3
      · simp -implicitDefEqProofs [k1, k2, k3, g5, g6, n1, n1']
        refine ⟨by omega, ?_⟩
        refine disk_call (append_call d D q a.data go (by omega)) (by simp) (gd2 _ _) ?_
        rintro _ q' H rfl hd' hkeep
        have hb6 := hkeep b6 (eD E) gbd gq (by simp [n1, gb])
        have hb1' := hkeep b1 (eAct a) (fun e => hne.1 e.symm) hne.2 (by simp [eAct, k3])
        obtain ⟨l1, l2⟩ := gl.append go a.data
        simp -implicitDefEqProofs [g5, g6, n1, n1', hb6.1, hb1'.1, eD, eAct]
        refine CallK.with (append8_spec E a.data hlikeok (by omega)) (by simp [eD]) ?_
        rw [l2]
        simp -implicitDefEqProofs [g5, g6, n1, n1', hb6.1, hb1'.1, eD, eAct]
        exact ⟨_, _, q', (appendD D a.data).2, by simp [g5], by simp [g6], by simp [g28], by simp [g29], by simp [g30], by simp, by simp, hd'.other b6 _ (fun e => gbd e.symm) hb6.2, appendD_ok go, l1, by simp [eD], gbd, hb6.2⟩
      simp -implicitDefEqProofs [k1, k2, k3, g5, g6, n1, n1']
      exact ⟨D, E, q, 0, by simp [g5], by simp [g6], by simp [g28], by simp [g29], by simp [g30], by simp, by simp, gd2 _ _, go, gl, by simp [n1, gb], gbd, gq⟩
    clear g5 g6 g28 g29 g30 gd go gl gb gbd gq gd1 gd2 hne n1 n1' hb1 hlikeok
    rintro t h ⟨D, E, q, e, g5, g6, g28, g29, g30, g9, g10, gd, go, gl, gb, gbd, gq⟩
    have hlE := (gl.ok go).2.2.2.2.2.2
    have hlD := go.2.2.2.2.2.2
    rw [eD] at gb
    simp -implicitDefEqProofs [g6, gb]
    refine CallK.with (scan9_spec E.data (by omega)) (by simp) ?_
    rw [scanA]
    have hM : ∀ b, q = some b → b ∈ [d, q.getD d] := by intro b hb; simp [hb]
    have hmk := mask_disk gbd gq gb
    obtain ⟨e1, e2, e3, e4, _⟩ := gl
    simp -implicitDefEqProofs
    refine regionK.order [d, q.getD d] [0, 1, 2, 3, 4, 7, 8, 9, 5, 6, 10, 11, 12, 13, 15, 16, 14, 17, 18, 19, 20, 22, 23, 21, 24, 25, 26, 27, 29, 28, 30, 31, 32] [.q, .q, .q, .q, .q, .q, .q, .q, .l, .q, .q, .q, .q, .q, .q, .q, .l, .q, .q, .q, .q, .q, .q, .l, .q, .q, .q, .q, .q, .l, .q, .q, .q] follows_mixed (by kernel_rfl) rfl ?_
    simp -implicitDefEqProofs [pickL, g5, g6, g9, g10, hmk]
    refine disk_loud (bytes_loud d D q (by omega)) (by simp) (by simp) hM gd ?_
    rintro _ H1 ⟨tag1, rfl⟩ gd1 hk1
    have gb1 := hk1 b6 _ gbd gq gb
    have hmk1 := mask_disk gbd gq gb1
    simp -implicitDefEqProofs [g5, g6, g9, g10, hmk1, e1]
    refine disk_loud (safe_loud d D q) (by simp) (by simp) hM gd1 ?_
    rintro _ H2 rfl gd2 hk2
    have gb2 := hk2 b6 _ gbd gq gb1
    have hmk2 := mask_disk gbd gq gb2
    simp -implicitDefEqProofs [g5, g6, g9, g10, hmk2, e2]
    refine disk_loud (off_loud d D q) (by simp) (by simp) hM gd2 ?_
    rintro _ H3 rfl gd3 hk3
    have gb3 := hk3 b6 _ gbd gq gb2
    simp -implicitDefEqProofs [g5, g6, g9, g10, e4]
    refine disk_loud (logread_loud d D q (by omega)) (by simp) (by simp) hM gd3 ?_
    rintro _ H4 rfl gd4 hk4
    have gb4 := hk4 b6 _ gbd gq gb3
    simp -implicitDefEqProofs [g5, g6, g9, g10, e1]
    refine CallQ.with (same9_spec _ _ (fun y hy => (scan_fit D.data y hy).2.2) (fun y hy => (scan_fit D.data y hy).2.2)) (by simp) ?_
    rw [sameRs_self]
    simp -implicitDefEqProofs [g30, hw]
    rw [← eD] at gb4
    exact ⟨⟨k + 1, D, E, q, by simp [g5], by simp [g6], by simp [g28], by simp [g29], by simp, gd4, go, ⟨e1, e2, e3, e4, by assumption⟩, gb4, gbd, gq, by omega⟩, by omega⟩
  · have hlt' : ¬ (k : Int) < (acts.length : Int) := by omega
    simp -implicitDefEqProofs [g29, g30, hlt']
end Go.Proofs.Ytbgifnlaaophcaa

/- The law LogBurst, walked. No condition. -/
set_option linter.unusedSimpArgs false
set_option linter.unusedVariables false
set_option maxRecDepth 10000
namespace Go.Proofs.Ytbgifnlaaophcaa
open Go Go.Rw Go.Proofs
-- a goal is never to be run by the elaborator
attribute [local irreducible] awp aops aop aopsE aeff

def BuI9 (l : List PRec) (a : Int) (m : BitVec 32) (t : Nat → AV) (h : Nat → Option (List AV)) : Prop := ∃ (k : Nat) (ta te tw : Tag), t 1 = eI a ∧ t 2 = .v (.int .u32 (n32 m)) ∧ t 7 = .sl ta (eB (recsB (wantR l k))) ∧ t 8 = .sl te (eIn (endsR (wantR l k))) ∧ t 9 = .sl tw (eRs (wantR l k)) ∧
  t 32 = .sl .no (eRs l) ∧ t 33 = eI l.length ∧ t 34 = eI k ∧ appOK ta 5 1 ∧ appOK te 3 1 ∧ appOK tw 61 11 ∧ k ≤ l.length
def BuM9 (w : List PRec) (a : Int) (m : BitVec 32) (t : Nat → AV) (h : Nat → Option (List AV)) : Prop := ∃ (ta te tw : Tag), t 1 = eI a ∧ t 2 = .v (.int .u32 (n32 m)) ∧ t 7 = .sl ta (eB (recsB w)) ∧ t 8 = .sl te (eIn (endsR w)) ∧ t 9 = .sl tw (eRs w)
def BuN9 (w : List PRec) (a K : Nat) (m : BitVec 32) (t : Nat → AV) (h : Nat → Option (List AV)) : Prop := ∃ (ta te tw : Tag), t 1 = eI a ∧ t 2 = .v (.int .u32 (n32 m)) ∧ t 7 = .sl ta (eB (recsB w)) ∧ t 8 = .sl te (eIn (endsR w)) ∧ t 9 = .sl tw (eRs w) ∧ t 14 = eI K ∧ t 15 = eI (recsB (w.take K)).length
theorem logburst_law (l : List PRec) (a : Int) (m : BitVec 32) (hf : ∀ r ∈ l, fitR r) (ha : a ≤ 9223372036854775807) : ASpec Try.prog 14 [.sl .no (eRs l), eI a, .v (.int .u32 (n32 m))] (· = .v (.bool true)) := by
  refine ASpec.of_awp Try.func14 (by kernel_rfl) rfl (by rw [Try.results14]) Try.ntmps14 ?_
  simp -implicitDefEqProofs
  refine CallK.eq logalive_spec ?_
  simp -implicitDefEqProofs
  intro _
  by_cases h30 : 30 < (l.length : Int)
  · simp -implicitDefEqProofs [h30]
  have h30' : l.length ≤ 30 := by omega
  by_cases hn : a < 0
  · simp -implicitDefEqProofs [h30, hn]
  simp -implicitDefEqProofs [h30, hn]
  intro _
  refine loopK.post (BuI9 l a m) (fun t => l.length - natOf (t 34)) (BuM9 (wantR l l.length) a m) ?_ ?_ ?_
  · exact ⟨0, _, _, _, by simp, by simp, by simp [wantR, eB]; rfl, by simp [wantR, endsR]; rfl, by simp [wantR, eRs]; rfl, by simp, by simp, by simp, by simp, by simp, by simp, by omega⟩
  · rintro t hh ⟨k, ta, te, tw, g1, g2, g7, g8, g9, g32, g33, g34, gta, gte, gtw, hk⟩
    by_cases hlt : k < l.length
    · have hlt' : (k : Int) < (l.length : Int) := by omega
      obtain ⟨x, hx⟩ : ∃ x, l[k]? = some x := ⟨l[k], by simp [hlt]⟩
      have hmem := List.mem_of_getElem? hx
      have hw : IntKind.i64.wrap ((k : Int) + 1) = ((k + 1 : Nat) : Int) := by rw [w64 (by omega) (by omega)]; omega
      have hs := want_succ hx
      have hl1 := want_bytes hf k
      have hl2 := want_len l k
      simp -implicitDefEqProofs [g32, g33, g34, hlt', hx, eRc]
      refine allocK.intro (fun b1 hb1 => ?_)
      simp -implicitDefEqProofs
      refine CallK.with (logbytes_spec x (hf x hmem)) (by simp [eRc]) ?_
      cases hr : rightR x
      · have hs' : wantR l (k + 1) = wantR l k := by simpa [hr] using hs
        simp -implicitDefEqProofs [bytesR, hr, bytesA, g34, hw]
        exact ⟨⟨k + 1, ta, te, tw, by simp [g1], by simp [g2], by simp [g7, hs'], by simp [g8, hs'], by simp [g9, hs'], by simp [g32], by simp [g33], by simp, gta, gte, gtw, by omega⟩, by omega⟩
      · have hs' : wantR l (k + 1) = wantR l k ++ [x] := by simpa [hr] using hs
        have hlen := recB_length hr (hf x hmem)
        have hlen2 := bodyR_length hr (hf x hmem)
        have e1 : eB (recsB (wantR l k)) ++ eB (recB x) = eB (recsB (wantR l (k + 1))) := by rw [hs', recsB_append, recsB_cons]; simp [eB]
        have e2 : eRs (wantR l k) ++ [eRc x] = eRs (wantR l (k + 1)) := by rw [hs']; simp [eRs]
        have e3 : endsR (wantR l (k + 1)) = endsR (wantR l k) ++ [(recsB (wantR l (k + 1))).length] := by rw [hs']; exact endsR_snoc _ _
        simp -implicitDefEqProofs [bytesR, hr, bytesA, g7, gta, g8, gte, g9, gtw, g34, hw]
        refine ⟨by omega, fun _ => ⟨by omega, by omega, ⟨k + 1, appTag ta 5 1 (eB (recB x)), appTag te 3 1 [[eI (recsB (wantR l (k + 1))).length]], appTag tw 61 11 [eRc x], by simp [g1], by simp [g2], by simp [hs', recsB_append, recsB_cons], by rw [e3]; simp [eIn, hs', recsB_append, recsB_cons], by simp [hs', eRs, eRc], by simp [g32], by simp [g33], by simp, by simp [gta], by simp [gte], by simp [gtw], by omega⟩, by omega⟩⟩
    · have hlt' : ¬ (k : Int) < (l.length : Int) := by omega
      obtain rfl : k = l.length := by omega
      simp -implicitDefEqProofs [g33, g34, hlt']
      exact ⟨ta, te, tw, by simp [g1], by simp [g2], by simp [g7], by simp [g8], by simp [g9]⟩
  rintro t hh ⟨ta, te, tw, g1, g2, g7, g8, g9⟩
  have hl1 := want_bytes hf l.length
  have hl2 := want_len l l.length
  have hok := want_ok (k := l.length) hf
  generalize wantR l l.length = w at *
  obtain ⟨a, rfl⟩ : ∃ k : Nat, a = k := ⟨a.toNat, by omega⟩
  by_cases hw0 : w.length = 0
  · simp -implicitDefEqProofs [g9, hw0]
  obtain ⟨K, hK⟩ : ∃ K, K = a / 1000 % w.length := ⟨_, rfl⟩
  obtain ⟨Q, hQ⟩ : ∃ Q, Q = a % 1000 := ⟨_, rfl⟩
  have hKl : K < w.length := by rw [hK]; exact Nat.mod_lt _ (by omega)
  have hKl' : (K : Int) < (w.length : Int) := by omega
  have q1 : (IntKind.i64.wrap ((a : Int) / 1000)).tmod (w.length : Int) = (K : Int) := by
    rw [w64 (by omega) (by omega), hK]
    rfl
  have q2 : (a : Int).tmod 1000 = (Q : Int) := by rw [hQ]; rfl
  have hQl : Q < 1000 := by omega
  simp -implicitDefEqProofs [g9, hw0, g1, q1]
  intro _
  have hen : (endsR w)[K]? = some (recsB (w.take (K + 1))).length := endsR_get hKl
  have hl4 := recsB_take_le w K
  have hl5 := recsB_take_le w (K + 1)
  refine branch_join (BuN9 w a K m) ?_ ?_ ?_
  · intro hd
    have h0 : 0 < K := by have := of_decide_eq_true hd; omega
    have hw1 : IntKind.i64.wrap ((K : Int) - 1) = ((K - 1 : Nat) : Int) := by rw [w64 (by omega) (by omega)]; omega
    have he : (endsR w)[K - 1]? = some (recsB (w.take K)).length := by rw [endsR_get (by omega), show K - 1 + 1 = K by omega]
    simp -implicitDefEqProofs [g8, hw1, he]
    intros
    exact ⟨ta, te, tw, by simp [g1], by simp [g2], by simp [g7], by simp [g8], by simp [g9], by simp, by simp⟩
  · intro hd
    have h0 : K = 0 := by have := of_decide_eq_false hd; omega
    subst h0
    simp -implicitDefEqProofs
    exact ⟨ta, te, tw, by simp [g1], by simp [g2], by simp [g7], by simp [g8], by simp [g9], by simp, by simp⟩
  clear g1 g2 g7 g8 g9
  rintro t hh ⟨ta, te, tw, g1, g2, g7, g8, g9, g14, g15⟩
  have w1 : IntKind.i64.wrap ((recsB (w.take K)).length + 2) = ((recsB (w.take K)).length + 2 : Nat) := by rw [w64 (by omega) (by omega)]; omega
  have w2 : IntKind.i64.wrap (8 * ((recsB (w.take K)).length + 2 : Nat)) = (8 * ((recsB (w.take K)).length + 2) : Nat) := by rw [w64 (by omega) (by omega)]; omega
  have w3 : IntKind.i64.wrap ((8 * ((recsB (w.take K)).length + 2) : Nat) + (Q : Int)) = (8 * ((recsB (w.take K)).length + 2) + Q : Nat) := by rw [w64 (by omega) (by omega)]; omega
  have ht5 : (recsB w).take (recsB (w.take (K + 1))).length = recsB (w.take (K + 1)) := by
    have e : recsB w = recsB (w.take (K + 1)) ++ recsB (w.drop (K + 1)) := by rw [← recsB_append, List.take_append_drop]
    conv => lhs; rw [e]
    rw [List.take_left]
  have hd5 : (recsB w).drop (recsB (w.take (K + 1))).length = recsB (w.drop (K + 1)) := by
    have e : recsB w = recsB (w.take (K + 1)) ++ recsB (w.drop (K + 1)) := by rw [← recsB_append, List.take_append_drop]
    conv => lhs; rw [e]
    rw [List.drop_left]
  have hall : recsB (w.take (K + 1)) ++ recsB (w.drop (K + 1)) = recsB w := by rw [← recsB_append, List.take_append_drop]
  have hl6 : (recsB (w.take (K + 1))).length + (recsB (w.drop (K + 1))).length = (recsB w).length := by rw [← hall, List.length_append]
  simp -implicitDefEqProofs [g1, g2, g7, g8, g14, g15, q2, hen, hl5, ht5]
  have hP : IntKind.i64.wrap (IntKind.i64.wrap (8 * IntKind.i64.wrap (((recsB (w.take K)).length : Int) + 2)) + (a : Int) % 1000) = ((8 * ((recsB (w.take K)).length + 2) + Q : Nat) : Int) := by
    have h0 : (a : Int) % 1000 = (Q : Int) := by rw [hQ]; rfl
    have h1 : IntKind.i64.wrap (((recsB (w.take K)).length : Int) + 2) = ((recsB (w.take K)).length : Int) + 2 := w64 (by omega) (by omega)
    have h2 : IntKind.i64.wrap (8 * (((recsB (w.take K)).length : Int) + 2)) = 8 * (((recsB (w.take K)).length : Int) + 2) := w64 (by omega) (by omega)
    rw [h0, h1, h2, w64 (by omega) (by omega)]
    omega
  rw [hP]
  refine CallK.via (crc_burst (recsB (w.take (K + 1))) ((8 * ((recsB (w.take K)).length + 2) + Q : Nat) : Int) m (by omega) (by omega)) rfl ?_
  obtain ⟨X, hX⟩ : ∃ X, X = burstF (recsB (w.take (K + 1))) ((8 * ((recsB (w.take K)).length + 2) + Q : Nat) : Int) m := ⟨_, rfl⟩
  have hXl : X.length = (recsB (w.take (K + 1))).length := by rw [hX, burstF_length]
  rw [← hX]
  rintro _ ⟨tag, gX, rfl⟩
  have hd6 : List.take ((recsB w).length - (recsB (w.take (K + 1))).length) (recsB (w.drop (K + 1))) = recsB (w.drop (K + 1)) := List.take_of_length_le (by omega)
  have hmn : min ((recsB w).length - (recsB (w.take (K + 1))).length) (recsB (w.drop (K + 1))).length = (recsB (w.drop (K + 1))).length := by omega
  simp -implicitDefEqProofs [g1, g2, g7, g8, g14, g15, hen, hl5, hd5, hd6, hmn]
  refine ⟨⟨gX, by omega⟩, ?_⟩
  refine CallK.with (scan_spec (X ++ recsB (w.drop (K + 1))) (by simp; omega)) rfl ?_
  rw [scanA]
  by_cases hXe : X = recsB (w.take (K + 1))
  · have e1 : scanR (X ++ recsB (w.drop (K + 1))) = (w.map cleanR, (recsB w).length) := by rw [hXe, hall]; exact scan_all hok
    rw [e1]
    simp -implicitDefEqProofs [g1, g2, g7, g8, g14, g15, hen, hl5, ht5]
    refine regionK.intro 10 follows_mixed (by kernel_rfl) ?_
    simp -implicitDefEqProofs [g1, g2, g7, g8, g9, g14, g15, hen, hl5, ht5, hXe]
    refine CallK.with (logSame_spec (w.map cleanR) w) (by simp) ?_
    rw [sameRs_clean]
    simp -implicitDefEqProofs [g1, g2, g7, g8, g9, g14, g15, hen, hl5, ht5, hXe]
    try trace_state
  · have hKw : K ≤ w.length := by omega
    have e1 : scanR (X ++ recsB (w.drop (K + 1))) = ((w.take K).map cleanR, (recsB (w.take K)).length) := burst_scan hok hKl Q m hX hXe _
    rw [e1]
    simp -implicitDefEqProofs [g1, g2, g7, g8, g14, g15, hen, hl5, ht5]
    refine regionK.intro 10 follows_mixed (by kernel_rfl) ?_
    simp -implicitDefEqProofs [g1, g2, g7, g8, g9, g14, g15, hen, hl5, ht5, hXe, hKw]
    refine CallK.with (logSame_spec ((w.take K).map cleanR) (w.take K)) (by simp) ?_
    rw [sameRs_clean]
    simp -implicitDefEqProofs [g1, g2, g7, g8, g9, g14, g15, hen, hl5, ht5, hXe, hKw]
    try trace_state
end Go.Proofs.Ytbgifnlaaophcaa
