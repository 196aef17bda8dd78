/- Parts of the proof: what is used by the law. No condition. -/
import Derived.Test.YtbgifnlaaophcaaGC
set_option linter.unusedSimpArgs false
set_option linter.unusedVariables false
/- Contracts: records' bytes, told otherwise. No condition. -/
set_option linter.unusedSimpArgs false
set_option linter.unusedVariables false
set_option maxRecDepth 10000
namespace Go.Proofs.Ytbgifnlaaophcaa
open Go Go.Rw Go.Proofs
-- a goal is never to be run by the elaborator
attribute [local irreducible] awp aops aop aopsE aeff

theorem nums9_spec (r : PRec) (hr : rightR r = true) (hf : fitR r) : ASpec Try.prog 99 [.agg (eRc r)] (Nums r) := by
  obtain ⟨hk, hv, hc, hn⟩ := rightR_bounds hr
  have n1 := nameV_lt hv
  have n2 := nameV_lt hc
  have w1 := uW n1.1 (by omega)
  have w2 := uW n2.1 (by omega)
  have w3 : IntKind.u64.wrap r.kind = ((r.kind.toNat : Nat) : Int) := uW (by omega) (by omega)
  refine ASpec.of_awp Try.func99 (by kernel_rfl) rfl (by rw [Try.results99]) Try.ntmps99 ?_
  simp -implicitDefEqProofs [eRc]
  refine allocK.intro (fun b1 hb1 => ?_)
  simp -implicitDefEqProofs
  refine regionK.intro 11 follows_mixed (by kernel_rfl) ?_
  simp -implicitDefEqProofs
  refine CallQ.with (name4_spec r.view hv) (by simp [eV]) ?_
  simp -implicitDefEqProofs [w1]
  refine CallQ.with (name4_spec r.cell.change hc) (by simp [eV]) ?_
  simp -implicitDefEqProofs [w2, w3]
  cases rightR_of hr with
  | value v e h hv h1 h2 h3 h4 =>
    have ht := rightT_of h3
    have a1 : IntKind.u64.wrap e.key = ((e.key.toNat : Nat) : Int) := uW (by omega) (by omega)
    have a2 : IntKind.u64.wrap e.tag.num = ((e.tag.num.toNat : Nat) : Int) := uW (by omega) (by omega)
    have a3 : IntKind.u64.wrap e.tag.node = ((e.tag.node.toNat : Nat) : Int) := uW (by omega) (by omega)
    have k1 : r.kind = 1 := by rw [h]
    have ee : r.entry = e := by rw [h]
    simp -implicitDefEqProofs [k1]
    refine regionK.intro 22 follows_mixed (by kernel_rfl) ?_
    simp -implicitDefEqProofs [ee, a1, a2, a3]
    refine CallQ.eq (bits1_spec e.value (by have := hf; rw [h] at this; exact this)) ?_
    simp -implicitDefEqProofs [ee, a1, a2, a3]
    exact ⟨_, by simp [numsR, k1, ee, eU, encU]; exact ⟨rfl, rfl⟩⟩
  | cell v c h hv h1 h2 h3 h4 =>
    have k1 : r.kind = 2 := by rw [h]
    have ee : r.cell = c := by rw [h]
    have a1 : IntKind.u64.wrap c.node = ((c.node.toNat : Nat) : Int) := uW (by omega) (by omega)
    simp -implicitDefEqProofs [k1, ee, a1]
    exact ⟨_, by simp [numsR, k1, ee, eU, encU]; exact ⟨rfl, rfl⟩⟩
  | mark v h hv =>
    have k1 : r.kind = 3 := by rw [h]
    simp -implicitDefEqProofs [k1]
    exact ⟨_, by simp [numsR, k1, eU, encU]; exact ⟨rfl, rfl⟩⟩
  | num k n h hk h1 h2 =>
    have k1 : r.kind = k := by rw [h]
    have ee : r.n = n := by rw [h]
    have a1 : IntKind.u64.wrap n = ((n.toNat : Nat) : Int) := uW (by omega) (by omega)
    rcases hk with rfl | rfl
    · simp -implicitDefEqProofs [k1, ee, a1]
      exact ⟨_, by simp [numsR, k1, ee, eU, encU]; exact ⟨rfl, rfl⟩⟩
    · simp -implicitDefEqProofs [k1, ee, a1]
      exact ⟨_, by simp [numsR, k1, ee, eU, encU]; exact ⟨rfl, rfl⟩⟩
  | intent v u h hv hu h4 =>
    have k1 : r.kind = 5 := by rw [h]
    simp -implicitDefEqProofs [k1]
    exact ⟨_, by simp [numsR, k1, eU, encU]; exact ⟨rfl, rfl⟩⟩
theorem right9r_spec (r : PRec) (hf : fitR r) : ASpec Try.prog 40 [.agg (eRc r)] (· = .v (.bool (rightR r))) := by
  rw [← right9_eq]; exact right9_spec r hf
theorem bytes9_spec (r : PRec) (hf : fitR r) : ASpec Try.prog 37 [.agg (eRc r)] (· = bytesA (bytesR r)) := by
  refine ASpec.of_awp Try.func37 (by kernel_rfl) rfl (by rw [Try.results37]) Try.ntmps37 ?_
  simp -implicitDefEqProofs [eRc]
  refine allocK.intro (fun b1 hb1 => ?_)
  simp -implicitDefEqProofs
  refine CallK.with (right9r_spec r hf) (by simp [eRc]) ?_
  cases hr : rightR r
  · simp -implicitDefEqProofs [bytesR, hr, bytesA]
  simp -implicitDefEqProofs
  refine CallK.via (nums9_spec r hr hf) (by simp [eRc]) ?_
  rintro _ ⟨tag, rfl⟩
  have hl := numsR_length r
  have hfl := forms_length (numsR_lt hr hf)
  simp -implicitDefEqProofs
  refine CallK.of (put2_spec [] (numsR r) (numsR_lt hr hf) (by simp; omega)) ?_
  rintro _ ⟨tag2, _, rfl⟩
  simp -implicitDefEqProofs
  refine CallK.of (seal3_spec (forms (numsR r)) (by omega)) ?_
  rintro _ ⟨tag3, _, rfl⟩
  simp -implicitDefEqProofs
  refine CallK.eq (text2_spec [] (sealF (forms (numsR r))) (by simp)) ?_
  have h4 : ¬ 4000 < (sealF (forms (numsR r))).length := by rw [sealF_length]; omega
  rw [textA, if_neg h4]
  simp -implicitDefEqProofs [bytesR, hr, bytesA, recB, bodyR]
end Go.Proofs.Ytbgifnlaaophcaa

/- Contracts: the disk. No condition. -/
set_option linter.unusedSimpArgs false
set_option linter.unusedVariables false
set_option maxRecDepth 10000
namespace Go.Proofs.Ytbgifnlaaophcaa
open Go Go.Rw Go.Proofs
-- a goal is never to be run by the elaborator
attribute [local irreducible] awp aops aop aopsE aeff

section
variable {P : Program} {M : List Nat} {ops : List Oper} {d : Option Tmp} {ty : TypeId} {pos : String} {after : Array Edge} {g : Option (Nat × Bool)} {s : ASt} {E : Eff → Prop}
theorem aeff_max (x y : Operand) (ts : Array TypeId) : aeff P M ops ⟨d, .call ⟨.builtin .max, #[x, y], ts⟩, ty, pos, after, g⟩ s E = @effO (aMax (dead1 (s.ev x)) (dead1 (s.ev y))) ⟨E⟩ := by with_unfolding_all rfl
theorem aeff_min (x y : Operand) (ts : Array TypeId) : aeff P M ops ⟨d, .call ⟨.builtin .min, #[x, y], ts⟩, ty, pos, after, g⟩ s E = @effO (aMin (dead1 (s.ev x)) (dead1 (s.ev y))) ⟨E⟩ := by with_unfolding_all rfl
end
attribute [simp ↓] aeff_max aeff_min

structure PDisk where
  data : List UInt8
  safe : Int
  room : Int
  fuse : Int
  off : Bool
deriving Inhabited

abbrev eFl (l : List UInt8) : List AV := l.map vB
/-- the disk's bytes lie behind `x` -/
def DataAt (x : AV) (l : List UInt8) (q : Option Nat) (h : Nat → Option (List AV)) : Prop :=
  (q = none ∧ x = .mn ∧ l = []) ∨ ∃ b c cells, q = some b ∧ x = .sm b 0 l.length c ∧ h b = some cells ∧ cells.length = c ∧ cells.take l.length = eFl l
def DiskAt (d : Nat) (D : PDisk) (q : Option Nat) (h : Nat → Option (List AV)) : Prop :=
  q ≠ some d ∧ ∃ x, h d = some [x, eI D.safe, eI D.room, eI D.fuse, .v (.bool D.off)] ∧ DataAt x D.data q h
def foot (d : Nat) (q : Option Nat) (h : Nat → Option (List AV)) : Nat → Option (List AV) := fun b => if b = d ∨ q = some b then h b else none
theorem SubH_refl (h : Nat → Option (List AV)) : SubH h h := fun b c hb => ⟨c, hb, Weak.refl c⟩

theorem DiskAt.keep {d : Nat} {D : PDisk} {q : Option Nat} {h H : Nat → Option (List AV)} (hd : DiskAt d D q h) (hk : ∀ b, (b = d ∨ q = some b) → H b = h b) : DiskAt d D q H := by
  obtain ⟨hq, x, hx, hdat⟩ := hd
  refine ⟨hq, x, by rw [hk d (.inl rfl), hx], ?_⟩
  rcases hdat with h1 | ⟨b, c, cells, h1, h2, h3, h4, h5⟩
  · exact .inl h1
  · exact .inr ⟨b, c, cells, h1, h2, by rw [hk b (.inr h1), h3], h4, h5⟩
theorem DataAt.put {d : Nat} {x : AV} {l : List UInt8} {q : Option Nat} {h : Nat → Option (List AV)} {c : Option (List AV)} (hd : DataAt x l q h) (hq : q ≠ some d) : DataAt x l q (upd h d c) := by
  rcases hd with h1 | ⟨b, c', cells, h1, h2, h3, h4, h5⟩
  · exact .inl h1
  · exact .inr ⟨b, c', cells, h1, h2, by have : ¬ b = d := by { rintro rfl; exact hq h1 }; simpa [upd, this] using h3, h4, h5⟩
theorem DiskAt.set {d : Nat} {D D' : PDisk} {x : AV} {q : Option Nat} {h : Nat → Option (List AV)} {a b c o : AV} (hq : q ≠ some d) (hd : DataAt x D.data q h) (h0 : D'.data = D.data) (h1 : a = eI D'.safe) (h2 : b = eI D'.room) (h3 : c = eI D'.fuse) (h4 : o = .v (.bool D'.off)) :
    DiskAt d D' q (upd h d (some [x, a, b, c, o])) := ⟨hq, x, by simp [upd, h1, h2, h3, h4], by rw [h0]; exact hd.put hq⟩
theorem frz0_v {b : Nat} {rows : List (List AV)} (l : List UInt8) : (l.map vB).map (frz0 b rows) = l.map vB := by rw [List.map_map]; rfl
theorem DiskAt.frozen {d : Nat} {D : PDisk} {q : Option Nat} {h : Nat → Option (List AV)} (b2 : Nat) (rows : List (List AV)) (hd : DiskAt d D q h) (h1 : ¬ d = b2) (h2 : q ≠ some b2) : DiskAt d D q (frozenH b2 rows h) := by
  obtain ⟨hq, x, hx, hdat⟩ := hd
  rcases hdat with ⟨rfl, rfl, h0⟩ | ⟨b, c, cells, rfl, rfl, hb, hc, ht⟩
  · exact ⟨hq, .mn, by simp [frozenH, h1, hx, frz0], .inl ⟨rfl, rfl, h0⟩⟩
  · have hn : ¬ b = b2 := by rintro rfl; exact h2 rfl
    refine ⟨hq, .sm b 0 D.data.length c, by simp [frozenH, h1, hx, frz0, hn], .inr ⟨b, c, cells.map (frz0 b2 rows), rfl, rfl, by simp [frozenH, hn, hb], by simpa using hc, ?_⟩⟩
    rw [← List.map_take, ht, frz0_v]
theorem DiskAt.other {d : Nat} {D : PDisk} {q : Option Nat} {h : Nat → Option (List AV)} (b2 : Nat) (c : Option (List AV)) (hd : DiskAt d D q h) (h1 : ¬ d = b2) (h2 : q ≠ some b2) : DiskAt d D q (upd h b2 c) :=
  hd.keep fun b hb => by
    have : ¬ b = b2 := by
      rcases hb with rfl | hb
      · exact h1
      · rintro rfl; exact h2 hb
    simp [upd, this]
theorem max_if (a b : Int) : (if a < b then b else a) = max a b := by split <;> omega
theorem min_if (a b : Int) : (if b < a then b else a) = min a b := by split <;> omega
theorem off_spec (d : Nat) (D : PDisk) (q : Option Nat) (h : Nat → Option (List AV)) (hd : DiskAt d D q h) :
    MSpec Try.prog 53 [.ptr d 0] h (fun r h' => r = .v (.bool D.off) ∧ DiskAt d D q h') := by
  refine MSpec.of_awp Try.func53 (by kernel_rfl) rfl (by rw [Try.results53]) Try.ntmps53 ?_
  obtain ⟨hq, x, hx, hdat⟩ := id hd
  simp -implicitDefEqProofs [hx]
  exact ⟨h, SubH_refl h, hd⟩
theorem safe_spec (d : Nat) (D : PDisk) (q : Option Nat) (h : Nat → Option (List AV)) (hd : DiskAt d D q h) :
    MSpec Try.prog 43 [.ptr d 0] h (fun r h' => r = eI D.safe ∧ DiskAt d D q h') := by
  refine MSpec.of_awp Try.func43 (by kernel_rfl) rfl (by rw [Try.results43]) Try.ntmps43 ?_
  obtain ⟨hq, x, hx, hdat⟩ := id hd
  simp -implicitDefEqProofs [hx]
  exact ⟨h, SubH_refl h, hd⟩
theorem limit_spec (d : Nat) (D : PDisk) (q : Option Nat) (n : Int) (h : Nat → Option (List AV)) (hd : DiskAt d D q h) :
    MSpec Try.prog 95 [.ptr d 0, eI n] h (fun r h' => r = .tup [] ∧ DiskAt d { D with room := max 0 (min n 60000) } q h') := by
  refine MSpec.of_awp Try.func95 (by kernel_rfl) rfl (by rw [Try.results95]) Try.ntmps95 ?_
  obtain ⟨hq, x, hx, hdat⟩ := id hd
  simp -implicitDefEqProofs [hx, max_if, min_if]
  exact ⟨_, SubH_refl _, DiskAt.set (D := D) hq hdat rfl rfl (by simp [max_if, min_if, Int.min_comm]) rfl rfl⟩
theorem fuse_spec (d : Nat) (D : PDisk) (q : Option Nat) (n : Int) (h : Nat → Option (List AV)) (hd : DiskAt d D q h) :
    MSpec Try.prog 49 [.ptr d 0, eI n] h (fun r h' => r = .tup [] ∧ DiskAt d { D with fuse := max (-1) n } q h') := by
  refine MSpec.of_awp Try.func49 (by kernel_rfl) rfl (by rw [Try.results49]) Try.ntmps49 ?_
  obtain ⟨hq, x, hx, hdat⟩ := id hd
  simp -implicitDefEqProofs [hx, max_if, min_if]
  exact ⟨_, SubH_refl _, DiskAt.set (D := D) hq hdat rfl rfl rfl (by simp [max_if, min_if]) rfl⟩
theorem sync_spec (d : Nat) (D : PDisk) (q : Option Nat) (h : Nat → Option (List AV)) (hd : DiskAt d D q h) :
    MSpec Try.prog 94 [.ptr d 0] h (fun r h' => r = .tup [] ∧ DiskAt d (if D.off then D else { D with safe := D.data.length }) q h') := by
  refine MSpec.of_awp Try.func94 (by kernel_rfl) rfl (by rw [Try.results94]) Try.ntmps94 ?_
  obtain ⟨hq, x, hx, hdat⟩ := id hd
  cases ho : D.off
  · rcases hdat with ⟨rfl, rfl, h0⟩ | ⟨b, c, cells, rfl, rfl, hb, hc, ht⟩
    · simp -implicitDefEqProofs [hx, ho]
      exact ⟨_, SubH_refl _, DiskAt.set (D := D) hq (.inl ⟨rfl, rfl, h0⟩) rfl (by simp [h0]) rfl rfl (by simp [ho])⟩
    · simp -implicitDefEqProofs [hx, ho]
      intro _
      exact ⟨_, SubH_refl _, DiskAt.set (D := D) hq (.inr ⟨b, c, cells, rfl, rfl, hb, hc, ht⟩) rfl rfl rfl rfl (by simp [ho])⟩
  · simp -implicitDefEqProofs [hx, ho]
    exact ⟨h, SubH_refl h, by simpa [ho] using hd⟩

theorem limit_any (d : Nat) (x a b c o : AV) (n : Int) :
    MSpec Try.prog 95 [.ptr d 0, eI n] (one d [x, a, b, c, o]) (fun r h' => r = .tup [] ∧ h' = one d [x, a, eI (max 0 (min n 60000)), c, o]) := by
  refine MSpec.of_awp Try.func95 (by kernel_rfl) rfl (by rw [Try.results95]) Try.ntmps95 ?_
  have hx : one d [x, a, b, c, o] d = some [x, a, b, c, o] := by simp [one, upd]
  simp -implicitDefEqProofs [hx, max_if, min_if]
  trace_state
theorem new_spec (n : Int) : MSpec Try.prog 35 [eI n] (fun _ => none) (fun r h' => ∃ d, r = .ptr d 0 ∧ DiskAt d ⟨[], 0, max 0 (min n 60000), -1, false⟩ none h') := by
  refine MSpec.of_awpS Try.func35 (by kernel_rfl) rfl (by rw [Try.results35]) Try.ntmps35 ?_
  simp -implicitDefEqProofs
  refine allocK.intro (fun d hd => ?_)
  simp -implicitDefEqProofs
  refine CallK.mf (limit_any d (.sl .nil []) (eI 0) (eI 0) (eI (-1)) (.v (.bool false)) n) rfl (SubH_one.2 (by simp [Weak.refl])) ?_
  rintro _ h' ⟨rfl, rfl⟩ _
  simp -implicitDefEqProofs
  simp only [merge_one]
  refine shiftK.mn d 0 [AV.sl .nil [], eI 0, eI (max 0 (min n 60000)), eI (-1), .v (.bool false)] (by simp) rfl ?_
  simp only [List.set, forceL]
  refine shiftK.skip ?_
  simp -implicitDefEqProofs
  refine ⟨_, SubH_refl _, ?_⟩
  refine ⟨by simp, .mn, by simp, .inl ⟨rfl, rfl, rfl⟩⟩
def freshQ (q q' : Option Nat) (h : Nat → Option (List AV)) : Prop := q' = q ∨ ∃ b, q' = some b ∧ h b = none
theorem bytes_spec (d : Nat) (D : PDisk) (q : Option Nat) (h : Nat → Option (List AV)) (hd : DiskAt d D q h) (hl : D.data.length ≤ 1000000000) :
    MSpec Try.prog 42 [.ptr d 0] h (fun r h' => ∃ tag, r = .sl tag (eB D.data) ∧ DiskAt d D q h') := by
  refine MSpec.of_awpS Try.func42 (by kernel_rfl) rfl (by rw [Try.results42]) Try.ntmps42 ?_
  obtain ⟨hq, x, hx, hdat⟩ := id hd
  rcases hdat with ⟨rfl, rfl, h0⟩ | ⟨b, c, cells, rfl, rfl, hb, hc, ht⟩
  · simp -implicitDefEqProofs [hx]
    refine allocK.intro (fun b2 hb2 => ?_)
    have n1 : ¬ d = b2 := by rintro rfl; simp [hx] at hb2
    have n1' : ¬ b2 = d := fun h => n1 h.symm
    simp -implicitDefEqProofs [hx, n1, n1']
    refine shiftK.freeze (b := b2) (len := 0) (cap := 0) 2 5 (cells := []) (eB []) (by simp) (by simp) (chunks_bytes [] []) (by simp) (by simp) ?_
    simp -implicitDefEqProofs
    refine ⟨_, SubH_refl _, by rw [h0]; rfl, ?_⟩
    exact ((hd.other b2 _ n1 (by simp)).other b2 _ n1 (by simp)).frozen b2 _ n1 (by simp)
  · simp -implicitDefEqProofs [hx, hb]
    intro _
    refine ⟨⟨by omega, by omega⟩, ?_⟩
    refine allocK.intro (fun b2 hb2 => ?_)
    have n1 : ¬ d = b2 := by rintro rfl; simp [hx] at hb2
    have n1' : ¬ b2 = d := fun h => n1 h.symm
    have n2 : ¬ b = b2 := by rintro rfl; simp [hb] at hb2
    have n2' : ¬ b2 = b := fun h => n2 h.symm
    have hle : D.data.length ≤ cells.length := by
      have := congrArg List.length ht
      simp at this
      omega
    simp -implicitDefEqProofs [hx, hb, n1, n1', n2, n2', ht, hle, vB]
    refine shiftK.freeze (b := b2) (len := D.data.length) (cap := D.data.length) (cells := D.data.map vB) 2 5 (eB D.data) (by simp) (by simp [vB, Function.comp_def]) (by simpa using chunks_bytes D.data []) (by simp) (by simp) ?_
    simp -implicitDefEqProofs [n1, n1', n2, n2']
    exact ⟨_, SubH_refl _, ((hd.other b2 _ n1 (by simp [n2])).other b2 _ n1 (by simp [n2])).frozen b2 _ n1 (by simp [n2])⟩
def OkD (D : PDisk) : Prop := 0 ≤ D.room ∧ D.room ≤ 60000 ∧ -1 ≤ D.fuse ∧ D.fuse < 9223372036854775808 ∧ 0 ≤ D.safe ∧ D.safe ≤ D.data.length ∧ D.data.length ≤ 60000
def appendD (D : PDisk) (x : List UInt8) : PDisk × Int :=
  if D.off then (D, 82)
  else if max 0 (D.room - D.data.length) < x.length then (D, 81)
  else if D.fuse ≠ -1 ∧ D.fuse < x.length then ({ D with data := D.data ++ x.take D.fuse.toNat, off := true }, 82)
  else ({ D with data := D.data ++ x, fuse := if D.fuse ≠ -1 then D.fuse - x.length else D.fuse }, 0)
theorem take_left2 {l y : List UInt8} (spare : List AV) : (l.map vB ++ (y.map vB ++ spare)).take (l ++ y).length = eFl (l ++ y) := by
  rw [← List.append_assoc, ← List.map_append, List.take_left' (by simp)]
theorem dead_vB {cells : List AV} {l : List UInt8} (ht : cells.take l.length = eFl l) : (cells.map dead1).take l.length = l.map vB := by
  rw [← List.map_take, ht, List.map_map]; rfl
theorem DiskAt.mk_sm {d : Nat} {D : PDisk} {b c n : Nat} {cells : List AV} {h : Nat → Option (List AV)} (hn : n = D.data.length) (hbd : ¬ d = b) (h1 : h d = some [.sm b 0 n c, eI D.safe, eI D.room, eI D.fuse, .v (.bool D.off)])
    (h2 : h b = some cells) (h3 : cells.length = c) (h4 : cells.take D.data.length = eFl D.data) : DiskAt d D (some b) h := by
  subst hn
  exact ⟨fun h => hbd (by simpa using h.symm), _, h1, .inr ⟨b, c, cells, rfl, rfl, h2, h3, h4⟩⟩
theorem append_spec (d : Nat) (D : PDisk) (q : Option Nat) (x : List UInt8) (h : Nat → Option (List AV)) (hd : DiskAt d D q h) (ho : OkD D) (hx : x.length ≤ 1000000000) :
    MSpec Try.prog 51 [.ptr d 0, .sl .no (eB x)] h (fun r h' => r = eI (appendD D x).2 ∧ ∃ q', DiskAt d (appendD D x).1 q' h') := by
  refine MSpec.of_awp Try.func51 (by kernel_rfl) rfl (by rw [Try.results51]) Try.ntmps51 ?_
  obtain ⟨hq, v, hv, hdat⟩ := id hd
  obtain ⟨o1, o2, o3, o4, o5, o6, o7⟩ := ho
  have w1 : IntKind.i64.wrap (D.room - (D.data.length : Int)) = D.room - (D.data.length : Int) := w64 (by omega) (by omega)
  cases hoff : D.off
  · by_cases hA : max 0 (D.room - (D.data.length : Int)) < (x.length : Int)
    · have e : appendD D x = (D, 81) := by simp [appendD, hoff, hA]
      rcases hdat with ⟨rfl, rfl, h0⟩ | ⟨b, c, cells, rfl, rfl, hb, hc, ht⟩
      · have w0 : IntKind.i64.wrap D.room = D.room := w64 (by omega) (by omega)
        have hA' : max 0 D.room < (x.length : Int) := by rw [h0] at hA; simpa using hA
        simp -implicitDefEqProofs [hv, hoff]
        refine regionK.intro 15 follows_mixed (by kernel_rfl) ?_
        simp -implicitDefEqProofs [hv, hoff, max_if, w0, hA', e]
        exact ⟨h, SubH_refl h, _, hd⟩
      · have hA' : (if (D.data.length : Int) < D.room then D.room - (D.data.length : Int) else 0) < (x.length : Int) := by split <;> omega
        simp -implicitDefEqProofs [hv, hoff, hb]
        refine regionK.intro 15 follows_mixed (by kernel_rfl) ?_
        simp -implicitDefEqProofs [hv, hoff, hb, max_if, w1, hA', e]
        intros
        exact ⟨h, SubH_refl h, _, hd⟩
    · by_cases hF : D.fuse ≠ -1 ∧ D.fuse < (x.length : Int)
      · have e : appendD D x = ({ D with data := D.data ++ x.take D.fuse.toNat, off := true }, 82) := by simp only [appendD, hoff, if_neg hA, if_pos hF]; rfl
        obtain ⟨hF1, hF2⟩ := hF
        rcases hdat with ⟨rfl, rfl, h0⟩ | ⟨b, c, cells, rfl, rfl, hb, hc, ht⟩
        · have w0 : IntKind.i64.wrap D.room = D.room := w64 (by omega) (by omega)
          have hA' : ¬ max 0 D.room < (x.length : Int) := by rw [h0] at hA; simpa using hA
          simp -implicitDefEqProofs [hv, hoff]
          refine regionK.intro 15 follows_mixed (by kernel_rfl) ?_
          simp -implicitDefEqProofs [hv, hoff, max_if, w0, hA', e, hF1, hF2]
          intro _
          have f0 : 0 ≤ D.fuse := by omega
          have f1 : D.fuse ≤ (x.length : Int) := by omega
          refine regionK.modes [] [.q, .q, .q, .q, .q, .q, .q, .q, .q, .q, .q, .l, .s, .s, .s] follows_mixed (by kernel_rfl) ?_
          simp -implicitDefEqProofs [hv, f0, f1, maskH]
          refine ⟨by omega, growMnK.intro (fun hr => ?_) (fun hne b' c' spare hb' hc' hs' => ?_)⟩
          · have hr' : x.take D.fuse.toNat = [] := by simpa [eB] using hr
            simp -implicitDefEqProofs [hv]
            exact ⟨_, SubH_refl _, none, by simp, .mn, by simp [upd], .inl ⟨rfl, rfl, by simp only [h0, hr']; rfl⟩⟩
          · have nd : ¬ d = b' := by rintro rfl; simp [hv] at hb'
            have nd' : ¬ b' = d := fun h => nd h.symm
            have hm : min D.fuse.toNat x.length = D.fuse.toNat := by omega
            simp only [eB, List.length_map, List.length_take, hm] at hc' hs'
            simp -implicitDefEqProofs [hv, nd, nd', hm]
            refine ⟨_, SubH_refl _, some b', DiskAt.mk_sm (c := c') (n := D.fuse.toNat) (cells := List.take D.fuse.toNat (x.map vB) ++ spare) ?_ nd (by simp [upd]) (by simp [upd, nd']) ?_ ?_⟩
            · simp [h0, hm]
            · simp [hm]; omega
            · rw [h0, ← List.map_take]
              exact take_left2 (l := []) spare
        · have nb : ¬ d = b := fun h => hq (by rw [h])
          have nb' : ¬ b = d := fun h => nb h.symm
          have hA' : ¬ (if (D.data.length : Int) < D.room then D.room - (D.data.length : Int) else 0) < (x.length : Int) := by split <;> omega
          simp -implicitDefEqProofs [hv, hoff, hb]
          refine regionK.intro 15 follows_mixed (by kernel_rfl) ?_
          simp -implicitDefEqProofs [hv, hoff, hb, max_if, w1, hA', e, hF1, hF2]
          intro _
          have f0 : 0 ≤ D.fuse := by omega
          have f1 : D.fuse ≤ (x.length : Int) := by omega
          refine regionK.modes [b] [.q, .q, .q, .q, .q, .q, .q, .q, .q, .q, .q, .l, .s, .s, .s] follows_mixed (by kernel_rfl) ?_
          simp -implicitDefEqProofs [hv, hb, f0, f1, maskH, nb, nb']
          refine ⟨by omega, hc, growSmK.intro (fun b' c' spare hb' hc' hs' => ?_)⟩
          have nd : ¬ d = b' := by
            rintro rfl
            rcases hb' with h1 | h1
            · exact nb h1
            · simp [hv] at h1
          have nd' : ¬ b' = d := fun h => nd h.symm
          have hm : min D.fuse.toNat x.length = D.fuse.toNat := by omega
          have hle : D.data.length ≤ cells.length := by
            have := congrArg List.length ht
            simp at this
            omega
          simp only [eB, List.length_map, List.length_take, hm] at hc' hs'
          simp -implicitDefEqProofs [hv, nb, nb', nd, nd', hm]
          refine ⟨_, SubH_refl _, some b', DiskAt.mk_sm (c := c') (n := D.data.length + D.fuse.toNat) (cells := List.take D.data.length (List.map dead1 cells) ++ (List.take D.fuse.toNat (List.map vB x) ++ spare)) ?_ nd (by simp [upd]) (by simp [upd, nd']) ?_ ?_⟩
          · simp [hm]
          · simp [hm]; omega
          · rw [dead_vB ht, ← List.map_take]
            exact take_left2 spare
      · by_cases hm1 : D.fuse = -1
        · have e : appendD D x = ({ D with data := D.data ++ x }, 0) := by simp only [appendD, hoff, if_neg hA, if_neg hF]; simp [hm1]
          rcases hdat with ⟨rfl, rfl, h0⟩ | ⟨b, c, cells, rfl, rfl, hb, hc, ht⟩
          · have w0 : IntKind.i64.wrap D.room = D.room := w64 (by omega) (by omega)
            have hA' : ¬ max 0 D.room < (x.length : Int) := by rw [h0] at hA; simpa using hA
            simp -implicitDefEqProofs [hv, hoff]
            refine regionK.intro 15 follows_mixed (by kernel_rfl) ?_
            simp -implicitDefEqProofs [hv, hoff, max_if, w0, hA', e, hm1]
            intros
            refine ⟨by omega, growMnK.intro (fun hr => ?_) (fun hne b' c' spare hb' hc' hs' => ?_)⟩
            · have hr' : x = [] := by simpa [eB] using hr
              simp -implicitDefEqProofs [hv]
              exact ⟨_, SubH_refl _, none, by simp, .mn, by simp [upd, hm1, hoff], .inl ⟨rfl, rfl, by simp only [h0, hr']; rfl⟩⟩
            · have nd : ¬ d = b' := by rintro rfl; simp [hv] at hb'
              have nd' : ¬ b' = d := fun h => nd h.symm
              simp only [eB, List.length_map] at hc' hs'
              simp -implicitDefEqProofs [hv, nd, nd']
              refine ⟨_, SubH_refl _, some b', DiskAt.mk_sm (c := c') (n := x.length) (cells := x.map vB ++ spare) ?_ nd (by simp [upd, hm1, hoff]) (by simp [upd, nd']) ?_ ?_⟩
              · simp [h0]
              · simp; omega
              · rw [h0]
                exact take_left2 (l := []) spare
          · have nb : ¬ d = b := fun h => hq (by rw [h])
            have nb' : ¬ b = d := fun h => nb h.symm
            have hA' : ¬ (if (D.data.length : Int) < D.room then D.room - (D.data.length : Int) else 0) < (x.length : Int) := by split <;> omega
            simp -implicitDefEqProofs [hv, hoff, hb]
            refine regionK.intro 15 follows_mixed (by kernel_rfl) ?_
            simp -implicitDefEqProofs [hv, hoff, hb, max_if, w1, hA', e, hm1, nb, nb']
            intros
            refine ⟨by omega, hc, growSmK.intro (fun b' c' spare hb' hc' hs' => ?_)⟩
            have nd : ¬ d = b' := by
              rintro rfl
              rcases hb' with h1 | h1
              · exact nb h1
              · simp [hv] at h1
            have nd' : ¬ b' = d := fun h => nd h.symm
            have hle : D.data.length ≤ cells.length := by
              have := congrArg List.length ht
              simp at this
              omega
            simp only [eB, List.length_map] at hc' hs'
            simp -implicitDefEqProofs [hv, nb, nb', nd, nd']
            refine ⟨_, SubH_refl _, some b', DiskAt.mk_sm (c := c') (n := D.data.length + x.length) (cells := List.take D.data.length (List.map dead1 cells) ++ (List.map vB x ++ spare)) ?_ nd (by simp [upd, hm1, hoff]) (by simp [upd, nd']) ?_ ?_⟩
            · simp
            · simp; omega
            · rw [dead_vB ht]
              exact take_left2 spare
        · have hF3 : ¬ D.fuse < (x.length : Int) := fun h => hF ⟨hm1, h⟩
          have w3 : IntKind.i64.wrap (D.fuse - (x.length : Int)) = D.fuse - (x.length : Int) := w64 (by omega) (by omega)
          have e : appendD D x = ({ D with data := D.data ++ x, fuse := D.fuse - x.length }, 0) := by simp only [appendD, hoff, if_neg hA, if_neg hF]; simp [hm1]
          rcases hdat with ⟨rfl, rfl, h0⟩ | ⟨b, c, cells, rfl, rfl, hb, hc, ht⟩
          · have w0 : IntKind.i64.wrap D.room = D.room := w64 (by omega) (by omega)
            have hA' : ¬ max 0 D.room < (x.length : Int) := by rw [h0] at hA; simpa using hA
            simp -implicitDefEqProofs [hv, hoff]
            refine regionK.intro 15 follows_mixed (by kernel_rfl) ?_
            simp -implicitDefEqProofs [hv, hoff, max_if, w0, hA', e, hm1, hF3, w3]
            intros
            refine ⟨by omega, growMnK.intro (fun hr => ?_) (fun hne b' c' spare hb' hc' hs' => ?_)⟩
            · have hr' : x = [] := by simpa [eB] using hr
              simp -implicitDefEqProofs [hv]
              exact ⟨_, SubH_refl _, none, by simp, .mn, by simp [upd, hm1, hoff], .inl ⟨rfl, rfl, by simp only [h0, hr']; rfl⟩⟩
            · have nd : ¬ d = b' := by rintro rfl; simp [hv] at hb'
              have nd' : ¬ b' = d := fun h => nd h.symm
              simp only [eB, List.length_map] at hc' hs'
              simp -implicitDefEqProofs [hv, nd, nd']
              refine ⟨_, SubH_refl _, some b', DiskAt.mk_sm (c := c') (n := x.length) (cells := x.map vB ++ spare) ?_ nd (by simp [upd, hm1, hoff]) (by simp [upd, nd']) ?_ ?_⟩
              · simp [h0]
              · simp; omega
              · rw [h0]
                exact take_left2 (l := []) spare
          · have nb : ¬ d = b := fun h => hq (by rw [h])
            have nb' : ¬ b = d := fun h => nb h.symm
            have hA' : ¬ (if (D.data.length : Int) < D.room then D.room - (D.data.length : Int) else 0) < (x.length : Int) := by split <;> omega
            simp -implicitDefEqProofs [hv, hoff, hb]
            refine regionK.intro 15 follows_mixed (by kernel_rfl) ?_
            simp -implicitDefEqProofs [hv, hoff, hb, max_if, w1, hA', e, hm1, hF3, w3, nb, nb']
            intros
            refine ⟨by omega, hc, growSmK.intro (fun b' c' spare hb' hc' hs' => ?_)⟩
            have nd : ¬ d = b' := by
              rintro rfl
              rcases hb' with h1 | h1
              · exact nb h1
              · simp [hv] at h1
            have nd' : ¬ b' = d := fun h => nd h.symm
            have hle : D.data.length ≤ cells.length := by
              have := congrArg List.length ht
              simp at this
              omega
            simp only [eB, List.length_map] at hc' hs'
            simp -implicitDefEqProofs [hv, nb, nb', nd, nd']
            refine ⟨_, SubH_refl _, some b', DiskAt.mk_sm (c := c') (n := D.data.length + x.length) (cells := List.take D.data.length (List.map dead1 cells) ++ (List.map vB x ++ spare)) ?_ nd (by simp [upd, hm1, hoff]) (by simp [upd, nd']) ?_ ?_⟩
            · simp
            · simp; omega
            · rw [dead_vB ht]
              exact take_left2 spare
  · have e : appendD D x = (D, 82) := by simp [appendD, hoff]
    simp -implicitDefEqProofs [hv, hoff, e]
    exact ⟨h, SubH_refl h, _, hd⟩

def crashD (D : PDisk) (keep : Int) : PDisk := { data := D.data.take (D.safe + max 0 (min keep ((D.data.length : Int) - D.safe))).toNat, safe := D.safe + max 0 (min keep ((D.data.length : Int) - D.safe)), room := D.room, fuse := -1, off := false }
theorem crash_spec (d : Nat) (D : PDisk) (q : Option Nat) (keep : Int) (h : Nat → Option (List AV)) (hd : DiskAt d D q h) (ho : OkD D) :
    MSpec Try.prog 47 [.ptr d 0, eI keep] h (fun r h' => r = .tup [] ∧ DiskAt d (crashD D keep) q h') := by
  refine MSpec.of_awp Try.func47 (by kernel_rfl) rfl (by rw [Try.results47]) Try.ntmps47 ?_
  obtain ⟨hq, v, hv, hdat⟩ := id hd
  obtain ⟨o1, o2, o3, o4, o5, o6, o7⟩ := ho
  rcases hdat with ⟨rfl, rfl, h0⟩ | ⟨b, c, cells, rfl, rfl, hb, hc, ht⟩
  · have s0 : D.safe = 0 := by rw [h0] at o6; simp at o6; omega
    simp -implicitDefEqProofs [hv]
    refine regionK.intro 24 follows_mixed (by kernel_rfl) ?_
    have w0 : IntKind.i64.wrap (max 0 (min keep (IntKind.i64.wrap 0))) = 0 := by
      have : IntKind.i64.wrap 0 = 0 := by decide
      rw [this, show max 0 (min keep 0) = 0 by omega, this]
    simp -implicitDefEqProofs [hv, s0, max_if, min_if, w0]
    refine ⟨_, SubH_refl _, by simp, .mn, by simp [upd, crashD, h0, s0]; omega, .inl ⟨rfl, rfl, by simp [crashD, h0]⟩⟩
  · have w1 : IntKind.i64.wrap ((D.data.length : Int) - D.safe) = (D.data.length : Int) - D.safe := w64 (by omega) (by omega)
    obtain ⟨m, hm⟩ : ∃ m : Nat, (m : Int) = D.safe + max 0 (min keep ((D.data.length : Int) - D.safe)) := ⟨(D.safe + max 0 (min keep ((D.data.length : Int) - D.safe))).toNat, by omega⟩
    have nb : ¬ d = b := fun h => hq (by rw [h])
    have nb' : ¬ b = d := fun h => nb h.symm
    have w2 : IntKind.i64.wrap (D.safe + max 0 (min keep ((D.data.length : Int) - D.safe))) = (m : Int) := by rw [← hm]; exact w64 (by omega) (by omega)
    have hml : m ≤ D.data.length := by omega
    have hml' : (m : Int) ≤ (D.data.length : Int) := by omega
    have hmin : min m D.data.length = m := by omega
    have e : crashD D keep = ⟨D.data.take m, m, D.room, -1, false⟩ := by simp only [crashD, ← hm, Int.toNat_natCast]
    rw [e]
    have fin : ∀ H : Nat → Option (List AV), H d = some [.sm b 0 m c, eI m, eI D.room, eI (-1), .v (.bool false)] → H b = some cells → DiskAt d ⟨D.data.take m, m, D.room, -1, false⟩ (some b) H := by
      intro H h1 h2
      refine DiskAt.mk_sm (n := m) (by simp [hmin]) nb h1 h2 hc ?_
      have : (cells.take D.data.length).take m = eFl (D.data.take m) := by rw [ht, ← List.map_take]
      rw [List.take_take, hmin] at this
      simpa [hmin] using this
    simp -implicitDefEqProofs [hv, hb]
    refine regionK.intro 24 follows_mixed (by kernel_rfl) ?_
    by_cases hm0 : 0 < m
    · simp -implicitDefEqProofs [hv, hb, w1, w2, max_if, min_if, hml', hm0, nb, nb']
      intros
      exact ⟨_, SubH_refl _, fin _ (by simp [upd]) (by simp [upd, nb', hb])⟩
    · obtain rfl : m = 0 := by omega
      simp -implicitDefEqProofs [hv, hb, w1, w2, max_if, min_if, hml', nb, nb']
      exact ⟨_, SubH_refl _, fin _ (by simp [upd]) (by simp [upd, nb', hb])⟩
def cutD (D : PDisk) (n : Int) : PDisk := if D.off then D else { D with data := D.data.take (max 0 (min n D.data.length)).toNat, safe := min D.safe (max 0 (min n D.data.length)) }
theorem diskcut_spec (d : Nat) (D : PDisk) (q : Option Nat) (n : Int) (h : Nat → Option (List AV)) (hd : DiskAt d D q h) (ho : OkD D) :
    MSpec Try.prog 55 [.ptr d 0, eI n] h (fun r h' => r = .tup [] ∧ DiskAt d (cutD D n) q h') := by
  refine MSpec.of_awp Try.func55 (by kernel_rfl) rfl (by rw [Try.results55]) Try.ntmps55 ?_
  obtain ⟨hq, v, hv, hdat⟩ := id hd
  obtain ⟨o1, o2, o3, o4, o5, o6, o7⟩ := ho
  cases hoff : D.off
  · rcases hdat with ⟨rfl, rfl, h0⟩ | ⟨b, c, cells, rfl, rfl, hb, hc, ht⟩
    · have s0 : D.safe = 0 := by rw [h0] at o6; simp at o6; omega
      have w0 : max 0 (min n 0) = 0 := by omega
      simp -implicitDefEqProofs [hv, hoff]
      refine regionK.intro 14 follows_mixed (by kernel_rfl) ?_
      simp -implicitDefEqProofs [hv, max_if, min_if, w0]
      refine regionK.intro 11 follows_mixed (by kernel_rfl) ?_
      simp -implicitDefEqProofs [hv, s0, max_if, min_if]
      refine ⟨_, SubH_refl _, by simp, .mn, by simp [upd, cutD, hoff, h0, s0]; omega, .inl ⟨rfl, rfl, by simp [cutD, hoff, h0]⟩⟩
    · obtain ⟨m, hm⟩ : ∃ m : Nat, (m : Int) = max 0 (min n (D.data.length : Int)) := ⟨(max 0 (min n (D.data.length : Int))).toNat, by omega⟩
      have nb : ¬ d = b := fun h => hq (by rw [h])
      have nb' : ¬ b = d := fun h => nb h.symm
      have hml : m ≤ D.data.length := by omega
      have hml' : (m : Int) ≤ (D.data.length : Int) := by omega
      have hmin : min m D.data.length = m := by omega
      have e : cutD D n = ⟨D.data.take m, min D.safe m, D.room, D.fuse, false⟩ := by simp only [cutD, hoff, ← hm, Int.toNat_natCast]; simp
      rw [e]
      have fin : ∀ H : Nat → Option (List AV), H d = some [.sm b 0 m c, eI (min D.safe m), eI D.room, eI D.fuse, .v (.bool false)] → H b = some cells → DiskAt d ⟨D.data.take m, min D.safe m, D.room, D.fuse, false⟩ (some b) H := by
        intro H h1 h2
        refine DiskAt.mk_sm (n := m) (by simp [hmin]) nb h1 h2 hc ?_
        have : (cells.take D.data.length).take m = eFl (D.data.take m) := by rw [ht, ← List.map_take]
        rw [List.take_take, hmin] at this
        simpa [hmin] using this
      simp -implicitDefEqProofs [hv, hb, hoff]
      refine regionK.intro 14 follows_mixed (by kernel_rfl) ?_
      by_cases hm0 : 0 < m
      · simp -implicitDefEqProofs [hv, hb, ← hm, max_if, min_if, hml', hm0, nb, nb']
        intros
        refine regionK.intro 11 follows_mixed (by kernel_rfl) ?_
        simp -implicitDefEqProofs [hv, hb, max_if, min_if, nb, nb']
        intros
        exact ⟨_, SubH_refl _, fin _ (by simp [upd, hoff]) (by simp [upd, nb', hb])⟩
      · obtain rfl : m = 0 := by omega
        simp -implicitDefEqProofs [hv, hb, ← hm, max_if, min_if, hml', nb, nb']
        refine regionK.intro 11 follows_mixed (by kernel_rfl) ?_
        simp -implicitDefEqProofs [hv, hb, max_if, min_if, nb, nb']
        intros
        exact ⟨_, SubH_refl _, fin _ (by simp [upd, hoff]) (by simp [upd, nb', hb])⟩
  · have e : cutD D n = D := by simp [cutD, hoff]
    simp -implicitDefEqProofs [hv, hoff, e]
    exact ⟨h, SubH_refl h, hd⟩

/-- a disk is called: what the caller keeps -/
theorem foot_at {d : Nat} {D : PDisk} {q : Option Nat} {h : Nat → Option (List AV)} (hd : DiskAt d D q h) : DiskAt d D q (foot d q h) := hd.keep fun b hb => by simp [foot, hb]
theorem disk_call {P : Program} {g : FuncId} {args args' : List AV} {s : ASt} {dst : Option Tmp} {K : ASt → Prop} {d : Nat} {D D' : PDisk} {q : Option Nat} {R : AV → Prop}
    (hm : ∀ h, DiskAt d D q h → MSpec P g args' h (fun r h' => R r ∧ ∃ q', DiskAt d D' q' h')) (ha : args = args') (hd : DiskAt d D q s.h)
    (hk : ∀ r q' H, R r → DiskAt d D' q' H → (∀ b c, ¬ b = d → q ≠ some b → s.h b = some c → H b = some c ∧ q' ≠ some b) → @force r ⟨fun r => K ({ s with h := H }.put dst r)⟩) : @CallK P g args s dst ⟨K⟩ := by
  refine CallK.mh (hm (foot d q s.h) (foot_at hd)) ha (SubH.of fun b c hb => ?_) ?_
  · unfold foot at hb
    split at hb
    · exact hb
    · simp at hb
  · rintro r h' H ⟨hr, q', hd'⟩ h1 h2 h3
    have e : DiskAt d D' q' H := by
      obtain ⟨hq, x, hx, hdat⟩ := hd'
      refine ⟨hq, x, h2 _ _ hx, ?_⟩
      rcases hdat with h4 | ⟨b, c, cells, e1, e2, e3, e4, e5⟩
      · exact .inl h4
      · exact .inr ⟨b, c, cells, e1, e2, h2 _ _ e3, e4, e5⟩
    refine hk r q' H hr e fun b c hb hqb hs => ?_
    have hn : foot d q s.h b = none := by simp [foot, hb, hqb]
    refine ⟨h1 b c hn hs, fun hq' => ?_⟩
    obtain ⟨_, x, hx, hdat⟩ := hd'
    rcases hdat with ⟨e0, _⟩ | ⟨b', c', cells, e1, e2, e3, e4, e5⟩
    · rw [e0] at hq'; simp at hq'
    · rw [hq'] at e1
      cases e1
      have := h3 _ _ e3 hn
      rw [hs] at this; simp at this
end Go.Proofs.Ytbgifnlaaophcaa

/- Contracts: log.Read, log.Add over a disk. No condition. -/
set_option linter.unusedSimpArgs false
set_option linter.unusedVariables false
set_option maxRecDepth 10000
namespace Go.Proofs.Ytbgifnlaaophcaa
open Go Go.Rw Go.Proofs
-- a goal is never to be run by the elaborator
attribute [local irreducible] awp aops aop aopsE aeff

theorem DiskAt.ne {d : Nat} {D : PDisk} {q : Option Nat} {h : Nat → Option (List AV)} (hd : DiskAt d D q h) {b : Nat} (hb : h b = none) : ¬ d = b ∧ q ≠ some b := by
  obtain ⟨hq, x, hx, hdat⟩ := hd
  refine ⟨by rintro rfl; rw [hx] at hb; simp at hb, ?_⟩
  rcases hdat with ⟨e, _⟩ | ⟨b', c, cells, e1, e2, e3, e4, e5⟩
  · simp [e]
  · rw [e1]; intro h; cases h; rw [e3] at hb; simp at hb
theorem bytes_call (d : Nat) (D : PDisk) (q : Option Nat) (hl : D.data.length ≤ 1000000000) (h : Nat → Option (List AV)) (hd : DiskAt d D q h) :
    MSpec Try.prog 42 [.ptr d 0] h (fun r h' => (∃ tag, r = .sl tag (eB D.data)) ∧ ∃ q', DiskAt d D q' h') :=
  (bytes_spec d D q h hd hl).mono fun r h' ⟨tag, e, hd'⟩ => ⟨⟨tag, e⟩, q, hd'⟩
theorem logread_spec (d : Nat) (D : PDisk) (q : Option Nat) (hl : D.data.length ≤ 1000000000) (h : Nat → Option (List AV)) (hd : DiskAt d D q h) :
    MSpec Try.prog 54 [.ptr d 0] h (fun r h' => r = .sl .no (eRs (scanR D.data).1) ∧ ∃ q', DiskAt d D q' h') := by
  refine MSpec.of_awp Try.func54 (by kernel_rfl) rfl (by rw [Try.results54]) Try.ntmps54 ?_
  simp -implicitDefEqProofs
  refine disk_call (D' := D) (bytes_call d D q hl) rfl hd ?_
  rintro _ q' H ⟨tag, rfl⟩ hd' _
  simp -implicitDefEqProofs
  refine CallK.with (scan_spec D.data hl) (by simp) ?_
  rw [scanA]
  simp -implicitDefEqProofs
  exact ⟨H, SubH_refl H, q', hd'⟩

def syncD (D : PDisk) : PDisk := if D.off then D else { D with safe := D.data.length }
def addD (D : PDisk) (l : List PRec) : PDisk × Int := if l.all rightR = true then (if (appendD D (recsB l)).2 = 0 then (syncD (appendD D (recsB l)).1, 0) else appendD D (recsB l)) else (D, 91)
theorem append_call (d : Nat) (D : PDisk) (q : Option Nat) (x : List UInt8) (ho : OkD D) (hx : x.length ≤ 1000000000) (h : Nat → Option (List AV)) (hd : DiskAt d D q h) :
    MSpec Try.prog 51 [.ptr d 0, .sl .no (eB x)] h (fun r h' => r = eI (appendD D x).2 ∧ ∃ q', DiskAt d (appendD D x).1 q' h') := append_spec d D q x h hd ho hx
theorem sync_call (d : Nat) (D : PDisk) (q : Option Nat) (h : Nat → Option (List AV)) (hd : DiskAt d D q h) :
    MSpec Try.prog 94 [.ptr d 0] h (fun r h' => r = .tup [] ∧ ∃ q', DiskAt d (syncD D) q' h') :=
  (sync_spec d D q h hd).mono fun r h' ⟨e, hd'⟩ => ⟨e, q, hd'⟩
theorem recsB_le : ∀ (l : List PRec), (∀ r ∈ l, rightR r = true ∧ fitR r) → (recsB l).length ≤ 70 * l.length
  | [], _ => by simp
  | r :: l, h => by
    have h1 := recsB_le l fun x hx => h x (by simp [hx])
    obtain ⟨h2, h3⟩ := h r (by simp)
    have h4 := recB_length h2 h3
    have h5 := bodyR_length h2 h3
    rw [recsB_cons, List.length_append, List.length_cons]
    omega
def AddI (d : Nat) (D : PDisk) (q : Option Nat) (l : List PRec) (t : Nat → AV) (h : Nat → Option (List AV)) : Prop := ∃ (k : Nat) (tag : Tag), t 0 = .ptr d 0 ∧ t 11 = .sl .no (eRs l) ∧ t 12 = eI l.length ∧ t 13 = eI k ∧ t 5 = .sl tag (eB (recsB (l.take k))) ∧ appOK tag 5 1 ∧ k ≤ l.length ∧ (∀ r ∈ l.take k, rightR r = true) ∧ DiskAt d D q h
def AddM (d : Nat) (D : PDisk) (q : Option Nat) (l : List PRec) (t : Nat → AV) (h : Nat → Option (List AV)) : Prop := ∃ (tag : Tag), t 0 = .ptr d 0 ∧ t 5 = .sl tag (eB (recsB l)) ∧ (∀ r ∈ l, rightR r = true) ∧ DiskAt d D q h
theorem logadd_spec (d : Nat) (D : PDisk) (q : Option Nat) (l : List PRec) (ho : OkD D) (hfit : ∀ r ∈ l, fitR r) (hl : l.length ≤ 10000000) (h : Nat → Option (List AV)) (hd : DiskAt d D q h) :
    MSpec Try.prog 34 [.ptr d 0, .sl .no (eRs l)] h (fun r h' => r = eI (addD D l).2 ∧ ∃ q', DiskAt d (addD D l).1 q' h') := by
  refine MSpec.of_awp Try.func34 (by kernel_rfl) rfl (by rw [Try.results34]) Try.ntmps34 ?_
  simp -implicitDefEqProofs
  intro _
  refine loopK.post (AddI d D q l) (fun t => l.length - natOf (t 13)) (AddM d D q l) ?_ ?_ ?_
  · exact ⟨0, .nil, by simp, by simp, by simp, by simp, by simp [eB], by simp, by omega, by simp, hd⟩
  · rintro t hh ⟨k, tag, g0, g11, g12, g13, g5, gt, hk, hrt, gd⟩
    by_cases hlt : k < l.length
    · have hlt' : (k : Int) < (l.length : Int) := by omega
      obtain ⟨x, hx⟩ : ∃ x, l[k]? = some x := ⟨l[k], by simp [hlt]⟩
      have hmem := List.mem_of_getElem? hx
      have hj1 : IntKind.i64.wrap ((k : Int) + 1) = (k : Int) + 1 := w64 (by omega) (by omega)
      have htk : l.take (k + 1) = l.take k ++ [x] := by
        rw [List.take_add_one, hx]; rfl
      simp -implicitDefEqProofs [g11, g12, g13, hlt', hx, eRc]
      refine allocK.intro (fun b1 hb1 => ?_)
      have hne := gd.ne (b := b1) (by simpa using hb1)
      simp -implicitDefEqProofs
      refine CallK.with (logbytes_spec x (hfit x hmem)) (by simp [eRc]) ?_
      cases hr : rightR x
      · have e : addD D l = (D, 91) := by
          unfold addD
          rw [if_neg]
          simp only [List.all_eq_true]
          intro h9
          rw [h9 x hmem] at hr; simp at hr
        simp -implicitDefEqProofs [bytesR, hr, bytesA, e]
        exact ⟨_, SubH_refl _, q, (gd.other b1 _ hne.1 hne.2).other b1 _ hne.1 hne.2⟩
      · have hlen := recsB_le (l.take k) (fun r hr => ⟨hrt r hr, hfit r (List.mem_of_mem_take hr)⟩)
        have hlen2 := recB_length hr (hfit x hmem)
        have hlen3 := bodyR_length hr (hfit x hmem)
        rw [List.length_take] at hlen
        have hone : recsB (l.take (k + 1)) = recsB (l.take k) ++ recB x := by
          rw [htk, recsB_append, recsB_cons, recsB_nil, List.append_nil]
        have hone2 : eB (recsB (l.take k)) ++ eB (recB x) = eB (recsB (l.take (k + 1))) := by rw [hone]; simp [eB]
        simp -implicitDefEqProofs [bytesR, hr, bytesA, g5, gt, g13, hj1]
        rw [← hone]
        refine ⟨by omega, ⟨k + 1, appTag tag 5 1 (eB (recB x)), by simp [g0], by simp [g11], by simp [g12], by simp, by simp, by simp [gt], by omega, ?_, (gd.other b1 _ hne.1 hne.2).other b1 _ hne.1 hne.2⟩, by omega⟩
        intro r h9
        rw [htk] at h9
        rcases List.mem_append.1 h9 with h9 | h9
        · exact hrt r h9
        · rw [List.mem_singleton.1 h9]; exact hr
    · have hlt' : ¬ (k : Int) < (l.length : Int) := by omega
      simp -implicitDefEqProofs [g12, g13, hlt']
      rw [List.take_of_length_le (by omega)] at hrt g5
      exact ⟨tag, by simp [g0], by simp [g5], hrt, gd⟩
  · rintro t hh ⟨tag, g0, g5, hrt, gd⟩
    have hlen := recsB_le l (fun r hr => ⟨hrt r hr, hfit r hr⟩)
    simp -implicitDefEqProofs [g0, g5]
    refine disk_call (append_call d D q (recsB l) ho (by omega)) (by simp) gd ?_
    rintro _ q' H rfl hd' _
    have hall : l.all rightR = true := List.all_eq_true.2 hrt
    by_cases h0 : (appendD D (recsB l)).2 = 0
    · have e : addD D l = (syncD (appendD D (recsB l)).1, 0) := by unfold addD; rw [if_pos hall, if_pos h0]
      simp -implicitDefEqProofs [h0, e, g0]
      refine disk_call (sync_call d _ q') (by simp) hd' ?_
      rintro _ q2 H2 rfl hd2 _
      simp -implicitDefEqProofs [e]
      exact ⟨H2, SubH_refl H2, q2, hd2⟩
    · have e : addD D l = appendD D (recsB l) := by unfold addD; rw [if_pos hall, if_neg h0]
      simp -implicitDefEqProofs [h0, e]
      exact ⟨H, SubH_refl H, q', hd'⟩
end Go.Proofs.Ytbgifnlaaophcaa

/- Plain: two records in a row, and one bit turned over. -/
set_option linter.unusedSimpArgs false
set_option linter.unusedVariables false
set_option maxRecDepth 10000
namespace Go.Proofs.Ytbgifnlaaophcaa
open Go Go.Rw Go.Proofs

def al1 : PRec := ⟨4, zV, zC, zE, 5⟩
def al2 : PRec := ⟨3, ⟨3, 0⟩, zC, zE, 0⟩
theorem al1_right : rightR al1 = true := rightR_to (.num 4 5 rfl (.inl rfl) (by decide) (by decide))
theorem al2_right : rightR al2 = true := rightR_to (.mark ⟨3, 0⟩ rfl (by decide))
theorem al_len : (recB al1).length = 10 := by decide +kernel
theorem al_len2 : (recsB [al1, al2]).length = 20 := by decide +kernel
theorem al_n : (scanR (burstF (recsB [al1, al2]) 100 1)).2 = 10 := by decide +kernel
theorem al_l : ((scanR (burstF (recsB [al1, al2]) 100 1)).1.map fun r => r.n) = [5] := by decide +kernel
theorem al_all : ((scanR (recsB [al1, al2])).1.length) = 2 := by decide +kernel
theorem al_add : addD ⟨[], 0, 200, -1, false⟩ [al1, al2] = (⟨recsB [al1, al2], 20, 200, -1, false⟩, 0) := by
  have h1 : [al1, al2].all rightR = true := by simp [al1_right, al2_right]
  have h2 : appendD ⟨[], 0, 200, -1, false⟩ (recsB [al1, al2]) = (⟨recsB [al1, al2], 0, 200, -1, false⟩, 0) := by
    simp [appendD, al_len2]; omega
  unfold addD
  rw [if_pos h1, h2, if_pos rfl]
  simp [syncD, al_len2]
end Go.Proofs.Ytbgifnlaaophcaa

/- Contracts: logAlive. No condition. -/
set_option linter.unusedSimpArgs false
set_option linter.unusedVariables false
set_option maxRecDepth 10000
namespace Go.Proofs.Ytbgifnlaaophcaa
open Go Go.Rw Go.Proofs
-- a goal is never to be run by the elaborator
attribute [local irreducible] awp aops aop aopsE aeff

theorem safe_call (d : Nat) (D : PDisk) (q : Option Nat) (h : Nat → Option (List AV)) (hd : DiskAt d D q h) :
    MSpec Try.prog 43 [.ptr d 0] h (fun r h' => r = eI D.safe ∧ ∃ q', DiskAt d D q' h') :=
  (safe_spec d D q h hd).mono fun r h' ⟨e, hd'⟩ => ⟨e, q, hd'⟩
theorem logalive_spec : ASpec Try.prog 33 [] (· = .v (.bool true)) := by
  refine ASpec.of_awp Try.func33 (by kernel_rfl) rfl (by rw [Try.results33]) Try.ntmps33 ?_
  simp -implicitDefEqProofs
  refine CallK.fresh (new_spec 200) rfl ?_
  rintro _ h' H ⟨d, rfl, hd0⟩ _ hH _
  have hd : DiskAt d ⟨[], 0, 200, -1, false⟩ none H := by
    obtain ⟨hq, x, hx, hdat⟩ := hd0
    refine ⟨hq, x, hH _ _ hx, ?_⟩
    rcases hdat with e | ⟨b, c, cells, e, _⟩
    · exact .inl e
    · simp at e
  simp -implicitDefEqProofs
  refine disk_call (logadd_spec d ⟨[], 0, 200, -1, false⟩ none [al1, al2] (by simp [OkD]) (by simp [fitR, al1, al2, zE]) (by simp)) (by simp [eRs, eRc, al1, al2, zV, zC, zE]) hd ?_
  rw [al_add]
  rintro _ q1 H1 rfl hd1 _
  simp -implicitDefEqProofs
  refine disk_call (logread_spec d _ q1 (by simp [al_len2])) (by simp) hd1 ?_
  rintro _ q2 H2 rfl hd2 _
  have hall := al_all
  simp -implicitDefEqProofs [eRs, hall]
  refine disk_call (bytes_call d _ q2 (by simp [al_len2])) (by simp) hd2 ?_
  rintro _ q3 H3 ⟨tag, rfl⟩ hd3 _
  simp -implicitDefEqProofs
  refine CallK.with (logbytes_spec al1 (by simp [fitR, al1, zE])) (by simp [eRc, al1, zV, zC, zE]) ?_
  rw [bytesR, al1_right, if_pos rfl]
  simp -implicitDefEqProofs [bytesA, al_len]
  have wA : IntKind.i64.wrap (IntKind.i64.wrap 80 + 20) = 100 := by decide
  rw [wA]
  refine CallK.via (crc_burst (recsB [al1, al2]) 100 1 (by simp [al_len2]) (by decide)) rfl ?_
  rintro _ ⟨tag2, _, rfl⟩
  simp -implicitDefEqProofs
  refine CallK.with (scan_spec (burstF (recsB [al1, al2]) 100 1) (by simp [al_len2])) (by simp) ?_
  obtain ⟨r0, hr0, hn0⟩ : ∃ r0, (scanR (burstF (recsB [al1, al2]) 100 1)).1 = [r0] ∧ r0.n = 5 := by
    have h := al_l
    match hq : (scanR (burstF (recsB [al1, al2]) 100 1)).1, h with
    | [r0], h => exact ⟨r0, rfl, by simpa using h⟩
    | [], h => simp at h
    | _ :: _ :: _, h => simp at h
  rw [scanA, al_n, hr0]
  simp -implicitDefEqProofs [eRs, eRc, hn0, al_len]
  refine disk_call (safe_call d _ q3) (by simp) hd3 ?_
  rintro _ q4 H4 rfl hd4 _
  simp -implicitDefEqProofs [al_len2]
end Go.Proofs.Ytbgifnlaaophcaa

/- The law LogNames. No condition. -/
set_option linter.unusedSimpArgs false
set_option linter.unusedVariables false
set_option maxRecDepth 10000
namespace Go.Proofs.Ytbgifnlaaophcaa
open Go Go.Rw Go.Proofs
-- a goal is never to be run by the elaborator
attribute [local irreducible] awp aops aop aopsE aeff

theorem new_disk {d : Nat} {D : PDisk} {h' H : Nat → Option (List AV)} (hd0 : DiskAt d D none h') (hH : ∀ b c, h' b = some c → H b = some c) : DiskAt d D none H := by
  obtain ⟨hq, x, hx, hdat⟩ := hd0
  refine ⟨hq, x, hH _ _ hx, ?_⟩
  rcases hdat with e | ⟨b, c, cells, e, _⟩
  · exact .inl e
  · simp at e
theorem zero_add (D : PDisk) : addD D [zR] = (D, 91) := by
  have h : rightR zR = false := by decide +kernel
  unfold addD
  rw [if_neg (by simp [h])]
theorem lognames_spec : ASpec Try.prog 10 [] (· = .v (.bool true)) := by
  refine ASpec.of_awp Try.func10 (by kernel_rfl) rfl (by rw [Try.results10]) Try.ntmps10 ?_
  simp -implicitDefEqProofs
  refine CallK.with (scan_spec [] (by simp)) (by simp [eB]) ?_
  have hz : scanR [] = ([], 0) := rfl
  rw [scanA, hz]
  simp -implicitDefEqProofs [eRs]
  refine CallK.eq logalive_spec ?_
  simp -implicitDefEqProofs [eRs]
  refine CallK.fresh (new_spec 9) rfl ?_
  rintro _ h' H ⟨d, rfl, hd0⟩ _ hH _
  have hd := new_disk hd0 hH
  simp -implicitDefEqProofs
  refine disk_call (logadd_spec d _ none [zR] (by simp [OkD]; omega) (by simp [fitR, zR, zE]) (by simp)) (by simp [eRs, eRc, zR, zV, zC, zE]) hd ?_
  rw [zero_add]
  rintro _ q1 H1 rfl hd1 _
  simp -implicitDefEqProofs
end Go.Proofs.Ytbgifnlaaophcaa
