/- Parts of the proof: what is used by the law. No condition. -/
import Derived.Test.YtjbbfiagijjdoaaGreatRows
import Derived.KernelRfl
import Derived.Sort.AssemblyPlain
import Derived.Test.YtjbbfiagijjdoaaGreatGB
set_option linter.unusedSimpArgs false
set_option linter.unusedVariables false
/- Facts on the whole program, the same for each row. No condition. -/
set_option linter.unusedVariables false
set_option maxRecDepth 100000
namespace Go.Proofs.YtjbbfiagijjdoaaGreat.shared
open Go Go.Rw
theorem j1 : laidOutB Tryz.pinned.checked.prog = true := by kernel_rfl
theorem j2 : mapsRowed Tryz.pinned.checked.prog = true := by kernel_rfl
theorem j24 : Tryz.pinned.checked.prog.stopsHeard = true := by kernel_rfl
theorem j25 : Tryz.pinned.checked.prog.mayEnter = true := by kernel_rfl
theorem j26 : (Rows.replicaQuietUptoRow.lifted == Tryz.pinned.checked.prog.liftsFinal) = true := by kernel_rfl
theorem j27 : (Tryz.pinned.checked.prog.make == some Rows.replicaQuietUptoRow.make) = true := by kernel_rfl
end Go.Proofs.YtjbbfiagijjdoaaGreat.shared

/- The law MsgNames, walked. No condition. -/
set_option linter.unusedSimpArgs false
set_option linter.unusedVariables false
set_option maxRecDepth 10000
namespace Go.Proofs.YtjbbfiagijjdoaaGreat
open Go Go.Rw Go.Proofs

def m0 : PMsg := ⟨2, 1, 2, 3, 4, ⟨7, 0⟩, [], []⟩
def a0 : PMsg := ⟨6, 2, 1, 3, 4, ⟨7, 0⟩, [], []⟩
attribute [local irreducible] frameF readF burstF

end Go.Proofs.YtjbbfiagijjdoaaGreat

/- The law MsgOne, walked. No condition. -/
set_option linter.unusedSimpArgs false
set_option linter.unusedVariables false
set_option maxRecDepth 10000
namespace Go.Proofs.YtjbbfiagijjdoaaGreat
open Go Go.Rw Go.Proofs

def cnt1 (q : PMsg) (K F : Int) : Int := if q.kind ≤ 4 ∧ (kindN q.kind < K ∨ (kindN q.kind = K ∧ q.to < F)) then 1 else 0
def prob (q : PMsg) (K F : Int) : PMsg := ⟨K, F, q.frm, q.inc, q.seq, q.view, [], []⟩
def OneI (q a : PMsg) (b b2 : Nat) (t : Nat → AV) (h : Nat → Option (List AV)) : Prop := ∃ K : Nat, t 2 = .ptr b 0 ∧ t 3 = .ptr b2 0 ∧ t 5 = eI (cnt1 q K 0) ∧ t 6 = eI K ∧ K ≤ 8 ∧ h b = some (eM q) ∧ h b2 = some (eM a)
def OneJ (q a : PMsg) (b b2 K : Nat) (t : Nat → AV) (h : Nat → Option (List AV)) : Prop := ∃ F : Nat, t 2 = .ptr b 0 ∧ t 3 = .ptr b2 0 ∧ t 5 = eI (cnt1 q K F) ∧ t 6 = eI K ∧ t 7 = eI F ∧ F ≤ 6 ∧ h b = some (eM q) ∧ h b2 = some (eM a)
def OneE (q a : PMsg) (b b2 : Nat) (t : Nat → AV) (h : Nat → Option (List AV)) : Prop := t 2 = .ptr b 0 ∧ t 3 = .ptr b2 0 ∧ t 5 = eI (if q.kind ≤ 4 then 1 else 0) ∧ h b = some (eM q) ∧ h b2 = some (eM a)

end Go.Proofs.YtjbbfiagijjdoaaGreat

/- The law MsgShort, walked. No condition. -/
set_option linter.unusedSimpArgs false
set_option linter.unusedVariables false
set_option maxRecDepth 10000
namespace Go.Proofs.YtjbbfiagijjdoaaGreat
open Go Go.Rw Go.Proofs

def withTo (m : PMsg) (to : Int) : PMsg := ⟨m.kind, m.frm, to, m.inc, m.seq, m.view, m.cells, m.book⟩
attribute [local irreducible] frameF readF rightM sameM

end Go.Proofs.YtjbbfiagijjdoaaGreat

/- The law MsgBack, walked. No condition. -/
set_option linter.unusedSimpArgs false
set_option linter.unusedVariables false
set_option maxRecDepth 10000
namespace Go.Proofs.YtjbbfiagijjdoaaGreat
open Go Go.Rw Go.Proofs

def zM : PMsg := ⟨0, 0, 0, 0, 0, ⟨0, 0⟩, [], []⟩
attribute [local irreducible] frameF readF rightM sameM burstF

end Go.Proofs.YtjbbfiagijjdoaaGreat

/- Contracts: numbers' bits, told otherwise. No condition. -/
set_option linter.unusedSimpArgs false
set_option linter.unusedVariables false
set_option maxRecDepth 10000
namespace Go.Proofs.YtjbbfiagijjdoaaGreat
open Go Go.Rw Go.Proofs
-- a goal is never to be run by the elaborator
attribute [local irreducible] awp aops aop aopsE aeff

theorem and_u64 (a b : Nat) (ha : a < 18446744073709551616) (hb : b < 18446744073709551616) : bitOp .and .u64 (a : Int) (b : Int) = ((a &&& b : Nat) : Int) := by
  have h1 : bitOp .and .u64 (a : Int) (b : Int) = IntKind.u64.wrap ((BitVec.ofInt 64 (a : Int) &&& BitVec.ofInt 64 (b : Int)).toNat : Int) := rfl
  have h2 : a &&& b ≤ a := Nat.and_le_left
  rw [h1, BitVec.toNat_and]
  have e1 : (BitVec.ofInt 64 (a : Int)).toNat = a := by simp; omega
  have e2 : (BitVec.ofInt 64 (b : Int)).toNat = b := by simp; omega
  rw [e1, e2]
  exact wu64 (by omega) (by omega)
theorem mask_u64 (a k b : Nat) (ha : a < 18446744073709551616) (hk : b = 2 ^ k - 1) (hb : b < 18446744073709551616) : bitOp .and .u64 (a : Int) (b : Int) = ((a % 2 ^ k : Nat) : Int) := by
  rw [and_u64 a b ha hb, hk, Nat.and_two_pow_sub_one_eq_mod]
theorem shr_u64 (a k : Nat) (hk : k ≤ 64) : Int.fdiv (a : Int) (2 ^ min (k : Int).toNat IntKind.u64.bits) = ((a / 2 ^ k : Nat) : Int) := by
  have h1 : min (k : Int).toNat IntKind.u64.bits = k := by simp [IntKind.bits]; omega
  rw [h1, Int.fdiv_eq_ediv_of_nonneg _ (by exact_mod_cast Nat.zero_le _)]
  norm_cast
theorem parts_spec (b : Nat) (h : b < 18446744073709551616) : ASpec Tryz.prog 210 [.v (.int .u64 b)] (· = .tup [.v (.int .u64 (b / 2 ^ 63 : Nat)), .v (.int .u64 (b / 2 ^ 52 % 2 ^ 11 : Nat)), .v (.int .u64 (b % 2 ^ 52 : Nat))]) := by
  refine ASpec.of_awp Tryz.func210 (by kernel_rfl) rfl (by rw [Tryz.results210]) Tryz.ntmps210 ?_
  have s1 : Int.fdiv (b : Int) (2 ^ min 63 IntKind.u64.bits) = ((b / 2 ^ 63 : Nat) : Int) := shr_u64 b 63 (by omega)
  have s2 : Int.fdiv (b : Int) (2 ^ min 52 IntKind.u64.bits) = ((b / 2 ^ 52 : Nat) : Int) := shr_u64 b 52 (by omega)
  have s3 : bitOp .and .u64 ((b / 2 ^ 52 : Nat) : Int) 2047 = ((b / 2 ^ 52 % 2 ^ 11 : Nat) : Int) := mask_u64 (b / 2 ^ 52) 11 2047 (by omega) (by decide) (by omega)
  have s4 : bitOp .and .u64 (b : Int) 4503599627370495 = ((b % 2 ^ 52 : Nat) : Int) := mask_u64 b 52 4503599627370495 h (by decide) (by omega)
  simp -implicitDefEqProofs [aNum_shr, s4]
  refine ⟨?_, ?_⟩
  · rw [s1]; omega
  · rw [s2, s3]; omega
theorem nan_parts (b : Nat) : (b / 2 ^ 52 % 2 ^ 11 = 2047 ∧ b % 2 ^ 52 ≠ 0) ↔ nanB b = true := by
  unfold nanB
  rw [decide_eq_true_iff]
  omega
theorem clean_spec (b : Nat) (h : b < 18446744073709551616) : ASpec Tryz.prog 188 [.v (.int .u64 b)] (· = .v (.int .u64 (bitsF b))) := by
  refine ASpec.of_awp Tryz.func188 (by kernel_rfl) rfl (by rw [Tryz.results188]) Tryz.ntmps188 ?_
  simp -implicitDefEqProofs
  refine CallK.eq (parts_spec b h) ?_
  have hn := nan_parts b
  generalize hE : b / 2 ^ 52 % 2 ^ 11 = E at hn
  generalize hF : b % 2 ^ 52 = F at hn
  by_cases hE7 : (E : Int) = 2047
  · by_cases hF0 : (F : Int) = 0
    · have : nanB b = false := by
        cases hb : nanB b
        · rfl
        · have := hn.2 hb; omega
      simp -implicitDefEqProofs [hE7, hF0, bitsF, cleanB, this]
    · have : nanB b = true := hn.1 ⟨by omega, by omega⟩
      have hF0' : ¬ F = 0 := by omega
      simp -implicitDefEqProofs [hE7, hF0, hF0', bitsF, cleanB, this]
  · have : nanB b = false := by
      cases hb : nanB b
      · rfl
      · have := hn.2 hb; omega
    simp -implicitDefEqProofs [hE7, bitsF, cleanB, this]
theorem bits1_spec (b : Nat) (h : b < 18446744073709551616) : ASpec Tryz.prog 147 [eF b] (· = .v (.int .u64 (bitsF b))) := by
  refine ASpec.of_awp Tryz.func147 (by kernel_rfl) rfl (by rw [Tryz.results147]) Tryz.ntmps147 ?_
  simp -implicitDefEqProofs
  refine CallK.eq (f64bits_spec b) ?_
  simp -implicitDefEqProofs
  refine CallK.eq (clean_spec b h) ?_
  simp -implicitDefEqProofs
end Go.Proofs.YtjbbfiagijjdoaaGreat

/- Contracts: forms of numbers, told otherwise. No condition. -/
set_option linter.unusedSimpArgs false
set_option linter.unusedVariables false
set_option maxRecDepth 10000
namespace Go.Proofs.YtjbbfiagijjdoaaGreat
open Go Go.Rw Go.Proofs

def FmI (n0 : Nat) (t : Nat → AV) (_ : Nat → Option (List AV)) : Prop := ∃ (n : Nat) (out : List UInt8) (tag : Tag), t 0 = .v (.int .u64 n) ∧ t 3 = .sl tag (eB out) ∧ n ≤ n0 ∧ dig (sizeN n) n ++ out = dig (sizeN n0) n0
def Pt2I (b : List UInt8) (ns : List Nat) (t : Nat → AV) (_ : Nat → Option (List AV)) : Prop := ∃ (k : Nat) (out : List UInt8) (tag : Tag), t 11 = .sl .no (eU ns) ∧ t 12 = .v (.int .i64 ns.length) ∧ t 13 = .v (.int .i64 k) ∧
  t 5 = .sl tag (eB out) ∧ appOK tag 5 1 ∧ k ≤ ns.length ∧ out ++ forms (ns.drop k) = b ++ forms ns ∧ out.length ≤ b.length + 9 * k
end Go.Proofs.YtjbbfiagijjdoaaGreat

/- Contracts: numbers out of bytes, told otherwise. No condition. -/
set_option linter.unusedSimpArgs false
set_option linter.unusedVariables false
set_option maxRecDepth 10000
namespace Go.Proofs.YtjbbfiagijjdoaaGreat
open Go Go.Rw Go.Proofs

def Gt2I (b seg : List UInt8) (t : Nat → AV) (_ : Nat → Option (List AV)) : Prop := ∃ j : Nat, t 0 = .sl .no (eB b) ∧ t 6 = .v (.int .i64 ((j : Int) + 1)) ∧ t 5 = .v (.int .u64 (valN (seg.take j))) ∧ j ≤ seg.length
end Go.Proofs.YtjbbfiagijjdoaaGreat

/- Contracts: sums and frames, told otherwise. No condition. -/
set_option linter.unusedSimpArgs false
set_option linter.unusedVariables false
set_option maxRecDepth 10000
namespace Go.Proofs.YtjbbfiagijjdoaaGreat
open Go Go.Rw Go.Proofs

def Of2I (l : List UInt8) (t : Nat → AV) (_ : Nat → Option (List AV)) : Prop := ∃ (k : Nat) (c : BitVec 32), t 0 = .sl .no (eB l) ∧ t 4 = .v (.int .i64 k) ∧ t 3 = .v (.int .u32 (n32 c)) ∧ k ≤ 8 * l.length ∧ crcS c ((toBits l).drop k) = crcL (BitVec.allOnes 32) l
end Go.Proofs.YtjbbfiagijjdoaaGreat

/- Contracts: changes, tags and lists that can be, told otherwise. No condition. -/
set_option linter.unusedSimpArgs false
set_option linter.unusedVariables false
set_option maxRecDepth 10000
namespace Go.Proofs.YtjbbfiagijjdoaaGreat
open Go Go.Rw Go.Proofs
-- a goal is never to be run by the elaborator
attribute [local irreducible] awp aops aop aopsE aeff

theorem right4_spec (v : PView) : ASpec Tryz.prog 30 [.agg (eV v)] (· = .v (.bool (rightV v))) := by
  refine ASpec.of_awp Tryz.func30 (by kernel_rfl) rfl (by rw [Tryz.results30]) Tryz.ntmps30 ?_
  simp -implicitDefEqProofs [eV]
  refine allocK.intro (fun b hb => ?_)
  by_cases h1 : 0 ≤ v.add
  · by_cases h2 : v.add ≤ 63
    · by_cases h3 : 0 ≤ v.del
      · by_cases h4 : v.del ≤ 63
        · simp -implicitDefEqProofs [h1, h2, h3, h4, rightV]
          omega
        · simp -implicitDefEqProofs [h1, h2, h3, h4, rightV]
          omega
      · simp -implicitDefEqProofs [h1, h2, h3, rightV]
    · simp -implicitDefEqProofs [h1, h2, rightV]
      omega
  · simp -implicitDefEqProofs [h1, rightV]
theorem right6_spec (t : PTag) : ASpec Tryz.prog 165 [.agg (eT t)] (· = .v (.bool (rightT t))) := by
  refine ASpec.of_awp Tryz.func165 (by kernel_rfl) rfl (by rw [Tryz.results165]) Tryz.ntmps165 ?_
  simp -implicitDefEqProofs [eT]
  refine allocK.intro (fun b hb => ?_)
  by_cases h0 : t.num = 0
  · by_cases h1 : t.node = 0
    · simp -implicitDefEqProofs [h0, h1, rightT]
    · simp -implicitDefEqProofs [h0, h1, rightT]
  · by_cases h1 : 0 < t.num
    · by_cases h2 : t.num ≤ 1000000
      · by_cases h3 : 0 ≤ t.node
        · by_cases h4 : t.node ≤ 5
          · simp -implicitDefEqProofs [h0, h1, h2, h3, h4, rightT]
            omega
          · simp -implicitDefEqProofs [h0, h1, h2, h3, h4, rightT]
            omega
        · simp -implicitDefEqProofs [h0, h1, h2, h3, rightT]
      · simp -implicitDefEqProofs [h0, h1, h2, rightT]
    · have : ¬ 0 ≤ t.num := by omega
      simp -implicitDefEqProofs [h0, h1, this, rightT]
theorem name4_spec (v : PView) (h : rightV v = true) : ASpec Tryz.prog 98 [.agg (eV v)] (· = eI (nameV v)) := by
  refine ASpec.of_awp Tryz.func98 (by kernel_rfl) rfl (by rw [Tryz.results98]) Tryz.ntmps98 ?_
  simp -implicitDefEqProofs [eV]
  refine allocK.intro (fun b hb => ?_)
  simp [rightV] at h
  have e1 : IntKind.i64.wrap (64 * v.add) = 64 * v.add := w64 (by omega) (by omega)
  have e2 : IntKind.i64.wrap (64 * v.add + v.del) = 64 * v.add + v.del := w64 (by omega) (by omega)
  simp -implicitDefEqProofs [e1, e2, nameV]
  omega
def Nm4I (n : Int) (b : Nat) (t : Nat → AV) (h : Nat → Option (List AV)) : Prop := ∃ k : Nat, t 0 = eI n ∧ t 2 = .ptr b 0 ∧ t 4 = eI k ∧ h b = some (eV ⟨0, 0⟩) ∧ k ≤ 64 ∧ ¬ (0 ≤ n ∧ n < 64 * (k : Int))
theorem named4_spec (n : Int) : ASpec Tryz.prog 139 [eI n] (· = namedA n) := by
  refine ASpec.of_awp Tryz.func139 (by kernel_rfl) rfl (by rw [Tryz.results139]) Tryz.ntmps139 ?_
  simp -implicitDefEqProofs
  refine allocK.intro (fun b hb => ?_)
  simp -implicitDefEqProofs
  refine loopK.intro (Nm4I n b) (fun t => 64 - natOf (t 4)) ?_ ?_
  · exact ⟨0, by simp, by simp, by simp, by simp [eV], by omega, by omega⟩
  rintro t hh ⟨k, g0, g2, g4, gb, hk, hn⟩
  simp -implicitDefEqProofs [g4]
  refine branch_dec (fun hlt => ?_) (fun hlt => ?_)
  · have hlt : k < 64 := by omega
    have w1 : IntKind.i64.wrap (64 * (k : Int)) = 64 * k := w64 (by omega) (by omega)
    have w2 : IntKind.i64.wrap (64 * (k : Int) + 63) = 64 * k + 63 := w64 (by omega) (by omega)
    have w3 : IntKind.i64.wrap ((k : Int) + 1) = (k : Int) + 1 := w64 (by omega) (by omega)
    by_cases h1 : 64 * (k : Int) ≤ n
    · by_cases h2 : n ≤ 64 * (k : Int) + 63
      · have w4 : IntKind.i64.wrap (n - 64 * (k : Int)) = n - 64 * (k : Int) := w64 (by omega) (by omega)
        have h3 : 0 ≤ n ∧ n < 4096 := by omega
        have e1 : n / 64 = k := by omega
        have e2 : n % 64 = n - 64 * (k : Int) := by omega
        simp -implicitDefEqProofs [g0, g2, g4, gb, w1, w2, h1, h2, w4, namedA, h3, e1, e2, eV]
      · simp -implicitDefEqProofs [g0, g2, g4, gb, w1, w2, w3, h1, h2]
        exact ⟨⟨k + 1, by simp [g0], by simp [g2], by simp, by simp [gb], by omega, by omega⟩, by omega⟩
    · simp -implicitDefEqProofs [g0, g2, g4, gb, w1, w2, w3, h1]
      exact ⟨⟨k + 1, by simp [g0], by simp [g2], by simp, by simp [gb], by omega, by omega⟩, by omega⟩
  · have hk' : k = 64 := by omega
    subst hk'
    have h3 : ¬ (0 ≤ n ∧ n < 4096) := by omega
    simp -implicitDefEqProofs [g2, gb, namedA, h3, eV]
end Go.Proofs.YtjbbfiagijjdoaaGreat

/- Plain laws: what is read is the frame of what was read. No condition. -/
set_option linter.unusedSimpArgs false
set_option linter.unusedVariables false
namespace Go.Proofs.YtjbbfiagijjdoaaGreat
open Go Go.Proofs

theorem nameV_view {n : Int} (h : 0 ≤ n ∧ n < 4096) : nameV (viewN n) = n := by
  simp only [viewN, h, and_self, if_true, nameV]
  omega
attribute [local irreducible] rdInt rdBits rdL rdMany rdView getF
end Go.Proofs.YtjbbfiagijjdoaaGreat

/- Plain laws: a frame read as a list of numbers, then told again. No condition. -/
set_option linter.unusedSimpArgs false
set_option linter.unusedVariables false
namespace Go.Proofs.YtjbbfiagijjdoaaGreat
open Go Go.Proofs

/-- at most so many numbers out of bytes -/
def getsF : Nat → List UInt8 → Option (List Nat)
  | 0, _ => some []
  | k + 1, l => if l = [] then some [] else match getF l with
    | none => none
    | some (n, r) => (getsF k r).map (n :: ·)
def atN (ns : List Nat) (i : Nat) : Int := match ns[i]? with
  | none => 1099511627776
  | some n => if 1099511627776 < n then 1099511627776 else n
def cntC (ns : List Nat) : Nat := min (atN ns 6).toNat 6
def posE (ns : List Nat) : Nat := 8 + 2 * cntC ns
def cntE (ns : List Nat) : Nat := min (atN ns (7 + 2 * cntC ns)).toNat 4
def cellN (ns : List Nat) (j : Nat) : PCell := ⟨atN ns (7 + 2 * j), viewN (atN ns (8 + 2 * j))⟩
def entryN (ns : List Nat) (p : Nat) : PEntry := ⟨atN ns p, ⟨atN ns (p + 1), atN ns (p + 2)⟩, (ns[p + 3]?).getD 0⟩
def cellsN (ns : List Nat) (k : Nat) : List PCell := (List.range k).map (cellN ns)
def bookN (ns : List Nat) (k : Nat) : List PEntry := (List.range k).map fun j => entryN ns (posE ns + 4 * j)
def msgN (ns : List Nat) : PMsg := ⟨atN ns 0, atN ns 1, atN ns 2, atN ns 3, atN ns 4, viewN (atN ns 5), cellsN ns (cntC ns), bookN ns (cntE ns)⟩
def readN (cl : Nat → Nat) (f : List UInt8) : Option PMsg := match openF f with
  | none => none
  | some b => match getsF 60 b with
    | none => none
    | some ns => if rightM (msgN ns) = true ∧ frameF cl (msgN ns) = f then some (msgN ns) else none

end Go.Proofs.YtjbbfiagijjdoaaGreat

/- Plain laws: the two readers answer alike. No condition. -/
set_option linter.unusedSimpArgs false
set_option linter.unusedVariables false
namespace Go.Proofs.YtjbbfiagijjdoaaGreat
open Go Go.Proofs

end Go.Proofs.YtjbbfiagijjdoaaGreat

/- Plain: sets of nodes, and orders. No condition. -/
set_option linter.unusedSimpArgs false
set_option linter.unusedVariables false
set_option maxRecDepth 10000
namespace Go.Proofs.YtjbbfiagijjdoaaGreat
open Go Go.Rw Go.Proofs

/-- whole numbers as rows -/
def eZs (l : List Int) : List (List AV) := l.map fun n => [eI n]
@[simp] theorem eZs_length (l : List Int) : (eZs l).length = l.length := by simp [eZs]
@[simp] theorem eZs_get (l : List Int) (i : Nat) : (eZs l)[i]? = (l[i]?).map fun n => [eI n] := by simp [eZs]
@[simp] theorem eZs_nil : eZs [] = [] := rfl
@[simp] theorem eZs_append (l m : List Int) : eZs l ++ eZs m = eZs (l ++ m) := by simp [eZs]
theorem eZs_one (l : List Int) : ∀ r ∈ eZs l, r.length = 1 := by
  intro r hr
  obtain ⟨b, _, rfl⟩ := List.mem_map.1 hr
  rfl
@[simp] theorem eZs_rows (l : List Int) : (∀ r : List AV, r ∈ eZs l → r.length = 1) ↔ True := iff_of_true (eZs_one l) trivial
/-- views as rows -/
def eVs (l : List PView) : List (List AV) := l.map eV
@[simp] theorem eVs_length (l : List PView) : (eVs l).length = l.length := by simp [eVs]
@[simp] theorem eVs_get (l : List PView) (i : Nat) : (eVs l)[i]? = (l[i]?).map eV := by simp [eVs]
@[simp] theorem eVs_nil : eVs [] = [] := rfl
@[simp] theorem eVs_append (l m : List PView) : eVs l ++ eVs m = eVs (l ++ m) := by simp [eVs]
@[simp] theorem eVs_take (l : List PView) (i : Nat) : (eVs l).take i = eVs (l.take i) := by simp [eVs]
@[simp] theorem eVs_drop (l : List PView) (i : Nat) : (eVs l).drop i = eVs (l.drop i) := by simp [eVs]
theorem eVs_one (l : List PView) : ∀ r ∈ eVs l, r.length = 2 := by
  intro r hr
  obtain ⟨b, _, rfl⟩ := List.mem_map.1 hr
  rfl
@[simp] theorem eVs_rows (l : List PView) : (∀ r : List AV, r ∈ eVs l → r.length = 2) ↔ True := iff_of_true (eVs_one l) trivial

/-- is a node in a set? -/
def bitV (x : Int) (k : Nat) : Bool := decide (x / 2 ^ k % 2 = 1)
/-- the set of the nodes for which something holds -/
def setN (f : Nat → Bool) : Int := (if f 0 then 1 else 0) + (if f 1 then 2 else 0) + (if f 2 then 4 else 0) + (if f 3 then 8 else 0) + (if f 4 then 16 else 0) + (if f 5 then 32 else 0)
def andN (x y : Int) : Int := setN fun k => bitV x k && !bitV y k
def minusV (a b : PView) : PView := ⟨andN a.add b.add, andN a.del b.del⟩
def withinV (a b : PView) : Bool := decide (minusV a b = ⟨0, 0⟩)
def inV (v : PView) (node : Int) : Bool := decide (0 ≤ node ∧ node < 6) && bitV v.add node.toNat && !bitV v.del node.toNat
def membersV (v : PView) : List Int := [0, 1, 2, 3, 4, 5].filter (inV v)
def manyV (v : PView) (who : List Int) : Nat := ((membersV v).filter fun m => decide (m ∈ who)).length
def enoughV (v : PView) (who : List Int) : Bool := decide ((membersV v).length < 2 * manyV v who)
def cmpI (x y : Int) : Int := if x < y then -1 else if y < x then 1 else 0
def orF : List Int → Int
  | [] => 0
  | x :: l => if x = 0 then orF l else x
def compV (a b : PView) : Int := orF [cmpI (sizeV a) (sizeV b), cmpI (nameV a) (nameV b)]
def lessV (a b : PView) : Bool := decide (compV a b < 0)
def compT (a b : PTag) : Int := orF [cmpI a.num b.num, cmpI a.node b.node]
def lessT (a b : PTag) : Bool := decide (compT a b < 0)
theorem lessT_eq (a b : PTag) : lessT a b = if a.num = b.num then decide (a.node < b.node) else decide (a.num < b.num) := by
  unfold lessT compT
  simp only [orF, cmpI]
  by_cases h1 : a.num < b.num
  · have h2 : ¬ a.num = b.num := by omega
    simp [h1, h2]
  · by_cases h2 : b.num < a.num
    · have h3 : ¬ a.num = b.num := by omega
      simp [h1, h2, h3]
    · have h3 : a.num = b.num := by omega
      by_cases h4 : a.node < b.node
      · simp [h3, h4]
      · by_cases h5 : b.node < a.node <;> simp [h3, h4, h5]
theorem fin64 {P : Int → Prop} (h : ∀ x : Fin 64, P ((x.val : Nat) : Int)) {x : Int} (h0 : 0 ≤ x) (h1 : x < 64) : P x := by
  have := h ⟨x.toNat, by omega⟩
  have e : ((x.toNat : Nat) : Int) = x := by omega
  simpa [e] using this
theorem andNot_fin : ∀ x y : Fin 64, bitOp .andNot .i64 ((x.val : Nat) : Int) ((y.val : Nat) : Int) = andN ((x.val : Nat) : Int) ((y.val : Nat) : Int) := by decide +kernel
theorem andNot_eq {x y : Int} (h0 : 0 ≤ x) (h1 : x < 64) (h2 : 0 ≤ y) (h3 : y < 64) : bitOp .andNot .i64 x y = andN x y :=
  fin64 (P := fun x => bitOp .andNot .i64 x y = andN x y) (fun a => fin64 (P := fun y => bitOp .andNot .i64 ((a.val : Nat) : Int) y = andN ((a.val : Nat) : Int) y) (fun b => andNot_fin a b) h2 h3) h0 h1
def sumN (f : Nat → Bool) : Nat → Int
  | 0 => 0
  | k + 1 => sumN f k + (if f k then 2 ^ k else 0)
theorem sumN_six (f : Nat → Bool) : sumN f 6 = setN f := by simp [sumN, setN]
theorem sumN_lt (f : Nat → Bool) (k : Nat) : 0 ≤ sumN f k ∧ sumN f k < 2 ^ k := by
  induction k with
  | zero => simp [sumN]
  | succ k ih =>
    have e : (2 : Int) ^ (k + 1) = 2 * 2 ^ k := by rw [Int.pow_succ]; omega
    rw [sumN, e]
    split <;> omega
def popS (v : PView) : Nat → Int
  | 0 => 0
  | k + 1 => popS v k + (if bitV v.add k then 1 else 0) + (if bitV v.del k then 1 else 0)
def pop1 (x : Int) : Nat → Int
  | 0 => 0
  | k + 1 => pop1 x k + (if bitV x k then 1 else 0)
theorem bitV_fin : ∀ (y : Fin 64) (m : Fin 6), bitV ((y.val : Nat) : Int) (m.val + 1) = bitV (((y.val : Nat) : Int) / 2) m.val := by decide +kernel
theorem bitV_succ {y : Int} (h0 : 0 ≤ y) (h1 : y < 64) {m : Nat} (hm : m < 6) : bitV y (m + 1) = bitV (y / 2) m :=
  fin64 (P := fun y => bitV y (m + 1) = bitV (y / 2) m) (fun a => bitV_fin a ⟨m, hm⟩) h0 h1
theorem bitV_zero (y : Int) : bitV y 0 = decide (y % 2 = 1) := by simp [bitV]
/-- six yes or no -/
def eB6 (f : Nat → Bool) : List AV := [.v (.bool (f 0)), .v (.bool (f 1)), .v (.bool (f 2)), .v (.bool (f 3)), .v (.bool (f 4)), .v (.bool (f 5))]
end Go.Proofs.YtjbbfiagijjdoaaGreat

/- Contracts: sets of nodes, orders. No condition. -/
set_option linter.unusedSimpArgs false
set_option linter.unusedVariables false
set_option maxRecDepth 10000
namespace Go.Proofs.YtjbbfiagijjdoaaGreat
open Go Go.Rw Go.Proofs
-- a goal is never to be run by the elaborator
attribute [local irreducible] awp aops aop aopsE aeff

theorem nan_int (x : Int) : ASpec Tryz.prog 176 [eI x] (· = .v (.bool false)) := by
  refine ASpec.of_awp Tryz.func176 (by kernel_rfl) rfl (by rw [Tryz.results176]) Tryz.ntmps176 ?_
  simp -implicitDefEqProofs
theorem compare_int (x y : Int) : ASpec Tryz.prog 143 [eI x, eI y] (· = eI (cmpI x y)) := by
  refine ASpec.of_awp Tryz.func143 (by kernel_rfl) rfl (by rw [Tryz.results143]) Tryz.ntmps143 ?_
  simp -implicitDefEqProofs
  refine CallK.eq (nan_int x) ?_
  simp -implicitDefEqProofs
  refine CallK.eq (nan_int y) ?_
  by_cases h1 : x < y
  · simp -implicitDefEqProofs [h1, cmpI]
  · by_cases h2 : y < x
    · simp -implicitDefEqProofs [h1, h2, cmpI]
    · simp -implicitDefEqProofs [h1, h2, cmpI]
def OrI (l : List Int) (t : Nat → AV) (_ : Nat → Option (List AV)) : Prop := ∃ k : Nat, t 3 = eI 0 ∧ t 6 = .sl .no (eZs l) ∧ t 7 = eI l.length ∧ t 8 = eI k ∧ k ≤ l.length ∧ orF (l.drop k) = orF l
theorem or_ints (l : List Int) : ASpec Tryz.prog 187 [.sl .no (eZs l)] (· = eI (orF l)) := by
  refine ASpec.of_awp Tryz.func187 (by kernel_rfl) rfl (by rw [Tryz.results187]) Tryz.ntmps187 ?_
  simp -implicitDefEqProofs
  intro _
  refine loopK.intro (OrI l) (fun t => l.length - natOf (t 8)) ?_ ?_
  · exact ⟨0, by simp, by simp, by simp, by simp, by omega, by simp⟩
  rintro t hh ⟨k, g3, g6, g7, g8, hk, he⟩
  by_cases hlt : k < l.length
  · have hlt' : (k : Int) < (l.length : Int) := by omega
    obtain ⟨x, hx⟩ : ∃ x, l[k]? = some x := ⟨l[k], by simp [hlt]⟩
    have hw : IntKind.i64.wrap ((k : Int) + 1) = ((k + 1 : Nat) : Int) := by rw [w64 (by omega) (by omega)]; omega
    have hd : l.drop k = x :: l.drop (k + 1) := by
      rw [List.drop_eq_getElem_cons hlt]; rw [List.getElem?_eq_getElem hlt] at hx; rw [Option.some.inj hx]
    rw [hd, orF] at he
    by_cases h0 : x = 0
    · rw [if_pos h0] at he
      simp -implicitDefEqProofs [g3, g6, g7, g8, hlt', hx, h0, hw]
      exact ⟨⟨k + 1, by simp [g3], by simp [g6], by simp [g7], by simp, by omega, he⟩, by omega⟩
    · rw [if_neg h0] at he
      rw [← he]
      simp -implicitDefEqProofs [g3, g6, g7, g8, hlt', hx, h0]
  · have hlt' : ¬ (k : Int) < (l.length : Int) := by omega
    rw [List.drop_of_length_le (by omega)] at he
    simp -implicitDefEqProofs [g3, g6, g7, g8, hlt', ← he, orF]
theorem or_two (a b : Int) : ASpec Tryz.prog 187 [.sl .no [[eI a], [eI b]]] (· = eI (orF [a, b])) := or_ints [a, b]
theorem minus_spec (a b : PView) (ha : rightV a = true) (hb : rightV b = true) : ASpec Tryz.prog 118 [.agg (eV a), .agg (eV b)] (· = .agg (eV (minusV a b))) := by
  simp [rightV] at ha hb
  refine ASpec.of_awp Tryz.func118 (by kernel_rfl) rfl (by rw [Tryz.results118]) Tryz.ntmps118 ?_
  simp -implicitDefEqProofs [eV]
  refine allocK.intro (fun b1 hb1 => ?_)
  simp -implicitDefEqProofs
  refine allocK.intro (fun b2 hb2 => ?_)
  have n12 : ¬ b1 = b2 := by rintro rfl; simp at hb2
  have n21 : ¬ b2 = b1 := fun h => n12 h.symm
  simp -implicitDefEqProofs [n12, n21]
  refine allocK.intro (fun b3 hb3 => ?_)
  have n13 : ¬ b1 = b3 := by rintro rfl; simp [n12] at hb3
  have n31 : ¬ b3 = b1 := fun h => n13 h.symm
  have n23 : ¬ b2 = b3 := by rintro rfl; simp at hb3
  have n32 : ¬ b3 = b2 := fun h => n23 h.symm
  simp -implicitDefEqProofs [n12, n21, n13, n31, n23, n32, andNot_eq ha.1.1 ha.1.2 hb.1.1 hb.1.2, andNot_eq ha.2.1 ha.2.2 hb.2.1 hb.2.2, minusV, eV]
theorem within_spec (a b : PView) (ha : rightV a = true) (hb : rightV b = true) : ASpec Tryz.prog 60 [.agg (eV a), .agg (eV b)] (· = .v (.bool (withinV a b))) := by
  refine ASpec.of_awp Tryz.func60 (by kernel_rfl) rfl (by rw [Tryz.results60]) Tryz.ntmps60 ?_
  simp -implicitDefEqProofs [eV]
  refine allocK.intro (fun b1 hb1 => ?_)
  simp -implicitDefEqProofs
  refine allocK.intro (fun b2 hb2 => ?_)
  have n12 : ¬ b1 = b2 := by rintro rfl; simp at hb2
  have n21 : ¬ b2 = b1 := fun h => n12 h.symm
  simp -implicitDefEqProofs [n12, n21]
  refine CallK.with (minus_spec a b ha hb) (by simp [eV]) ?_
  have e : withinV a b = ((minusV a b).add == 0 && (minusV a b).del == 0) := by
    unfold withinV
    obtain ⟨p, q⟩ := minusV a b
    by_cases h1 : p = 0 <;> by_cases h2 : q = 0 <;> simp [h1, h2]
  simp -implicitDefEqProofs [eV, e]
theorem compareT_spec (a b : PTag) : ASpec Tryz.prog 174 [.agg (eT a), .agg (eT b)] (· = eI (compT a b)) := by
  refine ASpec.of_awp Tryz.func174 (by kernel_rfl) rfl (by rw [Tryz.results174]) Tryz.ntmps174 ?_
  simp -implicitDefEqProofs [eT]
  refine allocK.intro (fun b1 hb1 => ?_)
  simp -implicitDefEqProofs
  refine allocK.intro (fun b2 hb2 => ?_)
  have n12 : ¬ b1 = b2 := by rintro rfl; simp at hb2
  have n21 : ¬ b2 = b1 := fun h => n12 h.symm
  simp -implicitDefEqProofs [n12, n21]
  refine regionK.intro 13 follows_mixed (by kernel_rfl) ?_
  simp -implicitDefEqProofs [n12, n21]
  refine CallQ.eq (compare_int a.num b.num) ?_
  simp -implicitDefEqProofs [n12, n21]
  refine CallQ.eq (compare_int a.node b.node) ?_
  simp -implicitDefEqProofs [n12, n21]
  refine CallQ.with (or_two (cmpI a.num b.num) (cmpI a.node b.node)) (by simp) ?_
  simp -implicitDefEqProofs [compT]
theorem lessT_spec (a b : PTag) : ASpec Tryz.prog 137 [.agg (eT a), .agg (eT b)] (· = .v (.bool (lessT a b))) := by
  refine ASpec.of_awp Tryz.func137 (by kernel_rfl) rfl (by rw [Tryz.results137]) Tryz.ntmps137 ?_
  simp -implicitDefEqProofs [eT]
  refine allocK.intro (fun b1 hb1 => ?_)
  simp -implicitDefEqProofs
  refine allocK.intro (fun b2 hb2 => ?_)
  have n12 : ¬ b1 = b2 := by rintro rfl; simp at hb2
  have n21 : ¬ b2 = b1 := fun h => n12 h.symm
  simp -implicitDefEqProofs [n12, n21]
  refine CallK.with (compareT_spec a b) (by simp [eT]) ?_
  simp -implicitDefEqProofs [lessT]
theorem less6_spec (a b : PTag) : ASpec Tryz.prog 75 [.agg (eT a), .agg (eT b)] (· = .v (.bool (lessT a b))) := by
  refine ASpec.of_awp Tryz.func75 (by kernel_rfl) rfl (by rw [Tryz.results75]) Tryz.ntmps75 ?_
  simp -implicitDefEqProofs [eT]
  refine allocK.intro (fun b1 hb1 => ?_)
  simp -implicitDefEqProofs
  refine allocK.intro (fun b2 hb2 => ?_)
  have n12 : ¬ b1 = b2 := by rintro rfl; simp at hb2
  have n21 : ¬ b2 = b1 := fun h => n12 h.symm
  rw [lessT_eq]
  by_cases h : a.num = b.num
  · simp -implicitDefEqProofs [n12, n21, h]
  · simp -implicitDefEqProofs [n12, n21, h]
end Go.Proofs.YtjbbfiagijjdoaaGreat

/- Contracts: sets of nodes, told otherwise; members. No condition. -/
set_option linter.unusedSimpArgs false
set_option linter.unusedVariables false
set_option maxRecDepth 10000
namespace Go.Proofs.YtjbbfiagijjdoaaGreat
open Go Go.Rw Go.Proofs
-- a goal is never to be run by the elaborator
attribute [local irreducible] awp aops aop aopsE aeff

def BitI (x : Int) (n : Nat) (t : Nat → AV) (_ : Nat → Option (List AV)) : Prop := ∃ (k : Nat) (y : Int), t 0 = eI y ∧ t 1 = eI n ∧ t 5 = eI k ∧ k ≤ n ∧ 0 ≤ y ∧ y < 64 ∧ bitV y (n - k) = bitV x n
def BitM (x : Int) (n : Nat) (t : Nat → AV) (_ : Nat → Option (List AV)) : Prop := ∃ y : Int, t 0 = eI y ∧ 0 ≤ y ∧ y < 64 ∧ bitV y 0 = bitV x n
theorem bit4_spec (x : Int) (n : Nat) (h0 : 0 ≤ x) (h1 : x < 64) (hn : n < 6) : ASpec Tryz.prog 190 [eI x, eI n] (· = .v (.bool (bitV x n))) := by
  refine ASpec.of_awp Tryz.func190 (by kernel_rfl) rfl (by rw [Tryz.results190]) Tryz.ntmps190 ?_
  simp -implicitDefEqProofs
  refine loopK.post (BitI x n) (fun t => n - natOf (t 5)) (BitM x n) ?_ ?_ ?_
  · exact ⟨0, x, by simp, by simp, by simp, by omega, h0, h1, by simp⟩
  · rintro t hh ⟨k, y, g0, g1, g5, hk, y0, y1, he⟩
    by_cases hlt : k < n
    · have hlt' : (k : Int) < (n : Int) := by omega
      have e1 : y.tdiv 2 = y / 2 := Int.tdiv_eq_ediv_of_nonneg y0
      have e2 : IntKind.i64.wrap (y / 2) = y / 2 := w64 (by omega) (by omega)
      have hw : IntKind.i64.wrap ((k : Int) + 1) = ((k + 1 : Nat) : Int) := by rw [w64 (by omega) (by omega)]; omega
      have he2 : bitV (y / 2) (n - (k + 1)) = bitV x n := by
        rw [← bitV_succ y0 y1 (by omega), show n - (k + 1) + 1 = n - k by omega]; exact he
      simp -implicitDefEqProofs [g0, g1, g5, hlt', e1, e2, hw]
      exact ⟨⟨k + 1, y / 2, by simp, by simp [g1], by simp, by omega, by omega, by omega, he2⟩, by omega⟩
    · have hlt' : ¬ (k : Int) < (n : Int) := by omega
      rw [show n - k = 0 by omega] at he
      simp -implicitDefEqProofs [g0, g1, g5, hlt']
      exact ⟨y, by simp [g0], y0, y1, he⟩
  rintro t hh ⟨y, g0, y0, y1, he⟩
  have e1 : y.tmod 2 = y % 2 := Int.tmod_eq_emod_of_nonneg y0
  rw [← he, bitV_zero]
  simp -implicitDefEqProofs [g0, e1]
theorem has4_spec (v : PView) (n : Nat) (h : rightV v = true) (hn : n < 6) : ASpec Tryz.prog 153 [.agg (eV v), eI n] (· = .tup [.v (.bool (bitV v.add n)), .v (.bool (bitV v.del n))]) := by
  simp [rightV] at h
  refine ASpec.of_awp Tryz.func153 (by kernel_rfl) rfl (by rw [Tryz.results153]) Tryz.ntmps153 ?_
  simp -implicitDefEqProofs [eV]
  refine allocK.intro (fun b1 hb1 => ?_)
  simp -implicitDefEqProofs
  refine regionK.intro 10 follows_mixed (by kernel_rfl) ?_
  simp -implicitDefEqProofs
  refine CallQ.eq (bit4_spec v.add n h.1.1 h.1.2 hn) ?_
  simp -implicitDefEqProofs
  refine CallQ.eq (bit4_spec v.del n h.2.1 h.2.2 hn) ?_
  simp -implicitDefEqProofs
def SizI (v : PView) (b1 : Nat) (t : Nat → AV) (h : Nat → Option (List AV)) : Prop := ∃ k : Nat, t 1 = .ptr b1 0 ∧ t 3 = eI (popS v k) ∧ t 4 = eI k ∧ h b1 = some (eV v) ∧ k ≤ 6
def SizM (v : PView) (t : Nat → AV) (_ : Nat → Option (List AV)) : Prop := t 3 = eI (sizeV v)
def Set4I (f g : Nat → Bool) (b1 b2 b3 b4 : Nat) (t : Nat → AV) (h : Nat → Option (List AV)) : Prop := ∃ k : Nat, t 2 = .ptr b1 0 ∧ t 3 = .ptr b2 0 ∧ t 4 = .ptr b3 0 ∧ t 5 = .ptr b4 0 ∧ t 6 = eI (2 ^ k) ∧ t 7 = eI k ∧ h b1 = some (eB6 f) ∧ h b2 = some (eB6 g) ∧ h b3 = some [eI 0, eI 0] ∧
  h b4 = some [eI (sumN f k), eI (sumN g k)] ∧ k ≤ 6
def Set4M (f g : Nat → Bool) (b3 b4 : Nat) (t : Nat → AV) (h : Nat → Option (List AV)) : Prop := t 4 = .ptr b3 0 ∧ t 5 = .ptr b4 0 ∧ h b3 = some [eI 0, eI 0] ∧ h b4 = some [eI (setN f), eI (setN g)]
theorem set4_spec (f g : Nat → Bool) : ASpec Tryz.prog 171 [.agg (eB6 f), .agg (eB6 g)] (· = .agg (eV ⟨setN f, setN g⟩)) := by
  refine ASpec.of_awp Tryz.func171 (by kernel_rfl) rfl (by rw [Tryz.results171]) Tryz.ntmps171 ?_
  simp -implicitDefEqProofs [eB6]
  refine allocK.intro (fun b1 hb1 => ?_)
  simp -implicitDefEqProofs
  refine allocK.intro (fun b2 hb2 => ?_)
  have n12 : ¬ b1 = b2 := by rintro rfl; simp at hb2
  have n21 : ¬ b2 = b1 := fun h => n12 h.symm
  simp -implicitDefEqProofs [n12, n21]
  refine allocK.intro (fun b3 hb3 => ?_)
  have n13 : ¬ b1 = b3 := by rintro rfl; simp [n12] at hb3
  have n31 : ¬ b3 = b1 := fun h => n13 h.symm
  have n23 : ¬ b2 = b3 := by rintro rfl; simp at hb3
  have n32 : ¬ b3 = b2 := fun h => n23 h.symm
  simp -implicitDefEqProofs [n12, n21, n13, n31, n23, n32]
  refine allocK.intro (fun b4 hb4 => ?_)
  have n14 : ¬ b1 = b4 := by rintro rfl; simp [n12, n13] at hb4
  have n41 : ¬ b4 = b1 := fun h => n14 h.symm
  have n24 : ¬ b2 = b4 := by rintro rfl; simp [n23] at hb4
  have n42 : ¬ b4 = b2 := fun h => n24 h.symm
  have n34 : ¬ b3 = b4 := by rintro rfl; simp at hb4
  have n43 : ¬ b4 = b3 := fun h => n34 h.symm
  simp -implicitDefEqProofs [n12, n21, n13, n31, n23, n32, n14, n41, n24, n42, n34, n43]
  refine loopK.post (Set4I f g b1 b2 b3 b4) (fun t => 6 - natOf (t 7)) (Set4M f g b3 b4) ?_ ?_ ?_
  · exact ⟨0, by simp, by simp, by simp, by simp, by simp, by simp, by simp [n12, n13, n14, eB6], by simp [n23, n24, eB6], by simp [n34], by simp [sumN], by omega⟩
  · rintro t hh ⟨k, g2, g3, g4, g5, g6, g7, k1, k2, k3, k4, hk⟩
    rw [eB6] at k1 k2
    by_cases hlt : k < 6
    · have hf := sumN_lt f k
      have hg := sumN_lt g k
      have hk6 : k = 0 ∨ k = 1 ∨ k = 2 ∨ k = 3 ∨ k = 4 ∨ k = 5 := by omega
      have hp : (2 : Int) ^ k ≤ 32 := by rcases hk6 with rfl | rfl | rfl | rfl | rfl | rfl <;> decide
      have hlt' : (k : Int) < 6 := by omega
      have hw : IntKind.i64.wrap ((k : Int) + 1) = ((k + 1 : Nat) : Int) := by rw [w64 (by omega) (by omega)]; omega
      have w1 : IntKind.i64.wrap (sumN f k + 2 ^ k) = sumN f k + 2 ^ k := w64 (by omega) (by omega)
      have w2 : IntKind.i64.wrap (sumN g k + 2 ^ k) = sumN g k + 2 ^ k := w64 (by omega) (by omega)
      have w3 : IntKind.i64.wrap (2 * 2 ^ k) = 2 ^ (k + 1) := by rw [w64 (by omega) (by omega), Int.pow_succ]; omega
      have hfk : [AV.v (.bool (f 0)), .v (.bool (f 1)), .v (.bool (f 2)), .v (.bool (f 3)), .v (.bool (f 4)), .v (.bool (f 5))][k]? = some (.v (.bool (f k))) := by rcases hk6 with rfl | rfl | rfl | rfl | rfl | rfl <;> rfl
      have hgk : [AV.v (.bool (g 0)), .v (.bool (g 1)), .v (.bool (g 2)), .v (.bool (g 3)), .v (.bool (g 4)), .v (.bool (g 5))][k]? = some (.v (.bool (g k))) := by rcases hk6 with rfl | rfl | rfl | rfl | rfl | rfl <;> rfl
      cases ea : f k <;> cases eb : g k <;> simp -implicitDefEqProofs [g2, g3, g5, g6, g7, k1, k2, k4, hlt', hfk, hgk, ea, eb, w1, w2, w3, hw, n12, n21, n13, n31, n23, n32, n14, n41, n24, n42, n34, n43]
      all_goals exact ⟨⟨k + 1, by simp [g2], by simp [g3], by simp [g4], by simp [g5], by simp, by simp, by simp [n14, k1, eB6], by simp [n24, k2, eB6], by simp [n34, k3], by simp [sumN, ea, eb, k4], by omega⟩, by omega⟩
    · have hlt' : ¬ (k : Int) < 6 := by omega
      obtain rfl : k = 6 := by omega
      rw [sumN_six, sumN_six] at k4
      simp -implicitDefEqProofs [g7, hlt']
      exact ⟨by simp [g4], by simp [g5], k3, k4⟩
  rintro t hh ⟨g4, g5, k3, k4⟩
  simp -implicitDefEqProofs [g4, g5, k3, k4, n34, n43, eV]

/-- the first of six are told -/
def fst6 (f : Nat → Bool) (k : Nat) : Nat → Bool := fun j => decide (j < k) && f j
def Min4I (a b : PView) (b1 b2 b3 b4 b5 : Nat) (t : Nat → AV) (h : Nat → Option (List AV)) : Prop := ∃ k : Nat, t 2 = .ptr b1 0 ∧ t 3 = .ptr b2 0 ∧ t 4 = .ptr b3 0 ∧ t 5 = .ptr b4 0 ∧ t 6 = .ptr b5 0 ∧ t 7 = eI k ∧ h b1 = some (eV a) ∧ h b2 = some (eV b) ∧ h b3 = some [eI 0, eI 0] ∧
  h b4 = some (eB6 (fst6 (fun j => bitV a.add j && !bitV b.add j) k)) ∧ h b5 = some (eB6 (fst6 (fun j => bitV a.del j && !bitV b.del j) k)) ∧ k ≤ 6
def Min4M (a b : PView) (b3 b4 b5 : Nat) (t : Nat → AV) (h : Nat → Option (List AV)) : Prop := t 4 = .ptr b3 0 ∧ t 5 = .ptr b4 0 ∧ t 6 = .ptr b5 0 ∧ h b3 = some [eI 0, eI 0] ∧ h b4 = some (eB6 (fun j => bitV a.add j && !bitV b.add j)) ∧ h b5 = some (eB6 (fun j => bitV a.del j && !bitV b.del j))
theorem fst6_all (f : Nat → Bool) : eB6 (fst6 f 6) = eB6 f := by simp [eB6, fst6]
theorem minus4_spec (a b : PView) (ha : rightV a = true) (hb : rightV b = true) : ASpec Tryz.prog 117 [.agg (eV a), .agg (eV b)] (· = .agg (eV (minusV a b))) := by
  refine ASpec.of_awp Tryz.func117 (by kernel_rfl) rfl (by rw [Tryz.results117]) Tryz.ntmps117 ?_
  simp -implicitDefEqProofs [eV]
  refine allocK.intro (fun b1 hb1 => ?_)
  simp -implicitDefEqProofs
  refine allocK.intro (fun b2 hb2 => ?_)
  have n12 : ¬ b1 = b2 := by rintro rfl; simp at hb2
  have n21 : ¬ b2 = b1 := fun h => n12 h.symm
  simp -implicitDefEqProofs [n12, n21]
  refine allocK.intro (fun b3 hb3 => ?_)
  have n13 : ¬ b1 = b3 := by rintro rfl; simp [n12] at hb3
  have n31 : ¬ b3 = b1 := fun h => n13 h.symm
  have n23 : ¬ b2 = b3 := by rintro rfl; simp at hb3
  have n32 : ¬ b3 = b2 := fun h => n23 h.symm
  simp -implicitDefEqProofs [n12, n21, n13, n31, n23, n32]
  refine allocK.intro (fun b4 hb4 => ?_)
  have n14 : ¬ b1 = b4 := by rintro rfl; simp [n12, n13] at hb4
  have n41 : ¬ b4 = b1 := fun h => n14 h.symm
  have n24 : ¬ b2 = b4 := by rintro rfl; simp [n23] at hb4
  have n42 : ¬ b4 = b2 := fun h => n24 h.symm
  have n34 : ¬ b3 = b4 := by rintro rfl; simp at hb4
  have n43 : ¬ b4 = b3 := fun h => n34 h.symm
  simp -implicitDefEqProofs [n12, n21, n13, n31, n23, n32, n14, n41, n24, n42, n34, n43]
  refine allocK.intro (fun b5 hb5 => ?_)
  have n15 : ¬ b1 = b5 := by rintro rfl; simp [n12, n13, n14] at hb5
  have n51 : ¬ b5 = b1 := fun h => n15 h.symm
  have n25 : ¬ b2 = b5 := by rintro rfl; simp [n23, n24] at hb5
  have n52 : ¬ b5 = b2 := fun h => n25 h.symm
  have n35 : ¬ b3 = b5 := by rintro rfl; simp [n34] at hb5
  have n53 : ¬ b5 = b3 := fun h => n35 h.symm
  have n45 : ¬ b4 = b5 := by rintro rfl; simp at hb5
  have n54 : ¬ b5 = b4 := fun h => n45 h.symm
  simp -implicitDefEqProofs [n12, n21, n13, n31, n23, n32, n14, n41, n24, n42, n34, n43, n15, n51, n25, n52, n35, n53, n45, n54]
  refine loopK.post (Min4I a b b1 b2 b3 b4 b5) (fun t => 6 - natOf (t 7)) (Min4M a b b3 b4 b5) ?_ ?_ ?_
  · exact ⟨0, by simp, by simp, by simp, by simp, by simp, by simp, by simp [n12, n13, n14, n15, eV], by simp [n23, n24, n25, eV], by simp [n34, n35], by simp [n45, eB6, fst6], by simp [eB6, fst6], by omega⟩
  · rintro t hh ⟨k, g2, g3, g4, g5, g6, g7, k1, k2, k3, k4, k5, hk⟩
    rw [eV] at k1 k2
    by_cases hlt : k < 6
    · have hk6 : k = 0 ∨ k = 1 ∨ k = 2 ∨ k = 3 ∨ k = 4 ∨ k = 5 := by omega
      have hlt' : (k : Int) < 6 := by omega
      have hw : IntKind.i64.wrap ((k : Int) + 1) = ((k + 1 : Nat) : Int) := by rw [w64 (by omega) (by omega)]; omega
      simp -implicitDefEqProofs [g2, g3, g7, k1, k2, hlt']
      refine CallK.with (has4_spec a k ha hlt) (by simp [eV]) ?_
      simp -implicitDefEqProofs [g2, g3, g7, k1, k2, hlt']
      refine CallK.with (has4_spec b k hb hlt) (by simp [eV]) ?_
      have st : ∀ f : Nat → Bool, eB6 (fst6 f (k + 1)) = (eB6 (fst6 f k)).take k ++ .v (.bool (f k)) :: (eB6 (fst6 f k)).drop (k + 1) := by
        intro f
        rcases hk6 with rfl | rfl | rfl | rfl | rfl | rfl <;> simp [eB6, fst6]
      have s4 := st (fun j => bitV a.add j && !bitV b.add j)
      have s5 := st (fun j => bitV a.del j && !bitV b.del j)
      have l4 : (eB6 (fst6 (fun j => bitV a.add j && !bitV b.add j) k)).length = 6 := rfl
      have l5 : (eB6 (fst6 (fun j => bitV a.del j && !bitV b.del j) k)).length = 6 := rfl
      generalize hx : eB6 (fst6 (fun j => bitV a.add j && !bitV b.add j) k) = x at *
      generalize hy : eB6 (fst6 (fun j => bitV a.del j && !bitV b.del j) k) = y at *
      clear st hx hy
      cases e1 : bitV a.add k <;> cases e2 : bitV b.add k <;> cases e3 : bitV a.del k <;> cases e4 : bitV b.del k <;> simp -implicitDefEqProofs [g2, g3, g5, g6, g7, k1, k2, k4, k5, l4, l5, hlt', hw, n45, n54]
      all_goals simp [e1, e2, e3, e4] at s4 s5
      all_goals exact ⟨by omega, ⟨k + 1, by simp [g2], by simp [g3], by simp [g4], by simp [g5], by simp [g6], by simp, by simp [n14, n15, k1, eV], by simp [n24, n25, k2, eV], by simp [n34, n35, k3], by simp [n45, s4], by simp [s5], by omega⟩, by omega⟩
    · have hlt' : ¬ (k : Int) < 6 := by omega
      obtain rfl : k = 6 := by omega
      rw [fst6_all] at k4 k5
      simp -implicitDefEqProofs [g7, hlt']
      exact ⟨by simp [g4], by simp [g5], by simp [g6], k3, k4, k5⟩
  rintro t hh ⟨g4, g5, g6, k3, k4, k5⟩
  rw [eB6] at k4 k5
  simp -implicitDefEqProofs [g4, g5, g6, k3, k4, k5, n34, n43]
  refine CallK.with (set4_spec (fun j => bitV a.add j && !bitV b.add j) (fun j => bitV a.del j && !bitV b.del j)) (by simp [eB6]) ?_
  simp -implicitDefEqProofs [g4, k3, eV, minusV, andN]
theorem within4_spec (a b : PView) (ha : rightV a = true) (hb : rightV b = true) : ASpec Tryz.prog 59 [.agg (eV a), .agg (eV b)] (· = .v (.bool (withinV a b))) := by
  refine ASpec.of_awp Tryz.func59 (by kernel_rfl) rfl (by rw [Tryz.results59]) Tryz.ntmps59 ?_
  simp -implicitDefEqProofs [eV]
  refine allocK.intro (fun b1 hb1 => ?_)
  simp -implicitDefEqProofs
  refine allocK.intro (fun b2 hb2 => ?_)
  have n12 : ¬ b1 = b2 := by rintro rfl; simp at hb2
  have n21 : ¬ b2 = b1 := fun h => n12 h.symm
  simp -implicitDefEqProofs [n12, n21]
  refine CallK.with (minus4_spec a b ha hb) (by simp [eV]) ?_
  have e : withinV a b = ((minusV a b).add == 0 && (minusV a b).del == 0) := by
    unfold withinV
    obtain ⟨p, q⟩ := minusV a b
    by_cases h1 : p = 0 <;> by_cases h2 : q = 0 <;> simp [h1, h2]
  simp -implicitDefEqProofs [eV, e]
/-! ### members -/
/-- the members among the first ones -/
def memK (v : PView) (k : Nat) : List Int := (([0, 1, 2, 3, 4, 5] : List Int).take k).filter (inV v)
def MemI (v : PView) (b1 : Nat) (t : Nat → AV) (h : Nat → Option (List AV)) : Prop := ∃ (k : Nat) (tag : Tag), t 1 = .ptr b1 0 ∧ t 3 = .sl tag (eZs (memK v k)) ∧ t 5 = eI k ∧ h b1 = some (eV v) ∧ k ≤ 6 ∧ appOK tag 3 1
def MemM (v : PView) (t : Nat → AV) (h : Nat → Option (List AV)) : Prop := ∃ tag, t 3 = .sl tag (eZs (membersV v))
def Mem5I (v : PView) (b1 : Nat) (t : Nat → AV) (h : Nat → Option (List AV)) : Prop := ∃ (k : Nat) (tag : Tag), t 1 = .ptr b1 0 ∧ t 3 = .sl tag (eZs (memK v k)) ∧ t 4 = eI k ∧ h b1 = some (eV v) ∧ k ≤ 6 ∧ appOK tag 3 1
/-! ### enough -/
def idxZ : List Int → Int → Nat → Int
  | [], _, _ => -1
  | x :: l, v, k => if v = x then k else idxZ l v (k + 1)
def IdxI (l : List Int) (v : Int) (t : Nat → AV) (_ : Nat → Option (List AV)) : Prop := ∃ k : Nat, t 0 = .sl .no (eZs l) ∧ t 1 = eI v ∧ t 7 = eI l.length ∧ t 8 = eI k ∧ k ≤ l.length ∧ idxZ (l.drop k) v k = idxZ l v 0
def EnI (v : PView) (who : List Int) (t : Nat → AV) (h : Nat → Option (List AV)) : Prop := ∃ (k : Nat) (tag : Tag), t 1 = .sl .no (eZs who) ∧ t 5 = .sl tag (eZs (membersV v)) ∧ t 11 = .sl .no (eZs (membersV v)) ∧ t 12 = eI (membersV v).length ∧ t 13 = eI k ∧ k ≤ (membersV v).length ∧
  t 6 = eI (((membersV v).take k).filter fun m => decide (m ∈ who)).length
def EnM (v : PView) (who : List Int) (t : Nat → AV) (h : Nat → Option (List AV)) : Prop := ∃ tag, t 5 = .sl tag (eZs (membersV v)) ∧ t 6 = eI (manyV v who)
def En5I (v : PView) (who : List Int) (tag : Tag) (t : Nat → AV) (h : Nat → Option (List AV)) : Prop := ∃ k : Nat, t 1 = .sl .no (eZs who) ∧ t 13 = .sl tag (eZs (membersV v)) ∧ t 14 = eI (membersV v).length ∧ t 15 = eI k ∧ k ≤ (membersV v).length ∧
  t 5 = eI (((membersV v).take k).filter fun m => decide (m ∈ who)).length ∧ t 6 = eI (k - (((membersV v).take k).filter fun m => decide (m ∈ who)).length : Int)
def En5J (v : PView) (who : List Int) (tag : Tag) (k : Nat) (x : Int) (t : Nat → AV) (h : Nat → Option (List AV)) : Prop := ∃ j : Nat, t 1 = .sl .no (eZs who) ∧ t 13 = .sl tag (eZs (membersV v)) ∧ t 14 = eI (membersV v).length ∧ t 15 = eI k ∧
  t 5 = eI (((membersV v).take k).filter fun m => decide (m ∈ who)).length ∧ t 6 = eI (k - (((membersV v).take k).filter fun m => decide (m ∈ who)).length : Int) ∧
  t 8 = eI x ∧ t 9 = .v (.bool (decide (x ∈ who.take j))) ∧ t 19 = .sl .no (eZs who) ∧ t 20 = eI who.length ∧ t 21 = eI j ∧ j ≤ who.length
def En5K (v : PView) (who : List Int) (tag : Tag) (k : Nat) (x : Int) (t : Nat → AV) (h : Nat → Option (List AV)) : Prop := t 1 = .sl .no (eZs who) ∧ t 13 = .sl tag (eZs (membersV v)) ∧ t 14 = eI (membersV v).length ∧ t 15 = eI k ∧
  t 5 = eI (((membersV v).take k).filter fun m => decide (m ∈ who)).length ∧ t 6 = eI (k - (((membersV v).take k).filter fun m => decide (m ∈ who)).length : Int) ∧
  t 8 = eI x ∧ t 9 = .v (.bool (decide (x ∈ who)))
def En5M (v : PView) (who : List Int) (t : Nat → AV) (h : Nat → Option (List AV)) : Prop := t 5 = eI (manyV v who) ∧ t 6 = eI ((membersV v).length - manyV v who : Int)
end Go.Proofs.YtjbbfiagijjdoaaGreat

/- Plain: books. No condition. -/
set_option linter.unusedSimpArgs false
set_option linter.unusedVariables false
set_option maxRecDepth 10000
namespace Go.Proofs.YtjbbfiagijjdoaaGreat
open Go Go.Rw Go.Proofs

/-- where the first one stands for which something holds -/
def idxP {α : Type} (p : α → Bool) (l : List α) : Int := if l.findIdx p < l.length then (l.findIdx p : Int) else -1
theorem idxP_none {α : Type} {p : α → Bool} {l : List α} (h : ∀ x ∈ l, p x = false) : idxP p l = -1 := by
  unfold idxP
  have : l.findIdx p = l.length := List.findIdx_eq_length.2 h
  rw [if_neg (by omega)]
theorem idxP_some {α : Type} {p : α → Bool} {l : List α} {k : Nat} {x : α} (hx : l[k]? = some x) (hp : p x = true) (hn : ∀ y ∈ l.take k, p y = false) : idxP p l = k := by
  have hk : k < l.length := by
    rcases Nat.lt_or_ge k l.length with h | h
    · exact h
    · rw [List.getElem?_eq_none h] at hx; simp at hx
  have hxk : l[k] = x := by rw [List.getElem?_eq_getElem hk] at hx; exact Option.some.inj hx
  have e : l.findIdx p = k := by
    rw [List.findIdx_eq hk]
    refine ⟨by rw [hxk]; exact hp, fun j hj => ?_⟩
    refine hn _ ?_
    rw [List.mem_take_iff_getElem]
    exact ⟨j, by omega, rfl⟩
  unfold idxP
  rw [e, if_pos hk]
theorem take_no {α : Type} {p : α → Bool} {l : List α} {k : Nat} {x : α} (hx : l[k]? = some x) (hp : p x = false) (hn : ∀ y ∈ l.take k, p y = false) : ∀ y ∈ l.take (k + 1), p y = false := by
  intro y hy
  rw [List.take_add_one, hx] at hy
  rcases List.mem_append.1 hy with h | h
  · exact hn y h
  · simp at h; rw [h]; exact hp
/-- a key's entry, or one without a tag -/
def findE (b : List PEntry) (k : Int) : PEntry := (b.find? fun x => decide (x.key = k)).getD ⟨k, ⟨0, 0⟩, 0⟩
theorem findE_no {b : List PEntry} {k : Int} (h : ∀ x ∈ b, decide (x.key = k) = false) : findE b k = ⟨k, ⟨0, 0⟩, 0⟩ := by
  unfold findE
  have e : b.find? (fun x => decide (x.key = k)) = none := List.find?_eq_none.2 (fun x hx => by rw [h x hx]; simp)
  rw [e]
  rfl
theorem findE_yes {b : List PEntry} {k : Int} {i : Nat} {x : PEntry} (hx : b[i]? = some x) (hp : decide (x.key = k) = true) (hn : ∀ y ∈ b.take i, decide (y.key = k) = false) : findE b k = x := by
  unfold findE
  have hk : i < b.length := by
    rcases Nat.lt_or_ge i b.length with h | h
    · exact h
    · rw [List.getElem?_eq_none h] at hx; simp at hx
  have hxk : b[i] = x := by rw [List.getElem?_eq_getElem hk] at hx; exact Option.some.inj hx
  have e : b.find? (fun x => decide (x.key = k)) = some x := by
    refine List.find?_eq_some_iff_getElem.2 ⟨hp, i, hk, hxk, fun j hj => ?_⟩
    rw [hn _ (List.mem_take_iff_getElem.2 ⟨j, by omega, rfl⟩)]; rfl
  rw [e]
  rfl
theorem findE_idx (b : List PEntry) (k : Int) : (idxP (fun x : PEntry => decide (x.key = k)) b = -1 ∧ findE b k = ⟨k, ⟨0, 0⟩, 0⟩) ∨ (∃ i : Nat, ∃ x, idxP (fun x : PEntry => decide (x.key = k)) b = i ∧ b[i]? = some x ∧ findE b k = x) := by
  by_cases h : b.findIdx (fun x : PEntry => decide (x.key = k)) < b.length
  · refine .inr ⟨b.findIdx (fun x : PEntry => decide (x.key = k)), b[b.findIdx (fun x : PEntry => decide (x.key = k))], ?_, List.getElem?_eq_getElem h, ?_⟩
    · unfold idxP; rw [if_pos h]
    · refine findE_yes (List.getElem?_eq_getElem h) (List.findIdx_getElem (p := fun x : PEntry => decide (x.key = k)) (w := h)) fun y hy => ?_
      obtain ⟨j, hj, e⟩ := List.mem_take_iff_getElem.1 hy
      have := List.not_of_lt_findIdx (p := fun x : PEntry => decide (x.key = k)) (xs := b) (i := j) (by omega)
      rw [e] at this
      simpa using this
  · have hl : b.findIdx (fun x : PEntry => decide (x.key = k)) = b.length := by
      have := List.findIdx_le_length (p := fun x : PEntry => decide (x.key = k)) (xs := b)
      omega
    refine .inl ⟨?_, ?_⟩
    · unfold idxP; rw [if_neg h]
    · exact findE_no (List.findIdx_eq_length.1 hl)
/-- the newer one of two -/
def newerE (x y : PEntry) : PEntry := if lessT x.tag y.tag then y else x
def mergeE1 (a b : List PEntry) (k : Int) : List PEntry := if 0 < (newerE (findE a k) (findE b k)).tag.num then [newerE (findE a k) (findE b k)] else []
def mergeK (a b : List PEntry) : Nat → List PEntry
  | 0 => []
  | k + 1 => mergeK a b k ++ mergeE1 a b k
def mergeE (a b : List PEntry) : List PEntry := mergeK a b 4
/-- the same, as the document has it -/
def mergeD1 (a b : List PEntry) (k : Int) : List PEntry := if (newerE (findE a k) (findE b k)).tag = ⟨0, 0⟩ then [] else [newerE (findE a k) (findE b k)]
def mergeDK (a b : List PEntry) : Nat → List PEntry
  | 0 => []
  | k + 1 => mergeDK a b k ++ mergeD1 a b k
def mergeD (a b : List PEntry) : List PEntry := mergeDK a b 4
def newsE (old book : List PEntry) : List PEntry := book.filter fun x => lessT (findE old x.key).tag x.tag
def maxT (a b : PTag) : PTag := if lessT a b then b else a
theorem findE_right {b : List PEntry} {k : Int} (hb : ∀ x ∈ b, rightT x.tag = true) : rightT (findE b k).tag = true := by
  rcases findE_idx b k with ⟨_, e⟩ | ⟨i, x, _, hx, e⟩
  · rw [e]; rfl
  · rw [e]; exact hb x (List.mem_of_getElem? hx)
theorem newer_right {x y : PEntry} (hx : rightT x.tag = true) (hy : rightT y.tag = true) : rightT (newerE x y).tag = true := by
  unfold newerE; split <;> assumption
theorem right_num {t : PTag} (h : rightT t = true) : 0 < t.num ↔ ¬ t = ⟨0, 0⟩ := by
  obtain ⟨n, m⟩ := t
  simp [rightT] at h
  constructor
  · intro h1 h2; cases h2; simp at h1
  · intro h1
    rcases h.2 with h2 | h2
    · exact h2
    · subst h2
      have : n ≠ 0 := fun h3 => h1 (by rw [h3])
      simp only; omega
theorem mergeE1_le (a b : List PEntry) (k : Int) : (mergeE1 a b k).length ≤ 1 := by unfold mergeE1; split <;> simp
theorem mergeK_le (a b : List PEntry) (k : Nat) : (mergeK a b k).length ≤ k := by
  induction k with
  | zero => simp [mergeK]
  | succ k ih =>
    have := mergeE1_le a b k
    rw [mergeK, List.length_append]; omega
theorem mergeD1_le (a b : List PEntry) (k : Int) : (mergeD1 a b k).length ≤ 1 := by unfold mergeD1; split <;> simp
theorem mergeDK_le (a b : List PEntry) (k : Nat) : (mergeDK a b k).length ≤ k := by
  induction k with
  | zero => simp [mergeDK]
  | succ k ih =>
    have := mergeD1_le a b k
    rw [mergeDK, List.length_append]; omega
theorem mergeD_eq {a b : List PEntry} (ha : ∀ x ∈ a, rightT x.tag = true) (hb : ∀ x ∈ b, rightT x.tag = true) : mergeD a b = mergeE a b := by
  have e : ∀ k, mergeDK a b k = mergeK a b k := by
    intro k
    induction k with
    | zero => rfl
    | succ k ih =>
      rw [mergeDK, mergeK, ih]
      have h := right_num (newer_right (findE_right (k := k) ha) (findE_right (k := k) hb))
      unfold mergeD1 mergeE1
      by_cases h2 : (newerE (findE a k) (findE b k)).tag = ⟨0, 0⟩
      · rw [if_pos h2, if_neg (fun h3 => h.1 h3 h2)]
      · rw [if_neg h2, if_pos (h.2 h2)]
  exact e 4
end Go.Proofs.YtjbbfiagijjdoaaGreat

/- Contracts: books. No condition. -/
set_option linter.unusedSimpArgs false
set_option linter.unusedVariables false
set_option maxRecDepth 10000
namespace Go.Proofs.YtjbbfiagijjdoaaGreat
open Go Go.Rw Go.Proofs
-- a goal is never to be run by the elaborator
attribute [local irreducible] awp aops aop aopsE aeff

/-! ### book.find -/
theorem findKey_spec (x : PEntry) (b : Nat) (k : Int) : MSpec Tryz.prog 175 [.agg (eE x), .ptr b 0] (one b [eI k]) (fun r h' => r = .v (.bool (decide (x.key = k))) ∧ h' = one b [eI k]) := by
  refine MSpec.of_awp Tryz.func175 (by kernel_rfl) rfl (by rw [Tryz.results175]) Tryz.ntmps175 ?_
  simp -implicitDefEqProofs [eE]
  refine allocK.intro (fun b1 hb1 => ?_)
  have n1 : ¬ b1 = b := by rintro rfl; simp at hb1
  have n2 : ¬ b = b1 := fun h => n1 h.symm
  simp -implicitDefEqProofs [n1, n2]
def IdfI {α : Type} (rows : List α → List (List AV)) (p : α → Bool) (l : List α) (g : FuncId) (b : Nat) (c : List AV) (t : Nat → AV) (h : Nat → Option (List AV)) : Prop := ∃ k : Nat, t 0 = .sl .no (rows l) ∧ t 1 = .fn g [.ptr b 0] ∧ t 7 = eI l.length ∧ t 8 = eI k ∧ k ≤ l.length ∧ h b = some c ∧ ∀ y ∈ l.take k, p y = false
theorem indexf_entries (g : FuncId) (b : Nat) (c : List AV) (p : PEntry → Bool) (l : List PEntry) (hf : ∀ x ∈ l, MSpec Tryz.prog g [.agg (eE x), .ptr b 0] (one b c) (fun r h' => r = .v (.bool (p x)) ∧ h' = one b c)) :
    MSpec Tryz.prog 167 [.sl .no (eEs l), .fn g [.ptr b 0]] (one b c) (fun r h' => r = eI (idxP p l) ∧ h' = one b c) := by
  refine MSpec.of_awp Tryz.func167 (by kernel_rfl) rfl (by rw [Tryz.results167]) Tryz.ntmps167 ?_
  simp -implicitDefEqProofs
  intro _
  refine loopK.intro (IdfI eEs p l g b c) (fun t => l.length - natOf (t 8)) ?_ ?_
  · exact ⟨0, by simp, by simp, by simp, by simp, by omega, by simp, by simp⟩
  rintro t hh ⟨k, g0, g1, g7, g8, hk, hb, hn⟩
  by_cases hlt : k < l.length
  · have hlt' : (k : Int) < (l.length : Int) := by omega
    obtain ⟨x, hx⟩ : ∃ x, l[k]? = some x := ⟨l[k], by simp [hlt]⟩
    have hw : IntKind.i64.wrap ((k : Int) + 1) = ((k + 1 : Nat) : Int) := by rw [w64 (by omega) (by omega)]; omega
    simp -implicitDefEqProofs [g0, g1, g7, g8, hlt', hx, eE]
    refine CallK.one (hf x (List.mem_of_getElem? hx)) (by simp [eE]) (by simp [hb, Weak.refl]) ?_
    cases hp : p x
    · simp -implicitDefEqProofs [g0, g1, g7, g8, hb, hw]
      exact ⟨⟨k + 1, by simp [g0], by simp [g1], by simp [g7], by simp, by omega, by simp, take_no hx hp hn⟩, by omega⟩
    · simp -implicitDefEqProofs [g0, g1, g7, g8, hb, hw, idxP_some hx hp hn, Weak.refl]
  · have hlt' : ¬ (k : Int) < (l.length : Int) := by omega
    rw [List.take_of_length_le (by omega)] at hn
    simp -implicitDefEqProofs [g7, g8, hlt', hb, idxP_none hn, Weak.refl]
theorem find_spec (l : List PEntry) (k : Int) : ASpec Tryz.prog 138 [.sl .no (eEs l), eI k] (· = .agg (eE (findE l k))) := by
  refine ASpec.of_awp Tryz.func138 (by kernel_rfl) rfl (by rw [Tryz.results138]) Tryz.ntmps138 ?_
  simp -implicitDefEqProofs
  refine allocK.intro (fun b1 hb1 => ?_)
  simp -implicitDefEqProofs
  refine allocK.intro (fun b2 hb2 => ?_)
  have n12 : ¬ b1 = b2 := by rintro rfl; simp at hb2
  have n21 : ¬ b2 = b1 := fun h => n12 h.symm
  simp -implicitDefEqProofs [n12, n21]
  refine CallK.one (indexf_entries 175 b1 [eI k] (fun x => decide (x.key = k)) l (fun x _ => findKey_spec x b1 k)) rfl (by simp [n12, Weak.refl]) ?_
  rcases findE_idx l k with ⟨e1, e2⟩ | ⟨i, x, e1, hx, e2⟩
  · rw [e1, e2]
    simp -implicitDefEqProofs [n12, n21, eE]
  · rw [e1, e2]
    have hi : ¬ (i : Int) < 0 := by omega
    simp -implicitDefEqProofs [n12, n21, hi, hx, eE]

/-! ### book.Merge -/
def MgbI (a b : List PEntry) (t : Nat → AV) (_ : Nat → Option (List AV)) : Prop := ∃ (k : Nat) (tag : Tag), t 0 = .sl .no (eEs a) ∧ t 1 = .sl .no (eEs b) ∧ t 5 = .sl tag (eEs (mergeK a b k)) ∧ t 9 = eI k ∧ k ≤ 4 ∧ appOK tag 46 4
def MgbM (a b : List PEntry) (n : Nat) (t : Nat → AV) (_ : Nat → Option (List AV)) : Prop := ∃ tag : Tag, t n = .sl tag (eEs (mergeE a b))
theorem merge_spec (a b : List PEntry) : ASpec Tryz.prog 99 [.sl .no (eEs a), .sl .no (eEs b)] (fun r => ∃ tag, r = .sl tag (eEs (mergeE a b))) := by
  refine ASpec.of_awp Tryz.func99 (by kernel_rfl) rfl (by rw [Tryz.results99]) Tryz.ntmps99 ?_
  simp -implicitDefEqProofs
  refine loopK.post (MgbI a b) (fun t => 4 - natOf (t 9)) (MgbM a b 5) ?_ ?_ ?_
  · exact ⟨0, .nil, by simp, by simp, by simp [mergeK], by simp, by omega, by simp⟩
  · rintro t hh ⟨k, tag, g0, g1, g5, g9, hk, gt⟩
    by_cases hlt : k < 4
    · have hlt' : (k : Int) < 4 := by omega
      have hw : IntKind.i64.wrap ((k : Int) + 1) = ((k + 1 : Nat) : Int) := by rw [w64 (by omega) (by omega)]; omega
      have hl := mergeK_le a b k
      simp -implicitDefEqProofs [g0, g1, g9, hlt']
      refine CallK.eq (find_spec a k) ?_
      simp -implicitDefEqProofs [g0, g1, g9, hlt']
      refine CallK.eq (find_spec b k) ?_
      have hs : mergeK a b (k + 1) = mergeK a b k ++ (if 0 < (newerE (findE a k) (findE b k)).tag.num then [newerE (findE a k) (findE b k)] else []) := rfl
      generalize findE a k = x at *
      generalize findE b k = y at *
      simp -implicitDefEqProofs [eE]
      refine allocK.intro (fun b1 hb1 => ?_)
      simp -implicitDefEqProofs
      refine allocK.intro (fun b2 hb2 => ?_)
      have n12 : ¬ b1 = b2 := by rintro rfl; simp at hb2
      have n21 : ¬ b2 = b1 := fun h => n12 h.symm
      simp -implicitDefEqProofs [n12, n21, eE]
      refine CallK.with (lessT_spec x.tag y.tag) (by simp [eT]) ?_
      cases hx : lessT x.tag y.tag
      · rw [show newerE x y = x by simp [newerE, hx]] at hs
        by_cases hp : 0 < x.tag.num
        · rw [if_pos hp] at hs
          simp -implicitDefEqProofs [g5, gt, g9, n12, n21, hp, hw]
          exact ⟨by omega, ⟨k + 1, appTag tag 46 4 [eE x], by simp [g0], by simp [g1], by simp [hs, eEs, eE], by simp, by omega, by simp [gt]⟩, by omega⟩
        · rw [if_neg hp] at hs
          simp -implicitDefEqProofs [g5, g9, n12, n21, hp, hw]
          exact ⟨⟨k + 1, tag, by simp [g0], by simp [g1], by simp [g5, hs], by simp, by omega, gt⟩, by omega⟩
      · rw [show newerE x y = y by simp [newerE, hx]] at hs
        by_cases hp : 0 < y.tag.num
        · rw [if_pos hp] at hs
          simp -implicitDefEqProofs [g5, gt, g9, n12, n21, hp, hw]
          exact ⟨by omega, ⟨k + 1, appTag tag 46 4 [eE y], by simp [g0], by simp [g1], by simp [hs, eEs, eE], by simp, by omega, by simp [gt]⟩, by omega⟩
        · rw [if_neg hp] at hs
          simp -implicitDefEqProofs [g5, g9, n12, n21, hp, hw]
          exact ⟨⟨k + 1, tag, by simp [g0], by simp [g1], by simp [g5, hs], by simp, by omega, gt⟩, by omega⟩
    · have hlt' : ¬ (k : Int) < 4 := by omega
      obtain rfl : k = 4 := by omega
      simp -implicitDefEqProofs [g9, hlt']
      exact ⟨tag, by simp [g5, mergeE]⟩
  rintro t hh ⟨tag, g5⟩
  simp -implicitDefEqProofs [g5]
/-! ### book.News, book.Within -/
def NwbI (old book : List PEntry) (t : Nat → AV) (_ : Nat → Option (List AV)) : Prop := ∃ (k : Nat) (tag : Tag), t 0 = .sl .no (eEs old) ∧ t 5 = .sl tag (eEs (newsE old (book.take k))) ∧ t 8 = .sl .no (eEs book) ∧ t 9 = eI book.length ∧ t 10 = eI k ∧ k ≤ book.length ∧ appOK tag 46 4
def NwbM (old book : List PEntry) (n : Nat) (t : Nat → AV) (_ : Nat → Option (List AV)) : Prop := ∃ tag : Tag, t n = .sl tag (eEs (newsE old book))
/-! ### the document's -/
def Fi7I (l : List PEntry) (k : Int) (b1 : Nat) (t : Nat → AV) (h : Nat → Option (List AV)) : Prop := ∃ i : Nat, t 1 = eI k ∧ t 4 = .ptr b1 0 ∧ t 7 = .sl .no (eEs l) ∧ t 8 = eI l.length ∧ t 9 = eI i ∧ i ≤ l.length ∧ h b1 = some (eE ⟨0, ⟨0, 0⟩, 0⟩) ∧ ∀ y ∈ l.take i, decide (y.key = k) = false
theorem find7_spec (l : List PEntry) (k : Int) : ASpec Tryz.prog 76 [.sl .no (eEs l), eI k] (· = .agg (eE (findE l k))) := by
  refine ASpec.of_awp Tryz.func76 (by kernel_rfl) rfl (by rw [Tryz.results76]) Tryz.ntmps76 ?_
  simp -implicitDefEqProofs
  refine allocK.intro (fun b1 hb1 => ?_)
  simp -implicitDefEqProofs
  intro _
  refine loopK.intro (Fi7I l k b1) (fun t => l.length - natOf (t 9)) ?_ ?_
  · exact ⟨0, by simp, by simp, by simp, by simp, by simp, by omega, by simp [eE], by simp⟩
  rintro t hh ⟨i, g1, g4, g7, g8, g9, hi, hb, hn⟩
  rw [eE] at hb
  by_cases hlt : i < l.length
  · have hlt' : (i : Int) < (l.length : Int) := by omega
    have hw : IntKind.i64.wrap ((i : Int) + 1) = ((i + 1 : Nat) : Int) := by rw [w64 (by omega) (by omega)]; omega
    obtain ⟨x, hx⟩ : ∃ x, l[i]? = some x := ⟨l[i], by simp [hlt]⟩
    simp -implicitDefEqProofs [g7, g8, g9, hlt', hx, eE]
    refine allocK.intro (fun b2 hb2 => ?_)
    have n12 : ¬ b1 = b2 := by rintro rfl; simp [hb] at hb2
    have n21 : ¬ b2 = b1 := fun h => n12 h.symm
    by_cases he : x.key = k
    · rw [findE_yes hx (by simpa using he) hn]
      simp -implicitDefEqProofs [g1, g4, g7, g8, g9, hlt', n12, n21, hb, he, eE]
    · simp -implicitDefEqProofs [g1, g4, g7, g8, g9, hlt', n12, n21, hb, he, hw]
      exact ⟨⟨i + 1, by simp [g1], by simp [g4], by simp [g7], by simp [g8], by simp, by omega, by simp [n12, hb, eE], take_no hx (by simpa using he) hn⟩, by omega⟩
  · have hlt' : ¬ (i : Int) < (l.length : Int) := by omega
    rw [List.take_of_length_le (by omega)] at hn
    rw [findE_no hn]
    simp -implicitDefEqProofs [g1, g4, g8, g9, hlt', hb, eE]

def Mx6I (l : List PTag) (b1 b2 : Nat) (t : Nat → AV) (h : Nat → Option (List AV)) : Prop := ∃ i : Nat, t 2 = .ptr b1 0 ∧ t 3 = .ptr b2 0 ∧ t 13 = .sl .no (l.map eT) ∧ t 14 = eI l.length ∧ t 15 = eI i ∧ i ≤ l.length ∧ h b1 = some (eT ⟨0, 0⟩) ∧ h b2 = some (eT ((l.take i).foldl maxT (l.headD ⟨0, 0⟩)))
def Mx6M (l : List PTag) (b1 b2 : Nat) (t : Nat → AV) (h : Nat → Option (List AV)) : Prop := t 2 = .ptr b1 0 ∧ t 3 = .ptr b2 0 ∧ h b1 = some (eT ⟨0, 0⟩) ∧ h b2 = some (eT (l.foldl maxT (l.headD ⟨0, 0⟩)))
theorem max6_spec (l : List PTag) (h0 : l ≠ []) : ASpec Tryz.prog 150 [.sl .no (l.map eT)] (· = .agg (eT (l.foldl maxT (l.headD ⟨0, 0⟩)))) := by
  have hp : 0 < l.length := by
    cases l with
    | nil => exact absurd rfl h0
    | cons => simp
  obtain ⟨x0, hx0⟩ : ∃ x, l[0]? = some x := ⟨l[0], by simp [hp]⟩
  have hh0 : l.headD ⟨0, 0⟩ = x0 := by
    cases l with
    | nil => simp at hp
    | cons y l => simpa using hx0
  have hl0 : l[0]'hp = x0 := by rw [List.getElem?_eq_getElem hp] at hx0; exact Option.some.inj hx0
  refine ASpec.of_awp Tryz.func150 (by kernel_rfl) rfl (by rw [Tryz.results150]) Tryz.ntmps150 ?_
  simp -implicitDefEqProofs
  refine allocK.intro (fun b1 hb1 => ?_)
  have hz : ¬ (l.length : Int) = 0 := by omega
  simp -implicitDefEqProofs [hz]
  try intro _
  have hp' : ¬ l = [] := h0
  simp -implicitDefEqProofs [hp', hx0, eT, hp]
  refine allocK.intro (fun b2 hb2 => ?_)
  have n12 : ¬ b1 = b2 := by rintro rfl; simp at hb2
  have n21 : ¬ b2 = b1 := fun h => n12 h.symm
  simp -implicitDefEqProofs [n12, n21]
  try intro _
  refine loopK.post (Mx6I l b1 b2) (fun t => l.length - natOf (t 15)) (Mx6M l b1 b2) ?_ ?_ ?_
  · exact ⟨0, by simp, by simp, by simp [eT], by simp, by simp, by omega, by simp [n12, eT], by simp [hh0, hl0, eT, -List.headD_eq_head?_getD]⟩
  · rintro t hh ⟨i, g2, g3, g13, g14, g15, hi, k1, k2⟩
    by_cases hlt : i < l.length
    · have hlt' : (i : Int) < (l.length : Int) := by omega
      have hw : IntKind.i64.wrap ((i : Int) + 1) = ((i + 1 : Nat) : Int) := by rw [w64 (by omega) (by omega)]; omega
      obtain ⟨x, hx⟩ : ∃ x, l[i]? = some x := ⟨l[i], by simp [hlt]⟩
      have hs : (l.take (i + 1)).foldl maxT (l.headD ⟨0, 0⟩) = maxT ((l.take i).foldl maxT (l.headD ⟨0, 0⟩)) x := by
        rw [List.take_add_one, hx, List.foldl_append]; rfl
      generalize (l.take i).foldl maxT (l.headD ⟨0, 0⟩) = y at *
      rw [eT] at k1 k2
      simp -implicitDefEqProofs [g13, g14, g15, hlt', hx, eT]
      refine allocK.intro (fun b3 hb3 => ?_)
      have n13 : ¬ b1 = b3 := by rintro rfl; simp [k1] at hb3
      have n31 : ¬ b3 = b1 := fun h => n13 h.symm
      have n23 : ¬ b2 = b3 := by rintro rfl; simp [k2] at hb3
      have n32 : ¬ b3 = b2 := fun h => n23 h.symm
      simp -implicitDefEqProofs [g3, k2, n13, n31, n23, n32]
      refine CallK.with (less6_spec y x) (by simp [eT]) ?_
      cases hy : lessT y x
      · have e : maxT y x = y := by simp [maxT, hy]
        rw [e] at hs
        simp -implicitDefEqProofs [g3, g15, k2, n23, n32, hw]
        exact ⟨⟨i + 1, by simp [g2], by simp [g3], by simp [g13], by simp [g14], by simp, by omega, by simp [n13, k1, eT], by rw [hs]; simp [n23, k2, eT]⟩, by omega⟩
      · have e : maxT y x = x := by simp [maxT, hy]
        rw [e] at hs
        simp -implicitDefEqProofs [g3, g15, k2, n23, n32, hw]
        exact ⟨⟨i + 1, by simp [g2], by simp [g3], by simp [g13], by simp [g14], by simp, by omega, by simp [n12, n13, k1, eT], by rw [hs]; simp [n23, eT]⟩, by omega⟩
    · have hlt' : ¬ (i : Int) < (l.length : Int) := by omega
      rw [List.take_of_length_le (by omega)] at k2
      simp -implicitDefEqProofs [g14, g15, hlt']
      exact ⟨by simp [g2], by simp [g3], k1, k2⟩
  rintro t hh ⟨g2, g3, k1, k2⟩
  generalize l.foldl maxT (l.headD ⟨0, 0⟩) = y at *
  rw [eT] at k1 k2
  simp -implicitDefEqProofs [g2, g3, k1, k2, n12, n21, eT]
theorem lessT_self (a : PTag) : lessT a a = false := by rw [lessT_eq]; simp
theorem max6_two (a b : PTag) : ASpec Tryz.prog 150 [.sl .no [eT a, eT b]] (· = .agg (eT (maxT a b))) := by
  have h := max6_spec [a, b] (by simp)
  have e : [a, b].foldl maxT ([a, b].headD ⟨0, 0⟩) = maxT a b := by
    have e1 : maxT a a = a := by simp [maxT, lessT_self]
    simp [e1]
  rwa [e] at h
theorem ne_two {a b c d : Int} (h : ¬ (a = c ∧ b = d)) : (!a == c || !b == d) = true := by
  by_cases h1 : a = c
  · have h2 : ¬ b = d := fun h2 => h ⟨h1, h2⟩
    simp [h2]
  · simp [h1]
def Mg7I (a b : List PEntry) (t : Nat → AV) (_ : Nat → Option (List AV)) : Prop := ∃ (k : Nat) (tag : Tag), t 0 = .sl .no (eEs a) ∧ t 1 = .sl .no (eEs b) ∧ t 5 = .sl tag (eEs (mergeDK a b k)) ∧ t 6 = eI k ∧ k ≤ 4 ∧ appOK tag 46 4
def Mg7M (a b : List PEntry) (t : Nat → AV) (_ : Nat → Option (List AV)) : Prop := ∃ tag : Tag, t 5 = .sl tag (eEs (mergeD a b))
theorem merge7_spec (a b : List PEntry) : ASpec Tryz.prog 91 [.sl .no (eEs a), .sl .no (eEs b)] (fun r => ∃ tag, r = .sl tag (eEs (mergeD a b))) := by
  refine ASpec.of_awp Tryz.func91 (by kernel_rfl) rfl (by rw [Tryz.results91]) Tryz.ntmps91 ?_
  simp -implicitDefEqProofs
  refine bsK.std ?_
  simp -implicitDefEqProofs
  refine loopK.post (Mg7I a b) (fun t => 4 - natOf (t 6)) (Mg7M a b) ?_ ?_ ?_
  · exact ⟨0, _, by simp, by simp, by simp [mergeDK]; rfl, by simp, by omega, by simp⟩
  · rintro t hh ⟨k, tag, g0, g1, g5, g6, hk, gt⟩
    by_cases hlt : k < 4
    · have hlt' : (k : Int) < 4 := by omega
      have hw : IntKind.i64.wrap ((k : Int) + 1) = ((k + 1 : Nat) : Int) := by rw [w64 (by omega) (by omega)]; omega
      have hl := mergeDK_le a b k
      simp -implicitDefEqProofs [g0, g1, g6, hlt']
      refine CallK.eq (find7_spec a k) ?_
      simp -implicitDefEqProofs [g0, g1, g6, hlt']
      refine CallK.eq (find7_spec b k) ?_
      have hs : mergeDK a b (k + 1) = mergeDK a b k ++ (if (newerE (findE a k) (findE b k)).tag = ⟨0, 0⟩ then [] else [newerE (findE a k) (findE b k)]) := rfl
      generalize findE a k = x at *
      generalize findE b k = y at *
      simp -implicitDefEqProofs [eE]
      refine allocK.intro (fun b1 hb1 => ?_)
      simp -implicitDefEqProofs
      refine allocK.intro (fun b2 hb2 => ?_)
      have n12 : ¬ b1 = b2 := by rintro rfl; simp at hb2
      have n21 : ¬ b2 = b1 := fun h => n12 h.symm
      simp -implicitDefEqProofs [n12, n21, eE]
      refine regionK.intro 9 follows_mixed (by kernel_rfl) ?_
      simp -implicitDefEqProofs [n12, n21, eE]
      refine CallQ.with (max6_two x.tag y.tag) (by simp [eT]) ?_
      have en : ∀ z : PTag, (z = ⟨0, 0⟩) ↔ (z.num = 0 ∧ z.node = 0) := by
        rintro ⟨n, m⟩; simp
      cases hx : lessT x.tag y.tag
      · have e1 : maxT x.tag y.tag = x.tag := by simp [maxT, hx]
        rw [show newerE x y = x by simp [newerE, hx]] at hs
        rw [e1]
        by_cases hp : x.tag = ⟨0, 0⟩
        · have hp2 := (en _).1 hp
          rw [if_pos hp] at hs
          simp -implicitDefEqProofs [g5, gt, g6, n12, n21, eT, hp2.1, hp2.2, hw]
          exact ⟨⟨k + 1, tag, by simp [g0], by simp [g1], by simp [g5, hs], by simp, by omega, gt⟩, by omega⟩
        · have hp2 := fun h => hp ((en _).2 h)
          rw [if_neg hp] at hs
          simp -implicitDefEqProofs [g5, gt, g6, n12, n21, eT, ne_two hp2, hw]
          exact ⟨by omega, ⟨k + 1, appTag tag 46 4 [eE x], by simp [g0], by simp [g1], by simp [hs, eEs, eE], by simp, by omega, by simp [gt]⟩, by omega⟩
      · have e1 : maxT x.tag y.tag = y.tag := by simp [maxT, hx]
        have e2 : ¬ (y.tag.num = x.tag.num ∧ y.tag.node = x.tag.node) := by
          rintro ⟨h1, h2⟩
          rw [lessT_eq] at hx
          simp [h1, h2] at hx
        rw [show newerE x y = y by simp [newerE, hx]] at hs
        rw [e1]
        by_cases hp : y.tag = ⟨0, 0⟩
        · have hp2 := (en _).1 hp
          rw [hp2.1, hp2.2] at e2
          rw [if_pos hp] at hs
          simp -implicitDefEqProofs [g5, gt, g6, n12, n21, eT, hp2.1, hp2.2, ne_two e2, hw]
          exact ⟨⟨k + 1, tag, by simp [g0], by simp [g1], by simp [g5, hs], by simp, by omega, gt⟩, by omega⟩
        · have hp2 := fun h => hp ((en _).2 h)
          rw [if_neg hp] at hs
          simp -implicitDefEqProofs [g5, gt, g6, n12, n21, eT, ne_two hp2, ne_two e2, hw]
          exact ⟨by omega, ⟨k + 1, appTag tag 46 4 [eE y], by simp [g0], by simp [g1], by simp [hs, eEs, eE], by simp, by omega, by simp [gt]⟩, by omega⟩
    · have hlt' : ¬ (k : Int) < 4 := by omega
      obtain rfl : k = 4 := by omega
      simp -implicitDefEqProofs [g6, hlt']
      exact ⟨tag, by simp [g5, mergeD]⟩
  rintro t hh ⟨tag, g5⟩
  simp -implicitDefEqProofs [g5]
end Go.Proofs.YtjbbfiagijjdoaaGreat

/- Plain: cells. No condition. -/
set_option linter.unusedSimpArgs false
set_option linter.unusedVariables false
set_option maxRecDepth 10000
namespace Go.Proofs.YtjbbfiagijjdoaaGreat
open Go Go.Rw Go.Proofs

/-- what a node wrote -/
def ofC (l : List PCell) (n : Int) : Option PView := (l.find? fun c => decide (c.node = n)).map (·.change)
theorem idxP_cases {α : Type} (p : α → Bool) (l : List α) : (idxP p l = -1 ∧ ∀ x ∈ l, p x = false) ∨ (∃ i : Nat, ∃ x, idxP p l = i ∧ l[i]? = some x ∧ p x = true ∧ ∀ y ∈ l.take i, p y = false) := by
  by_cases h : l.findIdx p < l.length
  · refine .inr ⟨l.findIdx p, l[l.findIdx p], ?_, List.getElem?_eq_getElem h, List.findIdx_getElem (w := h), fun y hy => ?_⟩
    · unfold idxP; rw [if_pos h]
    · obtain ⟨j, hj, e⟩ := List.mem_take_iff_getElem.1 hy
      have := List.not_of_lt_findIdx (p := p) (xs := l) (i := j) (by omega)
      rw [e] at this
      simpa using this
  · have hl : l.findIdx p = l.length := by
      have := List.findIdx_le_length (p := p) (xs := l)
      omega
    refine .inl ⟨?_, List.findIdx_eq_length.1 hl⟩
    unfold idxP; rw [if_neg h]
theorem ofC_no {l : List PCell} {n : Int} (h : ∀ x ∈ l, decide (x.node = n) = false) : ofC l n = none := by
  unfold ofC
  have e : l.find? (fun c => decide (c.node = n)) = none := List.find?_eq_none.2 (fun x hx => by rw [h x hx]; simp)
  rw [e]; rfl
theorem ofC_yes {l : List PCell} {n : Int} {i : Nat} {x : PCell} (hx : l[i]? = some x) (hp : decide (x.node = n) = true) (hn : ∀ y ∈ l.take i, decide (y.node = n) = false) : ofC l n = some x.change := by
  unfold ofC
  have hk : i < l.length := by
    rcases Nat.lt_or_ge i l.length with h | h
    · exact h
    · rw [List.getElem?_eq_none h] at hx; simp at hx
  have hxk : l[i] = x := by rw [List.getElem?_eq_getElem hk] at hx; exact Option.some.inj hx
  have e : l.find? (fun c => decide (c.node = n)) = some x := by
    refine List.find?_eq_some_iff_getElem.2 ⟨hp, i, hk, hxk, fun j hj => ?_⟩
    rw [hn _ (List.mem_take_iff_getElem.2 ⟨j, by omega, rfl⟩)]; rfl
  rw [e]; rfl
def ofA (l : List PCell) (n : Int) : AV := .tup [.agg (eV ((ofC l n).getD ⟨0, 0⟩)), .v (.bool (ofC l n).isSome)]
def newsC (old l : List PCell) : List PCell := l.filter fun c => !(ofC old c.node).isSome
/-- did a node write two things? -/
def clash1 (b : List PCell) (c : PCell) : Bool := match ofC b c.node with | some v => !decide (v = c.change) | none => false
def clashC (a b : List PCell) : Bool := a.any (clash1 b)
/-- the cells of both, as the document has it -/
def mergeC1 (a b : List PCell) (n : Int) : List PCell := match ofC a n with | some v => [⟨n, v⟩] | none => match ofC b n with | some v => [⟨n, v⟩] | none => []
def mergeCK (a b : List PCell) : Nat → List PCell
  | 0 => []
  | k + 1 => mergeCK a b k ++ mergeC1 a b k
def mergeC (a b : List PCell) : List PCell := mergeCK a b 6
theorem mergeC1_le (a b : List PCell) (n : Int) : (mergeC1 a b n).length ≤ 1 := by
  unfold mergeC1
  split
  · simp
  · split <;> simp
theorem mergeCK_le (a b : List PCell) (k : Nat) : (mergeCK a b k).length ≤ k := by
  induction k with
  | zero => simp [mergeCK]
  | succ k ih =>
    have := mergeC1_le a b k
    rw [mergeCK, List.length_append]; omega
end Go.Proofs.YtjbbfiagijjdoaaGreat

/- Contracts: cells. No condition. -/
set_option linter.unusedSimpArgs false
set_option linter.unusedVariables false
set_option maxRecDepth 10000
namespace Go.Proofs.YtjbbfiagijjdoaaGreat
open Go Go.Rw Go.Proofs
-- a goal is never to be run by the elaborator
attribute [local irreducible] awp aops aop aopsE aeff

/-! ### cells.Of -/
theorem ofKey_spec (x : PCell) (b : Nat) (k : Int) : MSpec Tryz.prog 161 [.agg (eC x), .ptr b 0] (one b [eI k]) (fun r h' => r = .v (.bool (decide (x.node = k))) ∧ h' = one b [eI k]) := by
  refine MSpec.of_awp Tryz.func161 (by kernel_rfl) rfl (by rw [Tryz.results161]) Tryz.ntmps161 ?_
  simp -implicitDefEqProofs [eC]
  refine allocK.intro (fun b1 hb1 => ?_)
  have n1 : ¬ b1 = b := by rintro rfl; simp at hb1
  have n2 : ¬ b = b1 := fun h => n1 h.symm
  simp -implicitDefEqProofs [n1, n2]
theorem indexf_cells (g : FuncId) (b : Nat) (c : List AV) (p : PCell → Bool) (l : List PCell) (hf : ∀ x ∈ l, MSpec Tryz.prog g [.agg (eC x), .ptr b 0] (one b c) (fun r h' => r = .v (.bool (p x)) ∧ h' = one b c)) :
    MSpec Tryz.prog 160 [.sl .no (eCs l), .fn g [.ptr b 0]] (one b c) (fun r h' => r = eI (idxP p l) ∧ h' = one b c) := by
  refine MSpec.of_awp Tryz.func160 (by kernel_rfl) rfl (by rw [Tryz.results160]) Tryz.ntmps160 ?_
  simp -implicitDefEqProofs
  intro _
  refine loopK.intro (IdfI eCs p l g b c) (fun t => l.length - natOf (t 8)) ?_ ?_
  · exact ⟨0, by simp, by simp, by simp, by simp, by omega, by simp, by simp⟩
  rintro t hh ⟨k, g0, g1, g7, g8, hk, hb, hn⟩
  by_cases hlt : k < l.length
  · have hlt' : (k : Int) < (l.length : Int) := by omega
    obtain ⟨x, hx⟩ : ∃ x, l[k]? = some x := ⟨l[k], by simp [hlt]⟩
    have hw : IntKind.i64.wrap ((k : Int) + 1) = ((k + 1 : Nat) : Int) := by rw [w64 (by omega) (by omega)]; omega
    simp -implicitDefEqProofs [g0, g1, g7, g8, hlt', hx, eC]
    refine CallK.one (hf x (List.mem_of_getElem? hx)) (by simp [eC]) (by simp [hb, Weak.refl]) ?_
    cases hp : p x
    · simp -implicitDefEqProofs [g0, g1, g7, g8, hb, hw]
      exact ⟨⟨k + 1, by simp [g0], by simp [g1], by simp [g7], by simp, by omega, by simp, take_no hx hp hn⟩, by omega⟩
    · simp -implicitDefEqProofs [g0, g1, g7, g8, hb, hw, idxP_some hx hp hn, Weak.refl]
  · have hlt' : ¬ (k : Int) < (l.length : Int) := by omega
    rw [List.take_of_length_le (by omega)] at hn
    simp -implicitDefEqProofs [g7, g8, hlt', hb, idxP_none hn, Weak.refl]
theorem ofC_spec (l : List PCell) (k : Int) : ASpec Tryz.prog 106 [.sl .no (eCs l), eI k] (· = ofA l k) := by
  refine ASpec.of_awp Tryz.func106 (by kernel_rfl) rfl (by rw [Tryz.results106]) Tryz.ntmps106 ?_
  simp -implicitDefEqProofs
  refine allocK.intro (fun b1 hb1 => ?_)
  simp -implicitDefEqProofs
  refine allocK.intro (fun b2 hb2 => ?_)
  have n12 : ¬ b1 = b2 := by rintro rfl; simp at hb2
  have n21 : ¬ b2 = b1 := fun h => n12 h.symm
  simp -implicitDefEqProofs [n12, n21]
  refine CallK.one (indexf_cells 161 b1 [eI k] (fun x => decide (x.node = k)) l (fun x _ => ofKey_spec x b1 k)) rfl (by simp [n12, Weak.refl]) ?_
  rcases idxP_cases (fun x : PCell => decide (x.node = k)) l with ⟨e1, e2⟩ | ⟨i, x, e1, hx, e2, e3⟩
  · rw [e1, ofA, ofC_no e2]
    simp -implicitDefEqProofs [n12, n21, eV]
  · rw [e1, ofA, ofC_yes hx e2 e3]
    have hi : ¬ (i : Int) < 0 := by omega
    simp -implicitDefEqProofs [n12, n21, hi, hx, eC, eV]
/-! ### cells.Clash -/
/-! ### the document's -/
def Fc7I (l : List PCell) (k : Int) (b1 : Nat) (t : Nat → AV) (h : Nat → Option (List AV)) : Prop := ∃ i : Nat, t 1 = eI k ∧ t 4 = .ptr b1 0 ∧ t 5 = .v (.bool false) ∧ t 8 = .sl .no (eCs l) ∧ t 9 = eI l.length ∧ t 10 = eI i ∧ i ≤ l.length ∧ h b1 = some [eI 0, eI 0] ∧ ∀ y ∈ l.take i, decide (y.node = k) = false
theorem of10_spec (l : List PCell) (k : Int) : ASpec Tryz.prog 74 [.sl .no (eCs l), eI k] (· = ofA l k) := by
  refine ASpec.of_awp Tryz.func74 (by kernel_rfl) rfl (by rw [Tryz.results74]) Tryz.ntmps74 ?_
  simp -implicitDefEqProofs
  refine allocK.intro (fun b1 hb1 => ?_)
  simp -implicitDefEqProofs
  intro _
  refine loopK.intro (Fc7I l k b1) (fun t => l.length - natOf (t 10)) ?_ ?_
  · exact ⟨0, by simp, by simp, by simp, by simp, by simp, by simp, by omega, by simp, by simp⟩
  rintro t hh ⟨i, g1, g4, g5, g7, g8, g9, hi, hb, hn⟩
  by_cases hlt : i < l.length
  · have hlt' : (i : Int) < (l.length : Int) := by omega
    have hw : IntKind.i64.wrap ((i : Int) + 1) = ((i + 1 : Nat) : Int) := by rw [w64 (by omega) (by omega)]; omega
    obtain ⟨x, hx⟩ : ∃ x, l[i]? = some x := ⟨l[i], by simp [hlt]⟩
    simp -implicitDefEqProofs [g7, g8, g9, hlt', hx, eC]
    refine allocK.intro (fun b2 hb2 => ?_)
    have n12 : ¬ b1 = b2 := by rintro rfl; simp [hb] at hb2
    have n21 : ¬ b2 = b1 := fun h => n12 h.symm
    by_cases he : x.node = k
    · rw [ofA, ofC_yes hx (by simpa using he) hn]
      simp -implicitDefEqProofs [g1, g4, g7, g8, g9, hlt', n12, n21, hb, he, eV]
    · simp -implicitDefEqProofs [g1, g4, g7, g8, g9, hlt', n12, n21, hb, he, hw]
      exact ⟨⟨i + 1, by simp [g1], by simp [g4], by simp [g5], by simp [g7], by simp [g8], by simp, by omega, by simp [n12, hb], take_no hx (by simpa using he) hn⟩, by omega⟩
  · have hlt' : ¬ (i : Int) < (l.length : Int) := by omega
    rw [List.take_of_length_le (by omega)] at hn
    rw [ofA, ofC_no hn]
    simp -implicitDefEqProofs [g1, g4, g8, g9, hlt', hb, eV]
def Mg10I (a b : List PCell) (t : Nat → AV) (_ : Nat → Option (List AV)) : Prop := ∃ (k : Nat) (tag : Tag), t 0 = .sl .no (eCs a) ∧ t 1 = .sl .no (eCs b) ∧ t 5 = .sl tag (eCs (mergeCK a b k)) ∧ t 6 = eI k ∧ k ≤ 6 ∧ appOK tag 48 3
def Mg10M (a b : List PCell) (t : Nat → AV) (_ : Nat → Option (List AV)) : Prop := ∃ tag : Tag, t 5 = .sl tag (eCs (mergeC a b))
theorem merge10_spec (a b : List PCell) : ASpec Tryz.prog 96 [.sl .no (eCs a), .sl .no (eCs b)] (fun r => ∃ tag, r = .sl tag (eCs (mergeC a b))) := by
  refine ASpec.of_awp Tryz.func96 (by kernel_rfl) rfl (by rw [Tryz.results96]) Tryz.ntmps96 ?_
  simp -implicitDefEqProofs
  refine bsK.std ?_
  simp -implicitDefEqProofs
  refine loopK.post (Mg10I a b) (fun t => 6 - natOf (t 6)) (Mg10M a b) ?_ ?_ ?_
  · exact ⟨0, _, by simp, by simp, by simp [mergeCK]; rfl, by simp, by omega, by simp⟩
  · rintro t hh ⟨k, tag, g0, g1, g5, g6, hk, gt⟩
    by_cases hlt : k < 6
    · have hlt' : (k : Int) < 6 := by omega
      have hw : IntKind.i64.wrap ((k : Int) + 1) = ((k + 1 : Nat) : Int) := by rw [w64 (by omega) (by omega)]; omega
      have hl := mergeCK_le a b k
      simp -implicitDefEqProofs [g0, g1, g6, hlt']
      refine CallK.eq (of10_spec a k) ?_
      rw [ofA]
      simp -implicitDefEqProofs [g0, g1, g6, hlt', eV]
      refine allocK.intro (fun b1 hb1 => ?_)
      simp -implicitDefEqProofs [g0, g1, g6, hlt']
      refine CallK.eq (of10_spec b k) ?_
      rw [ofA]
      simp -implicitDefEqProofs [g0, g1, g6, hlt', eV]
      refine allocK.intro (fun b2 hb2 => ?_)
      have n12 : ¬ b1 = b2 := by rintro rfl; simp at hb2
      have n21 : ¬ b2 = b1 := fun h => n12 h.symm
      have hs : mergeCK a b (k + 1) = mergeCK a b k ++ mergeC1 a b k := rfl
      cases ha : ofC a k with
      | some v =>
        rw [mergeC1, ha] at hs
        simp -implicitDefEqProofs [g5, gt, g6, n12, n21, hw]
        exact ⟨by omega, ⟨k + 1, appTag tag 48 3 [eC ⟨k, v⟩], by simp [g0], by simp [g1], by simp [hs, eCs, eC], by simp, by omega, by simp [gt]⟩, by omega⟩
      | none =>
        cases hb : ofC b k with
        | some v =>
          rw [mergeC1, ha, hb] at hs
          simp -implicitDefEqProofs [g5, gt, g6, n12, n21, hw]
          exact ⟨by omega, ⟨k + 1, appTag tag 48 3 [eC ⟨k, v⟩], by simp [g0], by simp [g1], by simp [hs, eCs, eC], by simp, by omega, by simp [gt]⟩, by omega⟩
        | none =>
          rw [mergeC1, ha, hb] at hs
          simp -implicitDefEqProofs [g5, gt, g6, n12, n21, hw]
          exact ⟨⟨k + 1, tag, by simp [g0], by simp [g1], by simp [g5, hs], by simp, by omega, gt⟩, by omega⟩
    · have hlt' : ¬ (k : Int) < 6 := by omega
      obtain rfl : k = 6 := by omega
      simp -implicitDefEqProofs [g6, hlt']
      exact ⟨tag, by simp [g5, mergeC]⟩
  rintro t hh ⟨tag, g5⟩
  simp -implicitDefEqProofs [g5]
end Go.Proofs.YtjbbfiagijjdoaaGreat

/- Plain: rows in one object. No condition. -/
set_option linter.unusedSimpArgs false
set_option linter.unusedVariables false
set_option maxRecDepth 10000
namespace Go.Proofs.YtjbbfiagijjdoaaGreat
open Go Go.Rw Go.Proofs

theorem flat_take {α : Type} {sz : Nat} : ∀ {rows : List (List α)} {k : Nat}, (∀ r ∈ rows, r.length = sz) → k ≤ rows.length → rows.flatten.take (k * sz) = (rows.take k).flatten
  | rows, 0, _, _ => by simp
  | [], k + 1, _, h => by simp at h
  | r :: rows, k + 1, hr, h => by
    have h1 : r.length = sz := hr r (by simp)
    have h2 := flat_take (rows := rows) (k := k) (fun x hx => hr x (by simp [hx])) (by simp at h; omega)
    rw [List.flatten_cons, List.take_append, h1, List.take_succ_cons, List.flatten_cons]
    have e : (k + 1) * sz - sz = k * sz := by rw [Nat.add_mul]; omega
    rw [e, h2, List.take_of_length_le (by rw [h1, Nat.add_mul]; omega)]
theorem flat_drop {α : Type} {sz : Nat} : ∀ {rows : List (List α)} {k : Nat}, (∀ r ∈ rows, r.length = sz) → k ≤ rows.length → rows.flatten.drop (k * sz) = (rows.drop k).flatten
  | rows, 0, _, _ => by simp
  | [], k + 1, _, h => by simp at h
  | r :: rows, k + 1, hr, h => by
    have h1 : r.length = sz := hr r (by simp)
    have h2 := flat_drop (rows := rows) (k := k) (fun x hx => hr x (by simp [hx])) (by simp at h; omega)
    rw [List.flatten_cons, List.drop_append, h1, List.drop_succ_cons]
    have e : (k + 1) * sz - sz = k * sz := by rw [Nat.add_mul]; omega
    rw [e, h2, List.drop_of_length_le (by rw [h1, Nat.add_mul]; omega), List.nil_append]
theorem flat_len {α : Type} {sz : Nat} : ∀ {rows : List (List α)}, (∀ r ∈ rows, r.length = sz) → rows.flatten.length = rows.length * sz
  | [], _ => by simp
  | r :: rows, hr => by
    have h1 : r.length = sz := hr r (by simp)
    have h2 := flat_len (rows := rows) (fun x hx => hr x (by simp [hx]))
    rw [List.flatten_cons, List.length_append, h1, h2, List.length_cons, Nat.add_mul]; omega
/-- rows lie one behind the other -/
theorem flat_row {α : Type} {sz : Nat} {rows : List (List α)} {sp : List α} {k : Nat} {r : List α} (hr : ∀ r ∈ rows, r.length = sz) (hk : rows[k]? = some r) :
    ((rows.flatten ++ sp).drop (k * sz)).take sz = r := by
  have hlt : k < rows.length := by
    rcases Nat.lt_or_ge k rows.length with h | h
    · exact h
    · rw [List.getElem?_eq_none h] at hk; simp at hk
  have e : rows.drop k = r :: rows.drop (k + 1) := by
    rw [List.drop_eq_getElem_cons hlt]; rw [List.getElem?_eq_getElem hlt] at hk; rw [Option.some.inj hk]
  have hl := flat_len hr
  have h1 : r.length = sz := hr r (List.mem_of_getElem? hk)
  rw [List.drop_append_of_le_length (by rw [hl]; exact Nat.mul_le_mul_right _ (by omega)), flat_drop hr (by omega), e, List.flatten_cons, List.append_assoc, List.take_append_of_le_length (by omega), List.take_of_length_le (by omega)]
theorem flat_fits {α : Type} {sz : Nat} {rows : List (List α)} {sp : List α} {k : Nat} (hr : ∀ r ∈ rows, r.length = sz) (hk : k < rows.length) : k * sz + sz ≤ (rows.flatten ++ sp).length := by
  rw [List.length_append, flat_len hr]
  have := Nat.mul_le_mul_right sz (show k + 1 ≤ rows.length by omega)
  rw [Nat.add_mul] at this; omega
theorem flat_set {sz : Nat} {rows : List (List AV)} {sp : List AV} {k : Nat} {r : List AV} (hr : ∀ r ∈ rows, r.length = sz) (h1 : r.length = sz) (hk : k < rows.length) :
    overlay (rows.flatten ++ sp) (k * sz) r = (rows.set k r).flatten ++ sp := by
  have hl := flat_len hr
  have hm : (k + 1) * sz ≤ rows.length * sz := Nat.mul_le_mul_right sz (by omega)
  have hm2 : (k + 1) * sz = k * sz + sz := by rw [Nat.add_mul]; omega
  unfold overlay
  rw [List.take_append_of_le_length (by omega), flat_take hr (by omega), h1, ← hm2, List.drop_append_of_le_length (by omega), flat_drop hr (by omega)]
  rw [List.set_eq_take_append_cons_drop, if_pos hk]
  simp
end Go.Proofs.YtjbbfiagijjdoaaGreat

/- Contracts: lists of cells and entries, told otherwise. No condition. -/
set_option linter.unusedSimpArgs false
set_option linter.unusedVariables false
set_option maxRecDepth 10000
namespace Go.Proofs.YtjbbfiagijjdoaaGreat
open Go Go.Rw Go.Proofs
-- a goal is never to be run by the elaborator
attribute [local irreducible] awp aops aop aopsE aeff

def Sm10I (a b : List PCell) (t : Nat → AV) (_ : Nat → Option (List AV)) : Prop := ∃ k : Nat, t 0 = .sl .no (eCs a) ∧ t 1 = .sl .no (eCs b) ∧ t 12 = .v (.int .i64 a.length) ∧ t 13 = .v (.int .i64 k) ∧ k ≤ a.length ∧ a.take k = b.take k
theorem same10_spec (a b : List PCell) : ASpec Tryz.prog 39 [.sl .no (eCs a), .sl .no (eCs b)] (· = .v (.bool (decide (a = b)))) := by
  refine ASpec.of_awp Tryz.func39 (by kernel_rfl) rfl (by rw [Tryz.results39]) Tryz.ntmps39 ?_
  simp -implicitDefEqProofs
  intro h1 h2
  by_cases hl : a.length = b.length
  · simp -implicitDefEqProofs [hl]
    intro _
    refine loopK.intro (Sm10I a b) (fun t => a.length - natOf (t 13)) ?_ ?_
    · exact ⟨0, by simp, by simp, by simp [hl], by simp, by omega, by simp⟩
    rintro t hh ⟨k, g0, g1, g12, g13, hk, he⟩
    simp -implicitDefEqProofs [g12, g13]
    refine branch_dec (fun hlt => ?_) (fun hlt => ?_)
    · have hlt : k < a.length := by omega
      have hlt2 : k < b.length := by omega
      obtain ⟨x, hx⟩ : ∃ x, a[k]? = some x := ⟨a[k], by simp [hlt]⟩
      obtain ⟨y, hy⟩ : ∃ y, b[k]? = some y := ⟨b[k], by simp [hlt2]⟩
      have hj1 : IntKind.i64.wrap ((k : Int) + 1) = (k : Int) + 1 := w64 (by omega) (by omega)
      simp -implicitDefEqProofs [g13]
      refine regionK.intro 9 follows_mixed (by kernel_rfl) ?_
      simp -implicitDefEqProofs [g0, g1, g13, hx, hy, eC]
      refine branch_intro (fun hb2 => ?_) (fun hb2 => ?_)
      · have hne : x ≠ y := by rintro rfl; simp at hb2
        simp -implicitDefEqProofs
        rintro rfl
        rw [hx] at hy
        exact hne (Option.some.inj hy)
      · have hxy : x = y := by
          obtain ⟨n1, a1, d1⟩ := x
          obtain ⟨n2, a2, d2⟩ := y
          simp at hb2
          simp [hb2]
        simp -implicitDefEqProofs [g13, hj1]
        refine ⟨⟨k + 1, by simp [g0], by simp [g1], by simp [g12], by simp, by omega, ?_⟩, by omega⟩
        rw [List.take_add_one, List.take_add_one, he, hx, hy, hxy]
    · have hk' : k = a.length := by omega
      subst hk'
      simp -implicitDefEqProofs
      rw [List.take_length, hl, List.take_length] at he
      exact he
  · have hne : ¬ a = b := by rintro rfl; exact hl rfl
    have hl' : ¬ (a.length : Int) = b.length := by omega
    simp -implicitDefEqProofs [hl, hl', hne]

theorem alike7_spec (x y : PEntry) (hx : x.value < 18446744073709551616) (hy : y.value < 18446744073709551616) : ASpec Tryz.prog 86 [.agg (eE x), .agg (eE y)] (· = .v (.bool (sameE x y))) := by
  refine ASpec.of_awp Tryz.func86 (by kernel_rfl) rfl (by rw [Tryz.results86]) Tryz.ntmps86 ?_
  simp -implicitDefEqProofs [eE]
  refine allocK.intro (fun b hb => ?_)
  simp -implicitDefEqProofs
  refine allocK.intro (fun b2 hb2 => ?_)
  have hbb : ¬ b = b2 := by rintro rfl; simp at hb2
  have hbb' : ¬ b2 = b := fun h => hbb h.symm
  simp -implicitDefEqProofs [hbb, hbb']
  refine regionK.intro 21 follows_mixed (by kernel_rfl) ?_
  by_cases h1 : x.key = y.key
  · by_cases h2 : x.tag.num = y.tag.num
    · by_cases h3 : x.tag.node = y.tag.node
      · have ht : x.tag = y.tag := by
          obtain ⟨k1, ⟨n1, a1⟩, v1⟩ := x
          obtain ⟨k2, ⟨n2, a2⟩, v2⟩ := y
          simp at h2 h3
          simp [h2, h3]
        simp -implicitDefEqProofs [hbb, hbb', h1, h2, h3]
        refine CallQ.eq (bits1_spec _ hx) ?_
        simp -implicitDefEqProofs [hbb, hbb', h1, h2, h3]
        refine CallQ.eq (bits1_spec _ hy) ?_
        simp -implicitDefEqProofs [hbb, hbb', h1, h2, h3, sameE, ht]
        try omega
      · have ht : ¬ x.tag = y.tag := fun h => h3 (by rw [h])
        have e3 : (x.tag.node == y.tag.node) = false := by simpa using h3
        simp -implicitDefEqProofs [hbb, hbb', h1, h2, h3, e3, sameE, ht]
    · have ht : ¬ x.tag = y.tag := fun h => h2 (by rw [h])
      have e2 : (x.tag.num == y.tag.num) = false := by simpa using h2
      simp -implicitDefEqProofs [hbb, hbb', h1, h2, e2, sameE, ht]
  · simp -implicitDefEqProofs [hbb, hbb', h1, sameE]

def Sm7I (a b : List PEntry) (t : Nat → AV) (_ : Nat → Option (List AV)) : Prop := ∃ k : Nat, t 0 = .sl .no (eEs a) ∧ t 1 = .sl .no (eEs b) ∧ t 12 = .v (.int .i64 a.length) ∧ t 13 = .v (.int .i64 k) ∧ k ≤ a.length ∧ sameEs (a.drop k) (b.drop k) = sameEs a b
theorem same7_spec (a b : List PEntry) (ha : ∀ x ∈ a, x.value < 18446744073709551616) (hb : ∀ x ∈ b, x.value < 18446744073709551616) : ASpec Tryz.prog 36 [.sl .no (eEs a), .sl .no (eEs b)] (· = .v (.bool (sameEs a b))) := by
  refine ASpec.of_awp Tryz.func36 (by kernel_rfl) rfl (by rw [Tryz.results36]) Tryz.ntmps36 ?_
  simp -implicitDefEqProofs
  intro h1 h2
  by_cases hl : a.length = b.length
  · simp -implicitDefEqProofs [hl]
    intro _
    refine loopK.intro (Sm7I a b) (fun t => a.length - natOf (t 13)) ?_ ?_
    · exact ⟨0, by simp, by simp, by simp [hl], by simp, by omega, by simp⟩
    rintro t hh ⟨k, g0, g1, g12, g13, hk, he⟩
    simp -implicitDefEqProofs [g12, g13]
    refine branch_dec (fun hlt => ?_) (fun hlt => ?_)
    · have hlt : k < a.length := by omega
      have hlt2 : k < b.length := by omega
      obtain ⟨x, hx⟩ : ∃ x, a[k]? = some x := ⟨a[k], by simp [hlt]⟩
      obtain ⟨y, hy⟩ : ∃ y, b[k]? = some y := ⟨b[k], by simp [hlt2]⟩
      have hj1 : IntKind.i64.wrap ((k : Int) + 1) = (k : Int) + 1 := w64 (by omega) (by omega)
      have hdx : a.drop k = x :: a.drop (k + 1) := by
        rw [List.drop_eq_getElem_cons hlt]; rw [List.getElem?_eq_getElem hlt] at hx; rw [Option.some.inj hx]
      have hdy : b.drop k = y :: b.drop (k + 1) := by
        rw [List.drop_eq_getElem_cons hlt2]; rw [List.getElem?_eq_getElem hlt2] at hy; rw [Option.some.inj hy]
      rw [hdx, hdy, sameEs] at he
      simp -implicitDefEqProofs [g13]
      refine regionK.intro 10 follows_mixed (by kernel_rfl) ?_
      simp -implicitDefEqProofs [g0, g1, g13, hx, hy, eE]
      refine CallQ.with (alike7_spec x y (ha x (List.mem_of_getElem? hx)) (hb y (List.mem_of_getElem? hy))) (by simp [eE]) ?_
      cases hs : sameE x y
      · rw [hs, Bool.false_and] at he
        simp -implicitDefEqProofs [← he]
      · rw [hs, Bool.true_and] at he
        simp -implicitDefEqProofs [g13, hj1]
        exact ⟨⟨k + 1, by simp [g0], by simp [g1], by simp [g12], by simp, by omega, he⟩, by omega⟩
    · have hk' : k = a.length := by omega
      subst hk'
      rw [List.drop_length, hl, List.drop_length] at he
      simp -implicitDefEqProofs [← he, sameEs]
  · have hl' : ¬ (a.length : Int) = b.length := by omega
    have hs := sameEs_len hl
    simp -implicitDefEqProofs [hl, hl', hs]
end Go.Proofs.YtjbbfiagijjdoaaGreat

/- Contracts: lists of cells and entries that can be, told otherwise. No condition. -/
set_option linter.unusedSimpArgs false
set_option linter.unusedVariables false
set_option maxRecDepth 10000
namespace Go.Proofs.YtjbbfiagijjdoaaGreat
open Go Go.Rw Go.Proofs
-- a goal is never to be run by the elaborator
attribute [local irreducible] awp aops aop aopsE aeff

theorem popN_pos : ∀ (k n : Nat), n < 2 ^ k → popN k n = 0 → n = 0
  | 0, n, h, _ => by simp at h; exact h
  | k + 1, n, h, h0 => by
    simp only [popN] at h0
    have h1 := popN_pos k (n / 2) (by rw [Nat.pow_succ] at h; omega) (by omega)
    omega
theorem popN_zero : ∀ k : Nat, popN k 0 = 0
  | 0 => rfl
  | k + 1 => by simp [popN, popN_zero k]
theorem sizeV_zero {v : PView} (h : rightV v = true) : sizeV v = 0 ↔ v.add = 0 ∧ v.del = 0 := by
  simp [rightV] at h
  have e : sizeV v = (popN 64 v.add.toNat : Int) + popN 64 v.del.toNat := by unfold sizeV; rfl
  rw [e]
  constructor
  · intro h0
    have h1 := popN_pos 64 v.add.toNat (by omega) (by omega)
    have h2 := popN_pos 64 v.del.toNat (by omega) (by omega)
    omega
  · rintro ⟨h1, h2⟩
    rw [h1, h2]
    simp [popN_zero]

def Ck10I (l : List PCell) (t : Nat → AV) (_ : Nat → Option (List AV)) : Prop := ∃ (k : Nat) (last : Int), t 0 = .sl .no (eCs l) ∧ t 5 = .sl .no (eCs l) ∧ t 6 = eI l.length ∧ t 7 = eI k ∧ k ≤ l.length ∧ checkC last (l.drop k) = checkC (-1) l ∧ -1 ≤ last ∧ (k = 0 → last = -1) ∧ (0 < k → ∃ c, l[k - 1]? = some c ∧ c.node = last)
def Ck7I (l : List PEntry) (t : Nat → AV) (_ : Nat → Option (List AV)) : Prop := ∃ (k : Nat) (last : Int), t 0 = .sl .no (eEs l) ∧ t 5 = .sl .no (eEs l) ∧ t 6 = eI l.length ∧ t 7 = eI k ∧ k ≤ l.length ∧ checkE last (l.drop k) = checkE (-1) l ∧ -1 ≤ last ∧ (k = 0 → last = -1) ∧ (0 < k → ∃ c, l[k - 1]? = some c ∧ c.key = last)
theorem check7_spec (l : List PEntry) : ASpec Tryz.prog 110 [.sl .no (eEs l)] (· = eI (if checkE (-1) l = true then 0 else 71)) := by
  refine ASpec.of_awp Tryz.func110 (by kernel_rfl) rfl (by rw [Tryz.results110]) Tryz.ntmps110 ?_
  simp -implicitDefEqProofs
  intro hlen
  refine loopK.intro (Ck7I l) (fun t => l.length - natOf (t 7)) ?_ ?_
  · exact ⟨0, -1, by simp, by simp, by simp, by simp, by omega, by simp, by omega, fun _ => rfl, fun h => absurd h (by omega)⟩
  rintro t hh ⟨k, last, g0, g5, g6, g7, hk, hc, hl1, hl0, hlp⟩
  simp -implicitDefEqProofs [g6, g7]
  refine branch_dec (fun hlt => ?_) (fun hlt => ?_)
  · have hlt : k < l.length := by omega
    obtain ⟨c, hx⟩ : ∃ c, l[k]? = some c := ⟨l[k], by simp [hlt]⟩
    have hd : l.drop k = c :: l.drop (k + 1) := by
      rw [List.drop_eq_getElem_cons hlt]
      rw [List.getElem?_eq_getElem hlt] at hx
      injection hx with hx
      rw [hx]
    rw [hd, checkE] at hc
    have hj1 : IntKind.i64.wrap ((k : Int) + 1) = (k : Int) + 1 := w64 (by omega) (by omega)
    have bad : okE last c = false → checkE (-1) l = false := fun h => by rw [← hc, h]; rfl
    have b1 := fun h => bad (okE_1 last c h)
    have b2 := fun h => bad (okE_2 last c h)
    have b3 := fun h => bad (okE_3 last c h)
    have b4 := fun h => bad (okE_4 last c h)
    simp -implicitDefEqProofs [g5, g6, g7, hx, eE]
    refine allocK.intro (fun b hb => ?_)
    simp -implicitDefEqProofs [g5, g7, hx, eE]
    refine regionK.intro 35 follows_mixed (by kernel_rfl) ?_
    by_cases h1 : c.key < 0
    · simp -implicitDefEqProofs [h1, b1 (by omega)]
    by_cases h2 : 3 < c.key
    · simp -implicitDefEqProofs [h1, h2, b2 (by omega)]
    simp -implicitDefEqProofs [h1, h2]
    refine CallQ.with (right6_spec c.tag) (by simp [eT]) ?_
    cases h3 : rightT c.tag
    · simp -implicitDefEqProofs [h1, h2, b3 h3]
    by_cases h4 : c.tag.num = 0
    · simp -implicitDefEqProofs [h1, h2, h4, b4 h4]
    have hok : ¬ c.key ≤ last → okE last c = true := fun h => okE_5 last c h (by omega) h3 h4
    by_cases hk0 : k = 0
    · have hm := hl0 hk0
      rw [hok (by omega), Bool.true_and] at hc
      subst hk0
      have hnx : 0 < 1 → ∃ c0, l[1 - 1]? = some c0 ∧ c0.key = c.key := fun _ => ⟨c, hx, rfl⟩
      simp -implicitDefEqProofs [h1, h2, h4, g7, hj1, wr1]
      exact ⟨⟨1, c.key, by simp [g0], by simp [g5], by simp [g6], by simp, by omega, hc, by omega, fun h => absurd h (by omega), hnx⟩, by omega⟩
    · obtain ⟨p, hp, hpn⟩ := hlp (by omega)
      have w1 : IntKind.i64.wrap ((k : Int) - 1) = (k : Int) - 1 := w64 (by omega) (by omega)
      have e1 : ((k : Int) - 1).toNat = k - 1 := by omega
      have e2 : (0 : Int) ≤ (k : Int) - 1 := by omega
      have e3 : 0 < k := by omega
      have e4 : (1 : Int) ≤ (k : Int) := by omega
      by_cases h5 : c.key ≤ p.key
      · have hb1 := b1 (by omega)
        simp -implicitDefEqProofs [h1, h2, h4, g0, g7, hj1, w1, e1, e2, e3, e4, hp, eE, h5, hb1]
      · rw [hok (by omega), Bool.true_and] at hc
        have hnx : 0 < k + 1 → ∃ c0, l[k + 1 - 1]? = some c0 ∧ c0.key = c.key := fun _ => ⟨c, hx, rfl⟩
        simp -implicitDefEqProofs [h1, h2, h4, g0, g7, hj1, w1, e1, e2, e3, e4, hp, eE, h5]
        exact ⟨⟨k + 1, c.key, by simp [g0], by simp [g5], by simp [g6], by simp, by omega, hc, by omega, fun h => absurd h (by omega), hnx⟩, by omega⟩
  · have hk' : k = l.length := by omega
    subst hk'
    rw [List.drop_length, checkE] at hc
    simp -implicitDefEqProofs [← hc]
end Go.Proofs.YtjbbfiagijjdoaaGreat

/- Contracts: messages, told otherwise. No condition. -/
set_option linter.unusedSimpArgs false
set_option linter.unusedVariables false
set_option maxRecDepth 10000
namespace Go.Proofs.YtjbbfiagijjdoaaGreat
open Go Go.Rw Go.Proofs
-- a goal is never to be run by the elaborator
attribute [local irreducible] awp aops aop aopsE aeff

end Go.Proofs.YtjbbfiagijjdoaaGreat

/- Contracts: messages that can be, told otherwise. No condition. -/
set_option linter.unusedSimpArgs false
set_option linter.unusedVariables false
set_option maxRecDepth 10000
namespace Go.Proofs.YtjbbfiagijjdoaaGreat
open Go Go.Rw Go.Proofs
-- a goal is never to be run by the elaborator
attribute [local irreducible] awp aops aop aopsE aeff

end Go.Proofs.YtjbbfiagijjdoaaGreat

/- Contracts: frames of messages, told otherwise. No condition. -/
set_option linter.unusedSimpArgs false
set_option linter.unusedVariables false
set_option maxRecDepth 10000
namespace Go.Proofs.YtjbbfiagijjdoaaGreat
open Go Go.Rw Go.Proofs

def headU (m : PMsg) : List Nat := (headN m).map Int.toNat
def F11I (m : PMsg) (b : Nat) (t : Nat → AV) (h : Nat → Option (List AV)) : Prop := ∃ (k : Nat) (cur : List Nat) (tag : Tag), t 1 = .ptr b 0 ∧ t 37 = .sl .no (eCs m.cells) ∧ t 38 = eI m.cells.length ∧ t 39 = eI k ∧ t 4 = .sl tag (eU cur) ∧ appOK tag 166 1 ∧
  h b = some (eM m) ∧ k ≤ m.cells.length ∧ cur ++ numsC (m.cells.drop k) = headU m ++ numsC m.cells ∧ cur.length ≤ 7 + 2 * k
def F11M (m : PMsg) (b : Nat) (t : Nat → AV) (h : Nat → Option (List AV)) : Prop := ∃ (cur : List Nat) (tag : Tag), t 1 = .ptr b 0 ∧ t 4 = .sl tag (eU cur) ∧ appOK tag 166 1 ∧
  h b = some (eM m) ∧ cur = headU m ++ numsC m.cells ∧ cur.length ≤ 19
def F11J (m : PMsg) (t : Nat → AV) (h : Nat → Option (List AV)) : Prop := ∃ (k : Nat) (cur : List Nat) (tag : Tag), t 62 = .sl .no (eEs m.book) ∧ t 63 = eI m.book.length ∧ t 64 = eI k ∧ t 4 = .sl tag (eU cur) ∧ appOK tag 166 1 ∧
  k ≤ m.book.length ∧ cur ++ numsE (m.book.drop k) = numsM bitsF m ∧ cur.length ≤ 20 + 4 * k
end Go.Proofs.YtjbbfiagijjdoaaGreat

/- Contracts: messages are read, told otherwise. No condition. -/
set_option linter.unusedSimpArgs false
set_option linter.unusedVariables false
set_option maxRecDepth 10000
namespace Go.Proofs.YtjbbfiagijjdoaaGreat
open Go Go.Rw Go.Proofs

end Go.Proofs.YtjbbfiagijjdoaaGreat

/- Contracts: messages are read, told otherwise. No condition. -/
set_option linter.unusedSimpArgs false
set_option linter.unusedVariables false
set_option maxRecDepth 10000
namespace Go.Proofs.YtjbbfiagijjdoaaGreat
open Go Go.Rw Go.Proofs

def rowsIn (x : AV) : Nat := match x with | .sl _ rows => rows.length | _ => 0
@[simp] theorem rowsIn_sl (tag : Tag) (rows : List (List AV)) : rowsIn (.sl tag rows) = rows.length := rfl
def R11I (f body : List UInt8) (b : Nat) (t : Nat → AV) (h : Nat → Option (List AV)) : Prop := ∃ (rest : List UInt8) (cur : List Nat) (tag : Tag), t 0 = .sl .no (eB f) ∧ t 2 = .ptr b 0 ∧ t 4 = .sl .no (eB rest) ∧ t 6 = .sl tag (eU cur) ∧ appOK tag 166 1 ∧
  h b = some (eMt .nil .nil zM) ∧ cur.length ≤ 60 ∧ rest.length ≤ body.length ∧ getsF 60 body = (getsF (60 - cur.length) rest).map (cur ++ ·)
def R11M (f body : List UInt8) (b : Nat) (t : Nat → AV) (h : Nat → Option (List AV)) : Prop := ∃ (cur : List Nat) (tag : Tag), t 0 = .sl .no (eB f) ∧ t 2 = .ptr b 0 ∧ t 6 = .sl tag (eU cur) ∧
  h b = some (eMt .nil .nil zM) ∧ cur.length ≤ 60 ∧ getsF 60 body = some cur
def msgK (cur : List Nat) (k j : Nat) : PMsg := ⟨atN cur 0, atN cur 1, atN cur 2, atN cur 3, atN cur 4, viewN (atN cur 5), cellsN cur k, bookN cur j⟩
def R11C (f : List UInt8) (cur : List Nat) (b bm : Nat) (tag : Tag) (t : Nat → AV) (h : Nat → Option (List AV)) : Prop := ∃ (k : Nat) (tc : Tag), t 0 = .sl .no (eB f) ∧ t 2 = .ptr b 0 ∧ t 6 = .sl tag (eU cur) ∧ t 10 = .ptr bm 0 ∧ t 11 = eI (7 + 2 * k) ∧ t 12 = eI k ∧
  h b = some (eMt .nil .nil zM) ∧ h bm = some (eMt tc .nil (msgK cur k 0)) ∧ appOK tc 48 3 ∧ k ≤ cntC cur
def R11D (f : List UInt8) (cur : List Nat) (b bm : Nat) (tag : Tag) (t : Nat → AV) (h : Nat → Option (List AV)) : Prop := ∃ (tc : Tag), t 0 = .sl .no (eB f) ∧ t 2 = .ptr b 0 ∧ t 6 = .sl tag (eU cur) ∧ t 10 = .ptr bm 0 ∧ t 11 = eI (7 + 2 * cntC cur) ∧
  h b = some (eMt .nil .nil zM) ∧ h bm = some (eMt tc .nil (msgK cur (cntC cur) 0))
def R11E (f : List UInt8) (cur : List Nat) (b bm : Nat) (tag : Tag) (t : Nat → AV) (h : Nat → Option (List AV)) : Prop := ∃ (j : Nat) (tc te : Tag), t 0 = .sl .no (eB f) ∧ t 2 = .ptr b 0 ∧ t 6 = .sl tag (eU cur) ∧ t 10 = .ptr bm 0 ∧ t 11 = eI (posE cur + 4 * j : Nat) ∧ t 15 = eI (atN cur (7 + 2 * cntC cur)) ∧ t 16 = eI j ∧
  h b = some (eMt .nil .nil zM) ∧ h bm = some (eMt tc te (msgK cur (cntC cur) j)) ∧ appOK te 46 4 ∧ j ≤ cntE cur
def R11G (f : List UInt8) (cur : List Nat) (b bm b3 : Nat) (tag : Tag) (j : Nat) (t : Nat → AV) (h : Nat → Option (List AV)) : Prop := ∃ (tc te : Tag), t 0 = .sl .no (eB f) ∧ t 2 = .ptr b 0 ∧ t 6 = .sl tag (eU cur) ∧ t 10 = .ptr bm 0 ∧ t 11 = eI (posE cur + 4 * j : Nat) ∧ t 15 = eI (atN cur (7 + 2 * cntC cur)) ∧ t 16 = eI j ∧ t 17 = .ptr b3 0 ∧
          h b = some (eMt .nil .nil zM) ∧ h bm = some (eMt tc te (msgK cur (cntC cur) j)) ∧ appOK te 46 4 ∧ h b3 = some (eE (entryN cur (posE cur + 4 * j)))
def R11F (f : List UInt8) (cur : List Nat) (b bm : Nat) (t : Nat → AV) (h : Nat → Option (List AV)) : Prop := ∃ (tc te : Tag), t 0 = .sl .no (eB f) ∧ t 2 = .ptr b 0 ∧ t 10 = .ptr bm 0 ∧
  h b = some (eMt .nil .nil zM) ∧ h bm = some (eMt tc te (msgN cur))
end Go.Proofs.YtjbbfiagijjdoaaGreat

/- Contracts: a copy that may be written over. No condition. -/
set_option linter.unusedSimpArgs false
set_option linter.unusedVariables false
set_option maxRecDepth 10000
namespace Go.Proofs.YtjbbfiagijjdoaaGreat
open Go Go.Rw Go.Proofs
-- a goal is never to be run by the elaborator
attribute [local irreducible] awp aops aop aopsE aeff

theorem clone_cells_new (l : List PCell) (hl : l.length * 24 ≤ 140737488355328) : ASpec Tryz.prog 95 [.sl .no (eCs l)] (New 48 3 (eCs l)) := by
  refine ASpec.of_awp Tryz.func95 (by kernel_rfl) rfl (by rw [Tryz.results95]) Tryz.ntmps95 ?_
  simp -implicitDefEqProofs
  refine nilK.intro (fun h => ?_) ?_
  · simp -implicitDefEqProofs [h]; exact .inl ⟨rfl, _, by simp, rfl⟩
  · simp -implicitDefEqProofs [hl]
    by_cases h : l = []
    · subst h; exact .inl ⟨rfl, _, by simp, rfl⟩
    · have h' : eCs l ≠ [] := by simpa [eCs] using h
      exact .inr ⟨h', by rw [appTag_full h']⟩
theorem clone_entries_new (l : List PEntry) (hl : l.length * 32 ≤ 140737488355328) : ASpec Tryz.prog 90 [.sl .no (eEs l)] (New 46 4 (eEs l)) := by
  refine ASpec.of_awp Tryz.func90 (by kernel_rfl) rfl (by rw [Tryz.results90]) Tryz.ntmps90 ?_
  simp -implicitDefEqProofs
  refine nilK.intro (fun h => ?_) ?_
  · simp -implicitDefEqProofs [h]; exact .inl ⟨rfl, _, by simp, rfl⟩
  · simp -implicitDefEqProofs [hl]
    by_cases h : l = []
    · subst h; exact .inl ⟨rfl, _, by simp, rfl⟩
    · have h' : eEs l ≠ [] := by simpa [eEs] using h
      exact .inr ⟨h', by rw [appTag_full h']⟩

theorem one_self (b : Nat) (c : List AV) : one b c b = some c := by simp [one_apply]
/-- a slice of one's own, so long -/
def OwnB (x : AV) (n sz : Nat) (h : Nat → Option (List AV)) : Prop := (n = 0 ∧ x = .sl .no []) ∨ ∃ b c cells, x = .sm b 0 n c ∧ h b = some cells ∧ n * sz ≤ cells.length
theorem eCs_flat (l : List PCell) : (eCs l).flatten.length = l.length * 3 := by simpa using flatten_length (eCs_one l)
/-- its object is not one of those that were there -/
def ObNe (x : AV) (b : Nat) : Prop := ∀ b' o n c, x = .sm b' o n c → ¬ b' = b
def CopyR (m : PMsg) (r : AV) (h' : Nat → Option (List AV)) : Prop := ∃ x1 x2, r = .agg [eI m.kind, eI m.frm, eI m.to, eI m.inc, eI m.seq, eI m.view.add, eI m.view.del, x1, x2] ∧ OwnB x1 m.cells.length 3 h' ∧ OwnB x2 m.book.length 4 h'
end Go.Proofs.YtjbbfiagijjdoaaGreat

/- Contracts: cells in memory of one's own. No condition. -/
set_option linter.unusedSimpArgs false
set_option linter.unusedVariables false
set_option maxRecDepth 10000
namespace Go.Proofs.YtjbbfiagijjdoaaGreat
open Go Go.Rw Go.Proofs
-- a goal is never to be run by the elaborator
attribute [local irreducible] awp aops aop aopsE aeff

theorem eCs_dead (l : List PCell) : (eCs l).flatten.map dead1 = (eCs l).flatten := by
  induction l with
  | nil => rfl
  | cons x l ih => simp [eCs, eC, dead1] at *; exact ih
theorem eCs_dead2 (l : List PCell) : (eCs l).map (List.map dead1) = eCs l := by
  induction l with
  | nil => rfl
  | cons x l ih => simp [eCs, eC, dead1] at *; try exact ih
theorem eCs_set (l : List PCell) (k : Nat) (x : PCell) : (eCs l).set k (eC x) = eCs (l.set k x) := by simp [eCs, List.map_set]
theorem cell_at {l : List PCell} {c sp : List AV} {k : Nat} {x : PCell} (hc : c = (eCs l).flatten ++ sp) (hx : l[k]? = some x) : k * 3 + 3 ≤ c.length ∧ ((c.map dead1).drop (k * 3)).take 3 = eC x := by
  have hlt : k < l.length := by
    rcases Nat.lt_or_ge k l.length with h | h
    · exact h
    · rw [List.getElem?_eq_none h] at hx; simp at hx
  rw [hc]
  refine ⟨flat_fits (eCs_one l) (by simpa using hlt), ?_⟩
  rw [List.map_append, eCs_dead]
  exact flat_row (eCs_one l) (by simp [hx])
theorem cell_set {l : List PCell} {c sp : List AV} {k : Nat} {x : PCell} (hc : c = (eCs l).flatten ++ sp) (hk : k < l.length) : overlay c (k * 3) (eC x) = (eCs (l.set k x)).flatten ++ sp := by
  rw [hc, flat_set (eCs_one l) rfl (by simpa using hk), eCs_set]
/-- two objects -/
def two (b : Nat) (c : List AV) (b2 : Nat) (c2 : List AV) : Nat → Option (List AV) := upd (one b c) b2 (some c2)
theorem sub_two {b b2 : Nat} {c c2 : List AV} {H : Nat → Option (List AV)} (h1 : H b = some c) (h2 : H b2 = some c2) : SubH (two b c b2 c2) H := by
  refine SubH.of fun k x hx => ?_
  by_cases e : k = b2
  · subst e; rw [h2]; simpa [two, upd] using hx
  · by_cases e2 : k = b
    · subst e2; rw [h1]; simpa [two, upd, one, e] using hx
    · simp [two, upd, one, e, e2] at hx
theorem two_left {b b2 : Nat} {c c2 : List AV} (h : ¬ b = b2) : two b c b2 c2 b = some c := by simp [two, upd, one, h]
theorem two_right {b b2 : Nat} {c c2 : List AV} : two b c b2 c2 b2 = some c2 := by simp [two, upd]
def IdsI (p : PCell → Bool) (l : List PCell) (cap : Nat) (g : FuncId) (b : Nat) (c : List AV) (b1 : Nat) (c1 : List AV) (t : Nat → AV) (h : Nat → Option (List AV)) : Prop := ∃ k : Nat, t 0 = .sm b1 0 l.length cap ∧ t 1 = .fn g [.ptr b 0] ∧ t 7 = eI l.length ∧ t 8 = eI k ∧ k ≤ l.length ∧ h b = some c ∧ h b1 = some c1 ∧ ∀ y ∈ l.take k, p y = false
theorem indexf_cells_sm (g : FuncId) (b : Nat) (c : List AV) (p : PCell → Bool) (l : List PCell) (b1 cap : Nat) (sp c1 : List AV) (hb : ¬ b = b1) (hc1 : c1 = (eCs l).flatten ++ sp) (hf : ∀ x ∈ l, MSpec Tryz.prog g [.agg (eC x), .ptr b 0] (one b c) (fun r h' => r = .v (.bool (p x)) ∧ h' = one b c)) :
    MSpec Tryz.prog 160 [.sm b1 0 l.length cap, .fn g [.ptr b 0]] (two b1 c1 b c) (fun r h' => r = eI (idxP p l) ∧ h' = two b1 c1 b c) := by
  refine MSpec.of_awp Tryz.func160 (by kernel_rfl) rfl (by rw [Tryz.results160]) Tryz.ntmps160 ?_
  have hb2 : ¬ b1 = b := fun h => hb h.symm
  simp -implicitDefEqProofs
  intro _
  refine loopK.intro (IdsI p l cap g b c b1 c1) (fun t => l.length - natOf (t 8)) ?_ ?_
  · exact ⟨0, by simp, by simp, by simp, by simp, by omega, by simp [two], by simp [two, hb, hb2], by simp⟩
  rintro t hh ⟨k, g0, g1, g7, g8, hk, kb, k1, hn⟩
  by_cases hlt : k < l.length
  · have hlt' : (k : Int) < (l.length : Int) := by omega
    obtain ⟨x, hx⟩ : ∃ x, l[k]? = some x := ⟨l[k], by simp [hlt]⟩
    have hw : IntKind.i64.wrap ((k : Int) + 1) = ((k + 1 : Nat) : Int) := by rw [w64 (by omega) (by omega)]; omega
    obtain ⟨q1, q2⟩ := cell_at hc1 hx
    simp -implicitDefEqProofs [g0, g1, g7, g8, hlt', hx, eC, k1, hb, hb2, q1, q2]
    refine CallK.one (hf x (List.mem_of_getElem? hx)) (by simp [eC]) (by simp [kb, Weak.refl]) ?_
    cases hp : p x
    · simp -implicitDefEqProofs [g0, g1, g7, g8, kb, k1, hw]
      exact ⟨⟨k + 1, by simp [g0], by simp [g1], by simp [g7], by simp, by omega, by simp, by simp [hb, hb2, k1], take_no hx hp hn⟩, by omega⟩
    · simp -implicitDefEqProofs [g0, g1, g7, g8, kb, k1, hw, idxP_some hx hp hn, Weak.refl]
      exact sub_two (by simp [hb2, k1]) (by simp)
  · have hlt' : ¬ (k : Int) < (l.length : Int) := by omega
    rw [List.take_of_length_le (by omega)] at hn
    simp -implicitDefEqProofs [g7, g8, hlt', kb, k1, idxP_none hn, Weak.refl]
    exact sub_two k1 kb
/-- those that stay -/
def DelI (p : PCell → Bool) (l : List PCell) (cap : Nat) (g : FuncId) (b : Nat) (c : List AV) (b1 : Nat) (sp : List AV) (t : Nat → AV) (h : Nat → Option (List AV)) : Prop := ∃ (i j : Nat) (a : List PCell), t 0 = .sm b1 0 l.length cap ∧ t 1 = .fn g [.ptr b 0] ∧ t 5 = eI i ∧ t 6 = eI j ∧ i < j ∧ j ≤ l.length ∧ h b = some c ∧ h b1 = some ((eCs a).flatten ++ sp) ∧
  a.length = l.length ∧ a.take i = (l.take j).filter (fun x => !p x) ∧ a.drop j = l.drop j
def DelM (p : PCell → Bool) (l : List PCell) (cap : Nat) (b : Nat) (c : List AV) (b1 : Nat) (sp : List AV) (t : Nat → AV) (h : Nat → Option (List AV)) : Prop := ∃ (i : Nat) (a : List PCell), t 0 = .sm b1 0 l.length cap ∧ t 5 = eI i ∧ i < l.length ∧ h b = some c ∧ h b1 = some ((eCs a).flatten ++ sp) ∧
  a.length = l.length ∧ a.take i = l.filter (fun x => !p x)
theorem delete_cells (g : FuncId) (b : Nat) (c : List AV) (p : PCell → Bool) (l : List PCell) (b1 cap : Nat) (sp : List AV) (hb : ¬ b = b1) (hl : l.length ≤ 1000000000) (hf : ∀ x ∈ l, MSpec Tryz.prog g [.agg (eC x), .ptr b 0] (one b c) (fun r h' => r = .v (.bool (p x)) ∧ h' = one b c)) :
    MSpec Tryz.prog 104 [.sm b1 0 l.length cap, .fn g [.ptr b 0]] (two b1 ((eCs l).flatten ++ sp) b c)
      (fun r h' => ∃ sp', r = .sm b1 0 (l.filter fun x => !p x).length cap ∧ h' = two b1 ((eCs (l.filter fun x => !p x)).flatten ++ sp') b c ∧ (l.filter fun x => !p x).length * 3 + sp'.length = l.length * 3 + sp.length) := by
  refine MSpec.of_awp Tryz.func104 (by kernel_rfl) rfl (by rw [Tryz.results104]) Tryz.ntmps104 ?_
  have hb2 : ¬ b1 = b := fun h => hb h.symm
  simp -implicitDefEqProofs
  refine CallK.mh (indexf_cells_sm g b c p l b1 cap sp _ hb rfl hf) rfl (sub_two (two_left hb2) two_right) ?_
  rintro _ h' H ⟨rfl, rfl⟩ - hH -
  have k1 := hH b1 _ (two_left hb2)
  have kb := hH b _ two_right
  clear hH
  rcases idxP_cases p l with ⟨e1, e2⟩ | ⟨i, x, e1, hx, e2, e3⟩
  · have ef : l.filter (fun x => !p x) = l := List.filter_eq_self.2 fun x hx => by rw [e2 x hx]; rfl
    rw [e1]
    simp -implicitDefEqProofs
    refine ⟨_, sub_two k1 kb, ?_⟩
    rw [ef]
    exact ⟨rfl, sp, rfl, rfl⟩
  · have hi : i < l.length := by
      rcases Nat.lt_or_ge i l.length with h | h
      · exact h
      · rw [List.getElem?_eq_none h] at hx; simp at hx
    have hne : ¬ (i : Int) = -1 := by omega
    have hw : IntKind.i64.wrap ((i : Int) + 1) = ((i + 1 : Nat) : Int) := by rw [w64 (by omega) (by omega)]; omega
    rw [e1]
    simp -implicitDefEqProofs [hne, hw]
    refine loopK.post (DelI p l cap g b c b1 sp) (fun t => l.length - natOf (t 6)) (DelM p l cap b c b1 sp) ?_ ?_ ?_
    · refine ⟨i, i + 1, l, by simp, by simp, by simp, by simp, by omega, by omega, kb, k1, rfl, ?_, rfl⟩
      rw [List.take_add_one, hx, List.filter_append]
      have e4 : (l.take i).filter (fun x => !p x) = l.take i := List.filter_eq_self.2 fun y hy => by rw [e3 y hy]; rfl
      simp [e4, e2]
    · clear k1 kb e1 hx e2 e3 hi hne hw
      rintro t hh ⟨i, j, a, g0, g1, g5, g6, hij, hj, kb, k1, hal, hat, had⟩
      by_cases hlt : j < l.length
      · have hlt' : (j : Int) < (l.length : Int) := by omega
        obtain ⟨x, hx⟩ : ∃ x, l[j]? = some x := ⟨l[j], by simp [hlt]⟩
        have hxa : a[j]? = some x := by
          have h1 : (a.drop j)[0]? = (l.drop j)[0]? := by rw [had]
          rw [List.getElem?_drop, List.getElem?_drop] at h1
          rw [← hx]; simpa using h1
        have hwj : IntKind.i64.wrap ((j : Int) + 1) = ((j + 1 : Nat) : Int) := by rw [w64 (by omega) (by omega)]; omega
        have hwi : IntKind.i64.wrap ((i : Int) + 1) = ((i + 1 : Nat) : Int) := by rw [w64 (by omega) (by omega)]; omega
        have hst : (l.take (j + 1)).filter (fun x => !p x) = (l.take j).filter (fun x => !p x) ++ (if p x = true then [] else [x]) := by
          rw [List.take_add_one, hx, List.filter_append]
          cases h : p x <;> simp [h]
        have hd1 : a.drop (j + 1) = l.drop (j + 1) := by
          rw [← List.drop_drop, had, List.drop_drop]
        have fit := flat_fits (sp := sp) (eCs_one a) (k := i) (by simp; omega)
        have set := cell_set (c := (eCs a).flatten ++ sp) (l := a) (sp := sp) (x := x) rfl (k := i) (by omega)
        generalize hc1 : (eCs a).flatten ++ sp = c1 at *
        obtain ⟨q1, q2⟩ := cell_at hc1.symm hxa
        have hbf : (eC x).length = 3 := rfl
        have set : c1.take (i * 3) ++ AV.v (.int .i64 x.node) :: AV.v (.int .i64 x.change.add) :: AV.v (.int .i64 x.change.del) :: c1.drop (i * 3 + 3) = (eCs (a.set i x)).flatten ++ sp := by simpa [overlay, eC] using set
        simp -implicitDefEqProofs [g0, g1, g6, hlt', k1, q1, q2, eC, hlt]
        intro _
        refine allocK.intro (fun b2 hb3 => ?_)
        have n1 : ¬ b2 = b := by rintro rfl; rw [kb] at hb3; simp at hb3
        have n2 : ¬ b = b2 := fun h => n1 h.symm
        have n3 : ¬ b2 = b1 := by rintro rfl; rw [k1] at hb3; simp at hb3
        have n4 : ¬ b1 = b2 := fun h => n3 h.symm
        simp -implicitDefEqProofs [g1, n1, n2, n3, n4]
        refine CallK.one (hf x (List.mem_of_getElem? hx)) (by simp [eC]) (by simp [kb, n2, Weak.refl]) ?_
        cases hp : p x
        · have hii : i < l.length := by omega
          have hii' : (i : Int) < (l.length : Int) := by omega
          simp -implicitDefEqProofs [g0, g1, g5, g6, n1, n2, n3, n4, hb, hb2, k1, hwj, hwi, hii, hii', fit, set]
          refine ⟨⟨i + 1, j + 1, a.set i x, by simp [g0], by simp [g1], by simp, by simp, by omega, by omega, by simp [hb, hb2, n2], by simp, by simpa using hal, ?_, ?_⟩, by omega⟩
          · rw [hst, hp, ← hat, List.take_add_one, List.getElem?_set_self (by omega), List.take_set, List.set_eq_of_length_le (by rw [List.length_take]; omega)]
            simp
          · rw [List.drop_set_of_lt (by omega), hd1]
        · simp -implicitDefEqProofs [g0, g1, g5, g6, hwj]
          refine ⟨⟨i, j + 1, a, by simp [g0], by simp [g1], by simp [g5], by simp, by omega, by omega, by simp, by simp [hb, hb2, n4, k1, hc1], hal, ?_, hd1⟩, by omega⟩
          rw [hst, hp]; simpa using hat
      · have hlt' : ¬ (j : Int) < (l.length : Int) := by omega
        simp -implicitDefEqProofs [g0, g6, hlt']
        intro _
        refine ⟨i, a, by simp [g0], by simp [g5], by omega, kb, k1, hal, ?_⟩
        rw [hat, List.take_of_length_le (by omega)]
    clear k1 kb e1 hx e2 e3 hi hne hw
    rintro t hh ⟨i, a, g0, g5, hi, kb, k1, hal, hat⟩
    have hi' : (i : Int) < (l.length : Int) := by omega
    have fit := flat_len (rows := eCs a) (eCs_one a)
    have hfl : i * 3 + (l.length - i) * 3 ≤ ((eCs a).flatten ++ sp).length := by
      rw [List.length_append, fit, eCs_length]; omega
    simp -implicitDefEqProofs [g0, g5, hi, hi', k1]
    refine clearSm (e := 48) (sz := 3) (by_ := 24) (z := [eI 0, eI 0, eI 0]) (by simp) (by simp) rfl (b := b1) (o := i * 3) (n := l.length - i) (c := cap - i) (by simp) k1 hfl (fun zs hz => ?_)
    have hkl : (l.filter fun x => !p x).length = i := by rw [← hat, List.length_take]; omega
    have hov : overlay ((eCs a).flatten ++ sp) (i * 3) zs = (eCs (l.filter fun x => !p x)).flatten ++ (zs ++ sp) := by
      have e1 := flat_take (rows := eCs a) (eCs_one a) (k := i) (by simp; omega)
      unfold overlay
      rw [List.take_append_of_le_length (by rw [fit, eCs_length]; omega), e1, List.append_assoc, show i * 3 + zs.length = (eCs a).flatten.length by rw [fit, eCs_length, hz]; omega, List.drop_left, ← hat]
      simp [eCs]
    generalize hq : overlay ((eCs a).flatten ++ sp) (i * 3) zs = q at *
    have fin : ∃ sp', q = (eCs (l.filter fun x => !p x)).flatten ++ sp' ∧ (l.filter fun x => !p x).length * 3 + sp'.length = l.length * 3 + sp.length := ⟨_, hov, by rw [hkl, List.length_append, hz]; omega⟩
    obtain ⟨sp', e1, e2⟩ := fin
    by_cases h0 : 0 < i
    · have hile : (i : Int) ≤ (l.length : Int) := by omega
      simp -implicitDefEqProofs [g0, g5, h0, hi, hi', Nat.le_of_lt hi]
      exact ⟨two b1 q b c, sub_two (by simp [hb, hb2]) (by simp [hb, hb2, kb]), hkl.symm, sp', by rw [e1], e2⟩
    · obtain rfl : i = 0 := by omega
      simp -implicitDefEqProofs [g0, g5, hi, hi']
      exact ⟨two b1 q b c, sub_two (by simp [hb, hb2]) (by simp [hb, hb2, kb]), hkl.symm, sp', by rw [e1], e2⟩
theorem delete_none (g : FuncId) (b : Nat) (c : List AV) : MSpec Tryz.prog 104 [.sl .no (eCs []), .fn g [.ptr b 0]] (one b c) (fun r h' => r = .sl .no (eCs []) ∧ h' = one b c) := by
  refine MSpec.of_awp Tryz.func104 (by kernel_rfl) rfl (by rw [Tryz.results104]) Tryz.ntmps104 ?_
  simp -implicitDefEqProofs
  refine CallK.one (indexf_cells g b c (fun _ => false) [] (fun x hx => absurd hx (by simp))) rfl (by simp [Weak.refl]) ?_
  simp -implicitDefEqProofs [idxP_none, Weak.refl]
theorem newsKey_spec (x : PCell) (b : Nat) (old : List PCell) : MSpec Tryz.prog 105 [.agg (eC x), .ptr b 0] (one b [.sl .no (eCs old)]) (fun r h' => r = .v (.bool (ofC old x.node).isSome) ∧ h' = one b [.sl .no (eCs old)]) := by
  refine MSpec.of_awp Tryz.func105 (by kernel_rfl) rfl (by rw [Tryz.results105]) Tryz.ntmps105 ?_
  simp -implicitDefEqProofs [eC]
  refine allocK.intro (fun b1 hb1 => ?_)
  have n1 : ¬ b1 = b := by rintro rfl; simp at hb1
  have n2 : ¬ b = b1 := fun h => n1 h.symm
  simp -implicitDefEqProofs [n1, n2]
  refine CallK.eq (ofC_spec old x.node) ?_
  rw [ofA]
  simp -implicitDefEqProofs [eV]
  refine allocK.intro (fun b2 hb2 => ?_)
  have n3 : ¬ b2 = b := by rintro rfl; simp [n2] at hb2
  have n4 : ¬ b = b2 := fun h => n3 h.symm
  have n5 : ¬ b1 = b2 := by rintro rfl; simp at hb2
  have n6 : ¬ b2 = b1 := fun h => n5 h.symm
  simp -implicitDefEqProofs [n1, n2, n3, n4, n5, n6]
theorem chunks_cells (l : List PCell) (sp : List AV) : chunks ((eCs l).flatten ++ sp) (eCs l) 3 := by
  refine ⟨eCs_one l, ?_, ?_, ?_⟩
  · rw [show (eCs l).length * 3 = (eCs l).flatten.length by rw [eCs_flat]; simp, List.take_left, eCs_dead]
  · rw [List.length_append, eCs_flat]; simp
  · intro r hr x hx
    obtain ⟨c, _, rfl⟩ := List.mem_map.1 hr
    simp [eC] at hx
    rcases hx with rfl | rfl | rfl <;> rfl
theorem newsC_spec (old l : List PCell) (hl : l.length ≤ 1000000000) : ASpec Tryz.prog 46 [.sl .no (eCs old), .sl .no (eCs l)] (fun r => ∃ tag, r = .sl tag (eCs (newsC old l))) := by
  refine ASpec.of_awpS Tryz.func46 (by kernel_rfl) rfl (by rw [Tryz.results46]) Tryz.ntmps46 ?_
  simp -implicitDefEqProofs
  refine allocK.intro (fun b1 hb1 => ?_)
  simp -implicitDefEqProofs
  refine CallK.thaw (clone_cells_new l (by omega)) rfl ?_
  rintro r (⟨h0, tag, htag, rfl⟩ | ⟨hne, rfl⟩)
  · left
    have hl0 : l = [] := by simpa [eCs] using h0
    simp -implicitDefEqProofs [h0]
    refine CallK.one (delete_none 105 b1 [.sl .no (eCs old)]) (by simp) (by simp [Weak.refl]) ?_
    simp -implicitDefEqProofs
    refine shiftK.skip ?_
    simp -implicitDefEqProofs [newsC, hl0]
  · right
    refine ⟨_, _, _, _, rfl, hne, .inl rfl, fun b3 cap spare hb3 hcap hsp => ?_⟩
    have n1 : ¬ b1 = b3 := by rintro rfl; simp at hb3
    have n1' : ¬ b3 = b1 := fun h => n1 h.symm
    have ed := eCs_dead2 l
    have fc := eCs_flat l
    simp -implicitDefEqProofs [n1, n1', ed]
    refine CallK.mh (delete_cells 105 b1 [.sl .no (eCs old)] (fun c => (ofC old c.node).isSome) l b3 cap (spare.map AV.v) n1 hl (fun x _ => newsKey_spec x b1 old)) (by simp) (sub_two (by simp) (by simp [n1])) ?_
    rintro _ h' H ⟨sp', rfl, rfl, hlen⟩ - hH -
    have k3 := hH b3 _ (two_left n1')
    simp -implicitDefEqProofs
    refine shiftK.freeze (b := b3) (len := (newsC old l).length) (cap := cap) 4 48 (eCs (newsC old l)) (by simp [newsC]) k3 (chunks_cells _ _) (by simp) ?_ ?_
    · rw [List.length_append, eCs_flat, hlen, List.length_map]
      simp at hsp
      omega
    simp -implicitDefEqProofs [newsC]
end Go.Proofs.YtjbbfiagijjdoaaGreat

/- Contracts: a list in memory of one's own is sorted (ropeway/api.Cell). Printed by sort/gen.py. No condition. -/
set_option linter.unusedSimpArgs false
set_option linter.unusedVariables false
set_option maxRecDepth 10000
namespace Go.Proofs.YtjbbfiagijjdoaaGreat
open Go Go.Rw Go.Proofs
-- a goal is never to be run by the elaborator
attribute [local irreducible] awp aops aop aopsE aeff

instance : Inhabited PCell := ⟨⟨0, ⟨0, 0⟩⟩⟩
theorem rowsC_dead (l : List PCell) : (l.map eC).flatten.map dead1 = (l.map eC).flatten := by
  induction l with
  | nil => rfl
  | cons x l ih => simp [eC, dead1] at *; try exact ih
theorem rowsC_one (l : List PCell) : ∀ r ∈ l.map eC, r.length = 3 := by
  intro r hr
  obtain ⟨c, _, rfl⟩ := List.mem_map.1 hr
  rfl
/-- a list in memory, and what lies behind it -/
def memC (d : Array PCell) (sp : List AV) : List AV := (d.toList.map eC).flatten ++ sp
theorem get_bang {α : Type} [Inhabited α] {d : Array α} {k : Nat} (h : k < d.size) : d.toList[k]? = some d[k]! := by
  rw [Array.getElem?_toList, Array.getElem?_eq_getElem h, getElem!_pos d k h]
theorem memC_at {d : Array PCell} {sp : List AV} {k : Nat} (h : k < d.size) : k * 3 + 3 ≤ (memC d sp).length ∧ (((memC d sp).map dead1).drop (k * 3)).take 3 = eC d[k]! := by
  refine ⟨flat_fits (rowsC_one _) (by simpa using h), ?_⟩
  unfold memC
  rw [List.map_append, rowsC_dead]
  refine flat_row (rowsC_one _) ?_
  rw [List.getElem?_map, get_bang h]; rfl
theorem memC_set {d : Array PCell} {sp : List AV} {k : Nat} {x : PCell} (h : k < d.size) : overlay (memC d sp) (k * 3) (eC x) = memC (d.setIfInBounds k x) sp := by
  unfold memC
  rw [flat_set (rowsC_one _) rfl (by simpa using h)]
  simp [List.map_set]
def ltC (cm : PCell → PCell → Int) (x y : PCell) : Bool := decide (cm x y < 0)
theorem swp_allC {Q : PCell → Prop} {d : Array PCell} {i j : Nat} (hi : i < d.size) (hj : j < d.size) (h : ∀ k < d.size, Q d[k]!) : ∀ k < (Go.Sort.swp d i j).size, Q (Go.Sort.swp d i j)[k]! := by
  intro k hk
  rw [Go.Sort.swp_get d hi hj]
  rw [Go.Sort.swp_size] at hk
  split
  · exact h _ hi
  · split
    · exact h _ hj
    · exact h _ hk

def InsIC (cm : PCell → PCell → Int) (Q : PCell → Prop) (n cap a b b1 : Nat) (sp : List AV) (g : FuncId) (D : Array PCell) (t : Nat → AV) (h : Nat → Option (List AV)) : Prop := ∃ (i : Nat) (d : Array PCell), t 0 = .sm b1 0 n cap ∧ t 1 = eI a ∧ t 2 = eI b ∧ t 3 = .fn g [] ∧ t 8 = eI i ∧ h b1 = some (memC d sp) ∧ d.size = n ∧ a + 1 ≤ i ∧ i ≤ max b (a + 1) ∧ Go.Sort.insOuter (ltC cm) a b i d = D ∧ ∀ k < d.size, Q d[k]!
def InsJC (cm : PCell → PCell → Int) (Q : PCell → Prop) (n cap a b b1 : Nat) (sp : List AV) (g : FuncId) (i : Nat) (D : Array PCell) (t : Nat → AV) (h : Nat → Option (List AV)) : Prop := ∃ (j : Nat) (d : Array PCell), t 0 = .sm b1 0 n cap ∧ t 1 = eI a ∧ t 2 = eI b ∧ t 3 = .fn g [] ∧ t 8 = eI i ∧ t 9 = eI j ∧ h b1 = some (memC d sp) ∧ d.size = n ∧ a ≤ j ∧ j ≤ i ∧ Go.Sort.insInner (ltC cm) a j d = D ∧ ∀ k < d.size, Q d[k]!
theorem insertionC (cm : PCell → PCell → Int) (Q : PCell → Prop) (g : FuncId) (hg : ∀ x y, Q x → Q y → ASpec Tryz.prog g [.agg (eC x), .agg (eC y)] (· = eI (cm x y))) (d : Array PCell) (hq : ∀ k < d.size, Q d[k]!) (sp : List AV) (b1 cap a b : Nat) (hb : b ≤ d.size) (hl : d.size ≤ 1000000000) (ha : a ≤ d.size) :
    MSpec Tryz.prog 212 [.sm b1 0 d.size cap, eI a, eI b, .fn g []] (one b1 (memC d sp)) (fun r h' => h' = one b1 (memC (Go.Sort.insertionSort (ltC cm) d a b) sp)) := by
  refine MSpec.of_awp Tryz.func212 (by kernel_rfl) rfl (by rw [Tryz.results212]) Tryz.ntmps212 ?_
  have hwa : IntKind.i64.wrap ((a : Int) + 1) = ((a + 1 : Nat) : Int) := by rw [w64 (by omega) (by omega)]; omega
  simp -implicitDefEqProofs [hwa]
  refine loopK.intro (InsIC cm Q d.size cap a b b1 sp g (Go.Sort.insertionSort (ltC cm) d a b)) (fun t => b - natOf (t 8)) ?_ ?_
  · exact ⟨a + 1, d, by simp, by simp, by simp, by simp, by simp, by simp, rfl, by omega, by omega, rfl, hq⟩
  · generalize Go.Sort.insertionSort (ltC cm) d a b = D
    clear hq
    rintro t hh ⟨i, d2, g0, g1, g2, g3, g8, k1, hs, hi1, hi2, hD, hq⟩
    by_cases hlt : i < b
    · have hlt' : (i : Int) < (b : Int) := by omega
      have hwi : IntKind.i64.wrap ((i : Int) + 1) = ((i + 1 : Nat) : Int) := by rw [w64 (by omega) (by omega)]; omega
      rw [Go.Sort.insOuter, if_pos hlt] at hD
      simp -implicitDefEqProofs [g0, g2, g8, hlt']
      refine loopK.intro (InsJC cm Q d.size cap a b b1 sp g i (Go.Sort.insInner (ltC cm) a i d2)) (fun t => natOf (t 9)) ?_ ?_
      · exact ⟨i, d2, by simp [g0], by simp [g1], by simp [g2], by simp [g3], by simp [g8], by simp, by simp [k1], hs, by omega, by omega, rfl, hq⟩
      · generalize Go.Sort.insInner (ltC cm) a i d2 = D2 at hD ⊢
        have hO := hD
        have hm8 : natOf (t 8) = i := by rw [g8]; simp
        rw [hm8]
        clear g0 g1 g2 g3 g8 k1 hs hD hq hm8
        rintro t hh ⟨j, d2, g0, g1, g2, g3, g8, g9, k1, hs, hj1, hj2, hD, hq⟩
        by_cases hja : a < j
        · obtain ⟨m, rfl⟩ : ∃ m, j = m + 1 := ⟨j - 1, by omega⟩
          have hja' : (a : Int) < (m : Int) + 1 := by omega
          have hw1 : IntKind.i64.wrap ((m : Int) + 1 - 1) = (m : Int) := by rw [w64 (by omega) (by omega)]; omega
          obtain ⟨q1, q2⟩ := memC_at (d := d2) (sp := sp) (k := m + 1) (by omega)
          obtain ⟨q3, q4⟩ := memC_at (d := d2) (sp := sp) (k := m) (by omega)
          have z1 : m + 1 < d.size := by omega
          have z2 : m < d.size := by omega
          have z1' : (m : Int) + 1 < (d.size : Int) := by omega
          have z2' : (m : Int) < (d.size : Int) := by omega
          have s1 := memC_set (d := d2) (sp := sp) (k := m + 1) (x := d2[m]!) (by omega)
          have s2 := memC_set (d := d2.setIfInBounds (m + 1) d2[m]!) (sp := sp) (k := m) (x := d2[m + 1]!) (by simp; omega)
          have e1 : (d2.setIfInBounds (m + 1) d2[m]!).setIfInBounds m d2[m + 1]! = Go.Sort.swp d2 (m + 1) m := rfl
          have fits2 := flat_fits (sp := sp) (rowsC_one (d2.setIfInBounds (m + 1) d2[m]!).toList) (k := m) (by simp; omega)
          change m * 3 + 3 ≤ (memC (d2.setIfInBounds (m + 1) d2[m]!) sp).length at fits2
          rw [e1] at s2
          rw [Go.Sort.insInner] at hD
          have hqs := swp_allC (Q := Q) (d := d2) (i := m + 1) (j := m) (by omega) (by omega) hq
          have hx := hg d2[m + 1]! d2[m]! (hq _ (by omega)) (hq _ (by omega))
          have hlt2 : ltC cm d2[m + 1]! d2[m]! = decide (cm d2[m + 1]! d2[m]! < 0) := rfl
          have hss : (Go.Sort.swp d2 (m + 1) m).size = d.size := by rw [Go.Sort.swp_size, hs]
          generalize memC (d2.setIfInBounds (m + 1) d2[m]!) sp = c2 at *
          generalize hc1 : memC d2 sp = c1 at *
          generalize hsw : Go.Sort.swp d2 (m + 1) m = d3 at *
          generalize hc3 : memC d3 sp = c3 at *
          generalize d2[m + 1]! = x at *
          generalize d2[m]! = y at *
          simp [overlay, eC] at s1 s2
          have hw0 : IntKind.i64.wrap (m : Int) = (m : Int) := by rw [w64 (by omega) (by omega)]
          have z3 : (0 : Int) ≤ (m : Int) + 1 := by omega
          simp -implicitDefEqProofs [g0, g1, g3, g9]
          refine regionK.intro 17 follows_mixed (by kernel_rfl) ?_
          simp -implicitDefEqProofs [g0, g1, g3, g9, hja, hja', hw0, hw1, z1, z2, z1', z2', z3, k1, q1, q2, q3, q4, eC]
          refine CallQ.with hx (by simp [eC]) ?_
          by_cases hcm : cm x y < 0
          · rw [hlt2] at hD
            simp [hcm, hja] at hD
            simp -implicitDefEqProofs [hcm]
            refine regionK.modes [b1] [.r, .r, .q, .q, .q, .r, .r, .r, .r, .r, .q, .q, .q, .r, .r, .l, .r, .l] follows_mixed (by kernel_rfl) ?_
            simp -implicitDefEqProofs [g0, g9, hw0, hw1, z1, z2, z1', z2', z3, k1, q1, q2, q3, q4, s1, s2, fits2, eC]
            exact ⟨m, d3, by simp [g0], by simp [g1], by simp [g2], by simp [g3], by simp [g8], by simp, by simp [hc3], hss, by omega, by omega, hD, hqs⟩
          · rw [hlt2] at hD
            simp [hcm] at hD
            subst hD
            simp -implicitDefEqProofs [hcm, g8, hwi]
            exact ⟨⟨i + 1, d2, by simp [g0], by simp [g1], by simp [g2], by simp [g3], by simp, by rw [hc1]; exact k1, hs, by omega, by omega, hO, hq⟩, by omega⟩
        · have hja' : ¬ (a : Int) < (j : Int) := by omega
          have hd : d2 = D2 := by
            rw [← hD]
            cases j with
            | zero => rfl
            | succ m => rw [Go.Sort.insInner]; simp [show ¬ (m + 1 > a) by omega]
          subst hd
          simp -implicitDefEqProofs [g0, g1, g3, g9]
          refine regionK.intro 17 follows_mixed (by kernel_rfl) ?_
          simp -implicitDefEqProofs [g0, g1, g3, g9, hja, hja', g8, hwi]
          exact ⟨⟨i + 1, d2, by simp [g0], by simp [g1], by simp [g2], by simp [g3], by simp, k1, hs, by omega, by omega, hO, hq⟩, by omega⟩
    · have hlt' : ¬ (i : Int) < (b : Int) := by omega
      rw [Go.Sort.insOuter, if_neg hlt] at hD
      subst hD
      simp -implicitDefEqProofs [g0, g2, g8, hlt', k1, Weak.refl]
end Go.Proofs.YtjbbfiagijjdoaaGreat

/- Contracts: lists that are put together and sorted in memory of one's own. No condition. -/
set_option linter.unusedSimpArgs false
set_option linter.unusedVariables false
set_option maxRecDepth 10000
namespace Go.Proofs.YtjbbfiagijjdoaaGreat
open Go Go.Rw Go.Proofs
-- a goal is never to be run by the elaborator
attribute [local irreducible] awp aops aop aopsE aeff

theorem grow_cells (n : Nat) (h0 : 0 < n) (hn : n ≤ 1000000000) : MSpec Tryz.prog 193 [.mn, eI n] (fun _ => none) (fun r h' => ∃ b c spare, r = .sm b 0 0 c ∧ h' = one b spare ∧ spare.length = c * 3 ∧ n ≤ c) := by
  refine MSpec.of_awp Tryz.func193 (by kernel_rfl) rfl (by rw [Tryz.results193]) Tryz.ntmps193 ?_
  have hlt : ¬ (n : Int) < 0 := by omega
  simp -implicitDefEqProofs [hlt]
  refine capMn (e := (48, 3, 24)) (by simp) (by simp) ?_
  have hw : IntKind.i64.wrap (n : Int) = (n : Int) := by rw [w64 (by omega) (by omega)]
  have h0' : (0 : Int) < (n : Int) := by omega
  have hw0 : IntKind.i64.wrap 0 = 0 := by decide
  simp -implicitDefEqProofs [hw, hw0, h0, h0']
  refine capMn (e := (48, 3, 24)) (by simp) (by simp) ?_
  simp -implicitDefEqProofs
  refine zerosMn (e := 48) (sz := 3) (by_ := 24) (ku := .i64) (z := [eI 0, eI 0, eI 0]) n (by decide) (by simp) (by simp) (by simp) rfl (by omega) (by simp) (by simp) h0 (by omega) (by omega) fun b c spare hb hc hsp => ?_
  simp -implicitDefEqProofs
  exact ⟨one b spare, SubH_one.2 (by simp [Weak.refl]), b, c, ⟨rfl, rfl⟩, spare, rfl, hsp, hc⟩

/-- lists of cells as rows -/
def eCss (ls : List (List PCell)) : List (List AV) := ls.map fun l => [.sl .no (eCs l)]
@[simp] theorem eCss_length (ls : List (List PCell)) : (eCss ls).length = ls.length := by simp [eCss]
@[simp] theorem eCss_get (ls : List (List PCell)) (i : Nat) : (eCss ls)[i]? = (ls[i]?).map fun l => [.sl .no (eCs l)] := by simp [eCss]
theorem take_flat {α : Type} {ls : List (List α)} {k : Nat} {l : List α} (h : ls[k]? = some l) : (ls.take (k + 1)).flatten = (ls.take k).flatten ++ l := by
  rw [List.take_add_one, h, List.flatten_append]; simp
theorem flat_le {α : Type} (ls : List (List α)) (k : Nat) : (ls.take k).flatten.length ≤ ls.flatten.length := by
  have : ls.flatten = (ls.take k).flatten ++ (ls.drop k).flatten := by rw [← List.flatten_append, List.take_append_drop]
  rw [this, List.length_append]; omega
def CatI (ls : List (List PCell)) (t : Nat → AV) (_ : Nat → Option (List AV)) : Prop := ∃ k : Nat, t 0 = .sl .no (eCss ls) ∧ t 3 = eI (ls.take k).flatten.length ∧ t 9 = .sl .no (eCss ls) ∧ t 10 = eI ls.length ∧ t 11 = eI k ∧ k ≤ ls.length
def CatM (ls : List (List PCell)) (t : Nat → AV) (_ : Nat → Option (List AV)) : Prop := t 0 = .sl .no (eCss ls) ∧ t 3 = eI ls.flatten.length
def CatJ (ls : List (List PCell)) (t : Nat → AV) (h : Nat → Option (List AV)) : Prop := ∃ (k b c : Nat) (sp : List AV), t 6 = .sm b 0 (ls.take k).flatten.length c ∧ t 25 = .sl .no (eCss ls) ∧ t 26 = eI ls.length ∧ t 27 = eI k ∧ k ≤ ls.length ∧ h b = some ((eCs (ls.take k).flatten).flatten ++ sp) ∧ (ls.take k).flatten.length * 3 + sp.length = c * 3
def CatN (ls : List (List PCell)) (t : Nat → AV) (h : Nat → Option (List AV)) : Prop := ∃ (b c : Nat) (sp : List AV), t 6 = .sm b 0 ls.flatten.length c ∧ h b = some ((eCs ls.flatten).flatten ++ sp) ∧ ls.flatten.length * 3 + sp.length = c * 3
theorem concat_cells (ls : List (List PCell)) (h0 : 0 < ls.flatten.length) (hn : ls.flatten.length ≤ 1000000000) :
    MSpec Tryz.prog 155 [.sl .no (eCss ls)] (fun _ => none) (fun r h' => ∃ b c sp, r = .sm b 0 ls.flatten.length c ∧ h' = one b ((eCs ls.flatten).flatten ++ sp) ∧ ls.flatten.length * 3 + sp.length = c * 3) := by
  refine MSpec.of_awp Tryz.func155 (by kernel_rfl) rfl (by rw [Tryz.results155]) Tryz.ntmps155 ?_
  simp -implicitDefEqProofs
  intro hll
  refine loopK.post (CatI ls) (fun t => ls.length - natOf (t 11)) (CatM ls) ?_ ?_ ?_
  · exact ⟨0, by simp, by simp, by simp, by simp, by simp, by omega⟩
  · rintro t hh ⟨k, g0, g3, g9, g10, g11, hk⟩
    by_cases hlt : k < ls.length
    · have hlt' : (k : Int) < (ls.length : Int) := by omega
      obtain ⟨l, hx⟩ : ∃ l, ls[k]? = some l := ⟨ls[k], by simp [hlt]⟩
      have hw : IntKind.i64.wrap ((k : Int) + 1) = ((k + 1 : Nat) : Int) := by rw [w64 (by omega) (by omega)]; omega
      have hf := take_flat hx
      have hle := flat_le ls (k + 1)
      have hle2 : (ls.take (k + 1)).flatten.length = (ls.take k).flatten.length + l.length := by rw [hf, List.length_append]
      generalize hm : (ls.take k).flatten.length = m at *
      generalize hm2 : (ls.take (k + 1)).flatten.length = m2 at *
      have hw2 : IntKind.i64.wrap ((m : Int) + (l.length : Int)) = (m2 : Int) := by rw [w64 (by omega) (by omega)]; omega
      have hge : ¬ (m2 : Int) < 0 := by omega
      simp -implicitDefEqProofs [g3, g9, g10, g11, hlt', hx, hw2, hge]
      intro _
      simp -implicitDefEqProofs [g3, g9, g10, g11, hlt', hx, hw, hw2, hge]
      exact ⟨⟨k + 1, by simp [g0], by rw [hm2]; simp, by simp [g9], by simp [g10], by simp, by omega⟩, by omega⟩
    · have hlt' : ¬ (k : Int) < (ls.length : Int) := by omega
      rw [List.take_of_length_le (by omega)] at g3
      simp -implicitDefEqProofs [g10, g11, hlt']
      exact ⟨by simp [g0], by simp [g3]⟩
  rintro t hh ⟨g0, g3⟩
  generalize hN : ls.flatten.length = N at *
  simp -implicitDefEqProofs [g0, g3]
  refine CallK.known (args' := [.mn, eI N]) (by simp [argN]) ?_
  refine CallK.fresh (grow_cells N h0 hn) rfl ?_
  rintro _ h' H ⟨b, c, spare, rfl, rfl, hsp, hc⟩ - hH -
  have k1 := hH b _ (one_self _ _)
  clear hH
  simp -implicitDefEqProofs [g0]
  intro _
  refine loopK.post (CatJ ls) (fun t => ls.length - natOf (t 27)) (CatN ls) ?_ ?_ ?_
  · exact ⟨0, b, c, spare, by simp, by simp [g0], by simp, by simp, by omega, by simp [k1], by simp [hsp]⟩
  · clear k1 hc hsp
    rintro t hh ⟨k, b, c, sp, g6, g25, g26, g27, hk, k1, hsp⟩
    by_cases hlt : k < ls.length
    · have hlt' : (k : Int) < (ls.length : Int) := by omega
      obtain ⟨l, hx⟩ : ∃ l, ls[k]? = some l := ⟨ls[k], by simp [hlt]⟩
      have hw : IntKind.i64.wrap ((k : Int) + 1) = ((k + 1 : Nat) : Int) := by rw [w64 (by omega) (by omega)]; omega
      have hf := take_flat hx
      have hle := flat_le ls (k + 1)
      have hle2 : (ls.take (k + 1)).flatten.length = (ls.take k).flatten.length + l.length := by rw [hf, List.length_append]
      have hcl : ((eCs (ls.take k).flatten).flatten ++ sp).length = c * 3 := by rw [List.length_append, eCs_flat]; exact hsp
      have htk : (((eCs (ls.take k).flatten).flatten ++ sp).take ((ls.take k).flatten.length * 3)).map dead1 = (eCs (ls.take k).flatten).flatten := by
        rw [← eCs_flat, List.take_left, eCs_dead]
      have hdl := eCs_dead l
      generalize hm : (ls.take k).flatten.length = m at *
      generalize hm2 : (ls.take (k + 1)).flatten.length = m2 at *
      generalize hA : (eCs (ls.take k).flatten).flatten ++ sp = A at *
      simp -implicitDefEqProofs [g6, g25, g26, g27, hlt', hx, k1, hcl]
      refine ⟨by omega, growSmK.intro fun b' c' spare hb' hc' hsp' => ?_⟩
      have hsp2 : m2 * 3 + spare.length = c' * 3 := by simp at hsp'; omega
      have hfin : (A.take (m * 3)).map dead1 ++ (eCs l).flatten.map dead1 ++ spare = (eCs (ls.take (k + 1)).flatten).flatten ++ spare := by
        rw [htk, hdl, hf]; simp [eCs]
      rw [hfin]
      have hml : m + l.length = m2 := by omega
      simp -implicitDefEqProofs [g27, hw, hml]
      exact ⟨⟨k + 1, b', c', spare, by rw [hm2]; simp [hml], by simp [g25], by simp [g26], by simp, by omega, by simp, by rw [hm2]; exact hsp2⟩, by omega⟩
    · have hlt' : ¬ (k : Int) < (ls.length : Int) := by omega
      rw [List.take_of_length_le (by omega)] at g6 k1 hsp
      simp -implicitDefEqProofs [g26, g27, hlt']
      exact ⟨b, c, sp, by simp [g6, -List.length_flatten], k1, hsp⟩
  rintro t hh ⟨b, c, sp, g6, k1, hsp⟩
  rw [hN] at g6
  simp -implicitDefEqProofs [g6]
  exact ⟨one b ((eCs ls.flatten).flatten ++ sp), SubH_one.2 (by simp [k1, Weak.refl]), b, c, ⟨rfl, rfl⟩, sp, rfl, by omega⟩

theorem pdqsmall (cm : PCell → PCell → Int) (Q : PCell → Prop) (g : FuncId) (hg : ∀ x y, Q x → Q y → ASpec Tryz.prog g [.agg (eC x), .agg (eC y)] (· = eI (cm x y))) (d : Array PCell) (hq : ∀ k < d.size, Q d[k]!) (sp : List AV) (b1 cap : Nat) (hl : d.size ≤ 12) (lim : Int) :
    MSpec Tryz.prog 194 [.sm b1 0 d.size cap, eI 0, eI d.size, eI lim, .fn g []] (one b1 (memC d sp)) (fun r h' => h' = one b1 (memC (Go.Sort.insertionSort (ltC cm) d 0 d.size) sp)) := by
  refine MSpec.of_awp Tryz.func194 (by kernel_rfl) rfl (by rw [Tryz.results194]) Tryz.ntmps194 ?_
  have hw : IntKind.i64.wrap ((d.size : Int)) = (d.size : Int) := by rw [w64 (by omega) (by omega)]
  have hle : (d.size : Int) ≤ 12 := by omega
  simp -implicitDefEqProofs
  refine loopK.intro (fun t h => t 0 = .sm b1 0 d.size cap ∧ t 1 = eI 0 ∧ t 2 = eI d.size ∧ t 4 = .fn g [] ∧ h b1 = some (memC d sp)) (fun _ => 0) ?_ ?_
  · simp
  rintro t hh ⟨g0, g1, g2, g4, k1⟩
  simp -implicitDefEqProofs [g0, g1, g2, g4, hw, hle, hl]
  refine CallK.mh (insertionC cm Q g hg d hq sp b1 cap 0 d.size (by omega) (by omega) (by omega)) (by simp) (SubH_one.2 (by simp [k1, Weak.refl])) ?_
  rintro r h' H rfl - hH -
  have k2 := hH b1 _ (one_self _ _)
  simp -implicitDefEqProofs [k2, Weak.refl]
theorem mergeKey_spec (x y : PCell) : ASpec Tryz.prog 157 [.agg (eC x), .agg (eC y)] (· = eI (cmpI x.node y.node)) := by
  refine ASpec.of_awp Tryz.func157 (by kernel_rfl) rfl (by rw [Tryz.results157]) Tryz.ntmps157 ?_
  simp -implicitDefEqProofs [eC]
  refine allocK.intro (fun b1 hb1 => ?_)
  simp -implicitDefEqProofs
  refine allocK.intro (fun b2 hb2 => ?_)
  have n12 : ¬ b1 = b2 := by rintro rfl; simp at hb2
  have n21 : ¬ b2 = b1 := fun h => n12 h.symm
  simp -implicitDefEqProofs [n12, n21]
  refine CallK.eq (compare_int x.node y.node) ?_
  simp -implicitDefEqProofs
theorem bitsLen_spec (n : Nat) (h : n < 18446744073709551616) : ASpec Tryz.prog 145 [.v (.int .u64 n)] (· = .v (.int .i64 (Lib.bitLen n : Nat))) := by
  refine ASpec.of_awp Tryz.func145 (by kernel_rfl) rfl (by rw [Tryz.results145]) Tryz.ntmps145 ?_
  simp -implicitDefEqProofs
  refine CallK.eq (len64_spec n h) ?_
  simp -implicitDefEqProofs
def nodeCmp (x y : PCell) : Int := cmpI x.node y.node
theorem sortsmall (d : Array PCell) (sp : List AV) (b1 cap : Nat) (hl : d.size ≤ 12) :
    MSpec Tryz.prog 156 [.sm b1 0 d.size cap, .fn 157 []] (one b1 (memC d sp)) (fun r h' => h' = one b1 (memC (Go.Sort.insertionSort (ltC nodeCmp) d 0 d.size) sp)) := by
  refine MSpec.of_awp Tryz.func156 (by kernel_rfl) rfl (by rw [Tryz.results156]) Tryz.ntmps156 ?_
  simp -implicitDefEqProofs
  intro _
  have hw : IntKind.u64.wrap ((d.size : Int)) = (d.size : Int) := by
    simp [IntKind.wrap, IntKind.bits, IntKind.signed]; omega
  simp -implicitDefEqProofs [hw]
  refine CallK.eq (bitsLen_spec d.size (by omega)) ?_
  simp -implicitDefEqProofs
  refine CallK.mh (pdqsmall nodeCmp (fun _ => True) 157 (fun x y _ _ => mergeKey_spec x y) d (fun _ _ => trivial) sp b1 cap hl _) (by simp; rfl) (SubH_one.2 (by simp [Weak.refl])) ?_
  rintro r h' H rfl - hH -
  have k2 := hH b1 _ (one_self _ _)
  simp -implicitDefEqProofs [k2, Weak.refl]
/-- the cells of both, sorted by their nodes -/
def mergeS (a b : List PCell) : List PCell := (Go.Sort.insertionSort (ltC nodeCmp) (a ++ newsC a b).toArray 0 (a ++ newsC a b).toArray.size).toList
theorem ins_len (lt : PCell → PCell → Bool) (d : Array PCell) (a b : Nat) : (Go.Sort.insertionSort lt d a b).size = d.size := by
  have inner : ∀ j (d : Array PCell), (Go.Sort.insInner lt a j d).size = d.size := by
    intro j
    induction j with
    | zero => intro d; rfl
    | succ j ih =>
      intro d
      rw [Go.Sort.insInner]
      split
      · rw [ih, Go.Sort.swp_size]
      · rfl
  have outer : ∀ m i (d : Array PCell), b - i = m → (Go.Sort.insOuter lt a b i d).size = d.size := by
    intro m
    induction m with
    | zero => intro i d h; rw [Go.Sort.insOuter, if_neg (by omega)]
    | succ m ih =>
      intro i d h
      rw [Go.Sort.insOuter, if_pos (by omega), ih _ _ (by omega), inner]
  exact outer _ _ d rfl
theorem cmerge_spec (a b : List PCell) (ha : (a ++ newsC a b).length ≤ 12) (h0 : 0 < (a ++ newsC a b).length) (hb : b.length ≤ 1000000000) : ASpec Tryz.prog 101 [.sl .no (eCs a), .sl .no (eCs b)] (fun r => ∃ tag, r = .sl tag (eCs (mergeS a b))) := by
  refine ASpec.of_awpS Tryz.func101 (by kernel_rfl) rfl (by rw [Tryz.results101]) Tryz.ntmps101 ?_
  simp -implicitDefEqProofs
  refine CallK.via (newsC_spec a b hb) rfl ?_
  rintro _ ⟨tag, rfl⟩
  simp -implicitDefEqProofs
  have hc := concat_cells [a, newsC a b] (by simpa using h0) (by simp at ha ⊢; omega)
  refine CallK.fresh hc (by simp [eCss]) ?_
  rintro _ h' H ⟨b1, c, sp, rfl, rfl, hsp⟩ - hH -
  have k1 := hH b1 _ (one_self _ _)
  clear hH hc
  rw [show [a, newsC a b].flatten = a ++ newsC a b by simp] at *
  have em : (eCs (a ++ newsC a b)).flatten ++ sp = memC (a ++ newsC a b).toArray sp := rfl
  rw [em] at k1
  have hlen : (mergeS a b).length = (a ++ newsC a b).length := by
    unfold mergeS
    rw [Array.length_toList, ins_len]; simp
  have hss := sortsmall (a ++ newsC a b).toArray sp b1 c (by simpa using ha)
  have em2 : memC (Go.Sort.insertionSort (ltC nodeCmp) (a ++ newsC a b).toArray 0 (a ++ newsC a b).toArray.size) sp = (eCs (mergeS a b)).flatten ++ sp := rfl
  rw [em2, List.size_toArray] at hss
  generalize mergeS a b = m at *
  generalize a ++ newsC a b = l at *
  simp -implicitDefEqProofs
  refine CallK.mh hss rfl (SubH_one.2 (by simp [k1, Weak.refl])) ?_
  rintro r h' H2 rfl - hH -
  have k2 := hH b1 _ (one_self _ _)
  clear hH
  simp -implicitDefEqProofs
  refine shiftK.freeze (b := b1) (len := l.length) (cap := c) 4 48 (eCs m) (by simp) k2 (chunks_cells _ _) (by simp [hlen]) ?_ ?_
  · rw [List.length_append, eCs_flat, hlen]; exact hsp
  simp -implicitDefEqProofs
end Go.Proofs.YtjbbfiagijjdoaaGreat

/- Plain: cells that are put together. No condition. -/
set_option linter.unusedSimpArgs false
set_option linter.unusedVariables false
set_option maxRecDepth 10000
namespace Go.Proofs.YtjbbfiagijjdoaaGreat
open Go Go.Rw Go.Proofs

theorem ltnode (x y : PCell) : ltC nodeCmp x y = decide (x.node < y.node) := by
  unfold ltC nodeCmp cmpI
  by_cases h : x.node < y.node
  · simp [h]
  · by_cases h2 : y.node < x.node <;> simp [h, h2]
theorem swoNode : Go.Sort.SWO (ltC nodeCmp) := by
  refine ⟨fun x => ?_, fun x y z h1 h2 => ?_, fun x y z h1 h2 => ?_⟩
  · rw [ltnode]; simp
  · rw [ltnode] at *; simp at *; omega
  · rw [ltnode] at *; simp at *; omega
theorem mergeS_perm (a b : List PCell) : (mergeS a b).Perm (a ++ newsC a b) ∧ (mergeS a b).Pairwise (fun x y => x.node ≤ y.node) := by
  obtain ⟨⟨hsz, _, hp⟩, hs⟩ := Go.Sort.insertionSort_holds (lt := ltC nodeCmp) swoNode (a ++ newsC a b).toArray 0 (a ++ newsC a b).toArray.size (Nat.zero_le _) (Nat.le_refl _)
  unfold mergeS
  generalize Go.Sort.insertionSort (ltC nodeCmp) (a ++ newsC a b).toArray 0 (a ++ newsC a b).toArray.size = d at *
  refine ⟨?_, ?_⟩
  · rw [show d.extract 0 (a ++ newsC a b).toArray.size = d by rw [← hsz]; exact Array.extract_size, Array.extract_size] at hp
    exact hp
  · rw [List.pairwise_iff_getElem]
    intro i j hi hj hij
    have hi' : i < d.size := by simpa using hi
    have hj' : j < d.size := by simpa using hj
    have := hs i j (Nat.zero_le _) hij (by omega)
    rw [getElem!_pos d j hj', getElem!_pos d i hi', ltnode] at this
    simp at this
    simpa using this
/-- cells that can be -/
def okCs (l : List PCell) : Prop := l.Pairwise (fun x y => x.node < y.node) ∧ ∀ x ∈ l, 0 ≤ x.node ∧ x.node < 6
theorem ofC_some {l : List PCell} {n : Int} {v : PView} (h : ofC l n = some v) : ⟨n, v⟩ ∈ l := by
  unfold ofC at h
  cases hf : l.find? (fun c => decide (c.node = n)) with
  | none => rw [hf] at h; simp at h
  | some c =>
    rw [hf] at h
    have h1 := List.find?_some hf
    have h2 := List.mem_of_find?_eq_some hf
    simp at h h1
    obtain ⟨n2, v2⟩ := c
    simp at h h1
    subst h; subst h1
    exact h2
theorem ofC_none {l : List PCell} {n : Int} : ofC l n = none ↔ ∀ c ∈ l, ¬ c.node = n := by
  unfold ofC
  simp
theorem node_inj {l : List PCell} (hl : l.Pairwise (fun x y => x.node < y.node)) {x y : PCell} (hx : x ∈ l) (hy : y ∈ l) (h : x.node = y.node) : x = y := by
  induction l with
  | nil => simp at hx
  | cons z l ih =>
    rw [List.pairwise_cons] at hl
    rcases List.mem_cons.1 hx with hx1 | hx1
    · rcases List.mem_cons.1 hy with hy1 | hy1
      · rw [hx1, hy1]
      · have := hl.1 y hy1; rw [hx1] at h; omega
    · rcases List.mem_cons.1 hy with hy1 | hy1
      · have := hl.1 x hx1; rw [hy1] at h; omega
      · exact ih hl.2 hx1 hy1
theorem ofC_mem {l : List PCell} (hl : l.Pairwise (fun x y => x.node < y.node)) {x : PCell} : x ∈ l ↔ ofC l x.node = some x.change := by
  constructor
  · intro hx
    cases h : ofC l x.node with
    | none => exact absurd rfl (ofC_none.1 h x hx)
    | some v =>
      have := node_inj hl hx (ofC_some h) rfl
      rw [this]
  · intro h
    exact ofC_some h
theorem merge1_mem {a b : List PCell} {n : Int} {x : PCell} : x ∈ mergeC1 a b n ↔ x.node = n ∧ (ofC a n = some x.change ∨ (ofC a n = none ∧ ofC b n = some x.change)) := by
  obtain ⟨m, v⟩ := x
  unfold mergeC1
  cases ha : ofC a n with
  | some w =>
    simp
    exact fun _ => eq_comm
  | none =>
    cases hb : ofC b n with
    | some w =>
      simp
      exact fun _ => eq_comm
    | none => simp
theorem mergeCK_mem {a b : List PCell} {k : Nat} {x : PCell} : x ∈ mergeCK a b k ↔ (0 ≤ x.node ∧ x.node < k) ∧ (ofC a x.node = some x.change ∨ (ofC a x.node = none ∧ ofC b x.node = some x.change)) := by
  induction k with
  | zero => simp [mergeCK]; omega
  | succ k ih =>
    rw [mergeCK, List.mem_append, ih, merge1_mem]
    constructor
    · rintro (⟨⟨h1, h2⟩, h3⟩ | ⟨h1, h2⟩)
      · exact ⟨⟨h1, by omega⟩, h3⟩
      · subst_vars; exact ⟨⟨by omega, by omega⟩, by rw [h1]; exact h2⟩
    · rintro ⟨⟨h1, h2⟩, h3⟩
      by_cases h : x.node < k
      · exact .inl ⟨⟨h1, h⟩, h3⟩
      · have e : x.node = (k : Int) := by omega
        rw [e] at h3
        exact .inr ⟨e, h3⟩
theorem mergeCK_sorted (a b : List PCell) (k : Nat) : (mergeCK a b k).Pairwise (fun x y => x.node < y.node) := by
  induction k with
  | zero => simp [mergeCK]
  | succ k ih =>
    rw [mergeCK, List.pairwise_append]
    refine ⟨ih, ?_, fun x hx y hy => ?_⟩
    · have := mergeC1_le a b k
      match h : mergeC1 a b k with
      | [] => simp
      | [_] => simp
      | _ :: _ :: _ => rw [h] at this; simp at this
    · have h1 := (mergeCK_mem.1 hx).1
      have h2 := (merge1_mem.1 hy).1
      omega
theorem okCs_merge (a b : List PCell) : okCs (mergeC a b) := ⟨mergeCK_sorted a b 6, fun x hx => (mergeCK_mem.1 hx).1⟩
theorem nodup_of {l : List PCell} (hl : l.Pairwise (fun x y => x.node < y.node)) : l.Nodup := hl.imp fun h => by rintro rfl; omega
theorem mergeS_eq {a b : List PCell} (ha : okCs a) (hb : okCs b) : mergeS a b = mergeC a b := by
  obtain ⟨hp, hs⟩ := mergeS_perm a b
  have hn : newsC a b = b.filter fun c => !(ofC a c.node).isSome := rfl
  have hnews : ∀ x, x ∈ newsC a b ↔ x ∈ b ∧ ofC a x.node = none := by
    intro x
    rw [hn, List.mem_filter]
    cases h : ofC a x.node <;> simp
  have hd : (a ++ newsC a b).Nodup := by
    rw [List.nodup_append]
    refine ⟨nodup_of ha.1, (nodup_of hb.1).filter _, fun x hx y hy => ?_⟩
    rintro rfl
    have h1 := ((hnews x).1 hy).2
    exact ofC_none.1 h1 x hx rfl
  have hm : ∀ x, x ∈ a ++ newsC a b ↔ x ∈ mergeC a b := by
    intro x
    rw [List.mem_append, hnews, mergeC, mergeCK_mem, ofC_mem ha.1, ofC_mem hb.1]
    constructor
    · rintro (h | ⟨h1, h2⟩)
      · exact ⟨ha.2 x (ofC_some h), .inl h⟩
      · exact ⟨hb.2 x (ofC_some h1), .inr ⟨h2, h1⟩⟩
    · rintro ⟨_, h | ⟨h1, h2⟩⟩
      · exact .inl h
      · exact .inr ⟨h2, h1⟩
  have hperm : (mergeS a b).Perm (mergeC a b) := hp.trans ((List.perm_ext_iff_of_nodup hd (nodup_of (mergeCK_sorted a b 6))).2 hm)
  refine List.Perm.eq_of_pairwise (le := fun x y => x.node ≤ y.node) (fun x y hx hy h1 h2 => ?_) hs ((mergeCK_sorted a b 6).imp fun h => by omega) hperm
  exact node_inj (mergeCK_sorted a b 6) ((hperm.mem_iff).1 hx) hy (by omega)
theorem okCs_len {l : List PCell} (h : okCs l) : l.length ≤ 6 := by
  have e : mergeS l [] = mergeC l [] := mergeS_eq h ⟨List.Pairwise.nil, fun x hx => by simp at hx⟩
  have h1 := (mergeS_perm l []).1.length_eq
  have h2 := mergeCK_le l [] 6
  rw [e] at h1
  simp [newsC] at h1
  rw [mergeC] at h1
  omega
theorem news_len {a b : List PCell} (ha : okCs a) (hb : okCs b) : (a ++ newsC a b).length ≤ 12 := by
  have h1 := okCs_len ha
  have h2 := okCs_len hb
  have h3 : (newsC a b).length ≤ b.length := List.length_filter_le _ _
  rw [List.length_append]; omega
end Go.Proofs.YtjbbfiagijjdoaaGreat

/- Records: plain data, and how they lie in Go. No condition. -/
set_option linter.unusedSimpArgs false
set_option linter.unusedVariables false
namespace Go.Proofs.YtjbbfiagijjdoaaGreat
open Go Go.Rw Go.Proofs

structure PRec where
  kind : Int
  view : PView
  cell : PCell
  entry : PEntry
  n : Int
  deriving DecidableEq
def zV : PView := ⟨0, 0⟩
def zC : PCell := ⟨0, ⟨0, 0⟩⟩
def zE : PEntry := ⟨0, ⟨0, 0⟩, 0⟩
def zR : PRec := ⟨0, zV, zC, zE, 0⟩
/-- what its kind has alone -/
def bareR (r : PRec) : PRec :=
  if r.kind = 1 then ⟨1, r.view, zC, r.entry, 0⟩
  else if r.kind = 2 then ⟨2, r.view, r.cell, zE, 0⟩
  else if r.kind = 5 then ⟨5, r.view, ⟨0, r.cell.change⟩, zE, 0⟩
  else if r.kind = 3 then ⟨3, r.view, zC, zE, 0⟩
  else if r.kind = 4 ∨ r.kind = 6 then ⟨r.kind, zV, zC, zE, r.n⟩
  else ⟨r.kind, zV, zC, zE, 0⟩
def sameR (a b : PRec) : Bool := decide (a.kind = b.kind) && (decide (a.view.add = b.view.add) && decide (a.view.del = b.view.del)) && (decide (a.cell.node = b.cell.node) && (decide (a.cell.change.add = b.cell.change.add) && decide (a.cell.change.del = b.cell.change.del))) && decide (a.n = b.n) && sameE a.entry b.entry
def sameRs : List PRec → List PRec → Bool
  | [], [] => true
  | x :: l, y :: m => sameR x y && sameRs l m
  | _, _ => false
/-- the record can be -/
def rightR (r : PRec) : Bool :=
  decide (1 ≤ r.kind ∧ r.kind ≤ 6) && sameR r (bareR r) && rightV r.view && rightV r.cell.change && decide (0 ≤ r.cell.node ∧ r.cell.node < 6) &&
  (if r.kind = 1 then checkE (-1) [r.entry] else if r.kind = 2 ∨ r.kind = 5 then decide (0 < sizeV r.cell.change) else if r.kind = 4 ∨ r.kind = 6 then decide (1 ≤ r.n ∧ r.n ≤ 1000000) else true)
def numsR (r : PRec) : List Nat :=
  if r.kind = 1 then [r.kind.toNat, (nameV r.view).toNat, r.entry.key.toNat, r.entry.tag.num.toNat, r.entry.tag.node.toNat, bitsF r.entry.value]
  else if r.kind = 2 then [r.kind.toNat, (nameV r.view).toNat, r.cell.node.toNat, (nameV r.cell.change).toNat]
  else if r.kind = 5 then [r.kind.toNat, (nameV r.view).toNat, (nameV r.cell.change).toNat]
  else if r.kind = 3 then [r.kind.toNat, (nameV r.view).toNat]
  else [r.kind.toNat, r.n.toNat]
def bodyR (r : PRec) : List UInt8 := sealF (forms (numsR r))
/-- a record's bytes -/
def recB (r : PRec) : List UInt8 := formF (bodyR r).length ++ bodyR r
def bytesR (r : PRec) : Option (List UInt8) := if rightR r = true then some (recB r) else none
def smallN (n : Nat) : Nat := min n 1099511627776
def nmdV (n : Nat) : Option PView := if smallN n < 4096 then some ⟨smallN n / 64, smallN n % 64⟩ else none
/-- the record of its numbers -/
def parseR (ns : List Nat) : Option PRec :=
  match ns with
  | [k, v, a, b, c, x] => if k = 1 then (nmdV v).bind fun w => if bitsF (ofF x) = x ∧ rightR ⟨1, w, zC, ⟨smallN a, ⟨smallN b, smallN c⟩, ofF x⟩, 0⟩ = true then some ⟨1, w, zC, ⟨smallN a, ⟨smallN b, smallN c⟩, ofF x⟩, 0⟩ else none else none
  | [k, v, a, b] => if k = 2 then (nmdV v).bind fun w => (nmdV b).bind fun u => if rightR ⟨2, w, ⟨smallN a, u⟩, zE, 0⟩ = true then some ⟨2, w, ⟨smallN a, u⟩, zE, 0⟩ else none else none
  | [k, v, b] => if k = 5 then (nmdV v).bind fun w => (nmdV b).bind fun u => if rightR ⟨5, w, ⟨0, u⟩, zE, 0⟩ = true then some ⟨5, w, ⟨0, u⟩, zE, 0⟩ else none else none
  | [k, v] => if k = 3 then (nmdV v).bind fun w => if rightR ⟨3, w, zC, zE, 0⟩ = true then some ⟨3, w, zC, zE, 0⟩ else none
    else if k = 4 ∨ k = 6 then (if rightR ⟨k, zV, zC, zE, smallN v⟩ = true then some ⟨k, zV, zC, zE, smallN v⟩ else none) else none
  | _ => none
def cutF (b : List UInt8) : Option (List UInt8 × List UInt8) := match getF b with
  | none => none
  | some (n, r) => if 4000 < n ∨ r.length < n then none else some (r.take n, r.drop n)
/-- all numbers of bytes -/
def allF (b : List UInt8) : Option (List Nat) := getsF b.length b
def oneR (t : List UInt8) : Option PRec := match openF t with
  | none => none
  | some b => match allF b with
    | none => none
    | some ns => parseR ns
def stepS (b : List UInt8) : Option (PRec × Nat) := match cutF b with
  | none => none
  | some (t, r) => match oneR t with
    | none => none
    | some x => some (x, b.length - r.length)
def scanK : Nat → List UInt8 → List PRec × Nat
  | 0, _ => ([], 0)
  | k + 1, b => match stepS b with
    | none => ([], 0)
    | some (r, n) => (r :: (scanK k (b.drop n)).1, n + (scanK k (b.drop n)).2)
/-- the records with which bytes begin, and how many bytes they are -/
def scanR (b : List UInt8) : List PRec × Nat := scanK b.length b

def eRc (r : PRec) : List AV := [eI r.kind, eI r.view.add, eI r.view.del, eI r.cell.node, eI r.cell.change.add, eI r.cell.change.del, eI r.entry.key, eI r.entry.tag.num, eI r.entry.tag.node, .v (.float .f64 r.entry.value), eI r.n]
def eRs (l : List PRec) : List (List AV) := l.map eRc
@[simp] theorem eRs_length (l : List PRec) : (eRs l).length = l.length := by simp [eRs]
@[simp] theorem eRs_get (l : List PRec) (i : Nat) : (eRs l)[i]? = (l[i]?).map eRc := by simp [eRs]
@[simp] theorem eRs_nil : eRs [] = [] := rfl
@[simp] theorem eRs_append (l m : List PRec) : eRs l ++ eRs m = eRs (l ++ m) := by simp [eRs]
@[simp] theorem eRs_take (l : List PRec) (i : Nat) : (eRs l).take i = eRs (l.take i) := by simp [eRs]
@[simp] theorem eRs_drop (l : List PRec) (i : Nat) : (eRs l).drop i = eRs (l.drop i) := by simp [eRs]
theorem eRs_one (l : List PRec) : ∀ r ∈ eRs l, r.length = 11 := by
  intro r hr
  obtain ⟨b, _, rfl⟩ := List.mem_map.1 hr
  rfl
@[simp] theorem eRs_rows (l : List PRec) : (∀ r : List AV, r ∈ eRs l → r.length = 11) ↔ True := iff_of_true (eRs_one l) trivial
end Go.Proofs.YtjbbfiagijjdoaaGreat

/- Plain: a state, and sorted lists. No condition. -/
set_option linter.unusedSimpArgs false
set_option linter.unusedVariables false
set_option maxRecDepth 10000
namespace Go.Proofs.YtjbbfiagijjdoaaGreat
open Go Go.Rw Go.Proofs

structure PVB where
  view : PView
  book : List PEntry
structure PVC where
  view : PView
  cells : List PCell
structure PVI where
  view : PView
  change : PView
def eVB (x : PVB) : List AV := [eI x.view.add, eI x.view.del, .sl .no (eEs x.book)]
def eVC (x : PVC) : List AV := [eI x.view.add, eI x.view.del, .sl .no (eCs x.cells)]
def eVI (x : PVI) : List AV := [eI x.view.add, eI x.view.del, eI x.change.add, eI x.change.del]
structure PState where
  books : List PVB
  cells : List PVC
  intents : List PVI
  held : PView
  inc : Int
  last : Int
def eSt (s : PState) : List AV := [.sl .no (s.books.map eVB), .sl .no (s.cells.map eVC), .sl .no (s.intents.map eVI), eI s.held.add, eI s.held.del, eI s.inc, eI s.last]

/-! ### sorted lists -/
section
variable {α : Type} (key : α → Int)
/-- how many stand ahead of a name -/
def posK (l : List α) (n : Int) : Nat := (l.filter fun x => decide (key x < n)).length
def hasK (l : List α) (n : Int) : Bool := l.any fun x => decide (key x = n)
def sortK (l : List α) : Prop := l.Pairwise fun x y => key x < key y
/-- what is put stands in its place -/
def putK (l : List α) (x : α) : List α := (l.filter fun y => decide (key y < key x)) ++ x :: l.filter fun y => decide (key x < key y)
variable {key}
theorem posK_le (l : List α) (n : Int) : posK key l n ≤ l.length := List.length_filter_le _ _
theorem take_posK {l : List α} (h : sortK key l) (n : Int) : l.take (posK key l n) = l.filter (fun x => decide (key x < n)) ∧ l.drop (posK key l n) = l.filter (fun x => decide (¬ key x < n)) := by
  induction l with
  | nil => simp [posK]
  | cons x l ih =>
    unfold sortK at h
    rw [List.pairwise_cons] at h
    obtain ⟨h1, h2⟩ := h
    obtain ⟨i1, i2⟩ := ih h2
    unfold posK at *
    by_cases hx : key x < n
    · simp only [hx, decide_true, List.filter_cons_of_pos, List.length_cons, List.take_succ_cons, List.drop_succ_cons, not_true, decide_false, Bool.false_eq_true, not_false_eq_true, List.filter_cons_of_neg]
      exact ⟨by rw [i1], i2⟩
    · have hn : ∀ y ∈ l, ¬ key y < n := fun y hy => by have := h1 y hy; omega
      have e1 : l.filter (fun x => decide (key x < n)) = [] := List.filter_eq_nil_iff.2 fun y hy => by simpa using Int.not_lt.1 (hn y hy)
      have e2 : l.filter (fun x => decide (¬ key x < n)) = l := List.filter_eq_self.2 fun y hy => by simpa using Int.not_lt.1 (hn y hy)
      rw [List.filter_cons_of_neg (by simpa using hx), e1, List.filter_cons_of_pos (by simpa using hx), e2]
      simp
theorem posK_lt {l : List α} (h : sortK key l) {n : Int} {i : Nat} {x : α} (hx : l[i]? = some x) : key x < n ↔ i < posK key l n := by
  obtain ⟨h1, h2⟩ := take_posK h n
  have hi : i < l.length := by
    rcases Nat.lt_or_ge i l.length with h | h
    · exact h
    · rw [List.getElem?_eq_none h] at hx; simp at hx
  constructor
  · intro hk
    rcases Nat.lt_or_ge i (posK key l n) with h3 | h3
    · exact h3
    · have hm : x ∈ l.drop (posK key l n) := by
        rw [List.mem_drop_iff_getElem]
        refine ⟨i - posK key l n, by omega, ?_⟩
        rw [List.getElem?_eq_getElem hi] at hx
        simp only [show posK key l n + (i - posK key l n) = i by omega]
        exact Option.some.inj hx
      rw [h2, List.mem_filter] at hm
      simp at hm; omega
  · intro hk
    have hm : x ∈ l.take (posK key l n) := by
      rw [List.mem_take_iff_getElem]
      rw [List.getElem?_eq_getElem hi] at hx
      exact ⟨i, by omega, Option.some.inj hx⟩
    rw [h1, List.mem_filter] at hm
    simpa using hm.2
theorem hasK_at {l : List α} (h : sortK key l) (n : Int) : (∃ x, l[posK key l n]? = some x ∧ key x = n ∧ hasK key l n = true) ∨ ((∀ x, l[posK key l n]? = some x → ¬ key x = n) ∧ hasK key l n = false) := by
  by_cases hh : hasK key l n = true
  · left
    have hh2 := hh
    rw [hasK, List.any_eq_true] at hh2
    obtain ⟨x, hx, hk⟩ := hh2
    simp at hk
    obtain ⟨i, hi, e⟩ := List.mem_iff_getElem.1 hx
    have hxi : l[i]? = some x := by rw [List.getElem?_eq_getElem hi, e]
    have hge : posK key l n ≤ i := by
      rcases Nat.lt_or_ge i (posK key l n) with h3 | h3
      · have := (posK_lt h hxi).2 h3; omega
      · exact h3
    have hlt : posK key l n < l.length := by omega
    have hy : l[posK key l n]? = some l[posK key l n] := List.getElem?_eq_getElem hlt
    have h5 : ¬ key l[posK key l n] < n := fun h6 => by have := (posK_lt h hy).1 h6; omega
    rcases Nat.lt_or_ge (posK key l n) i with h4 | h4
    · have h7 := (List.pairwise_iff_getElem.1 h) (posK key l n) i hlt hi h4
      rw [e] at h7; omega
    · have e2 : posK key l n = i := by omega
      refine ⟨x, by rw [e2]; exact hxi, hk, hh⟩
  · right
    refine ⟨fun x hx hk => hh ?_, by simpa using hh⟩
    rw [hasK, List.any_eq_true]
    exact ⟨x, List.mem_of_getElem? hx, by simpa using hk⟩
end
end Go.Proofs.YtjbbfiagijjdoaaGreat

/- Contracts: where something stands by its view (api.ViewBook). Printed by sort/gen.py. No condition. -/
set_option linter.unusedSimpArgs false
set_option linter.unusedVariables false
set_option maxRecDepth 10000
namespace Go.Proofs.YtjbbfiagijjdoaaGreat
open Go Go.Rw Go.Proofs
-- a goal is never to be run by the elaborator
attribute [local irreducible] awp aops aop aopsE aeff

@[simp] theorem vTfVB : vT Tryz.prog 112 = some (1, false) := by kernel_rfl
def keyVB (x : PVB) : Int := nameV x.view
def rowsVB (l : List PVB) : List (List AV) := l.map eVB
@[simp] theorem rowsVB_length (l : List PVB) : (rowsVB l).length = l.length := by simp [rowsVB]
@[simp] theorem rowsVB_get (l : List PVB) (i : Nat) : (rowsVB l)[i]? = (l[i]?).map eVB := by simp [rowsVB]
@[simp] theorem rowsVB_nil : rowsVB [] = [] := rfl
@[simp] theorem rowsVB_append (l m : List PVB) : rowsVB l ++ rowsVB m = rowsVB (l ++ m) := by simp [rowsVB]
theorem rowsVB_one (l : List PVB) : ∀ r ∈ rowsVB l, r.length = 3 := by
  intro r hr
  obtain ⟨c, _, rfl⟩ := List.mem_map.1 hr
  rfl
@[simp] theorem rowsVB_rows (l : List PVB) : (∀ r : List AV, r ∈ rowsVB l → r.length = 3) ↔ True := iff_of_true (rowsVB_one l) trivial
theorem ofVB_spec (x : PVB) : ASpec Tryz.prog 88 [.agg (eVB x)] (· = .agg (eV x.view)) := by
  refine ASpec.of_awp Tryz.func88 (by kernel_rfl) rfl (by rw [Tryz.results88]) Tryz.ntmps88 ?_
  simp -implicitDefEqProofs [eVB]
  refine allocK.intro (fun b1 hb1 => ?_)
  simp -implicitDefEqProofs
  refine allocK.intro (fun b2 hb2 => ?_)
  have n12 : ¬ b1 = b2 := by rintro rfl; simp at hb2
  have n21 : ¬ b2 = b1 := fun h => n12 h.symm
  simp -implicitDefEqProofs [n12, n21, eV]
theorem shelvedVB_spec : ASpec Tryz.prog 87 [.fn 88 []] (· = .agg [.fn 88 []]) := by
  refine ASpec.of_awp Tryz.func87 (by kernel_rfl) rfl (by rw [Tryz.results87]) Tryz.ntmps87 ?_
  simp -implicitDefEqProofs
  refine allocK.intro (fun b1 hb1 => ?_)
  simp -implicitDefEqProofs
theorem placeKeyVB_spec (x : PVB) (b : Nat) (n : Int) (h : rightV x.view = true) : MSpec Tryz.prog 149 [.agg (eVB x), eI n, .ptr b 0] (one b [.fn 88 []]) (fun r h' => r = eI (cmpI (keyVB x) n) ∧ h' = one b [.fn 88 []]) := by
  refine MSpec.of_awp Tryz.func149 (by kernel_rfl) rfl (by rw [Tryz.results149]) Tryz.ntmps149 ?_
  simp -implicitDefEqProofs [eVB]
  refine allocK.intro (fun b1 hb1 => ?_)
  have n1 : ¬ b1 = b := by rintro rfl; simp at hb1
  have n2 : ¬ b = b1 := fun h => n1 h.symm
  simp -implicitDefEqProofs [n1, n2]
  refine CallK.with (ofVB_spec x) (by simp [eVB]) ?_
  simp -implicitDefEqProofs [eV]
  refine CallK.with (change_name x.view h) (by simp [eV]) ?_
  simp -implicitDefEqProofs
  refine CallK.eq (compare_int (nameV x.view) n) ?_
  simp -implicitDefEqProofs [n1, n2, keyVB]
def BsVBI (l : List PVB) (n : Int) (g : FuncId) (b : Nat) (c : List AV) (t : Nat → AV) (h : Nat → Option (List AV)) : Prop := ∃ i j : Nat, t 0 = .sl .no (rowsVB l) ∧ t 1 = eI n ∧ t 2 = .fn g [.ptr b 0] ∧ t 8 = eI l.length ∧ t 9 = eI i ∧ t 10 = eI j ∧ i ≤ posK keyVB l n ∧ posK keyVB l n ≤ j ∧ j ≤ l.length ∧ h b = some c
def BsVBM (l : List PVB) (n : Int) (g : FuncId) (b : Nat) (c : List AV) (t : Nat → AV) (h : Nat → Option (List AV)) : Prop := t 0 = .sl .no (rowsVB l) ∧ t 1 = eI n ∧ t 2 = .fn g [.ptr b 0] ∧ t 8 = eI l.length ∧ t 9 = eI (posK keyVB l n) ∧ h b = some c
theorem bsearchVB_spec (g : FuncId) (b : Nat) (c : List AV) (l : List PVB) (n : Int) (hs : sortK keyVB l) (hl : l.length ≤ 1000000000) (hf : ∀ x ∈ l, MSpec Tryz.prog g [.agg (eVB x), eI n, .ptr b 0] (one b c) (fun r h' => r = eI (cmpI (keyVB x) n) ∧ h' = one b c)) :
    MSpec Tryz.prog 148 [.sl .no (rowsVB l), eI n, .fn g [.ptr b 0]] (one b c) (fun r h' => r = .tup [eI (posK keyVB l n), .v (.bool (hasK keyVB l n))] ∧ h' = one b c) := by
  have hp := posK_le (key := keyVB) l n
  refine MSpec.of_awp Tryz.func148 (by kernel_rfl) rfl (by rw [Tryz.results148]) Tryz.ntmps148 ?_
  simp -implicitDefEqProofs
  intro _
  refine loopK.post (BsVBI l n g b c) (fun t => natOf (t 10) - natOf (t 9)) (BsVBM l n g b c) ?_ ?_ ?_
  · exact ⟨0, l.length, by simp, by simp, by simp, by simp, by simp, by simp, by omega, hp, by omega, by simp⟩
  · rintro t hh ⟨i, j, g0, g1, g2, g8, g9, g10, hi, hj, hjl, hb⟩
    have hm9 : natOf (t 9) = i := by rw [g9]; simp
    have hm10 : natOf (t 10) = j := by rw [g10]; simp
    by_cases hlt : i < j
    · have hlt' : (i : Int) < (j : Int) := by omega
      have w1 : IntKind.i64.wrap ((i : Int) + (j : Int)) = (i : Int) + (j : Int) := w64 (by omega) (by omega)
      have w2 : IntKind.u64.wrap ((i : Int) + (j : Int)) = (i : Int) + (j : Int) := by
        simp [IntKind.wrap, IntKind.bits, IntKind.signed]; omega
      obtain ⟨m, hm⟩ : ∃ m : Nat, m = (i + j) / 2 := ⟨_, rfl⟩
      have w3 : ((i : Int) + (j : Int)) / 2 = (m : Int) := by omega
      have w4 : IntKind.i64.wrap (m : Int) = (m : Int) := w64 (by omega) (by omega)
      have w4' : IntKind.u64.wrap (m : Int) = (m : Int) := by
        simp [IntKind.wrap, IntKind.bits, IntKind.signed]; omega
      have w5 : IntKind.i64.wrap ((m : Int) + 1) = ((m + 1 : Nat) : Int) := by rw [w64 (by omega) (by omega)]; omega
      have hml : m < l.length := by omega
      obtain ⟨x, hx⟩ : ∃ x, l[m]? = some x := ⟨l[m], by simp [hml]⟩
      have hpk := posK_lt hs (n := n) hx
      have s1 : Int.fdiv ((i : Int) + (j : Int)) (2 ^ min 1 IntKind.u64.bits) = (m : Int) := by
        have := shr_u64 (i + j) 1 (by omega)
        rw [hm]
        simpa using this
      have hml' : (m : Int) < (l.length : Int) := by omega
      simp -implicitDefEqProofs [g0, g1, g2, g9, g10, hlt', hlt, w1, w2, w3, w4, w4', hx, hml', eVB, aNum_shr, s1]
      refine CallK.one (hf x (List.mem_of_getElem? hx)) (by simp [eVB]) (by simp [hb, Weak.refl]) ?_
      have hcm : (cmpI (keyVB x) n < 0) ↔ keyVB x < n := by
        unfold cmpI
        by_cases h1 : keyVB x < n
        · simp [h1]
        · by_cases h2 : n < keyVB x <;> simp [h1, h2]
      by_cases hk : keyVB x < n
      · have hk1 := hcm.2 hk
        have hk2 := hpk.1 hk
        simp -implicitDefEqProofs [hk1, w5]
        exact ⟨⟨m + 1, j, by simp [g0], by simp [g1], by simp [g2], by simp [g8], by simp, by simp [g10], by omega, hj, hjl, by simp⟩, by first | omega | (simp [g9, g10]; omega)⟩
      · have hk1 : ¬ cmpI (keyVB x) n < 0 := fun h => hk (hcm.1 h)
        have hk2 : posK keyVB l n ≤ m := by
          rcases Nat.lt_or_ge m (posK keyVB l n) with h | h
          · exact absurd (hpk.2 h) hk
          · exact h
        simp -implicitDefEqProofs [hk1]
        exact ⟨⟨i, m, by simp [g0], by simp [g1], by simp [g2], by simp [g8], by simp [g9], by simp, hi, hk2, by omega, by simp⟩, by first | omega | (simp [g9, g10]; omega) | (simp [g9, g10, upd]; omega)⟩
    · have hlt' : ¬ (i : Int) < (j : Int) := by omega
      obtain rfl : i = posK keyVB l n := by omega
      simp -implicitDefEqProofs [g9, g10, hlt', hlt]
      exact ⟨by simp [g0], by simp [g1], by simp [g2], by simp [g8], by simp [g9], hb⟩
  rintro t hh ⟨g0, g1, g2, g8, g9, hb⟩
  have hcz : ∀ x : PVB, (cmpI (keyVB x) n = 0) ↔ keyVB x = n := fun x => by
    unfold cmpI
    by_cases h1 : keyVB x < n
    · have h3 : ¬ keyVB x = n := by omega
      simp [h1, h3]
    · by_cases h2 : n < keyVB x
      · have h3 : ¬ keyVB x = n := by omega
        simp [h1, h2, h3]
      · have h3 : keyVB x = n := by omega
        simp [h3]
  have hat := hasK_at hs n
  generalize posK keyVB l n = p at *
  by_cases hlt : p < l.length
  · have hlt' : (p : Int) < (l.length : Int) := by omega
    obtain ⟨x, hx⟩ : ∃ x, l[p]? = some x := ⟨l[p], by simp [hlt]⟩
    simp -implicitDefEqProofs [g0, g1, g2, g8, g9, hlt', hx, eVB]
    refine CallK.one (hf x (List.mem_of_getElem? hx)) (by simp [eVB]) (by simp [hb, Weak.refl]) ?_
    by_cases hk : keyVB x = n
    · have h1 := (hcz x).2 hk
      have h2 : hasK keyVB l n = true := by
        rcases hat with ⟨y, h3, h4, h5⟩ | ⟨h3, h4⟩
        · exact h5
        · exact absurd hk (h3 x hx)
      simp -implicitDefEqProofs [h1, h2, g9, hb, Weak.refl]
    · have h1 : ¬ cmpI (keyVB x) n = 0 := fun h => hk ((hcz x).1 h)
      have h2 : hasK keyVB l n = false := by
        rcases hat with ⟨y, h3, h4, h5⟩ | ⟨h3, h4⟩
        · rw [hx] at h3; cases h3; exact absurd h4 hk
        · exact h4
      simp -implicitDefEqProofs [h1, h2, g9, hb, Weak.refl]
  · have hlt' : ¬ (p : Int) < (l.length : Int) := by omega
    have h2 : hasK keyVB l n = false := by
      rcases hat with ⟨y, h3, h4, h5⟩ | ⟨h3, h4⟩
      · rw [List.getElem?_eq_none (by omega)] at h3; simp at h3
      · exact h4
    simp -implicitDefEqProofs [g0, g1, g2, g8, g9, hlt', h2, hb, Weak.refl]
theorem placeVB_spec (l : List PVB) (v : PView) (hs : sortK keyVB l) (hl : l.length ≤ 1000000000) (hr : ∀ x ∈ l, rightV x.view = true) (hv : rightV v = true) :
    ASpec Tryz.prog 89 [.agg [.fn 88 []], .sl .no (rowsVB l), .agg (eV v)] (· = .tup [eI (posK keyVB l (nameV v)), .v (.bool (hasK keyVB l (nameV v)))]) := by
  refine ASpec.of_awp Tryz.func89 (by kernel_rfl) rfl (by rw [Tryz.results89]) Tryz.ntmps89 ?_
  simp -implicitDefEqProofs [eV]
  refine allocK.intro (fun b1 hb1 => ?_)
  simp -implicitDefEqProofs
  refine allocK.intro (fun b2 hb2 => ?_)
  have n12 : ¬ b1 = b2 := by rintro rfl; simp at hb2
  have n21 : ¬ b2 = b1 := fun h => n12 h.symm
  simp -implicitDefEqProofs [n12, n21]
  refine CallK.with (change_name v hv) (by simp [eV]) ?_
  simp -implicitDefEqProofs [n12, n21]
  refine CallK.one (bsearchVB_spec 149 b1 [.fn 88 []] l (nameV v) hs hl (fun x hx => placeKeyVB_spec x b1 (nameV v) (hr x hx))) rfl (by simp [n12, Weak.refl]) ?_
  simp -implicitDefEqProofs
end Go.Proofs.YtjbbfiagijjdoaaGreat

/- Contracts: something is put in its place (api.ViewBook). Printed by sort/gen.py. No condition. -/
set_option linter.unusedSimpArgs false
set_option linter.unusedVariables false
set_option maxRecDepth 10000
namespace Go.Proofs.YtjbbfiagijjdoaaGreat
open Go Go.Rw Go.Proofs
-- a goal is never to be run by the elaborator
attribute [local irreducible] awp aops aop aopsE aeff

theorem deadVB (l : List PVB) : (rowsVB l).flatten.map dead1 = (rowsVB l).flatten := by
  induction l with
  | nil => rfl
  | cons x l ih => simp [rowsVB, eVB, dead1] at *; try exact ih
theorem dead2VB (l : List PVB) : (rowsVB l).map (List.map dead1) = rowsVB l := by
  induction l with
  | nil => rfl
  | cons x l ih => simp [rowsVB, eVB, dead1] at *; try exact ih
theorem flenVB (l : List PVB) : (rowsVB l).flatten.length = l.length * 3 := by
  rw [flat_len (rowsVB_one l)]; simp
theorem chunksVB (l : List PVB) (sp : List AV) : chunks ((rowsVB l).flatten ++ sp) (rowsVB l) 3 := by
  refine ⟨rowsVB_one l, ?_, ?_, ?_⟩
  · rw [show (rowsVB l).length * 3 = (rowsVB l).flatten.length by rw [flenVB]; simp, List.take_left, deadVB]
  · rw [List.length_append, flenVB]; simp
  · intro r hr x hx
    obtain ⟨c, _, rfl⟩ := List.mem_map.1 hr
    simp [eVB] at hx
    rcases hx with rfl | rfl | rfl <;> rfl
def ClVBR (l : List PVB) (r : AV) : Prop := (∃ tag, (tag = .nil ∨ tag = .full) ∧ r = .sl tag [] ∧ l = []) ∨ (rowsVB l ≠ [] ∧ r = .sl (.live 89 3 true) (rowsVB l))
theorem cloneVB_own (l : List PVB) (hl : l.length * 40 ≤ 140737488355328) : ASpec Tryz.prog 126 [.sl .no (rowsVB l)] (ClVBR l) := by
  refine ASpec.of_awp Tryz.func126 (by kernel_rfl) rfl (by rw [Tryz.results126]) Tryz.ntmps126 ?_
  simp -implicitDefEqProofs
  refine nilK.intro (fun h => ?_) ?_
  · have h' : l = [] := by simpa [rowsVB] using h
    simp -implicitDefEqProofs [h]; exact .inl ⟨_, .inl rfl, rfl, h'⟩
  · simp -implicitDefEqProofs [hl]
    by_cases h : l = []
    · subst h; exact .inl ⟨_, .inr rfl, rfl, rfl⟩
    · have h' : rowsVB l ≠ [] := by simpa [rowsVB] using h
      exact .inr ⟨h', by rw [appTag_full h']⟩
theorem insertVB_mn (x : PVB) : MSpec Tryz.prog 154 [.mn, eI 0, .sl .no [eVB x]] (fun _ => none) (fun r h' => ∃ b c sp, r = .sm b 0 1 c ∧ h' = one b (eVB x ++ sp) ∧ 3 + sp.length = c * 3) := by
  refine MSpec.of_awp Tryz.func154 (by kernel_rfl) rfl (by rw [Tryz.results154]) Tryz.ntmps154 ?_
  simp -implicitDefEqProofs [eVB]
  refine growMnK.intro (fun h => by simp at h) fun _ b c sp hb hc hsp => ?_
  simp -implicitDefEqProofs
  simp at hsp
  exact ⟨_, SubH_one.2 (by simp; exact Weak.refl _), b, c, ⟨rfl, rfl⟩, sp, rfl, by omega⟩
theorem lay_atVB (P T X : List AV) : overlay (P ++ T) P.length X = P ++ X ++ T.drop X.length := by
  unfold overlay
  rw [List.take_left, List.drop_append, List.drop_of_length_le (by omega), List.nil_append, Nat.add_sub_cancel_left]
theorem lay_twiceVB (P T X Y : List AV) : overlay (overlay (P ++ T) P.length X) (P.length + X.length) Y = P ++ X ++ Y ++ T.drop (X.length + Y.length) := by
  rw [lay_atVB, ← List.length_append, lay_atVB, List.drop_drop]
theorem lay_backVB (P T R Q : List AV) (h : R.length ≤ T.length) : overlay (overlay (P ++ T) (P.length + R.length) Q) P.length R = P ++ R ++ Q ++ T.drop (R.length + Q.length) := by
  have e : overlay (P ++ T) (P.length + R.length) Q = P ++ (T.take R.length ++ (Q ++ T.drop (R.length + Q.length))) := by
    unfold overlay
    rw [List.take_append, List.take_of_length_le (by omega), Nat.add_sub_cancel_left, List.drop_append, List.drop_of_length_le (by omega), List.nil_append, show P.length + R.length + Q.length - P.length = R.length + Q.length by omega]
    simp only [List.append_assoc]
  rw [e, lay_atVB, List.drop_append, List.drop_of_length_le (by rw [List.length_take]; omega), List.nil_append, List.length_take, Nat.min_eq_left h, Nat.sub_self, List.drop_zero]
  simp only [List.append_assoc]
/-- behind an insertion -/
def insVB (l : List PVB) (i : Nat) (x : PVB) : List PVB := l.take i ++ x :: l.drop i
theorem insertVB_sm (l : List PVB) (i b cap : Nat) (sp : List AV) (x : PVB) (h0 : 0 < l.length) (hi : i ≤ l.length) (hl : l.length ≤ 1000000000) (hsp : l.length * 3 + sp.length = cap * 3) :
    MSpec Tryz.prog 154 [.sm b 0 l.length cap, eI i, .sl .no [eVB x]] (one b ((rowsVB l).flatten ++ sp)) (fun r h' => ∃ b' c' sp', r = .sm b' 0 (l.length + 1) c' ∧ h' = one b' ((rowsVB (insVB l i x)).flatten ++ sp') ∧ (l.length + 1) * 3 + sp'.length = c' * 3) := by
  refine MSpec.of_awp Tryz.func154 (by kernel_rfl) rfl (by rw [Tryz.results154]) Tryz.ntmps154 ?_
  have hlen := flenVB l
  have hcl : ((rowsVB l).flatten ++ sp).length = cap * 3 := by rw [List.length_append, hlen]; exact hsp
  have w1 : IntKind.i64.wrap ((l.length : Int) + 1) = ((l.length + 1 : Nat) : Int) := by rw [w64 (by omega) (by omega)]; omega
  generalize hA : (rowsVB l).flatten ++ sp = A at *
  have hne : ¬ l = [] := by rintro rfl; simp at h0
  by_cases hil : i = l.length
  · subst hil
    simp -implicitDefEqProofs [eVB, hne, hcl]
    intro _
    refine ⟨by omega, growSmK.intro fun b' c' spare hb' hc' hsp' => ?_⟩
    have htk : (A.take (l.length * 3)).map dead1 = (rowsVB l).flatten := by rw [← hA, ← hlen, List.take_left, deadVB]
    have hfin : (A.take (l.length * 3)).map dead1 ++ [eVB x].flatten.map dead1 ++ spare = (rowsVB (insVB l l.length x)).flatten ++ spare := by
      rw [htk]; simp [insVB, rowsVB, eVB, dead1]
    simp only [eVB] at hfin
    rw [hfin]
    simp -implicitDefEqProofs
    simp at hsp'
    exact ⟨_, SubH_one.2 (by simp; exact Weak.refl _), b', c', ⟨rfl, rfl⟩, spare, rfl, by omega⟩
  · have hlt : i < l.length := by omega
    have hil' : ¬ (i : Int) = (l.length : Int) := by omega
    have hlt' : (i : Int) < (l.length : Int) := by omega
    have hle : i ≤ l.length := hi
    have hti : (l.take i).length = i := by rw [List.length_take]; omega
    have hP : (rowsVB (l.take i)).flatten.length = i * 3 := by rw [flenVB, hti]
    have hQl : (rowsVB (l.drop i)).flatten.length = (l.length - i) * 3 := by rw [flenVB, List.length_drop]
    have hsplit : (rowsVB l).flatten = (rowsVB (l.take i)).flatten ++ (rowsVB (l.drop i)).flatten := by
      rw [← List.flatten_append, rowsVB_append, List.take_append_drop]
    have hins : (rowsVB (insVB l i x)).flatten = (rowsVB (l.take i)).flatten ++ eVB x ++ (rowsVB (l.drop i)).flatten := by
      simp [insVB, rowsVB]
    have hA2 : A = (rowsVB (l.take i)).flatten ++ ((rowsVB (l.drop i)).flatten ++ sp) := by rw [← hA, hsplit, List.append_assoc]
    have hPd := deadVB (l.take i)
    have hQd := deadVB (l.drop i)
    have hQc : ∀ x ∈ (rowsVB (l.drop i)).flatten, cellAV x = true := by
      intro y hy
      obtain ⟨r, hr, hy⟩ := List.mem_flatten.1 hy
      obtain ⟨c, _, rfl⟩ := List.mem_map.1 hr
      simp [eVB] at hy
      rcases hy with rfl | rfl | rfl <;> rfl
    generalize (rowsVB (insVB l i x)).flatten = W at *
    generalize (rowsVB (l.take i)).flatten = P1 at *
    generalize (rowsVB (l.drop i)).flatten = Q at *
    have hx3 : (eVB x).length = 3 := rfl
    have hq1 : (A.drop (i * 3)).take ((l.length - i) * 3) = Q := by rw [hA2, ← hP, List.drop_left, ← hQl, List.take_left]
    have hq2 : ((A.map dead1).drop (i * 3)).take ((l.length - i) * 3) = Q := by rw [← List.map_drop, ← List.map_take, hq1, hQd]
    have ht1 : ∀ r : List AV, [r].take (l.length + 1 - i) = [r] := fun r => List.take_of_length_le (by simp; omega)
    have ht2 : [3].take (l.length + 1 - i) = [3] := List.take_of_length_le (by simp; omega)
    have w3 : IntKind.i64.wrap ((i : Int) + 1) = ((i + 1 : Nat) : Int) := by rw [w64 (by omega) (by omega)]; omega
    have l1 : i < l.length + 1 := by omega
    have l1' : (i : Int) < (l.length : Int) + 1 := by omega
    have l2 : i + 1 < l.length + 1 := by omega
    have l2' : (i : Int) + 1 < (l.length : Int) + 1 := by omega
    have l2'' : (i : Int) + 1 ≤ (l.length : Int) := by omega
    have l3 : (0 : Int) ≤ (i : Int) + 1 := by omega
    by_cases hroom : l.length + 1 ≤ cap
    · have hr' : ¬ (cap : Int) < (l.length : Int) + 1 := by omega
      have hr2 : (l.length : Int) + 1 ≤ (cap : Int) := by omega
      have hr3 : (l.length : Int) + 1 ≤ 281474976710656 := by omega
      have hr4 : (0 : Int) < (l.length : Int) + 1 := by omega
      simp -implicitDefEqProofs [eVB, hne, hcl, hil, hil', hlt, hlt', hle, w1]
      intro _
      refine capSm (e := (89, 3, 40)) (b := b) (o := 0) (n := l.length) (c := cap) (by simp) (by simp) ?_
      simp -implicitDefEqProofs [eVB, hne, hcl, hil, hil', hlt, hlt', hle, w1, hr', hr2, hr3, hr4]
      simp -implicitDefEqProofs [l1, l1', l2, l2', l2'', l3, w3]
      refine CallK.mh (h := one b A) (MSpec.overlaps (tS := 31) (tR := 4) (e := 89) (sz := 3) (by_ := 40) (tag := .no) (rows := [eVB x]) (b := b) (off := (i + 1) * 3) (n := l.length - i) (c := cap - (i + 1)) (cells := A) Tryz.func191 (by kernel_rfl) (by kernel_rfl) (by kernel_rfl) (by kernel_rfl) (by simp) (by omega) (by simp) (by simp [eVB]) (one_self _ _)) (by simp [eVB]) (SubH_one.2 (by simp [Weak.refl])) ?_
      rintro _ h' H ⟨rfl, rfl⟩ - hH -
      have k1 := hH b _ (one_self _ _)
      clear hH
      have hroom2 : Q.length + sp.length = cap * 3 - i * 3 := by
        rw [hA2, List.length_append, List.length_append, hP] at hcl; omega
      have hov := lay_backVB P1 (Q ++ sp) (eVB x) Q (by rw [List.length_append, hroom2, hx3]; omega)
      rw [hP, hx3, ← hA2, show i * 3 + 3 = (i + 1) * 3 by omega] at hov
      obtain ⟨C1, hC1⟩ : ∃ C, overlay A ((i + 1) * 3) Q = C := ⟨_, rfl⟩
      have hC1l : C1.length = cap * 3 := by
        rw [← hC1]; unfold overlay
        rw [List.length_append, List.length_append, List.length_take, List.length_drop, hcl, hQl]; omega
      rw [hC1] at hov
      obtain ⟨C2, hC2⟩ : ∃ C, overlay C1 (i * 3) (eVB x) = C := ⟨_, rfl⟩
      rw [hC2] at hov
      have hC2' := hC2
      have hmin : min (l.length + 1 - i) (l.length - i) = l.length - i := by omega
      simp [overlay, eVB] at hC1 hC2
      simp -implicitDefEqProofs
      refine regionK.modes [b] [.q, .q, .q, .q, .r, .q, .q, .r, .l] follows_mixed (by kernel_rfl) ?_
      simp -implicitDefEqProofs [l1, l1', l2, l2', l2'', l3, hlt, hlt', hr4, hcl, w3, maskH, k1, hq1, hq2, hQd, hmin, hC1]
      refine ⟨⟨by omega, by omega, fun y hy => hQc y hy⟩, ?_⟩
      simp -implicitDefEqProofs [l1, l1', ht1, ht2, hC1l, hC2]
      have hov2 : C2 = W ++ (Q ++ sp).drop (3 + Q.length) := by rw [hov, hins]
      have hC2l : C2.length = cap * 3 := by
        rw [← hC2']; unfold overlay
        rw [List.length_append, List.length_append, List.length_take, List.length_drop, hC1l, hx3]; omega
      have hWl : W.length = (l.length + 1) * 3 := by
        rw [hins, List.length_append, List.length_append, hP, hx3, hQl]; omega
      refine ⟨by omega, one b C2, SubH_one.2 (by simp [Weak.refl]), b, cap, ⟨rfl, rfl⟩, _, by rw [hov2], ?_⟩
      have := congrArg List.length hov2
      rw [List.length_append, hC2l, hWl] at this
      omega
    · have hr' : (cap : Int) < (l.length : Int) + 1 := by omega
      simp -implicitDefEqProofs [eVB, hne, hcl, hil, hil', hlt, hlt', hle, w1]
      intro _
      refine capSm (e := (89, 3, 40)) (b := b) (o := 0) (n := l.length) (c := cap) (by simp) (by simp) ?_
      simp -implicitDefEqProofs [eVB, hne, hcl, hil, hil', hlt, hlt', hle, w1, hr']
      have w2 : IntKind.i64.wrap ((l.length : Int) + 1 - (i : Int)) = ((l.length + 1 - i : Nat) : Int) := by rw [w64 (by omega) (by omega)]; omega
      have hsl : (if 0 < i then some (AV.sm b 0 i cap) else if 0 = (i : Int) then some (AV.sm b 0 0 cap) else none) = some (.sm b 0 i cap) := by
        by_cases h : 0 < i
        · rw [if_pos h]
        · have h2 : i = 0 := by omega
          subst h2; simp
      have hik : i + (l.length + 1 - i) = l.length + 1 := by omega
      simp -implicitDefEqProofs [hsl, w2]
      refine zerosSm (e := 89) (sz := 3) (by_ := 40) (ku := .i64) (z := [eI 0, eI 0, .sl .no []]) (l.length + 1 - i) b i cap A (by decide) (by simp) (by simp) (by simp) rfl (by omega) (by omega) (by simp) (by simp [w1, w2]) (by simp) hcl (by omega) (by omega) (by omega) fun b' c' spare hb' hc' hsp' => ?_
      have nb : ¬ b' = b := by rintro rfl; simp at hb'
      have nb' : ¬ b = b' := fun h => nb h.symm
      have hB : ((A.take (i * 3)).map dead1 ++ spare).length = c' * 3 := by
        rw [List.length_append, List.length_map, List.length_take]; omega
      rw [hik] at hc' ⊢
      have hB2 : (A.take (i * 3)).map dead1 ++ spare = P1 ++ spare := by rw [hA2, ← hP, List.take_left, hPd]
      rw [hB2] at hB ⊢
      have hov := lay_twiceVB P1 spare (eVB x) Q
      rw [hP, hx3] at hov
      have hsl2 : spare.length = c' * 3 - i * 3 := by rw [List.length_append, hP] at hB; omega
      obtain ⟨C1, hC1⟩ : ∃ C, overlay (P1 ++ spare) (i * 3) (eVB x) = C := ⟨_, rfl⟩
      have hC1l : C1.length = c' * 3 := by
        rw [← hC1]; unfold overlay
        rw [List.length_append, List.length_append, List.length_take, List.length_drop, hB, hx3]; omega
      rw [hC1] at hov
      rw [show i * 3 + 3 = (i + 1) * 3 by omega] at hov
      generalize P1 ++ spare = B at *
      obtain ⟨C2, hC2⟩ : ∃ C, overlay C1 ((i + 1) * 3) Q = C := ⟨_, rfl⟩
      rw [hC2] at hov
      have hC2' := hC2
      simp [overlay, eVB] at hC1 hC2
      simp -implicitDefEqProofs [nb, nb', l1, l1', hB, ht1, ht2, hC1]
      refine ⟨by omega, ?_⟩
      refine regionK.modes [b', b] [.q, .q, .q, .q, .r, .q, .q, .r, .l] follows_mixed (by kernel_rfl) ?_
      simp -implicitDefEqProofs [nb, nb', l1, l1', l2, l2', l2'', l3, hlt, hlt', hB, hcl, w3, maskH, hC1l, hq1, hq2, hQd, hC2]
      have hov2 : C2 = W ++ spare.drop ((eVB x).length + Q.length) := by rw [hov, hins, hx3]
      have hC2l : C2.length = c' * 3 := by
        rw [← hC2']; unfold overlay
        rw [List.length_append, List.length_append, List.length_take, List.length_drop, hC1l, hQl]; omega
      have hWl : W.length = (l.length + 1) * 3 := by
        rw [hins, List.length_append, List.length_append, hP, hx3, hQl]; omega
      refine ⟨⟨by omega, by omega, fun y hy => hQc y hy⟩, one b' C2, SubH_one.2 (by simp [Weak.refl]), b', c', ⟨rfl, rfl⟩, _, by rw [hov2], ?_⟩
      have := congrArg List.length hov2
      rw [List.length_append, hC2l, hWl] at this
      omega
end Go.Proofs.YtjbbfiagijjdoaaGreat

/- Contracts: a list with something put in its place (api.ViewBook). Printed by sort/gen.py. No condition. -/
set_option linter.unusedSimpArgs false
set_option linter.unusedVariables false
set_option maxRecDepth 10000
namespace Go.Proofs.YtjbbfiagijjdoaaGreat
open Go Go.Rw Go.Proofs
-- a goal is never to be run by the elaborator
attribute [local irreducible] awp aops aop aopsE aeff

theorem putKVB_new {l : List PVB} {x : PVB} (hs : sortK keyVB l) (hh : hasK keyVB l (keyVB x) = false) : putK keyVB l x = insVB l (posK keyVB l (keyVB x)) x := by
  obtain ⟨h1, h2⟩ := take_posK hs (keyVB x)
  unfold putK insVB
  rw [h1, h2]
  congr 2
  refine List.filter_congr fun y hy => ?_
  have : ¬ keyVB y = keyVB x := fun h => by
    have h3 : hasK keyVB l (keyVB x) = true := by rw [hasK, List.any_eq_true]; exact ⟨y, hy, by simpa using h⟩
    rw [hh] at h3; simp at h3
  by_cases h : keyVB x < keyVB y
  · have : ¬ keyVB y < keyVB x := by omega
    simp [h, this]
  · have : keyVB y < keyVB x := by omega
    simp [h, this]
theorem putKVB_old {l : List PVB} {x : PVB} (hs : sortK keyVB l) (hh : hasK keyVB l (keyVB x) = true) : putK keyVB l x = l.set (posK keyVB l (keyVB x)) x ∧ posK keyVB l (keyVB x) < l.length := by
  obtain ⟨h1, h2⟩ := take_posK hs (keyVB x)
  rcases hasK_at hs (keyVB x) with ⟨y, hy, hk, _⟩ | ⟨_, h3⟩
  · have hlt : posK keyVB l (keyVB x) < l.length := by
      rcases Nat.lt_or_ge (posK keyVB l (keyVB x)) l.length with h | h
      · exact h
      · rw [List.getElem?_eq_none h] at hy; simp at hy
    refine ⟨?_, hlt⟩
    rw [List.set_eq_take_append_cons_drop, if_pos hlt, h1]
    unfold putK
    congr 2
    have hd : l.drop (posK keyVB l (keyVB x)) = y :: l.drop (posK keyVB l (keyVB x) + 1) := by
      rw [List.drop_eq_getElem_cons hlt]; rw [List.getElem?_eq_getElem hlt] at hy; rw [Option.some.inj hy]
    have hsd : (l.drop (posK keyVB l (keyVB x))).Pairwise fun a b => keyVB a < keyVB b := List.Pairwise.sublist (List.drop_sublist _ _) hs
    rw [hd, List.pairwise_cons] at hsd
    have e1 : l.filter (fun z => decide (keyVB x < keyVB z)) = (l.filter (fun z => decide (¬ keyVB z < keyVB x))).filter (fun z => decide (keyVB x < keyVB z)) := by
      rw [List.filter_filter]
      refine List.filter_congr fun z _ => ?_
      by_cases h : keyVB x < keyVB z
      · have : ¬ keyVB z < keyVB x := by omega
        simp [h, this]
      · simp [h]
    rw [e1, ← h2, hd, List.filter_cons_of_neg (by simp [hk])]
    refine List.filter_eq_self.2 fun z hz => ?_
    have := hsd.1 z hz
    simp; omega
  · rw [hh] at h3; simp at h3
theorem putVB_spec (l : List PVB) (x : PVB) (hs : sortK keyVB l) (hl : l.length ≤ 1000000) (hr : ∀ y ∈ l, rightV y.view = true) (hx : rightV x.view = true) :
    ASpec Tryz.prog 100 [.agg [.fn 88 []], .sl .no (rowsVB l), .agg (eVB x)] (fun r => ∃ tag, r = .sl tag (rowsVB (putK keyVB l x))) := by
  refine ASpec.of_awpS Tryz.func100 (by kernel_rfl) rfl (by rw [Tryz.results100]) Tryz.ntmps100 ?_
  simp -implicitDefEqProofs [eVB]
  refine allocK.intro (fun b1 hb1 => ?_)
  simp -implicitDefEqProofs
  refine allocK.intro (fun b2 hb2 => ?_)
  have n12 : ¬ b1 = b2 := by rintro rfl; simp at hb2
  have n21 : ¬ b2 = b1 := fun h => n12 h.symm
  simp -implicitDefEqProofs [n12, n21]
  refine regionK.intro 12 follows_mixed (by kernel_rfl) ?_
  simp -implicitDefEqProofs [n12, n21]
  refine CallQ.with (ofVB_spec x) (by simp [eVB]) ?_
  simp -implicitDefEqProofs [n12, n21]
  refine CallQ.with (placeVB_spec l x.view hs (by omega) hr hx) (by simp [eV]) ?_
  have hpl := posK_le (key := keyVB) l (nameV x.view)
  simp -implicitDefEqProofs [n12, n21]
  have ek : nameV x.view = keyVB x := rfl
  rw [ek] at *
  have hcl := cloneVB_own l (by omega)
  refine CallK.own hcl (by simp) ?_
  rintro r (⟨tag, htag, rfl, hl0⟩ | ⟨hne, rfl⟩)
  · left
    refine ⟨tag, htag, rfl, ?_⟩
    subst hl0
    simp -implicitDefEqProofs [hasK, posK, n12, n21]
    refine CallK.fresh (insertVB_mn x) (by simp [eVB]) ?_
    rintro _ h' H ⟨b, c, sp, rfl, rfl, hsp⟩ - hH -
    have k1 := hH b _ (one_self _ _)
    clear hH
    simp -implicitDefEqProofs
    refine shiftK.freeze (b := b) (len := 1) (cap := c) 6 89 (rowsVB [x]) (by simp) (cells := eVB x ++ sp) k1 (by simpa [rowsVB] using chunksVB [x] sp) (by simp) ?_ ?_
    · rw [List.length_append, show (eVB x).length = 3 from rfl]; exact hsp
    have hp : putK keyVB [] x = [x] := rfl
    simp -implicitDefEqProofs [hp]
  · right
    refine ⟨_, _, _, _, rfl, hne, .inl rfl, fun b cap spare hb hcap hsp => ?_⟩
    have n1 : ¬ b = b1 := by rintro rfl; simp [n12] at hb
    have n1' : ¬ b1 = b := fun h => n1 h.symm
    have n2 : ¬ b = b2 := by rintro rfl; simp at hb
    have n2' : ¬ b2 = b := fun h => n2 h.symm
    have ed := dead2VB l
    have hl0 : 0 < l.length := by
      cases l with
      | nil => exact absurd rfl hne
      | cons => simp
    have hsp2 : l.length * 3 + (spare.map AV.v).length = cap * 3 := by simp at hsp ⊢; omega
    have hcl2 : ((rowsVB l).flatten ++ spare.map AV.v).length = cap * 3 := by rw [List.length_append, flenVB]; exact hsp2
    cases hh : hasK keyVB l (keyVB x)
    · simp -implicitDefEqProofs [n12, n21, n1, n1', n2, n2', ed, hh]
      refine CallK.mh (insertVB_sm l (posK keyVB l (keyVB x)) b cap (spare.map AV.v) x hl0 hpl (by omega) hsp2) (by simp [eVB]) (SubH_one.2 (by simp [Weak.refl])) ?_
      rintro _ h' H ⟨b', c', sp', rfl, rfl, hlen⟩ - hH -
      have k1 := hH b' _ (one_self _ _)
      clear hH
      have hil : (insVB l (posK keyVB l (keyVB x)) x).length = l.length + 1 := by
        unfold insVB
        rw [List.length_append, List.length_take, List.length_cons, List.length_drop]; omega
      rw [putKVB_new hs hh]
      generalize insVB l (posK keyVB l (keyVB x)) x = L at *
      simp -implicitDefEqProofs
      refine shiftK.freeze (b := b') (len := l.length + 1) (cap := c') 6 89 (rowsVB L) (by simp) k1 (chunksVB L sp') (by simp [hil]) ?_ ?_
      · rw [List.length_append, flenVB, hil]; exact hlen
      simp -implicitDefEqProofs
    · obtain ⟨hpe, hlt⟩ := putKVB_old hs hh
      rw [hpe]
      have hset : overlay ((rowsVB l).flatten ++ spare.map AV.v) (posK keyVB l (keyVB x) * 3) (eVB x) = (rowsVB (l.set (posK keyVB l (keyVB x)) x)).flatten ++ spare.map AV.v := by
        rw [flat_set (rowsVB_one l) rfl (by simpa using hlt)]
        simp [rowsVB, List.map_set]
      have hfit : posK keyVB l (keyVB x) * 3 + 3 ≤ ((rowsVB l).flatten ++ spare.map AV.v).length := flat_fits (rowsVB_one l) (by simpa using hlt)
      generalize posK keyVB l (keyVB x) = p at *
      have hlt' : (p : Int) < (l.length : Int) := by omega
      obtain ⟨L, hL⟩ : ∃ L, l.set p x = L := ⟨_, rfl⟩
      have hLl : L.length = l.length := by rw [← hL, List.length_set]
      rw [hL] at hset ⊢
      have hcol : ((rowsVB L).flatten ++ spare.map AV.v).length = cap * 3 := by rw [List.length_append, flenVB, hLl]; exact hsp2
      have hck := chunksVB L (spare.map AV.v)
      generalize (rowsVB L).flatten ++ spare.map AV.v = C2 at *
      simp -implicitDefEqProofs [n12, n21, n1, n1', n2, n2', ed, hh]
      generalize (rowsVB l).flatten ++ spare.map AV.v = C1 at *
      simp [overlay, eVB] at hset
      simp -implicitDefEqProofs [n12, n21, n1, n1', n2, n2', hlt, hlt', hfit, hset]
      refine shiftK.freeze (b := b) (len := l.length) (cap := cap) 6 89 (rowsVB L) (by simp) (by simp) hck (by simp [hLl]) hcol ?_
      simp -implicitDefEqProofs
end Go.Proofs.YtjbbfiagijjdoaaGreat

/- Contracts: where something stands by its view (api.ViewCells). Printed by sort/gen.py. No condition. -/
set_option linter.unusedSimpArgs false
set_option linter.unusedVariables false
set_option maxRecDepth 10000
namespace Go.Proofs.YtjbbfiagijjdoaaGreat
open Go Go.Rw Go.Proofs
-- a goal is never to be run by the elaborator
attribute [local irreducible] awp aops aop aopsE aeff

@[simp] theorem vTfVC : vT Tryz.prog 118 = some (1, false) := by kernel_rfl
def keyVC (x : PVC) : Int := nameV x.view
def rowsVC (l : List PVC) : List (List AV) := l.map eVC
@[simp] theorem rowsVC_length (l : List PVC) : (rowsVC l).length = l.length := by simp [rowsVC]
@[simp] theorem rowsVC_get (l : List PVC) (i : Nat) : (rowsVC l)[i]? = (l[i]?).map eVC := by simp [rowsVC]
@[simp] theorem rowsVC_nil : rowsVC [] = [] := rfl
@[simp] theorem rowsVC_append (l m : List PVC) : rowsVC l ++ rowsVC m = rowsVC (l ++ m) := by simp [rowsVC]
theorem rowsVC_one (l : List PVC) : ∀ r ∈ rowsVC l, r.length = 3 := by
  intro r hr
  obtain ⟨c, _, rfl⟩ := List.mem_map.1 hr
  rfl
@[simp] theorem rowsVC_rows (l : List PVC) : (∀ r : List AV, r ∈ rowsVC l → r.length = 3) ↔ True := iff_of_true (rowsVC_one l) trivial
theorem ofVC_spec (x : PVC) : ASpec Tryz.prog 93 [.agg (eVC x)] (· = .agg (eV x.view)) := by
  refine ASpec.of_awp Tryz.func93 (by kernel_rfl) rfl (by rw [Tryz.results93]) Tryz.ntmps93 ?_
  simp -implicitDefEqProofs [eVC]
  refine allocK.intro (fun b1 hb1 => ?_)
  simp -implicitDefEqProofs
  refine allocK.intro (fun b2 hb2 => ?_)
  have n12 : ¬ b1 = b2 := by rintro rfl; simp at hb2
  have n21 : ¬ b2 = b1 := fun h => n12 h.symm
  simp -implicitDefEqProofs [n12, n21, eV]
theorem shelvedVC_spec : ASpec Tryz.prog 92 [.fn 93 []] (· = .agg [.fn 93 []]) := by
  refine ASpec.of_awp Tryz.func92 (by kernel_rfl) rfl (by rw [Tryz.results92]) Tryz.ntmps92 ?_
  simp -implicitDefEqProofs
  refine allocK.intro (fun b1 hb1 => ?_)
  simp -implicitDefEqProofs
theorem placeKeyVC_spec (x : PVC) (b : Nat) (n : Int) (h : rightV x.view = true) : MSpec Tryz.prog 152 [.agg (eVC x), eI n, .ptr b 0] (one b [.fn 93 []]) (fun r h' => r = eI (cmpI (keyVC x) n) ∧ h' = one b [.fn 93 []]) := by
  refine MSpec.of_awp Tryz.func152 (by kernel_rfl) rfl (by rw [Tryz.results152]) Tryz.ntmps152 ?_
  simp -implicitDefEqProofs [eVC]
  refine allocK.intro (fun b1 hb1 => ?_)
  have n1 : ¬ b1 = b := by rintro rfl; simp at hb1
  have n2 : ¬ b = b1 := fun h => n1 h.symm
  simp -implicitDefEqProofs [n1, n2]
  refine CallK.with (ofVC_spec x) (by simp [eVC]) ?_
  simp -implicitDefEqProofs [eV]
  refine CallK.with (change_name x.view h) (by simp [eV]) ?_
  simp -implicitDefEqProofs
  refine CallK.eq (compare_int (nameV x.view) n) ?_
  simp -implicitDefEqProofs [n1, n2, keyVC]
def BsVCI (l : List PVC) (n : Int) (g : FuncId) (b : Nat) (c : List AV) (t : Nat → AV) (h : Nat → Option (List AV)) : Prop := ∃ i j : Nat, t 0 = .sl .no (rowsVC l) ∧ t 1 = eI n ∧ t 2 = .fn g [.ptr b 0] ∧ t 8 = eI l.length ∧ t 9 = eI i ∧ t 10 = eI j ∧ i ≤ posK keyVC l n ∧ posK keyVC l n ≤ j ∧ j ≤ l.length ∧ h b = some c
def BsVCM (l : List PVC) (n : Int) (g : FuncId) (b : Nat) (c : List AV) (t : Nat → AV) (h : Nat → Option (List AV)) : Prop := t 0 = .sl .no (rowsVC l) ∧ t 1 = eI n ∧ t 2 = .fn g [.ptr b 0] ∧ t 8 = eI l.length ∧ t 9 = eI (posK keyVC l n) ∧ h b = some c
theorem bsearchVC_spec (g : FuncId) (b : Nat) (c : List AV) (l : List PVC) (n : Int) (hs : sortK keyVC l) (hl : l.length ≤ 1000000000) (hf : ∀ x ∈ l, MSpec Tryz.prog g [.agg (eVC x), eI n, .ptr b 0] (one b c) (fun r h' => r = eI (cmpI (keyVC x) n) ∧ h' = one b c)) :
    MSpec Tryz.prog 151 [.sl .no (rowsVC l), eI n, .fn g [.ptr b 0]] (one b c) (fun r h' => r = .tup [eI (posK keyVC l n), .v (.bool (hasK keyVC l n))] ∧ h' = one b c) := by
  have hp := posK_le (key := keyVC) l n
  refine MSpec.of_awp Tryz.func151 (by kernel_rfl) rfl (by rw [Tryz.results151]) Tryz.ntmps151 ?_
  simp -implicitDefEqProofs
  intro _
  refine loopK.post (BsVCI l n g b c) (fun t => natOf (t 10) - natOf (t 9)) (BsVCM l n g b c) ?_ ?_ ?_
  · exact ⟨0, l.length, by simp, by simp, by simp, by simp, by simp, by simp, by omega, hp, by omega, by simp⟩
  · rintro t hh ⟨i, j, g0, g1, g2, g8, g9, g10, hi, hj, hjl, hb⟩
    have hm9 : natOf (t 9) = i := by rw [g9]; simp
    have hm10 : natOf (t 10) = j := by rw [g10]; simp
    by_cases hlt : i < j
    · have hlt' : (i : Int) < (j : Int) := by omega
      have w1 : IntKind.i64.wrap ((i : Int) + (j : Int)) = (i : Int) + (j : Int) := w64 (by omega) (by omega)
      have w2 : IntKind.u64.wrap ((i : Int) + (j : Int)) = (i : Int) + (j : Int) := by
        simp [IntKind.wrap, IntKind.bits, IntKind.signed]; omega
      obtain ⟨m, hm⟩ : ∃ m : Nat, m = (i + j) / 2 := ⟨_, rfl⟩
      have w3 : ((i : Int) + (j : Int)) / 2 = (m : Int) := by omega
      have w4 : IntKind.i64.wrap (m : Int) = (m : Int) := w64 (by omega) (by omega)
      have w4' : IntKind.u64.wrap (m : Int) = (m : Int) := by
        simp [IntKind.wrap, IntKind.bits, IntKind.signed]; omega
      have w5 : IntKind.i64.wrap ((m : Int) + 1) = ((m + 1 : Nat) : Int) := by rw [w64 (by omega) (by omega)]; omega
      have hml : m < l.length := by omega
      obtain ⟨x, hx⟩ : ∃ x, l[m]? = some x := ⟨l[m], by simp [hml]⟩
      have hpk := posK_lt hs (n := n) hx
      have s1 : Int.fdiv ((i : Int) + (j : Int)) (2 ^ min 1 IntKind.u64.bits) = (m : Int) := by
        have := shr_u64 (i + j) 1 (by omega)
        rw [hm]
        simpa using this
      have hml' : (m : Int) < (l.length : Int) := by omega
      simp -implicitDefEqProofs [g0, g1, g2, g9, g10, hlt', hlt, w1, w2, w3, w4, w4', hx, hml', eVC, aNum_shr, s1]
      refine CallK.one (hf x (List.mem_of_getElem? hx)) (by simp [eVC]) (by simp [hb, Weak.refl]) ?_
      have hcm : (cmpI (keyVC x) n < 0) ↔ keyVC x < n := by
        unfold cmpI
        by_cases h1 : keyVC x < n
        · simp [h1]
        · by_cases h2 : n < keyVC x <;> simp [h1, h2]
      by_cases hk : keyVC x < n
      · have hk1 := hcm.2 hk
        have hk2 := hpk.1 hk
        simp -implicitDefEqProofs [hk1, w5]
        exact ⟨⟨m + 1, j, by simp [g0], by simp [g1], by simp [g2], by simp [g8], by simp, by simp [g10], by omega, hj, hjl, by simp⟩, by first | omega | (simp [g9, g10]; omega)⟩
      · have hk1 : ¬ cmpI (keyVC x) n < 0 := fun h => hk (hcm.1 h)
        have hk2 : posK keyVC l n ≤ m := by
          rcases Nat.lt_or_ge m (posK keyVC l n) with h | h
          · exact absurd (hpk.2 h) hk
          · exact h
        simp -implicitDefEqProofs [hk1]
        exact ⟨⟨i, m, by simp [g0], by simp [g1], by simp [g2], by simp [g8], by simp [g9], by simp, hi, hk2, by omega, by simp⟩, by first | omega | (simp [g9, g10]; omega) | (simp [g9, g10, upd]; omega)⟩
    · have hlt' : ¬ (i : Int) < (j : Int) := by omega
      obtain rfl : i = posK keyVC l n := by omega
      simp -implicitDefEqProofs [g9, g10, hlt', hlt]
      exact ⟨by simp [g0], by simp [g1], by simp [g2], by simp [g8], by simp [g9], hb⟩
  rintro t hh ⟨g0, g1, g2, g8, g9, hb⟩
  have hcz : ∀ x : PVC, (cmpI (keyVC x) n = 0) ↔ keyVC x = n := fun x => by
    unfold cmpI
    by_cases h1 : keyVC x < n
    · have h3 : ¬ keyVC x = n := by omega
      simp [h1, h3]
    · by_cases h2 : n < keyVC x
      · have h3 : ¬ keyVC x = n := by omega
        simp [h1, h2, h3]
      · have h3 : keyVC x = n := by omega
        simp [h3]
  have hat := hasK_at hs n
  generalize posK keyVC l n = p at *
  by_cases hlt : p < l.length
  · have hlt' : (p : Int) < (l.length : Int) := by omega
    obtain ⟨x, hx⟩ : ∃ x, l[p]? = some x := ⟨l[p], by simp [hlt]⟩
    simp -implicitDefEqProofs [g0, g1, g2, g8, g9, hlt', hx, eVC]
    refine CallK.one (hf x (List.mem_of_getElem? hx)) (by simp [eVC]) (by simp [hb, Weak.refl]) ?_
    by_cases hk : keyVC x = n
    · have h1 := (hcz x).2 hk
      have h2 : hasK keyVC l n = true := by
        rcases hat with ⟨y, h3, h4, h5⟩ | ⟨h3, h4⟩
        · exact h5
        · exact absurd hk (h3 x hx)
      simp -implicitDefEqProofs [h1, h2, g9, hb, Weak.refl]
    · have h1 : ¬ cmpI (keyVC x) n = 0 := fun h => hk ((hcz x).1 h)
      have h2 : hasK keyVC l n = false := by
        rcases hat with ⟨y, h3, h4, h5⟩ | ⟨h3, h4⟩
        · rw [hx] at h3; cases h3; exact absurd h4 hk
        · exact h4
      simp -implicitDefEqProofs [h1, h2, g9, hb, Weak.refl]
  · have hlt' : ¬ (p : Int) < (l.length : Int) := by omega
    have h2 : hasK keyVC l n = false := by
      rcases hat with ⟨y, h3, h4, h5⟩ | ⟨h3, h4⟩
      · rw [List.getElem?_eq_none (by omega)] at h3; simp at h3
      · exact h4
    simp -implicitDefEqProofs [g0, g1, g2, g8, g9, hlt', h2, hb, Weak.refl]
theorem placeVC_spec (l : List PVC) (v : PView) (hs : sortK keyVC l) (hl : l.length ≤ 1000000000) (hr : ∀ x ∈ l, rightV x.view = true) (hv : rightV v = true) :
    ASpec Tryz.prog 94 [.agg [.fn 93 []], .sl .no (rowsVC l), .agg (eV v)] (· = .tup [eI (posK keyVC l (nameV v)), .v (.bool (hasK keyVC l (nameV v)))]) := by
  refine ASpec.of_awp Tryz.func94 (by kernel_rfl) rfl (by rw [Tryz.results94]) Tryz.ntmps94 ?_
  simp -implicitDefEqProofs [eV]
  refine allocK.intro (fun b1 hb1 => ?_)
  simp -implicitDefEqProofs
  refine allocK.intro (fun b2 hb2 => ?_)
  have n12 : ¬ b1 = b2 := by rintro rfl; simp at hb2
  have n21 : ¬ b2 = b1 := fun h => n12 h.symm
  simp -implicitDefEqProofs [n12, n21]
  refine CallK.with (change_name v hv) (by simp [eV]) ?_
  simp -implicitDefEqProofs [n12, n21]
  refine CallK.one (bsearchVC_spec 152 b1 [.fn 93 []] l (nameV v) hs hl (fun x hx => placeKeyVC_spec x b1 (nameV v) (hr x hx))) rfl (by simp [n12, Weak.refl]) ?_
  simp -implicitDefEqProofs
end Go.Proofs.YtjbbfiagijjdoaaGreat

/- Contracts: something is put in its place (api.ViewCells). Printed by sort/gen.py. No condition. -/
set_option linter.unusedSimpArgs false
set_option linter.unusedVariables false
set_option maxRecDepth 10000
namespace Go.Proofs.YtjbbfiagijjdoaaGreat
open Go Go.Rw Go.Proofs
-- a goal is never to be run by the elaborator
attribute [local irreducible] awp aops aop aopsE aeff

theorem deadVC (l : List PVC) : (rowsVC l).flatten.map dead1 = (rowsVC l).flatten := by
  induction l with
  | nil => rfl
  | cons x l ih => simp [rowsVC, eVC, dead1] at *; try exact ih
theorem dead2VC (l : List PVC) : (rowsVC l).map (List.map dead1) = rowsVC l := by
  induction l with
  | nil => rfl
  | cons x l ih => simp [rowsVC, eVC, dead1] at *; try exact ih
theorem flenVC (l : List PVC) : (rowsVC l).flatten.length = l.length * 3 := by
  rw [flat_len (rowsVC_one l)]; simp
theorem chunksVC (l : List PVC) (sp : List AV) : chunks ((rowsVC l).flatten ++ sp) (rowsVC l) 3 := by
  refine ⟨rowsVC_one l, ?_, ?_, ?_⟩
  · rw [show (rowsVC l).length * 3 = (rowsVC l).flatten.length by rw [flenVC]; simp, List.take_left, deadVC]
  · rw [List.length_append, flenVC]; simp
  · intro r hr x hx
    obtain ⟨c, _, rfl⟩ := List.mem_map.1 hr
    simp [eVC] at hx
    rcases hx with rfl | rfl | rfl <;> rfl
def ClVCR (l : List PVC) (r : AV) : Prop := (∃ tag, (tag = .nil ∨ tag = .full) ∧ r = .sl tag [] ∧ l = []) ∨ (rowsVC l ≠ [] ∧ r = .sl (.live 91 3 true) (rowsVC l))
theorem cloneVC_own (l : List PVC) (hl : l.length * 40 ≤ 140737488355328) : ASpec Tryz.prog 127 [.sl .no (rowsVC l)] (ClVCR l) := by
  refine ASpec.of_awp Tryz.func127 (by kernel_rfl) rfl (by rw [Tryz.results127]) Tryz.ntmps127 ?_
  simp -implicitDefEqProofs
  refine nilK.intro (fun h => ?_) ?_
  · have h' : l = [] := by simpa [rowsVC] using h
    simp -implicitDefEqProofs [h]; exact .inl ⟨_, .inl rfl, rfl, h'⟩
  · simp -implicitDefEqProofs [hl]
    by_cases h : l = []
    · subst h; exact .inl ⟨_, .inr rfl, rfl, rfl⟩
    · have h' : rowsVC l ≠ [] := by simpa [rowsVC] using h
      exact .inr ⟨h', by rw [appTag_full h']⟩
theorem insertVC_mn (x : PVC) : MSpec Tryz.prog 158 [.mn, eI 0, .sl .no [eVC x]] (fun _ => none) (fun r h' => ∃ b c sp, r = .sm b 0 1 c ∧ h' = one b (eVC x ++ sp) ∧ 3 + sp.length = c * 3) := by
  refine MSpec.of_awp Tryz.func158 (by kernel_rfl) rfl (by rw [Tryz.results158]) Tryz.ntmps158 ?_
  simp -implicitDefEqProofs [eVC]
  refine growMnK.intro (fun h => by simp at h) fun _ b c sp hb hc hsp => ?_
  simp -implicitDefEqProofs
  simp at hsp
  exact ⟨_, SubH_one.2 (by simp; exact Weak.refl _), b, c, ⟨rfl, rfl⟩, sp, rfl, by omega⟩
theorem lay_atVC (P T X : List AV) : overlay (P ++ T) P.length X = P ++ X ++ T.drop X.length := by
  unfold overlay
  rw [List.take_left, List.drop_append, List.drop_of_length_le (by omega), List.nil_append, Nat.add_sub_cancel_left]
theorem lay_twiceVC (P T X Y : List AV) : overlay (overlay (P ++ T) P.length X) (P.length + X.length) Y = P ++ X ++ Y ++ T.drop (X.length + Y.length) := by
  rw [lay_atVC, ← List.length_append, lay_atVC, List.drop_drop]
theorem lay_backVC (P T R Q : List AV) (h : R.length ≤ T.length) : overlay (overlay (P ++ T) (P.length + R.length) Q) P.length R = P ++ R ++ Q ++ T.drop (R.length + Q.length) := by
  have e : overlay (P ++ T) (P.length + R.length) Q = P ++ (T.take R.length ++ (Q ++ T.drop (R.length + Q.length))) := by
    unfold overlay
    rw [List.take_append, List.take_of_length_le (by omega), Nat.add_sub_cancel_left, List.drop_append, List.drop_of_length_le (by omega), List.nil_append, show P.length + R.length + Q.length - P.length = R.length + Q.length by omega]
    simp only [List.append_assoc]
  rw [e, lay_atVC, List.drop_append, List.drop_of_length_le (by rw [List.length_take]; omega), List.nil_append, List.length_take, Nat.min_eq_left h, Nat.sub_self, List.drop_zero]
  simp only [List.append_assoc]
/-- behind an insertion -/
def insVC (l : List PVC) (i : Nat) (x : PVC) : List PVC := l.take i ++ x :: l.drop i
theorem insertVC_sm (l : List PVC) (i b cap : Nat) (sp : List AV) (x : PVC) (h0 : 0 < l.length) (hi : i ≤ l.length) (hl : l.length ≤ 1000000000) (hsp : l.length * 3 + sp.length = cap * 3) :
    MSpec Tryz.prog 158 [.sm b 0 l.length cap, eI i, .sl .no [eVC x]] (one b ((rowsVC l).flatten ++ sp)) (fun r h' => ∃ b' c' sp', r = .sm b' 0 (l.length + 1) c' ∧ h' = one b' ((rowsVC (insVC l i x)).flatten ++ sp') ∧ (l.length + 1) * 3 + sp'.length = c' * 3) := by
  refine MSpec.of_awp Tryz.func158 (by kernel_rfl) rfl (by rw [Tryz.results158]) Tryz.ntmps158 ?_
  have hlen := flenVC l
  have hcl : ((rowsVC l).flatten ++ sp).length = cap * 3 := by rw [List.length_append, hlen]; exact hsp
  have w1 : IntKind.i64.wrap ((l.length : Int) + 1) = ((l.length + 1 : Nat) : Int) := by rw [w64 (by omega) (by omega)]; omega
  generalize hA : (rowsVC l).flatten ++ sp = A at *
  have hne : ¬ l = [] := by rintro rfl; simp at h0
  by_cases hil : i = l.length
  · subst hil
    simp -implicitDefEqProofs [eVC, hne, hcl]
    intro _
    refine ⟨by omega, growSmK.intro fun b' c' spare hb' hc' hsp' => ?_⟩
    have htk : (A.take (l.length * 3)).map dead1 = (rowsVC l).flatten := by rw [← hA, ← hlen, List.take_left, deadVC]
    have hfin : (A.take (l.length * 3)).map dead1 ++ [eVC x].flatten.map dead1 ++ spare = (rowsVC (insVC l l.length x)).flatten ++ spare := by
      rw [htk]; simp [insVC, rowsVC, eVC, dead1]
    simp only [eVC] at hfin
    rw [hfin]
    simp -implicitDefEqProofs
    simp at hsp'
    exact ⟨_, SubH_one.2 (by simp; exact Weak.refl _), b', c', ⟨rfl, rfl⟩, spare, rfl, by omega⟩
  · have hlt : i < l.length := by omega
    have hil' : ¬ (i : Int) = (l.length : Int) := by omega
    have hlt' : (i : Int) < (l.length : Int) := by omega
    have hle : i ≤ l.length := hi
    have hti : (l.take i).length = i := by rw [List.length_take]; omega
    have hP : (rowsVC (l.take i)).flatten.length = i * 3 := by rw [flenVC, hti]
    have hQl : (rowsVC (l.drop i)).flatten.length = (l.length - i) * 3 := by rw [flenVC, List.length_drop]
    have hsplit : (rowsVC l).flatten = (rowsVC (l.take i)).flatten ++ (rowsVC (l.drop i)).flatten := by
      rw [← List.flatten_append, rowsVC_append, List.take_append_drop]
    have hins : (rowsVC (insVC l i x)).flatten = (rowsVC (l.take i)).flatten ++ eVC x ++ (rowsVC (l.drop i)).flatten := by
      simp [insVC, rowsVC]
    have hA2 : A = (rowsVC (l.take i)).flatten ++ ((rowsVC (l.drop i)).flatten ++ sp) := by rw [← hA, hsplit, List.append_assoc]
    have hPd := deadVC (l.take i)
    have hQd := deadVC (l.drop i)
    have hQc : ∀ x ∈ (rowsVC (l.drop i)).flatten, cellAV x = true := by
      intro y hy
      obtain ⟨r, hr, hy⟩ := List.mem_flatten.1 hy
      obtain ⟨c, _, rfl⟩ := List.mem_map.1 hr
      simp [eVC] at hy
      rcases hy with rfl | rfl | rfl <;> rfl
    generalize (rowsVC (insVC l i x)).flatten = W at *
    generalize (rowsVC (l.take i)).flatten = P1 at *
    generalize (rowsVC (l.drop i)).flatten = Q at *
    have hx3 : (eVC x).length = 3 := rfl
    have hq1 : (A.drop (i * 3)).take ((l.length - i) * 3) = Q := by rw [hA2, ← hP, List.drop_left, ← hQl, List.take_left]
    have hq2 : ((A.map dead1).drop (i * 3)).take ((l.length - i) * 3) = Q := by rw [← List.map_drop, ← List.map_take, hq1, hQd]
    have ht1 : ∀ r : List AV, [r].take (l.length + 1 - i) = [r] := fun r => List.take_of_length_le (by simp; omega)
    have ht2 : [3].take (l.length + 1 - i) = [3] := List.take_of_length_le (by simp; omega)
    have w3 : IntKind.i64.wrap ((i : Int) + 1) = ((i + 1 : Nat) : Int) := by rw [w64 (by omega) (by omega)]; omega
    have l1 : i < l.length + 1 := by omega
    have l1' : (i : Int) < (l.length : Int) + 1 := by omega
    have l2 : i + 1 < l.length + 1 := by omega
    have l2' : (i : Int) + 1 < (l.length : Int) + 1 := by omega
    have l2'' : (i : Int) + 1 ≤ (l.length : Int) := by omega
    have l3 : (0 : Int) ≤ (i : Int) + 1 := by omega
    by_cases hroom : l.length + 1 ≤ cap
    · have hr' : ¬ (cap : Int) < (l.length : Int) + 1 := by omega
      have hr2 : (l.length : Int) + 1 ≤ (cap : Int) := by omega
      have hr3 : (l.length : Int) + 1 ≤ 281474976710656 := by omega
      have hr4 : (0 : Int) < (l.length : Int) + 1 := by omega
      simp -implicitDefEqProofs [eVC, hne, hcl, hil, hil', hlt, hlt', hle, w1]
      intro _
      refine capSm (e := (91, 3, 40)) (b := b) (o := 0) (n := l.length) (c := cap) (by simp) (by simp) ?_
      simp -implicitDefEqProofs [eVC, hne, hcl, hil, hil', hlt, hlt', hle, w1, hr', hr2, hr3, hr4]
      simp -implicitDefEqProofs [l1, l1', l2, l2', l2'', l3, w3]
      refine CallK.mh (h := one b A) (MSpec.overlaps (tS := 32) (tR := 4) (e := 91) (sz := 3) (by_ := 40) (tag := .no) (rows := [eVC x]) (b := b) (off := (i + 1) * 3) (n := l.length - i) (c := cap - (i + 1)) (cells := A) Tryz.func195 (by kernel_rfl) (by kernel_rfl) (by kernel_rfl) (by kernel_rfl) (by simp) (by omega) (by simp) (by simp [eVC]) (one_self _ _)) (by simp [eVC]) (SubH_one.2 (by simp [Weak.refl])) ?_
      rintro _ h' H ⟨rfl, rfl⟩ - hH -
      have k1 := hH b _ (one_self _ _)
      clear hH
      have hroom2 : Q.length + sp.length = cap * 3 - i * 3 := by
        rw [hA2, List.length_append, List.length_append, hP] at hcl; omega
      have hov := lay_backVC P1 (Q ++ sp) (eVC x) Q (by rw [List.length_append, hroom2, hx3]; omega)
      rw [hP, hx3, ← hA2, show i * 3 + 3 = (i + 1) * 3 by omega] at hov
      obtain ⟨C1, hC1⟩ : ∃ C, overlay A ((i + 1) * 3) Q = C := ⟨_, rfl⟩
      have hC1l : C1.length = cap * 3 := by
        rw [← hC1]; unfold overlay
        rw [List.length_append, List.length_append, List.length_take, List.length_drop, hcl, hQl]; omega
      rw [hC1] at hov
      obtain ⟨C2, hC2⟩ : ∃ C, overlay C1 (i * 3) (eVC x) = C := ⟨_, rfl⟩
      rw [hC2] at hov
      have hC2' := hC2
      have hmin : min (l.length + 1 - i) (l.length - i) = l.length - i := by omega
      simp [overlay, eVC] at hC1 hC2
      simp -implicitDefEqProofs
      refine regionK.modes [b] [.q, .q, .q, .q, .r, .q, .q, .r, .l] follows_mixed (by kernel_rfl) ?_
      simp -implicitDefEqProofs [l1, l1', l2, l2', l2'', l3, hlt, hlt', hr4, hcl, w3, maskH, k1, hq1, hq2, hQd, hmin, hC1]
      refine ⟨⟨by omega, by omega, fun y hy => hQc y hy⟩, ?_⟩
      simp -implicitDefEqProofs [l1, l1', ht1, ht2, hC1l, hC2]
      have hov2 : C2 = W ++ (Q ++ sp).drop (3 + Q.length) := by rw [hov, hins]
      have hC2l : C2.length = cap * 3 := by
        rw [← hC2']; unfold overlay
        rw [List.length_append, List.length_append, List.length_take, List.length_drop, hC1l, hx3]; omega
      have hWl : W.length = (l.length + 1) * 3 := by
        rw [hins, List.length_append, List.length_append, hP, hx3, hQl]; omega
      refine ⟨by omega, one b C2, SubH_one.2 (by simp [Weak.refl]), b, cap, ⟨rfl, rfl⟩, _, by rw [hov2], ?_⟩
      have := congrArg List.length hov2
      rw [List.length_append, hC2l, hWl] at this
      omega
    · have hr' : (cap : Int) < (l.length : Int) + 1 := by omega
      simp -implicitDefEqProofs [eVC, hne, hcl, hil, hil', hlt, hlt', hle, w1]
      intro _
      refine capSm (e := (91, 3, 40)) (b := b) (o := 0) (n := l.length) (c := cap) (by simp) (by simp) ?_
      simp -implicitDefEqProofs [eVC, hne, hcl, hil, hil', hlt, hlt', hle, w1, hr']
      have w2 : IntKind.i64.wrap ((l.length : Int) + 1 - (i : Int)) = ((l.length + 1 - i : Nat) : Int) := by rw [w64 (by omega) (by omega)]; omega
      have hsl : (if 0 < i then some (AV.sm b 0 i cap) else if 0 = (i : Int) then some (AV.sm b 0 0 cap) else none) = some (.sm b 0 i cap) := by
        by_cases h : 0 < i
        · rw [if_pos h]
        · have h2 : i = 0 := by omega
          subst h2; simp
      have hik : i + (l.length + 1 - i) = l.length + 1 := by omega
      simp -implicitDefEqProofs [hsl, w2]
      refine zerosSm (e := 91) (sz := 3) (by_ := 40) (ku := .i64) (z := [eI 0, eI 0, .sl .no []]) (l.length + 1 - i) b i cap A (by decide) (by simp) (by simp) (by simp) rfl (by omega) (by omega) (by simp) (by simp [w1, w2]) (by simp) hcl (by omega) (by omega) (by omega) fun b' c' spare hb' hc' hsp' => ?_
      have nb : ¬ b' = b := by rintro rfl; simp at hb'
      have nb' : ¬ b = b' := fun h => nb h.symm
      have hB : ((A.take (i * 3)).map dead1 ++ spare).length = c' * 3 := by
        rw [List.length_append, List.length_map, List.length_take]; omega
      rw [hik] at hc' ⊢
      have hB2 : (A.take (i * 3)).map dead1 ++ spare = P1 ++ spare := by rw [hA2, ← hP, List.take_left, hPd]
      rw [hB2] at hB ⊢
      have hov := lay_twiceVC P1 spare (eVC x) Q
      rw [hP, hx3] at hov
      have hsl2 : spare.length = c' * 3 - i * 3 := by rw [List.length_append, hP] at hB; omega
      obtain ⟨C1, hC1⟩ : ∃ C, overlay (P1 ++ spare) (i * 3) (eVC x) = C := ⟨_, rfl⟩
      have hC1l : C1.length = c' * 3 := by
        rw [← hC1]; unfold overlay
        rw [List.length_append, List.length_append, List.length_take, List.length_drop, hB, hx3]; omega
      rw [hC1] at hov
      rw [show i * 3 + 3 = (i + 1) * 3 by omega] at hov
      generalize P1 ++ spare = B at *
      obtain ⟨C2, hC2⟩ : ∃ C, overlay C1 ((i + 1) * 3) Q = C := ⟨_, rfl⟩
      rw [hC2] at hov
      have hC2' := hC2
      simp [overlay, eVC] at hC1 hC2
      simp -implicitDefEqProofs [nb, nb', l1, l1', hB, ht1, ht2, hC1]
      refine ⟨by omega, ?_⟩
      refine regionK.modes [b', b] [.q, .q, .q, .q, .r, .q, .q, .r, .l] follows_mixed (by kernel_rfl) ?_
      simp -implicitDefEqProofs [nb, nb', l1, l1', l2, l2', l2'', l3, hlt, hlt', hB, hcl, w3, maskH, hC1l, hq1, hq2, hQd, hC2]
      have hov2 : C2 = W ++ spare.drop ((eVC x).length + Q.length) := by rw [hov, hins, hx3]
      have hC2l : C2.length = c' * 3 := by
        rw [← hC2']; unfold overlay
        rw [List.length_append, List.length_append, List.length_take, List.length_drop, hC1l, hQl]; omega
      have hWl : W.length = (l.length + 1) * 3 := by
        rw [hins, List.length_append, List.length_append, hP, hx3, hQl]; omega
      refine ⟨⟨by omega, by omega, fun y hy => hQc y hy⟩, one b' C2, SubH_one.2 (by simp [Weak.refl]), b', c', ⟨rfl, rfl⟩, _, by rw [hov2], ?_⟩
      have := congrArg List.length hov2
      rw [List.length_append, hC2l, hWl] at this
      omega
end Go.Proofs.YtjbbfiagijjdoaaGreat

/- Contracts: a list with something put in its place (api.ViewCells). Printed by sort/gen.py. No condition. -/
set_option linter.unusedSimpArgs false
set_option linter.unusedVariables false
set_option maxRecDepth 10000
namespace Go.Proofs.YtjbbfiagijjdoaaGreat
open Go Go.Rw Go.Proofs
-- a goal is never to be run by the elaborator
attribute [local irreducible] awp aops aop aopsE aeff

theorem putKVC_new {l : List PVC} {x : PVC} (hs : sortK keyVC l) (hh : hasK keyVC l (keyVC x) = false) : putK keyVC l x = insVC l (posK keyVC l (keyVC x)) x := by
  obtain ⟨h1, h2⟩ := take_posK hs (keyVC x)
  unfold putK insVC
  rw [h1, h2]
  congr 2
  refine List.filter_congr fun y hy => ?_
  have : ¬ keyVC y = keyVC x := fun h => by
    have h3 : hasK keyVC l (keyVC x) = true := by rw [hasK, List.any_eq_true]; exact ⟨y, hy, by simpa using h⟩
    rw [hh] at h3; simp at h3
  by_cases h : keyVC x < keyVC y
  · have : ¬ keyVC y < keyVC x := by omega
    simp [h, this]
  · have : keyVC y < keyVC x := by omega
    simp [h, this]
theorem putKVC_old {l : List PVC} {x : PVC} (hs : sortK keyVC l) (hh : hasK keyVC l (keyVC x) = true) : putK keyVC l x = l.set (posK keyVC l (keyVC x)) x ∧ posK keyVC l (keyVC x) < l.length := by
  obtain ⟨h1, h2⟩ := take_posK hs (keyVC x)
  rcases hasK_at hs (keyVC x) with ⟨y, hy, hk, _⟩ | ⟨_, h3⟩
  · have hlt : posK keyVC l (keyVC x) < l.length := by
      rcases Nat.lt_or_ge (posK keyVC l (keyVC x)) l.length with h | h
      · exact h
      · rw [List.getElem?_eq_none h] at hy; simp at hy
    refine ⟨?_, hlt⟩
    rw [List.set_eq_take_append_cons_drop, if_pos hlt, h1]
    unfold putK
    congr 2
    have hd : l.drop (posK keyVC l (keyVC x)) = y :: l.drop (posK keyVC l (keyVC x) + 1) := by
      rw [List.drop_eq_getElem_cons hlt]; rw [List.getElem?_eq_getElem hlt] at hy; rw [Option.some.inj hy]
    have hsd : (l.drop (posK keyVC l (keyVC x))).Pairwise fun a b => keyVC a < keyVC b := List.Pairwise.sublist (List.drop_sublist _ _) hs
    rw [hd, List.pairwise_cons] at hsd
    have e1 : l.filter (fun z => decide (keyVC x < keyVC z)) = (l.filter (fun z => decide (¬ keyVC z < keyVC x))).filter (fun z => decide (keyVC x < keyVC z)) := by
      rw [List.filter_filter]
      refine List.filter_congr fun z _ => ?_
      by_cases h : keyVC x < keyVC z
      · have : ¬ keyVC z < keyVC x := by omega
        simp [h, this]
      · simp [h]
    rw [e1, ← h2, hd, List.filter_cons_of_neg (by simp [hk])]
    refine List.filter_eq_self.2 fun z hz => ?_
    have := hsd.1 z hz
    simp; omega
  · rw [hh] at h3; simp at h3
theorem putVC_spec (l : List PVC) (x : PVC) (hs : sortK keyVC l) (hl : l.length ≤ 1000000) (hr : ∀ y ∈ l, rightV y.view = true) (hx : rightV x.view = true) :
    ASpec Tryz.prog 102 [.agg [.fn 93 []], .sl .no (rowsVC l), .agg (eVC x)] (fun r => ∃ tag, r = .sl tag (rowsVC (putK keyVC l x))) := by
  refine ASpec.of_awpS Tryz.func102 (by kernel_rfl) rfl (by rw [Tryz.results102]) Tryz.ntmps102 ?_
  simp -implicitDefEqProofs [eVC]
  refine allocK.intro (fun b1 hb1 => ?_)
  simp -implicitDefEqProofs
  refine allocK.intro (fun b2 hb2 => ?_)
  have n12 : ¬ b1 = b2 := by rintro rfl; simp at hb2
  have n21 : ¬ b2 = b1 := fun h => n12 h.symm
  simp -implicitDefEqProofs [n12, n21]
  refine regionK.intro 12 follows_mixed (by kernel_rfl) ?_
  simp -implicitDefEqProofs [n12, n21]
  refine CallQ.with (ofVC_spec x) (by simp [eVC]) ?_
  simp -implicitDefEqProofs [n12, n21]
  refine CallQ.with (placeVC_spec l x.view hs (by omega) hr hx) (by simp [eV]) ?_
  have hpl := posK_le (key := keyVC) l (nameV x.view)
  simp -implicitDefEqProofs [n12, n21]
  have ek : nameV x.view = keyVC x := rfl
  rw [ek] at *
  have hcl := cloneVC_own l (by omega)
  refine CallK.own hcl (by simp) ?_
  rintro r (⟨tag, htag, rfl, hl0⟩ | ⟨hne, rfl⟩)
  · left
    refine ⟨tag, htag, rfl, ?_⟩
    subst hl0
    simp -implicitDefEqProofs [hasK, posK, n12, n21]
    refine CallK.fresh (insertVC_mn x) (by simp [eVC]) ?_
    rintro _ h' H ⟨b, c, sp, rfl, rfl, hsp⟩ - hH -
    have k1 := hH b _ (one_self _ _)
    clear hH
    simp -implicitDefEqProofs
    refine shiftK.freeze (b := b) (len := 1) (cap := c) 6 91 (rowsVC [x]) (by simp) (cells := eVC x ++ sp) k1 (by simpa [rowsVC] using chunksVC [x] sp) (by simp) ?_ ?_
    · rw [List.length_append, show (eVC x).length = 3 from rfl]; exact hsp
    have hp : putK keyVC [] x = [x] := rfl
    simp -implicitDefEqProofs [hp]
  · right
    refine ⟨_, _, _, _, rfl, hne, .inl rfl, fun b cap spare hb hcap hsp => ?_⟩
    have n1 : ¬ b = b1 := by rintro rfl; simp [n12] at hb
    have n1' : ¬ b1 = b := fun h => n1 h.symm
    have n2 : ¬ b = b2 := by rintro rfl; simp at hb
    have n2' : ¬ b2 = b := fun h => n2 h.symm
    have ed := dead2VC l
    have hl0 : 0 < l.length := by
      cases l with
      | nil => exact absurd rfl hne
      | cons => simp
    have hsp2 : l.length * 3 + (spare.map AV.v).length = cap * 3 := by simp at hsp ⊢; omega
    have hcl2 : ((rowsVC l).flatten ++ spare.map AV.v).length = cap * 3 := by rw [List.length_append, flenVC]; exact hsp2
    cases hh : hasK keyVC l (keyVC x)
    · simp -implicitDefEqProofs [n12, n21, n1, n1', n2, n2', ed, hh]
      refine CallK.mh (insertVC_sm l (posK keyVC l (keyVC x)) b cap (spare.map AV.v) x hl0 hpl (by omega) hsp2) (by simp [eVC]) (SubH_one.2 (by simp [Weak.refl])) ?_
      rintro _ h' H ⟨b', c', sp', rfl, rfl, hlen⟩ - hH -
      have k1 := hH b' _ (one_self _ _)
      clear hH
      have hil : (insVC l (posK keyVC l (keyVC x)) x).length = l.length + 1 := by
        unfold insVC
        rw [List.length_append, List.length_take, List.length_cons, List.length_drop]; omega
      rw [putKVC_new hs hh]
      generalize insVC l (posK keyVC l (keyVC x)) x = L at *
      simp -implicitDefEqProofs
      refine shiftK.freeze (b := b') (len := l.length + 1) (cap := c') 6 91 (rowsVC L) (by simp) k1 (chunksVC L sp') (by simp [hil]) ?_ ?_
      · rw [List.length_append, flenVC, hil]; exact hlen
      simp -implicitDefEqProofs
    · obtain ⟨hpe, hlt⟩ := putKVC_old hs hh
      rw [hpe]
      have hset : overlay ((rowsVC l).flatten ++ spare.map AV.v) (posK keyVC l (keyVC x) * 3) (eVC x) = (rowsVC (l.set (posK keyVC l (keyVC x)) x)).flatten ++ spare.map AV.v := by
        rw [flat_set (rowsVC_one l) rfl (by simpa using hlt)]
        simp [rowsVC, List.map_set]
      have hfit : posK keyVC l (keyVC x) * 3 + 3 ≤ ((rowsVC l).flatten ++ spare.map AV.v).length := flat_fits (rowsVC_one l) (by simpa using hlt)
      generalize posK keyVC l (keyVC x) = p at *
      have hlt' : (p : Int) < (l.length : Int) := by omega
      obtain ⟨L, hL⟩ : ∃ L, l.set p x = L := ⟨_, rfl⟩
      have hLl : L.length = l.length := by rw [← hL, List.length_set]
      rw [hL] at hset ⊢
      have hcol : ((rowsVC L).flatten ++ spare.map AV.v).length = cap * 3 := by rw [List.length_append, flenVC, hLl]; exact hsp2
      have hck := chunksVC L (spare.map AV.v)
      generalize (rowsVC L).flatten ++ spare.map AV.v = C2 at *
      simp -implicitDefEqProofs [n12, n21, n1, n1', n2, n2', ed, hh]
      generalize (rowsVC l).flatten ++ spare.map AV.v = C1 at *
      simp [overlay, eVC] at hset
      simp -implicitDefEqProofs [n12, n21, n1, n1', n2, n2', hlt, hlt', hfit, hset]
      refine shiftK.freeze (b := b) (len := l.length) (cap := cap) 6 91 (rowsVC L) (by simp) (by simp) hck (by simp [hLl]) hcol ?_
      simp -implicitDefEqProofs
end Go.Proofs.YtjbbfiagijjdoaaGreat
