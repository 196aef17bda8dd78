/- Parts of the proof: what is used by the law. No condition. -/
import Derived.Test.YtjbbfiagijjdoaaGreatRows
import Derived.KernelRfl
import Derived.Sort.AssemblyPlain
import Derived.Test.YtjbbfiagijjdoaaGreatGB
set_option linter.unusedSimpArgs false
set_option linter.unusedVariables false
/- Facts on the whole program, the same for each row. No condition. -/
set_option linter.unusedVariables false
set_option maxRecDepth 100000
namespace Go.Proofs.YtjbbfiagijjdoaaGreat.shared
open Go Go.Rw
theorem j1 : laidOutB Tryz.pinned.checked.prog = true := by kernel_rfl
theorem j2 : mapsRowed Tryz.pinned.checked.prog = true := by kernel_rfl
theorem j24 : Tryz.pinned.checked.prog.stopsHeard = true := by kernel_rfl
theorem j25 : Tryz.pinned.checked.prog.mayEnter = true := by kernel_rfl
theorem j26 : (Rows.replicaQuietUptoRow.lifted == Tryz.pinned.checked.prog.liftsFinal) = true := by kernel_rfl
theorem j27 : (Tryz.pinned.checked.prog.make == some Rows.replicaQuietUptoRow.make) = true := by kernel_rfl
end Go.Proofs.YtjbbfiagijjdoaaGreat.shared

/- The law MsgNames, walked. No condition. -/
set_option linter.unusedSimpArgs false
set_option linter.unusedVariables false
set_option maxRecDepth 10000
namespace Go.Proofs.YtjbbfiagijjdoaaGreat
open Go Go.Rw Go.Proofs

def m0 : PMsg := ⟨2, 1, 2, 3, 4, ⟨7, 0⟩, [], []⟩
def a0 : PMsg := ⟨6, 2, 1, 3, 4, ⟨7, 0⟩, [], []⟩
attribute [local irreducible] frameF readF burstF

end Go.Proofs.YtjbbfiagijjdoaaGreat

/- The law MsgOne, walked. No condition. -/
set_option linter.unusedSimpArgs false
set_option linter.unusedVariables false
set_option maxRecDepth 10000
namespace Go.Proofs.YtjbbfiagijjdoaaGreat
open Go Go.Rw Go.Proofs

def cnt1 (q : PMsg) (K F : Int) : Int := if q.kind ≤ 4 ∧ (kindN q.kind < K ∨ (kindN q.kind = K ∧ q.to < F)) then 1 else 0
def prob (q : PMsg) (K F : Int) : PMsg := ⟨K, F, q.frm, q.inc, q.seq, q.view, [], []⟩
def OneI (q a : PMsg) (b b2 : Nat) (t : Nat → AV) (h : Nat → Option (List AV)) : Prop := ∃ K : Nat, t 2 = .ptr b 0 ∧ t 3 = .ptr b2 0 ∧ t 5 = eI (cnt1 q K 0) ∧ t 6 = eI K ∧ K ≤ 8 ∧ h b = some (eM q) ∧ h b2 = some (eM a)
def OneJ (q a : PMsg) (b b2 K : Nat) (t : Nat → AV) (h : Nat → Option (List AV)) : Prop := ∃ F : Nat, t 2 = .ptr b 0 ∧ t 3 = .ptr b2 0 ∧ t 5 = eI (cnt1 q K F) ∧ t 6 = eI K ∧ t 7 = eI F ∧ F ≤ 6 ∧ h b = some (eM q) ∧ h b2 = some (eM a)
def OneE (q a : PMsg) (b b2 : Nat) (t : Nat → AV) (h : Nat → Option (List AV)) : Prop := t 2 = .ptr b 0 ∧ t 3 = .ptr b2 0 ∧ t 5 = eI (if q.kind ≤ 4 then 1 else 0) ∧ h b = some (eM q) ∧ h b2 = some (eM a)

end Go.Proofs.YtjbbfiagijjdoaaGreat

/- The law MsgShort, walked. No condition. -/
set_option linter.unusedSimpArgs false
set_option linter.unusedVariables false
set_option maxRecDepth 10000
namespace Go.Proofs.YtjbbfiagijjdoaaGreat
open Go Go.Rw Go.Proofs

def withTo (m : PMsg) (to : Int) : PMsg := ⟨m.kind, m.frm, to, m.inc, m.seq, m.view, m.cells, m.book⟩
attribute [local irreducible] frameF readF rightM sameM

end Go.Proofs.YtjbbfiagijjdoaaGreat

/- The law MsgBack, walked. No condition. -/
set_option linter.unusedSimpArgs false
set_option linter.unusedVariables false
set_option maxRecDepth 10000
namespace Go.Proofs.YtjbbfiagijjdoaaGreat
open Go Go.Rw Go.Proofs

def zM : PMsg := ⟨0, 0, 0, 0, 0, ⟨0, 0⟩, [], []⟩
attribute [local irreducible] frameF readF rightM sameM burstF

end Go.Proofs.YtjbbfiagijjdoaaGreat

/- Contracts: numbers' bits, told otherwise. No condition. -/
set_option linter.unusedSimpArgs false
set_option linter.unusedVariables false
set_option maxRecDepth 10000
namespace Go.Proofs.YtjbbfiagijjdoaaGreat
open Go Go.Rw Go.Proofs
-- a goal is never to be run by the elaborator
attribute [local irreducible] awp aops aop aopsE aeff

theorem and_u64 (a b : Nat) (ha : a < 18446744073709551616) (hb : b < 18446744073709551616) : bitOp .and .u64 (a : Int) (b : Int) = ((a &&& b : Nat) : Int) := by
  have h1 : bitOp .and .u64 (a : Int) (b : Int) = IntKind.u64.wrap ((BitVec.ofInt 64 (a : Int) &&& BitVec.ofInt 64 (b : Int)).toNat : Int) := rfl
  have h2 : a &&& b ≤ a := Nat.and_le_left
  rw [h1, BitVec.toNat_and]
  have e1 : (BitVec.ofInt 64 (a : Int)).toNat = a := by simp; omega
  have e2 : (BitVec.ofInt 64 (b : Int)).toNat = b := by simp; omega
  rw [e1, e2]
  exact wu64 (by omega) (by omega)
theorem mask_u64 (a k b : Nat) (ha : a < 18446744073709551616) (hk : b = 2 ^ k - 1) (hb : b < 18446744073709551616) : bitOp .and .u64 (a : Int) (b : Int) = ((a % 2 ^ k : Nat) : Int) := by
  rw [and_u64 a b ha hb, hk, Nat.and_two_pow_sub_one_eq_mod]
theorem shr_u64 (a k : Nat) (hk : k ≤ 64) : Int.fdiv (a : Int) (2 ^ min (k : Int).toNat IntKind.u64.bits) = ((a / 2 ^ k : Nat) : Int) := by
  have h1 : min (k : Int).toNat IntKind.u64.bits = k := by simp [IntKind.bits]; omega
  rw [h1, Int.fdiv_eq_ediv_of_nonneg _ (by exact_mod_cast Nat.zero_le _)]
  norm_cast
theorem parts_spec (b : Nat) (h : b < 18446744073709551616) : ASpec Tryz.prog 210 [.v (.int .u64 b)] (· = .tup [.v (.int .u64 (b / 2 ^ 63 : Nat)), .v (.int .u64 (b / 2 ^ 52 % 2 ^ 11 : Nat)), .v (.int .u64 (b % 2 ^ 52 : Nat))]) := by
  refine ASpec.of_awp Tryz.func210 (by kernel_rfl) rfl (by rw [Tryz.results210]) Tryz.ntmps210 ?_
  have s1 : Int.fdiv (b : Int) (2 ^ min 63 IntKind.u64.bits) = ((b / 2 ^ 63 : Nat) : Int) := shr_u64 b 63 (by omega)
  have s2 : Int.fdiv (b : Int) (2 ^ min 52 IntKind.u64.bits) = ((b / 2 ^ 52 : Nat) : Int) := shr_u64 b 52 (by omega)
  have s3 : bitOp .and .u64 ((b / 2 ^ 52 : Nat) : Int) 2047 = ((b / 2 ^ 52 % 2 ^ 11 : Nat) : Int) := mask_u64 (b / 2 ^ 52) 11 2047 (by omega) (by decide) (by omega)
  have s4 : bitOp .and .u64 (b : Int) 4503599627370495 = ((b % 2 ^ 52 : Nat) : Int) := mask_u64 b 52 4503599627370495 h (by decide) (by omega)
  simp -implicitDefEqProofs [aNum_shr, s4]
  refine ⟨?_, ?_⟩
  · rw [s1]; omega
  · rw [s2, s3]; omega
theorem nan_parts (b : Nat) : (b / 2 ^ 52 % 2 ^ 11 = 2047 ∧ b % 2 ^ 52 ≠ 0) ↔ nanB b = true := by
  unfold nanB
  rw [decide_eq_true_iff]
  omega
theorem clean_spec (b : Nat) (h : b < 18446744073709551616) : ASpec Tryz.prog 188 [.v (.int .u64 b)] (· = .v (.int .u64 (bitsF b))) := by
  refine ASpec.of_awp Tryz.func188 (by kernel_rfl) rfl (by rw [Tryz.results188]) Tryz.ntmps188 ?_
  simp -implicitDefEqProofs
  refine CallK.eq (parts_spec b h) ?_
  have hn := nan_parts b
  generalize hE : b / 2 ^ 52 % 2 ^ 11 = E at hn
  generalize hF : b % 2 ^ 52 = F at hn
  by_cases hE7 : (E : Int) = 2047
  · by_cases hF0 : (F : Int) = 0
    · have : nanB b = false := by
        cases hb : nanB b
        · rfl
        · have := hn.2 hb; omega
      simp -implicitDefEqProofs [hE7, hF0, bitsF, cleanB, this]
    · have : nanB b = true := hn.1 ⟨by omega, by omega⟩
      have hF0' : ¬ F = 0 := by omega
      simp -implicitDefEqProofs [hE7, hF0, hF0', bitsF, cleanB, this]
  · have : nanB b = false := by
      cases hb : nanB b
      · rfl
      · have := hn.2 hb; omega
    simp -implicitDefEqProofs [hE7, bitsF, cleanB, this]
theorem bits1_spec (b : Nat) (h : b < 18446744073709551616) : ASpec Tryz.prog 147 [eF b] (· = .v (.int .u64 (bitsF b))) := by
  refine ASpec.of_awp Tryz.func147 (by kernel_rfl) rfl (by rw [Tryz.results147]) Tryz.ntmps147 ?_
  simp -implicitDefEqProofs
  refine CallK.eq (f64bits_spec b) ?_
  simp -implicitDefEqProofs
  refine CallK.eq (clean_spec b h) ?_
  simp -implicitDefEqProofs
end Go.Proofs.YtjbbfiagijjdoaaGreat

/- Contracts: forms of numbers, told otherwise. No condition. -/
set_option linter.unusedSimpArgs false
set_option linter.unusedVariables false
set_option maxRecDepth 10000
namespace Go.Proofs.YtjbbfiagijjdoaaGreat
open Go Go.Rw Go.Proofs

def FmI (n0 : Nat) (t : Nat → AV) (_ : Nat → Option (List AV)) : Prop := ∃ (n : Nat) (out : List UInt8) (tag : Tag), t 0 = .v (.int .u64 n) ∧ t 3 = .sl tag (eB out) ∧ n ≤ n0 ∧ dig (sizeN n) n ++ out = dig (sizeN n0) n0
def Pt2I (b : List UInt8) (ns : List Nat) (t : Nat → AV) (_ : Nat → Option (List AV)) : Prop := ∃ (k : Nat) (out : List UInt8) (tag : Tag), t 11 = .sl .no (eU ns) ∧ t 12 = .v (.int .i64 ns.length) ∧ t 13 = .v (.int .i64 k) ∧
  t 5 = .sl tag (eB out) ∧ appOK tag 5 1 ∧ k ≤ ns.length ∧ out ++ forms (ns.drop k) = b ++ forms ns ∧ out.length ≤ b.length + 9 * k
end Go.Proofs.YtjbbfiagijjdoaaGreat

/- Contracts: numbers out of bytes, told otherwise. No condition. -/
set_option linter.unusedSimpArgs false
set_option linter.unusedVariables false
set_option maxRecDepth 10000
namespace Go.Proofs.YtjbbfiagijjdoaaGreat
open Go Go.Rw Go.Proofs

def Gt2I (b seg : List UInt8) (t : Nat → AV) (_ : Nat → Option (List AV)) : Prop := ∃ j : Nat, t 0 = .sl .no (eB b) ∧ t 6 = .v (.int .i64 ((j : Int) + 1)) ∧ t 5 = .v (.int .u64 (valN (seg.take j))) ∧ j ≤ seg.length
end Go.Proofs.YtjbbfiagijjdoaaGreat

/- Contracts: sums and frames, told otherwise. No condition. -/
set_option linter.unusedSimpArgs false
set_option linter.unusedVariables false
set_option maxRecDepth 10000
namespace Go.Proofs.YtjbbfiagijjdoaaGreat
open Go Go.Rw Go.Proofs

def Of2I (l : List UInt8) (t : Nat → AV) (_ : Nat → Option (List AV)) : Prop := ∃ (k : Nat) (c : BitVec 32), t 0 = .sl .no (eB l) ∧ t 4 = .v (.int .i64 k) ∧ t 3 = .v (.int .u32 (n32 c)) ∧ k ≤ 8 * l.length ∧ crcS c ((toBits l).drop k) = crcL (BitVec.allOnes 32) l
end Go.Proofs.YtjbbfiagijjdoaaGreat

/- Contracts: changes, tags and lists that can be, told otherwise. No condition. -/
set_option linter.unusedSimpArgs false
set_option linter.unusedVariables false
set_option maxRecDepth 10000
namespace Go.Proofs.YtjbbfiagijjdoaaGreat
open Go Go.Rw Go.Proofs
-- a goal is never to be run by the elaborator
attribute [local irreducible] awp aops aop aopsE aeff

theorem right4_spec (v : PView) : ASpec Tryz.prog 30 [.agg (eV v)] (· = .v (.bool (rightV v))) := by
  refine ASpec.of_awp Tryz.func30 (by kernel_rfl) rfl (by rw [Tryz.results30]) Tryz.ntmps30 ?_
  simp -implicitDefEqProofs [eV]
  refine allocK.intro (fun b hb => ?_)
  by_cases h1 : 0 ≤ v.add
  · by_cases h2 : v.add ≤ 63
    · by_cases h3 : 0 ≤ v.del
      · by_cases h4 : v.del ≤ 63
        · simp -implicitDefEqProofs [h1, h2, h3, h4, rightV]
          omega
        · simp -implicitDefEqProofs [h1, h2, h3, h4, rightV]
          omega
      · simp -implicitDefEqProofs [h1, h2, h3, rightV]
    · simp -implicitDefEqProofs [h1, h2, rightV]
      omega
  · simp -implicitDefEqProofs [h1, rightV]
theorem right6_spec (t : PTag) : ASpec Tryz.prog 165 [.agg (eT t)] (· = .v (.bool (rightT t))) := by
  refine ASpec.of_awp Tryz.func165 (by kernel_rfl) rfl (by rw [Tryz.results165]) Tryz.ntmps165 ?_
  simp -implicitDefEqProofs [eT]
  refine allocK.intro (fun b hb => ?_)
  by_cases h0 : t.num = 0
  · by_cases h1 : t.node = 0
    · simp -implicitDefEqProofs [h0, h1, rightT]
    · simp -implicitDefEqProofs [h0, h1, rightT]
  · by_cases h1 : 0 < t.num
    · by_cases h2 : t.num ≤ 1000000
      · by_cases h3 : 0 ≤ t.node
        · by_cases h4 : t.node ≤ 5
          · simp -implicitDefEqProofs [h0, h1, h2, h3, h4, rightT]
            omega
          · simp -implicitDefEqProofs [h0, h1, h2, h3, h4, rightT]
            omega
        · simp -implicitDefEqProofs [h0, h1, h2, h3, rightT]
      · simp -implicitDefEqProofs [h0, h1, h2, rightT]
    · have : ¬ 0 ≤ t.num := by omega
      simp -implicitDefEqProofs [h0, h1, this, rightT]
theorem name4_spec (v : PView) (h : rightV v = true) : ASpec Tryz.prog 98 [.agg (eV v)] (· = eI (nameV v)) := by
  refine ASpec.of_awp Tryz.func98 (by kernel_rfl) rfl (by rw [Tryz.results98]) Tryz.ntmps98 ?_
  simp -implicitDefEqProofs [eV]
  refine allocK.intro (fun b hb => ?_)
  simp [rightV] at h
  have e1 : IntKind.i64.wrap (64 * v.add) = 64 * v.add := w64 (by omega) (by omega)
  have e2 : IntKind.i64.wrap (64 * v.add + v.del) = 64 * v.add + v.del := w64 (by omega) (by omega)
  simp -implicitDefEqProofs [e1, e2, nameV]
  omega
def Nm4I (n : Int) (b : Nat) (t : Nat → AV) (h : Nat → Option (List AV)) : Prop := ∃ k : Nat, t 0 = eI n ∧ t 2 = .ptr b 0 ∧ t 4 = eI k ∧ h b = some (eV ⟨0, 0⟩) ∧ k ≤ 64 ∧ ¬ (0 ≤ n ∧ n < 64 * (k : Int))
theorem named4_spec (n : Int) : ASpec Tryz.prog 139 [eI n] (· = namedA n) := by
  refine ASpec.of_awp Tryz.func139 (by kernel_rfl) rfl (by rw [Tryz.results139]) Tryz.ntmps139 ?_
  simp -implicitDefEqProofs
  refine allocK.intro (fun b hb => ?_)
  simp -implicitDefEqProofs
  refine loopK.intro (Nm4I n b) (fun t => 64 - natOf (t 4)) ?_ ?_
  · exact ⟨0, by simp, by simp, by simp, by simp [eV], by omega, by omega⟩
  rintro t hh ⟨k, g0, g2, g4, gb, hk, hn⟩
  simp -implicitDefEqProofs [g4]
  refine branch_dec (fun hlt => ?_) (fun hlt => ?_)
  · have hlt : k < 64 := by omega
    have w1 : IntKind.i64.wrap (64 * (k : Int)) = 64 * k := w64 (by omega) (by omega)
    have w2 : IntKind.i64.wrap (64 * (k : Int) + 63) = 64 * k + 63 := w64 (by omega) (by omega)
    have w3 : IntKind.i64.wrap ((k : Int) + 1) = (k : Int) + 1 := w64 (by omega) (by omega)
    by_cases h1 : 64 * (k : Int) ≤ n
    · by_cases h2 : n ≤ 64 * (k : Int) + 63
      · have w4 : IntKind.i64.wrap (n - 64 * (k : Int)) = n - 64 * (k : Int) := w64 (by omega) (by omega)
        have h3 : 0 ≤ n ∧ n < 4096 := by omega
        have e1 : n / 64 = k := by omega
        have e2 : n % 64 = n - 64 * (k : Int) := by omega
        simp -implicitDefEqProofs [g0, g2, g4, gb, w1, w2, h1, h2, w4, namedA, h3, e1, e2, eV]
      · simp -implicitDefEqProofs [g0, g2, g4, gb, w1, w2, w3, h1, h2]
        exact ⟨⟨k + 1, by simp [g0], by simp [g2], by simp, by simp [gb], by omega, by omega⟩, by omega⟩
    · simp -implicitDefEqProofs [g0, g2, g4, gb, w1, w2, w3, h1]
      exact ⟨⟨k + 1, by simp [g0], by simp [g2], by simp, by simp [gb], by omega, by omega⟩, by omega⟩
  · have hk' : k = 64 := by omega
    subst hk'
    have h3 : ¬ (0 ≤ n ∧ n < 4096) := by omega
    simp -implicitDefEqProofs [g2, gb, namedA, h3, eV]
end Go.Proofs.YtjbbfiagijjdoaaGreat

/- Plain laws: what is read is the frame of what was read. No condition. -/
set_option linter.unusedSimpArgs false
set_option linter.unusedVariables false
namespace Go.Proofs.YtjbbfiagijjdoaaGreat
open Go Go.Proofs

theorem nameV_view {n : Int} (h : 0 ≤ n ∧ n < 4096) : nameV (viewN n) = n := by
  simp only [viewN, h, and_self, if_true, nameV]
  omega
attribute [local irreducible] rdInt rdBits rdL rdMany rdView getF
end Go.Proofs.YtjbbfiagijjdoaaGreat

/- Plain laws: a frame read as a list of numbers, then told again. No condition. -/
set_option linter.unusedSimpArgs false
set_option linter.unusedVariables false
namespace Go.Proofs.YtjbbfiagijjdoaaGreat
open Go Go.Proofs

/-- at most so many numbers out of bytes -/
def getsF : Nat → List UInt8 → Option (List Nat)
  | 0, _ => some []
  | k + 1, l => if l = [] then some [] else match getF l with
    | none => none
    | some (n, r) => (getsF k r).map (n :: ·)
def atN (ns : List Nat) (i : Nat) : Int := match ns[i]? with
  | none => 1099511627776
  | some n => if 1099511627776 < n then 1099511627776 else n
def cntC (ns : List Nat) : Nat := min (atN ns 6).toNat 6
def posE (ns : List Nat) : Nat := 8 + 2 * cntC ns
def cntE (ns : List Nat) : Nat := min (atN ns (7 + 2 * cntC ns)).toNat 4
def cellN (ns : List Nat) (j : Nat) : PCell := ⟨atN ns (7 + 2 * j), viewN (atN ns (8 + 2 * j))⟩
def entryN (ns : List Nat) (p : Nat) : PEntry := ⟨atN ns p, ⟨atN ns (p + 1), atN ns (p + 2)⟩, (ns[p + 3]?).getD 0⟩
def cellsN (ns : List Nat) (k : Nat) : List PCell := (List.range k).map (cellN ns)
def bookN (ns : List Nat) (k : Nat) : List PEntry := (List.range k).map fun j => entryN ns (posE ns + 4 * j)
def msgN (ns : List Nat) : PMsg := ⟨atN ns 0, atN ns 1, atN ns 2, atN ns 3, atN ns 4, viewN (atN ns 5), cellsN ns (cntC ns), bookN ns (cntE ns)⟩
def readN (cl : Nat → Nat) (f : List UInt8) : Option PMsg := match openF f with
  | none => none
  | some b => match getsF 60 b with
    | none => none
    | some ns => if rightM (msgN ns) = true ∧ frameF cl (msgN ns) = f then some (msgN ns) else none

end Go.Proofs.YtjbbfiagijjdoaaGreat

/- Plain laws: the two readers answer alike. No condition. -/
set_option linter.unusedSimpArgs false
set_option linter.unusedVariables false
namespace Go.Proofs.YtjbbfiagijjdoaaGreat
open Go Go.Proofs

end Go.Proofs.YtjbbfiagijjdoaaGreat

/- Plain: sets of nodes, and orders. No condition. -/
set_option linter.unusedSimpArgs false
set_option linter.unusedVariables false
set_option maxRecDepth 10000
namespace Go.Proofs.YtjbbfiagijjdoaaGreat
open Go Go.Rw Go.Proofs

/-- whole numbers as rows -/
def eZs (l : List Int) : List (List AV) := l.map fun n => [eI n]
@[simp] theorem eZs_length (l : List Int) : (eZs l).length = l.length := by simp [eZs]
@[simp] theorem eZs_get (l : List Int) (i : Nat) : (eZs l)[i]? = (l[i]?).map fun n => [eI n] := by simp [eZs]
@[simp] theorem eZs_nil : eZs [] = [] := rfl
@[simp] theorem eZs_append (l m : List Int) : eZs l ++ eZs m = eZs (l ++ m) := by simp [eZs]
theorem eZs_one (l : List Int) : ∀ r ∈ eZs l, r.length = 1 := by
  intro r hr
  obtain ⟨b, _, rfl⟩ := List.mem_map.1 hr
  rfl
@[simp] theorem eZs_rows (l : List Int) : (∀ r : List AV, r ∈ eZs l → r.length = 1) ↔ True := iff_of_true (eZs_one l) trivial
/-- views as rows -/
def eVs (l : List PView) : List (List AV) := l.map eV
@[simp] theorem eVs_length (l : List PView) : (eVs l).length = l.length := by simp [eVs]
@[simp] theorem eVs_get (l : List PView) (i : Nat) : (eVs l)[i]? = (l[i]?).map eV := by simp [eVs]
@[simp] theorem eVs_nil : eVs [] = [] := rfl
@[simp] theorem eVs_append (l m : List PView) : eVs l ++ eVs m = eVs (l ++ m) := by simp [eVs]
@[simp] theorem eVs_take (l : List PView) (i : Nat) : (eVs l).take i = eVs (l.take i) := by simp [eVs]
@[simp] theorem eVs_drop (l : List PView) (i : Nat) : (eVs l).drop i = eVs (l.drop i) := by simp [eVs]
theorem eVs_one (l : List PView) : ∀ r ∈ eVs l, r.length = 2 := by
  intro r hr
  obtain ⟨b, _, rfl⟩ := List.mem_map.1 hr
  rfl
@[simp] theorem eVs_rows (l : List PView) : (∀ r : List AV, r ∈ eVs l → r.length = 2) ↔ True := iff_of_true (eVs_one l) trivial

/-- is a node in a set? -/
def bitV (x : Int) (k : Nat) : Bool := decide (x / 2 ^ k % 2 = 1)
/-- the set of the nodes for which something holds -/
def setN (f : Nat → Bool) : Int := (if f 0 then 1 else 0) + (if f 1 then 2 else 0) + (if f 2 then 4 else 0) + (if f 3 then 8 else 0) + (if f 4 then 16 else 0) + (if f 5 then 32 else 0)
def andN (x y : Int) : Int := setN fun k => bitV x k && !bitV y k
def minusV (a b : PView) : PView := ⟨andN a.add b.add, andN a.del b.del⟩
def withinV (a b : PView) : Bool := decide (minusV a b = ⟨0, 0⟩)
def inV (v : PView) (node : Int) : Bool := decide (0 ≤ node ∧ node < 6) && bitV v.add node.toNat && !bitV v.del node.toNat
def membersV (v : PView) : List Int := [0, 1, 2, 3, 4, 5].filter (inV v)
def manyV (v : PView) (who : List Int) : Nat := ((membersV v).filter fun m => decide (m ∈ who)).length
def enoughV (v : PView) (who : List Int) : Bool := decide ((membersV v).length < 2 * manyV v who)
def cmpI (x y : Int) : Int := if x < y then -1 else if y < x then 1 else 0
def orF : List Int → Int
  | [] => 0
  | x :: l => if x = 0 then orF l else x
def compV (a b : PView) : Int := orF [cmpI (sizeV a) (sizeV b), cmpI (nameV a) (nameV b)]
def lessV (a b : PView) : Bool := decide (compV a b < 0)
def compT (a b : PTag) : Int := orF [cmpI a.num b.num, cmpI a.node b.node]
def lessT (a b : PTag) : Bool := decide (compT a b < 0)
theorem lessT_eq (a b : PTag) : lessT a b = if a.num = b.num then decide (a.node < b.node) else decide (a.num < b.num) := by
  unfold lessT compT
  simp only [orF, cmpI]
  by_cases h1 : a.num < b.num
  · have h2 : ¬ a.num = b.num := by omega
    simp [h1, h2]
  · by_cases h2 : b.num < a.num
    · have h3 : ¬ a.num = b.num := by omega
      simp [h1, h2, h3]
    · have h3 : a.num = b.num := by omega
      by_cases h4 : a.node < b.node
      · simp [h3, h4]
      · by_cases h5 : b.node < a.node <;> simp [h3, h4, h5]
theorem lessV_eq (a b : PView) : lessV a b = if sizeV a = sizeV b then decide (nameV a < nameV b) else decide (sizeV a < sizeV b) := by
  unfold lessV compV
  simp only [orF, cmpI]
  by_cases h1 : sizeV a < sizeV b
  · have h2 : ¬ sizeV a = sizeV b := by omega
    simp [h1, h2]
  · by_cases h2 : sizeV b < sizeV a
    · have h3 : ¬ sizeV a = sizeV b := by omega
      simp [h1, h2, h3]
    · have h3 : sizeV a = sizeV b := by omega
      by_cases h4 : nameV a < nameV b
      · simp [h3, h4]
      · by_cases h5 : nameV b < nameV a <;> simp [h3, h4, h5]

theorem fin64 {P : Int → Prop} (h : ∀ x : Fin 64, P ((x.val : Nat) : Int)) {x : Int} (h0 : 0 ≤ x) (h1 : x < 64) : P x := by
  have := h ⟨x.toNat, by omega⟩
  have e : ((x.toNat : Nat) : Int) = x := by omega
  simpa [e] using this
theorem andNot_fin : ∀ x y : Fin 64, bitOp .andNot .i64 ((x.val : Nat) : Int) ((y.val : Nat) : Int) = andN ((x.val : Nat) : Int) ((y.val : Nat) : Int) := by decide +kernel
theorem andNot_eq {x y : Int} (h0 : 0 ≤ x) (h1 : x < 64) (h2 : 0 ≤ y) (h3 : y < 64) : bitOp .andNot .i64 x y = andN x y :=
  fin64 (P := fun x => bitOp .andNot .i64 x y = andN x y) (fun a => fin64 (P := fun y => bitOp .andNot .i64 ((a.val : Nat) : Int) y = andN ((a.val : Nat) : Int) y) (fun b => andNot_fin a b) h2 h3) h0 h1
def sumN (f : Nat → Bool) : Nat → Int
  | 0 => 0
  | k + 1 => sumN f k + (if f k then 2 ^ k else 0)
theorem sumN_six (f : Nat → Bool) : sumN f 6 = setN f := by simp [sumN, setN]
theorem sumN_lt (f : Nat → Bool) (k : Nat) : 0 ≤ sumN f k ∧ sumN f k < 2 ^ k := by
  induction k with
  | zero => simp [sumN]
  | succ k ih =>
    have e : (2 : Int) ^ (k + 1) = 2 * 2 ^ k := by rw [Int.pow_succ]; omega
    rw [sumN, e]
    split <;> omega
def popS (v : PView) : Nat → Int
  | 0 => 0
  | k + 1 => popS v k + (if bitV v.add k then 1 else 0) + (if bitV v.del k then 1 else 0)
theorem popS_le (v : PView) (k : Nat) : 0 ≤ popS v k ∧ popS v k ≤ 2 * k := by
  induction k with
  | zero => simp [popS]
  | succ k ih => rw [popS]; split <;> split <;> omega
def pop1 (x : Int) : Nat → Int
  | 0 => 0
  | k + 1 => pop1 x k + (if bitV x k then 1 else 0)
theorem popS_split (v : PView) (k : Nat) : popS v k = pop1 v.add k + pop1 v.del k := by
  induction k with
  | zero => rfl
  | succ k ih => rw [popS, pop1, pop1, ih]; omega
theorem pop_fin : ∀ x : Fin 64, pop1 ((x.val : Nat) : Int) 6 = (popN 64 x.val : Int) := by decide +kernel
theorem popS_size {v : PView} (h : rightV v = true) : popS v 6 = sizeV v := by
  simp [rightV] at h
  have e : ∀ {x : Int}, 0 ≤ x → x < 64 → pop1 x 6 = (popN 64 x.toNat : Int) := fun h0 h1 =>
    fin64 (P := fun x => pop1 x 6 = (popN 64 x.toNat : Int)) (fun a => by simpa using pop_fin a) h0 h1
  rw [popS_split, e h.1.1 h.1.2, e h.2.1 h.2.2]
  unfold sizeV
  rfl
theorem bitV_fin : ∀ (y : Fin 64) (m : Fin 6), bitV ((y.val : Nat) : Int) (m.val + 1) = bitV (((y.val : Nat) : Int) / 2) m.val := by decide +kernel
theorem bitV_succ {y : Int} (h0 : 0 ≤ y) (h1 : y < 64) {m : Nat} (hm : m < 6) : bitV y (m + 1) = bitV (y / 2) m :=
  fin64 (P := fun y => bitV y (m + 1) = bitV (y / 2) m) (fun a => bitV_fin a ⟨m, hm⟩) h0 h1
theorem bitV_zero (y : Int) : bitV y 0 = decide (y % 2 = 1) := by simp [bitV]
/-- six yes or no -/
def eB6 (f : Nat → Bool) : List AV := [.v (.bool (f 0)), .v (.bool (f 1)), .v (.bool (f 2)), .v (.bool (f 3)), .v (.bool (f 4)), .v (.bool (f 5))]
end Go.Proofs.YtjbbfiagijjdoaaGreat

/- Contracts: sets of nodes, orders. No condition. -/
set_option linter.unusedSimpArgs false
set_option linter.unusedVariables false
set_option maxRecDepth 10000
namespace Go.Proofs.YtjbbfiagijjdoaaGreat
open Go Go.Rw Go.Proofs
-- a goal is never to be run by the elaborator
attribute [local irreducible] awp aops aop aopsE aeff

theorem nan_int (x : Int) : ASpec Tryz.prog 176 [eI x] (· = .v (.bool false)) := by
  refine ASpec.of_awp Tryz.func176 (by kernel_rfl) rfl (by rw [Tryz.results176]) Tryz.ntmps176 ?_
  simp -implicitDefEqProofs
theorem compare_int (x y : Int) : ASpec Tryz.prog 143 [eI x, eI y] (· = eI (cmpI x y)) := by
  refine ASpec.of_awp Tryz.func143 (by kernel_rfl) rfl (by rw [Tryz.results143]) Tryz.ntmps143 ?_
  simp -implicitDefEqProofs
  refine CallK.eq (nan_int x) ?_
  simp -implicitDefEqProofs
  refine CallK.eq (nan_int y) ?_
  by_cases h1 : x < y
  · simp -implicitDefEqProofs [h1, cmpI]
  · by_cases h2 : y < x
    · simp -implicitDefEqProofs [h1, h2, cmpI]
    · simp -implicitDefEqProofs [h1, h2, cmpI]
def OrI (l : List Int) (t : Nat → AV) (_ : Nat → Option (List AV)) : Prop := ∃ k : Nat, t 3 = eI 0 ∧ t 6 = .sl .no (eZs l) ∧ t 7 = eI l.length ∧ t 8 = eI k ∧ k ≤ l.length ∧ orF (l.drop k) = orF l
theorem or_ints (l : List Int) : ASpec Tryz.prog 187 [.sl .no (eZs l)] (· = eI (orF l)) := by
  refine ASpec.of_awp Tryz.func187 (by kernel_rfl) rfl (by rw [Tryz.results187]) Tryz.ntmps187 ?_
  simp -implicitDefEqProofs
  intro _
  refine loopK.intro (OrI l) (fun t => l.length - natOf (t 8)) ?_ ?_
  · exact ⟨0, by simp, by simp, by simp, by simp, by omega, by simp⟩
  rintro t hh ⟨k, g3, g6, g7, g8, hk, he⟩
  by_cases hlt : k < l.length
  · have hlt' : (k : Int) < (l.length : Int) := by omega
    obtain ⟨x, hx⟩ : ∃ x, l[k]? = some x := ⟨l[k], by simp [hlt]⟩
    have hw : IntKind.i64.wrap ((k : Int) + 1) = ((k + 1 : Nat) : Int) := by rw [w64 (by omega) (by omega)]; omega
    have hd : l.drop k = x :: l.drop (k + 1) := by
      rw [List.drop_eq_getElem_cons hlt]; rw [List.getElem?_eq_getElem hlt] at hx; rw [Option.some.inj hx]
    rw [hd, orF] at he
    by_cases h0 : x = 0
    · rw [if_pos h0] at he
      simp -implicitDefEqProofs [g3, g6, g7, g8, hlt', hx, h0, hw]
      exact ⟨⟨k + 1, by simp [g3], by simp [g6], by simp [g7], by simp, by omega, he⟩, by omega⟩
    · rw [if_neg h0] at he
      rw [← he]
      simp -implicitDefEqProofs [g3, g6, g7, g8, hlt', hx, h0]
  · have hlt' : ¬ (k : Int) < (l.length : Int) := by omega
    rw [List.drop_of_length_le (by omega)] at he
    simp -implicitDefEqProofs [g3, g6, g7, g8, hlt', ← he, orF]
theorem or_two (a b : Int) : ASpec Tryz.prog 187 [.sl .no [[eI a], [eI b]]] (· = eI (orF [a, b])) := or_ints [a, b]
theorem minus_spec (a b : PView) (ha : rightV a = true) (hb : rightV b = true) : ASpec Tryz.prog 118 [.agg (eV a), .agg (eV b)] (· = .agg (eV (minusV a b))) := by
  simp [rightV] at ha hb
  refine ASpec.of_awp Tryz.func118 (by kernel_rfl) rfl (by rw [Tryz.results118]) Tryz.ntmps118 ?_
  simp -implicitDefEqProofs [eV]
  refine allocK.intro (fun b1 hb1 => ?_)
  simp -implicitDefEqProofs
  refine allocK.intro (fun b2 hb2 => ?_)
  have n12 : ¬ b1 = b2 := by rintro rfl; simp at hb2
  have n21 : ¬ b2 = b1 := fun h => n12 h.symm
  simp -implicitDefEqProofs [n12, n21]
  refine allocK.intro (fun b3 hb3 => ?_)
  have n13 : ¬ b1 = b3 := by rintro rfl; simp [n12] at hb3
  have n31 : ¬ b3 = b1 := fun h => n13 h.symm
  have n23 : ¬ b2 = b3 := by rintro rfl; simp at hb3
  have n32 : ¬ b3 = b2 := fun h => n23 h.symm
  simp -implicitDefEqProofs [n12, n21, n13, n31, n23, n32, andNot_eq ha.1.1 ha.1.2 hb.1.1 hb.1.2, andNot_eq ha.2.1 ha.2.2 hb.2.1 hb.2.2, minusV, eV]
theorem within_spec (a b : PView) (ha : rightV a = true) (hb : rightV b = true) : ASpec Tryz.prog 60 [.agg (eV a), .agg (eV b)] (· = .v (.bool (withinV a b))) := by
  refine ASpec.of_awp Tryz.func60 (by kernel_rfl) rfl (by rw [Tryz.results60]) Tryz.ntmps60 ?_
  simp -implicitDefEqProofs [eV]
  refine allocK.intro (fun b1 hb1 => ?_)
  simp -implicitDefEqProofs
  refine allocK.intro (fun b2 hb2 => ?_)
  have n12 : ¬ b1 = b2 := by rintro rfl; simp at hb2
  have n21 : ¬ b2 = b1 := fun h => n12 h.symm
  simp -implicitDefEqProofs [n12, n21]
  refine CallK.with (minus_spec a b ha hb) (by simp [eV]) ?_
  have e : withinV a b = ((minusV a b).add == 0 && (minusV a b).del == 0) := by
    unfold withinV
    obtain ⟨p, q⟩ := minusV a b
    by_cases h1 : p = 0 <;> by_cases h2 : q = 0 <;> simp [h1, h2]
  simp -implicitDefEqProofs [eV, e]
theorem compare_spec (a b : PView) (ha : rightV a = true) (hb : rightV b = true) : ASpec Tryz.prog 146 [.agg (eV a), .agg (eV b)] (· = eI (compV a b)) := by
  refine ASpec.of_awp Tryz.func146 (by kernel_rfl) rfl (by rw [Tryz.results146]) Tryz.ntmps146 ?_
  simp -implicitDefEqProofs [eV]
  refine allocK.intro (fun b1 hb1 => ?_)
  simp -implicitDefEqProofs
  refine allocK.intro (fun b2 hb2 => ?_)
  have n12 : ¬ b1 = b2 := by rintro rfl; simp at hb2
  have n21 : ¬ b2 = b1 := fun h => n12 h.symm
  simp -implicitDefEqProofs [n12, n21]
  refine regionK.intro 13 follows_mixed (by kernel_rfl) ?_
  simp -implicitDefEqProofs [n12, n21]
  refine CallQ.with (change_size a ha) (by simp [eV]) ?_
  simp -implicitDefEqProofs [n12, n21]
  refine CallQ.with (change_size b hb) (by simp [eV]) ?_
  simp -implicitDefEqProofs [n12, n21]
  refine CallQ.eq (compare_int (sizeV a) (sizeV b)) ?_
  simp -implicitDefEqProofs [n12, n21]
  refine CallQ.with (change_name a ha) (by simp [eV]) ?_
  simp -implicitDefEqProofs [n12, n21]
  refine CallQ.with (change_name b hb) (by simp [eV]) ?_
  simp -implicitDefEqProofs [n12, n21]
  refine CallQ.eq (compare_int (nameV a) (nameV b)) ?_
  simp -implicitDefEqProofs [n12, n21]
  refine CallQ.with (or_two (cmpI (sizeV a) (sizeV b)) (cmpI (nameV a) (nameV b))) (by simp) ?_
  simp -implicitDefEqProofs [compV]
theorem less_spec (a b : PView) (ha : rightV a = true) (hb : rightV b = true) : ASpec Tryz.prog 84 [.agg (eV a), .agg (eV b)] (· = .v (.bool (lessV a b))) := by
  refine ASpec.of_awp Tryz.func84 (by kernel_rfl) rfl (by rw [Tryz.results84]) Tryz.ntmps84 ?_
  simp -implicitDefEqProofs [eV]
  refine allocK.intro (fun b1 hb1 => ?_)
  simp -implicitDefEqProofs
  refine allocK.intro (fun b2 hb2 => ?_)
  have n12 : ¬ b1 = b2 := by rintro rfl; simp at hb2
  have n21 : ¬ b2 = b1 := fun h => n12 h.symm
  simp -implicitDefEqProofs [n12, n21]
  refine CallK.with (compare_spec a b ha hb) (by simp [eV]) ?_
  simp -implicitDefEqProofs [lessV]
theorem compareT_spec (a b : PTag) : ASpec Tryz.prog 174 [.agg (eT a), .agg (eT b)] (· = eI (compT a b)) := by
  refine ASpec.of_awp Tryz.func174 (by kernel_rfl) rfl (by rw [Tryz.results174]) Tryz.ntmps174 ?_
  simp -implicitDefEqProofs [eT]
  refine allocK.intro (fun b1 hb1 => ?_)
  simp -implicitDefEqProofs
  refine allocK.intro (fun b2 hb2 => ?_)
  have n12 : ¬ b1 = b2 := by rintro rfl; simp at hb2
  have n21 : ¬ b2 = b1 := fun h => n12 h.symm
  simp -implicitDefEqProofs [n12, n21]
  refine regionK.intro 13 follows_mixed (by kernel_rfl) ?_
  simp -implicitDefEqProofs [n12, n21]
  refine CallQ.eq (compare_int a.num b.num) ?_
  simp -implicitDefEqProofs [n12, n21]
  refine CallQ.eq (compare_int a.node b.node) ?_
  simp -implicitDefEqProofs [n12, n21]
  refine CallQ.with (or_two (cmpI a.num b.num) (cmpI a.node b.node)) (by simp) ?_
  simp -implicitDefEqProofs [compT]
theorem lessT_spec (a b : PTag) : ASpec Tryz.prog 137 [.agg (eT a), .agg (eT b)] (· = .v (.bool (lessT a b))) := by
  refine ASpec.of_awp Tryz.func137 (by kernel_rfl) rfl (by rw [Tryz.results137]) Tryz.ntmps137 ?_
  simp -implicitDefEqProofs [eT]
  refine allocK.intro (fun b1 hb1 => ?_)
  simp -implicitDefEqProofs
  refine allocK.intro (fun b2 hb2 => ?_)
  have n12 : ¬ b1 = b2 := by rintro rfl; simp at hb2
  have n21 : ¬ b2 = b1 := fun h => n12 h.symm
  simp -implicitDefEqProofs [n12, n21]
  refine CallK.with (compareT_spec a b) (by simp [eT]) ?_
  simp -implicitDefEqProofs [lessT]
theorem less6_spec (a b : PTag) : ASpec Tryz.prog 75 [.agg (eT a), .agg (eT b)] (· = .v (.bool (lessT a b))) := by
  refine ASpec.of_awp Tryz.func75 (by kernel_rfl) rfl (by rw [Tryz.results75]) Tryz.ntmps75 ?_
  simp -implicitDefEqProofs [eT]
  refine allocK.intro (fun b1 hb1 => ?_)
  simp -implicitDefEqProofs
  refine allocK.intro (fun b2 hb2 => ?_)
  have n12 : ¬ b1 = b2 := by rintro rfl; simp at hb2
  have n21 : ¬ b2 = b1 := fun h => n12 h.symm
  rw [lessT_eq]
  by_cases h : a.num = b.num
  · simp -implicitDefEqProofs [n12, n21, h]
  · simp -implicitDefEqProofs [n12, n21, h]
end Go.Proofs.YtjbbfiagijjdoaaGreat

/- Contracts: sets of nodes, told otherwise; members. No condition. -/
set_option linter.unusedSimpArgs false
set_option linter.unusedVariables false
set_option maxRecDepth 10000
namespace Go.Proofs.YtjbbfiagijjdoaaGreat
open Go Go.Rw Go.Proofs
-- a goal is never to be run by the elaborator
attribute [local irreducible] awp aops aop aopsE aeff

def BitI (x : Int) (n : Nat) (t : Nat → AV) (_ : Nat → Option (List AV)) : Prop := ∃ (k : Nat) (y : Int), t 0 = eI y ∧ t 1 = eI n ∧ t 5 = eI k ∧ k ≤ n ∧ 0 ≤ y ∧ y < 64 ∧ bitV y (n - k) = bitV x n
def BitM (x : Int) (n : Nat) (t : Nat → AV) (_ : Nat → Option (List AV)) : Prop := ∃ y : Int, t 0 = eI y ∧ 0 ≤ y ∧ y < 64 ∧ bitV y 0 = bitV x n
theorem bit4_spec (x : Int) (n : Nat) (h0 : 0 ≤ x) (h1 : x < 64) (hn : n < 6) : ASpec Tryz.prog 190 [eI x, eI n] (· = .v (.bool (bitV x n))) := by
  refine ASpec.of_awp Tryz.func190 (by kernel_rfl) rfl (by rw [Tryz.results190]) Tryz.ntmps190 ?_
  simp -implicitDefEqProofs
  refine loopK.post (BitI x n) (fun t => n - natOf (t 5)) (BitM x n) ?_ ?_ ?_
  · exact ⟨0, x, by simp, by simp, by simp, by omega, h0, h1, by simp⟩
  · rintro t hh ⟨k, y, g0, g1, g5, hk, y0, y1, he⟩
    by_cases hlt : k < n
    · have hlt' : (k : Int) < (n : Int) := by omega
      have e1 : y.tdiv 2 = y / 2 := Int.tdiv_eq_ediv_of_nonneg y0
      have e2 : IntKind.i64.wrap (y / 2) = y / 2 := w64 (by omega) (by omega)
      have hw : IntKind.i64.wrap ((k : Int) + 1) = ((k + 1 : Nat) : Int) := by rw [w64 (by omega) (by omega)]; omega
      have he2 : bitV (y / 2) (n - (k + 1)) = bitV x n := by
        rw [← bitV_succ y0 y1 (by omega), show n - (k + 1) + 1 = n - k by omega]; exact he
      simp -implicitDefEqProofs [g0, g1, g5, hlt', e1, e2, hw]
      exact ⟨⟨k + 1, y / 2, by simp, by simp [g1], by simp, by omega, by omega, by omega, he2⟩, by omega⟩
    · have hlt' : ¬ (k : Int) < (n : Int) := by omega
      rw [show n - k = 0 by omega] at he
      simp -implicitDefEqProofs [g0, g1, g5, hlt']
      exact ⟨y, by simp [g0], y0, y1, he⟩
  rintro t hh ⟨y, g0, y0, y1, he⟩
  have e1 : y.tmod 2 = y % 2 := Int.tmod_eq_emod_of_nonneg y0
  rw [← he, bitV_zero]
  simp -implicitDefEqProofs [g0, e1]
theorem has4_spec (v : PView) (n : Nat) (h : rightV v = true) (hn : n < 6) : ASpec Tryz.prog 153 [.agg (eV v), eI n] (· = .tup [.v (.bool (bitV v.add n)), .v (.bool (bitV v.del n))]) := by
  simp [rightV] at h
  refine ASpec.of_awp Tryz.func153 (by kernel_rfl) rfl (by rw [Tryz.results153]) Tryz.ntmps153 ?_
  simp -implicitDefEqProofs [eV]
  refine allocK.intro (fun b1 hb1 => ?_)
  simp -implicitDefEqProofs
  refine regionK.intro 10 follows_mixed (by kernel_rfl) ?_
  simp -implicitDefEqProofs
  refine CallQ.eq (bit4_spec v.add n h.1.1 h.1.2 hn) ?_
  simp -implicitDefEqProofs
  refine CallQ.eq (bit4_spec v.del n h.2.1 h.2.2 hn) ?_
  simp -implicitDefEqProofs
def SizI (v : PView) (b1 : Nat) (t : Nat → AV) (h : Nat → Option (List AV)) : Prop := ∃ k : Nat, t 1 = .ptr b1 0 ∧ t 3 = eI (popS v k) ∧ t 4 = eI k ∧ h b1 = some (eV v) ∧ k ≤ 6
def SizM (v : PView) (t : Nat → AV) (_ : Nat → Option (List AV)) : Prop := t 3 = eI (sizeV v)
theorem size4_spec (v : PView) (h : rightV v = true) : ASpec Tryz.prog 97 [.agg (eV v)] (· = eI (sizeV v)) := by
  refine ASpec.of_awp Tryz.func97 (by kernel_rfl) rfl (by rw [Tryz.results97]) Tryz.ntmps97 ?_
  simp -implicitDefEqProofs [eV]
  refine allocK.intro (fun b1 hb1 => ?_)
  simp -implicitDefEqProofs
  refine loopK.post (SizI v b1) (fun t => 6 - natOf (t 4)) (SizM v) ?_ ?_ ?_
  · exact ⟨0, by simp, by simp [popS], by simp, by simp [eV], by omega⟩
  · rintro t hh ⟨k, g1, g3, g4, gb, hk⟩
    rw [eV] at gb
    by_cases hlt : k < 6
    · have hlt' : (k : Int) < 6 := by omega
      have hw : IntKind.i64.wrap ((k : Int) + 1) = ((k + 1 : Nat) : Int) := by rw [w64 (by omega) (by omega)]; omega
      have hp := popS_le v k
      have w1 : IntKind.i64.wrap (popS v k + 1) = popS v k + 1 := w64 (by omega) (by omega)
      have w2 : IntKind.i64.wrap (popS v k + 1 + 1) = popS v k + 1 + 1 := w64 (by omega) (by omega)
      simp -implicitDefEqProofs [g1, g3, g4, gb, hlt']
      refine CallK.with (has4_spec v k h hlt) (by simp [eV]) ?_
      cases ha : bitV v.add k <;> cases hd : bitV v.del k <;> simp -implicitDefEqProofs [g3, g4, w1, w2, hw] <;>
        exact ⟨⟨k + 1, by simp [g1], by simp [popS, ha, hd, g3]; try omega, by simp, by simp [gb, eV], by omega⟩, by omega⟩
    · have hlt' : ¬ (k : Int) < 6 := by omega
      obtain rfl : k = 6 := by omega
      simp -implicitDefEqProofs [g1, g3, g4, gb, hlt']
      rw [SizM, ← popS_size h]
      simp [g3]
  rintro t hh g3
  rw [SizM] at g3
  simp -implicitDefEqProofs [g3]
theorem less5_spec (a b : PView) (ha : rightV a = true) (hb : rightV b = true) : ASpec Tryz.prog 42 [.agg (eV a), .agg (eV b)] (· = .v (.bool (lessV a b))) := by
  refine ASpec.of_awp Tryz.func42 (by kernel_rfl) rfl (by rw [Tryz.results42]) Tryz.ntmps42 ?_
  rw [lessV_eq]
  simp -implicitDefEqProofs [eV]
  refine allocK.intro (fun b1 hb1 => ?_)
  simp -implicitDefEqProofs
  refine allocK.intro (fun b2 hb2 => ?_)
  have n12 : ¬ b1 = b2 := by rintro rfl; simp at hb2
  have n21 : ¬ b2 = b1 := fun h => n12 h.symm
  simp -implicitDefEqProofs [n12, n21]
  refine regionK.intro 5 follows_mixed (by kernel_rfl) ?_
  simp -implicitDefEqProofs [n12, n21]
  refine CallQ.with (size4_spec a ha) (by simp [eV]) ?_
  simp -implicitDefEqProofs [n12, n21]
  refine CallQ.with (size4_spec b hb) (by simp [eV]) ?_
  by_cases h : sizeV a = sizeV b
  · simp -implicitDefEqProofs [n12, n21, h]
    refine regionK.intro 6 follows_mixed (by kernel_rfl) ?_
    simp -implicitDefEqProofs [n12, n21]
    refine CallQ.with (name4_spec a ha) (by simp [eV]) ?_
    simp -implicitDefEqProofs [n12, n21]
    refine CallQ.with (name4_spec b hb) (by simp [eV]) ?_
    simp -implicitDefEqProofs [n12, n21, h]
  · simp -implicitDefEqProofs [n12, n21, h]
    refine regionK.intro 6 follows_mixed (by kernel_rfl) ?_
    simp -implicitDefEqProofs [n12, n21]
    refine CallQ.with (size4_spec a ha) (by simp [eV]) ?_
    simp -implicitDefEqProofs [n12, n21]
    refine CallQ.with (size4_spec b hb) (by simp [eV]) ?_
    simp -implicitDefEqProofs [n12, n21, h]
def Set4I (f g : Nat → Bool) (b1 b2 b3 b4 : Nat) (t : Nat → AV) (h : Nat → Option (List AV)) : Prop := ∃ k : Nat, t 2 = .ptr b1 0 ∧ t 3 = .ptr b2 0 ∧ t 4 = .ptr b3 0 ∧ t 5 = .ptr b4 0 ∧ t 6 = eI (2 ^ k) ∧ t 7 = eI k ∧ h b1 = some (eB6 f) ∧ h b2 = some (eB6 g) ∧ h b3 = some [eI 0, eI 0] ∧
  h b4 = some [eI (sumN f k), eI (sumN g k)] ∧ k ≤ 6
def Set4M (f g : Nat → Bool) (b3 b4 : Nat) (t : Nat → AV) (h : Nat → Option (List AV)) : Prop := t 4 = .ptr b3 0 ∧ t 5 = .ptr b4 0 ∧ h b3 = some [eI 0, eI 0] ∧ h b4 = some [eI (setN f), eI (setN g)]
theorem set4_spec (f g : Nat → Bool) : ASpec Tryz.prog 171 [.agg (eB6 f), .agg (eB6 g)] (· = .agg (eV ⟨setN f, setN g⟩)) := by
  refine ASpec.of_awp Tryz.func171 (by kernel_rfl) rfl (by rw [Tryz.results171]) Tryz.ntmps171 ?_
  simp -implicitDefEqProofs [eB6]
  refine allocK.intro (fun b1 hb1 => ?_)
  simp -implicitDefEqProofs
  refine allocK.intro (fun b2 hb2 => ?_)
  have n12 : ¬ b1 = b2 := by rintro rfl; simp at hb2
  have n21 : ¬ b2 = b1 := fun h => n12 h.symm
  simp -implicitDefEqProofs [n12, n21]
  refine allocK.intro (fun b3 hb3 => ?_)
  have n13 : ¬ b1 = b3 := by rintro rfl; simp [n12] at hb3
  have n31 : ¬ b3 = b1 := fun h => n13 h.symm
  have n23 : ¬ b2 = b3 := by rintro rfl; simp at hb3
  have n32 : ¬ b3 = b2 := fun h => n23 h.symm
  simp -implicitDefEqProofs [n12, n21, n13, n31, n23, n32]
  refine allocK.intro (fun b4 hb4 => ?_)
  have n14 : ¬ b1 = b4 := by rintro rfl; simp [n12, n13] at hb4
  have n41 : ¬ b4 = b1 := fun h => n14 h.symm
  have n24 : ¬ b2 = b4 := by rintro rfl; simp [n23] at hb4
  have n42 : ¬ b4 = b2 := fun h => n24 h.symm
  have n34 : ¬ b3 = b4 := by rintro rfl; simp at hb4
  have n43 : ¬ b4 = b3 := fun h => n34 h.symm
  simp -implicitDefEqProofs [n12, n21, n13, n31, n23, n32, n14, n41, n24, n42, n34, n43]
  refine loopK.post (Set4I f g b1 b2 b3 b4) (fun t => 6 - natOf (t 7)) (Set4M f g b3 b4) ?_ ?_ ?_
  · exact ⟨0, by simp, by simp, by simp, by simp, by simp, by simp, by simp [n12, n13, n14, eB6], by simp [n23, n24, eB6], by simp [n34], by simp [sumN], by omega⟩
  · rintro t hh ⟨k, g2, g3, g4, g5, g6, g7, k1, k2, k3, k4, hk⟩
    rw [eB6] at k1 k2
    by_cases hlt : k < 6
    · have hf := sumN_lt f k
      have hg := sumN_lt g k
      have hk6 : k = 0 ∨ k = 1 ∨ k = 2 ∨ k = 3 ∨ k = 4 ∨ k = 5 := by omega
      have hp : (2 : Int) ^ k ≤ 32 := by rcases hk6 with rfl | rfl | rfl | rfl | rfl | rfl <;> decide
      have hlt' : (k : Int) < 6 := by omega
      have hw : IntKind.i64.wrap ((k : Int) + 1) = ((k + 1 : Nat) : Int) := by rw [w64 (by omega) (by omega)]; omega
      have w1 : IntKind.i64.wrap (sumN f k + 2 ^ k) = sumN f k + 2 ^ k := w64 (by omega) (by omega)
      have w2 : IntKind.i64.wrap (sumN g k + 2 ^ k) = sumN g k + 2 ^ k := w64 (by omega) (by omega)
      have w3 : IntKind.i64.wrap (2 * 2 ^ k) = 2 ^ (k + 1) := by rw [w64 (by omega) (by omega), Int.pow_succ]; omega
      have hfk : [AV.v (.bool (f 0)), .v (.bool (f 1)), .v (.bool (f 2)), .v (.bool (f 3)), .v (.bool (f 4)), .v (.bool (f 5))][k]? = some (.v (.bool (f k))) := by rcases hk6 with rfl | rfl | rfl | rfl | rfl | rfl <;> rfl
      have hgk : [AV.v (.bool (g 0)), .v (.bool (g 1)), .v (.bool (g 2)), .v (.bool (g 3)), .v (.bool (g 4)), .v (.bool (g 5))][k]? = some (.v (.bool (g k))) := by rcases hk6 with rfl | rfl | rfl | rfl | rfl | rfl <;> rfl
      cases ea : f k <;> cases eb : g k <;> simp -implicitDefEqProofs [g2, g3, g5, g6, g7, k1, k2, k4, hlt', hfk, hgk, ea, eb, w1, w2, w3, hw, n12, n21, n13, n31, n23, n32, n14, n41, n24, n42, n34, n43]
      all_goals exact ⟨⟨k + 1, by simp [g2], by simp [g3], by simp [g4], by simp [g5], by simp, by simp, by simp [n14, k1, eB6], by simp [n24, k2, eB6], by simp [n34, k3], by simp [sumN, ea, eb, k4], by omega⟩, by omega⟩
    · have hlt' : ¬ (k : Int) < 6 := by omega
      obtain rfl : k = 6 := by omega
      rw [sumN_six, sumN_six] at k4
      simp -implicitDefEqProofs [g7, hlt']
      exact ⟨by simp [g4], by simp [g5], k3, k4⟩
  rintro t hh ⟨g4, g5, k3, k4⟩
  simp -implicitDefEqProofs [g4, g5, k3, k4, n34, n43, eV]

/-- the first of six are told -/
def fst6 (f : Nat → Bool) (k : Nat) : Nat → Bool := fun j => decide (j < k) && f j
def Min4I (a b : PView) (b1 b2 b3 b4 b5 : Nat) (t : Nat → AV) (h : Nat → Option (List AV)) : Prop := ∃ k : Nat, t 2 = .ptr b1 0 ∧ t 3 = .ptr b2 0 ∧ t 4 = .ptr b3 0 ∧ t 5 = .ptr b4 0 ∧ t 6 = .ptr b5 0 ∧ t 7 = eI k ∧ h b1 = some (eV a) ∧ h b2 = some (eV b) ∧ h b3 = some [eI 0, eI 0] ∧
  h b4 = some (eB6 (fst6 (fun j => bitV a.add j && !bitV b.add j) k)) ∧ h b5 = some (eB6 (fst6 (fun j => bitV a.del j && !bitV b.del j) k)) ∧ k ≤ 6
def Min4M (a b : PView) (b3 b4 b5 : Nat) (t : Nat → AV) (h : Nat → Option (List AV)) : Prop := t 4 = .ptr b3 0 ∧ t 5 = .ptr b4 0 ∧ t 6 = .ptr b5 0 ∧ h b3 = some [eI 0, eI 0] ∧ h b4 = some (eB6 (fun j => bitV a.add j && !bitV b.add j)) ∧ h b5 = some (eB6 (fun j => bitV a.del j && !bitV b.del j))
theorem fst6_all (f : Nat → Bool) : eB6 (fst6 f 6) = eB6 f := by simp [eB6, fst6]
theorem minus4_spec (a b : PView) (ha : rightV a = true) (hb : rightV b = true) : ASpec Tryz.prog 117 [.agg (eV a), .agg (eV b)] (· = .agg (eV (minusV a b))) := by
  refine ASpec.of_awp Tryz.func117 (by kernel_rfl) rfl (by rw [Tryz.results117]) Tryz.ntmps117 ?_
  simp -implicitDefEqProofs [eV]
  refine allocK.intro (fun b1 hb1 => ?_)
  simp -implicitDefEqProofs
  refine allocK.intro (fun b2 hb2 => ?_)
  have n12 : ¬ b1 = b2 := by rintro rfl; simp at hb2
  have n21 : ¬ b2 = b1 := fun h => n12 h.symm
  simp -implicitDefEqProofs [n12, n21]
  refine allocK.intro (fun b3 hb3 => ?_)
  have n13 : ¬ b1 = b3 := by rintro rfl; simp [n12] at hb3
  have n31 : ¬ b3 = b1 := fun h => n13 h.symm
  have n23 : ¬ b2 = b3 := by rintro rfl; simp at hb3
  have n32 : ¬ b3 = b2 := fun h => n23 h.symm
  simp -implicitDefEqProofs [n12, n21, n13, n31, n23, n32]
  refine allocK.intro (fun b4 hb4 => ?_)
  have n14 : ¬ b1 = b4 := by rintro rfl; simp [n12, n13] at hb4
  have n41 : ¬ b4 = b1 := fun h => n14 h.symm
  have n24 : ¬ b2 = b4 := by rintro rfl; simp [n23] at hb4
  have n42 : ¬ b4 = b2 := fun h => n24 h.symm
  have n34 : ¬ b3 = b4 := by rintro rfl; simp at hb4
  have n43 : ¬ b4 = b3 := fun h => n34 h.symm
  simp -implicitDefEqProofs [n12, n21, n13, n31, n23, n32, n14, n41, n24, n42, n34, n43]
  refine allocK.intro (fun b5 hb5 => ?_)
  have n15 : ¬ b1 = b5 := by rintro rfl; simp [n12, n13, n14] at hb5
  have n51 : ¬ b5 = b1 := fun h => n15 h.symm
  have n25 : ¬ b2 = b5 := by rintro rfl; simp [n23, n24] at hb5
  have n52 : ¬ b5 = b2 := fun h => n25 h.symm
  have n35 : ¬ b3 = b5 := by rintro rfl; simp [n34] at hb5
  have n53 : ¬ b5 = b3 := fun h => n35 h.symm
  have n45 : ¬ b4 = b5 := by rintro rfl; simp at hb5
  have n54 : ¬ b5 = b4 := fun h => n45 h.symm
  simp -implicitDefEqProofs [n12, n21, n13, n31, n23, n32, n14, n41, n24, n42, n34, n43, n15, n51, n25, n52, n35, n53, n45, n54]
  refine loopK.post (Min4I a b b1 b2 b3 b4 b5) (fun t => 6 - natOf (t 7)) (Min4M a b b3 b4 b5) ?_ ?_ ?_
  · exact ⟨0, by simp, by simp, by simp, by simp, by simp, by simp, by simp [n12, n13, n14, n15, eV], by simp [n23, n24, n25, eV], by simp [n34, n35], by simp [n45, eB6, fst6], by simp [eB6, fst6], by omega⟩
  · rintro t hh ⟨k, g2, g3, g4, g5, g6, g7, k1, k2, k3, k4, k5, hk⟩
    rw [eV] at k1 k2
    by_cases hlt : k < 6
    · have hk6 : k = 0 ∨ k = 1 ∨ k = 2 ∨ k = 3 ∨ k = 4 ∨ k = 5 := by omega
      have hlt' : (k : Int) < 6 := by omega
      have hw : IntKind.i64.wrap ((k : Int) + 1) = ((k + 1 : Nat) : Int) := by rw [w64 (by omega) (by omega)]; omega
      simp -implicitDefEqProofs [g2, g3, g7, k1, k2, hlt']
      refine CallK.with (has4_spec a k ha hlt) (by simp [eV]) ?_
      simp -implicitDefEqProofs [g2, g3, g7, k1, k2, hlt']
      refine CallK.with (has4_spec b k hb hlt) (by simp [eV]) ?_
      have st : ∀ f : Nat → Bool, eB6 (fst6 f (k + 1)) = (eB6 (fst6 f k)).take k ++ .v (.bool (f k)) :: (eB6 (fst6 f k)).drop (k + 1) := by
        intro f
        rcases hk6 with rfl | rfl | rfl | rfl | rfl | rfl <;> simp [eB6, fst6]
      have s4 := st (fun j => bitV a.add j && !bitV b.add j)
      have s5 := st (fun j => bitV a.del j && !bitV b.del j)
      have l4 : (eB6 (fst6 (fun j => bitV a.add j && !bitV b.add j) k)).length = 6 := rfl
      have l5 : (eB6 (fst6 (fun j => bitV a.del j && !bitV b.del j) k)).length = 6 := rfl
      generalize hx : eB6 (fst6 (fun j => bitV a.add j && !bitV b.add j) k) = x at *
      generalize hy : eB6 (fst6 (fun j => bitV a.del j && !bitV b.del j) k) = y at *
      clear st hx hy
      cases e1 : bitV a.add k <;> cases e2 : bitV b.add k <;> cases e3 : bitV a.del k <;> cases e4 : bitV b.del k <;> simp -implicitDefEqProofs [g2, g3, g5, g6, g7, k1, k2, k4, k5, l4, l5, hlt', hw, n45, n54]
      all_goals simp [e1, e2, e3, e4] at s4 s5
      all_goals exact ⟨by omega, ⟨k + 1, by simp [g2], by simp [g3], by simp [g4], by simp [g5], by simp [g6], by simp, by simp [n14, n15, k1, eV], by simp [n24, n25, k2, eV], by simp [n34, n35, k3], by simp [n45, s4], by simp [s5], by omega⟩, by omega⟩
    · have hlt' : ¬ (k : Int) < 6 := by omega
      obtain rfl : k = 6 := by omega
      rw [fst6_all] at k4 k5
      simp -implicitDefEqProofs [g7, hlt']
      exact ⟨by simp [g4], by simp [g5], by simp [g6], k3, k4, k5⟩
  rintro t hh ⟨g4, g5, g6, k3, k4, k5⟩
  rw [eB6] at k4 k5
  simp -implicitDefEqProofs [g4, g5, g6, k3, k4, k5, n34, n43]
  refine CallK.with (set4_spec (fun j => bitV a.add j && !bitV b.add j) (fun j => bitV a.del j && !bitV b.del j)) (by simp [eB6]) ?_
  simp -implicitDefEqProofs [g4, k3, eV, minusV, andN]
theorem within4_spec (a b : PView) (ha : rightV a = true) (hb : rightV b = true) : ASpec Tryz.prog 59 [.agg (eV a), .agg (eV b)] (· = .v (.bool (withinV a b))) := by
  refine ASpec.of_awp Tryz.func59 (by kernel_rfl) rfl (by rw [Tryz.results59]) Tryz.ntmps59 ?_
  simp -implicitDefEqProofs [eV]
  refine allocK.intro (fun b1 hb1 => ?_)
  simp -implicitDefEqProofs
  refine allocK.intro (fun b2 hb2 => ?_)
  have n12 : ¬ b1 = b2 := by rintro rfl; simp at hb2
  have n21 : ¬ b2 = b1 := fun h => n12 h.symm
  simp -implicitDefEqProofs [n12, n21]
  refine CallK.with (minus4_spec a b ha hb) (by simp [eV]) ?_
  have e : withinV a b = ((minusV a b).add == 0 && (minusV a b).del == 0) := by
    unfold withinV
    obtain ⟨p, q⟩ := minusV a b
    by_cases h1 : p = 0 <;> by_cases h2 : q = 0 <;> simp [h1, h2]
  simp -implicitDefEqProofs [eV, e]
/-! ### members -/
/-- the members among the first ones -/
def memK (v : PView) (k : Nat) : List Int := (([0, 1, 2, 3, 4, 5] : List Int).take k).filter (inV v)
def MemI (v : PView) (b1 : Nat) (t : Nat → AV) (h : Nat → Option (List AV)) : Prop := ∃ (k : Nat) (tag : Tag), t 1 = .ptr b1 0 ∧ t 3 = .sl tag (eZs (memK v k)) ∧ t 5 = eI k ∧ h b1 = some (eV v) ∧ k ≤ 6 ∧ appOK tag 3 1
def MemM (v : PView) (t : Nat → AV) (h : Nat → Option (List AV)) : Prop := ∃ tag, t 3 = .sl tag (eZs (membersV v))
def Mem5I (v : PView) (b1 : Nat) (t : Nat → AV) (h : Nat → Option (List AV)) : Prop := ∃ (k : Nat) (tag : Tag), t 1 = .ptr b1 0 ∧ t 3 = .sl tag (eZs (memK v k)) ∧ t 4 = eI k ∧ h b1 = some (eV v) ∧ k ≤ 6 ∧ appOK tag 3 1
/-! ### enough -/
def idxZ : List Int → Int → Nat → Int
  | [], _, _ => -1
  | x :: l, v, k => if v = x then k else idxZ l v (k + 1)
def IdxI (l : List Int) (v : Int) (t : Nat → AV) (_ : Nat → Option (List AV)) : Prop := ∃ k : Nat, t 0 = .sl .no (eZs l) ∧ t 1 = eI v ∧ t 7 = eI l.length ∧ t 8 = eI k ∧ k ≤ l.length ∧ idxZ (l.drop k) v k = idxZ l v 0
def EnI (v : PView) (who : List Int) (t : Nat → AV) (h : Nat → Option (List AV)) : Prop := ∃ (k : Nat) (tag : Tag), t 1 = .sl .no (eZs who) ∧ t 5 = .sl tag (eZs (membersV v)) ∧ t 11 = .sl .no (eZs (membersV v)) ∧ t 12 = eI (membersV v).length ∧ t 13 = eI k ∧ k ≤ (membersV v).length ∧
  t 6 = eI (((membersV v).take k).filter fun m => decide (m ∈ who)).length
def EnM (v : PView) (who : List Int) (t : Nat → AV) (h : Nat → Option (List AV)) : Prop := ∃ tag, t 5 = .sl tag (eZs (membersV v)) ∧ t 6 = eI (manyV v who)
def En5I (v : PView) (who : List Int) (tag : Tag) (t : Nat → AV) (h : Nat → Option (List AV)) : Prop := ∃ k : Nat, t 1 = .sl .no (eZs who) ∧ t 13 = .sl tag (eZs (membersV v)) ∧ t 14 = eI (membersV v).length ∧ t 15 = eI k ∧ k ≤ (membersV v).length ∧
  t 5 = eI (((membersV v).take k).filter fun m => decide (m ∈ who)).length ∧ t 6 = eI (k - (((membersV v).take k).filter fun m => decide (m ∈ who)).length : Int)
def En5J (v : PView) (who : List Int) (tag : Tag) (k : Nat) (x : Int) (t : Nat → AV) (h : Nat → Option (List AV)) : Prop := ∃ j : Nat, t 1 = .sl .no (eZs who) ∧ t 13 = .sl tag (eZs (membersV v)) ∧ t 14 = eI (membersV v).length ∧ t 15 = eI k ∧
  t 5 = eI (((membersV v).take k).filter fun m => decide (m ∈ who)).length ∧ t 6 = eI (k - (((membersV v).take k).filter fun m => decide (m ∈ who)).length : Int) ∧
  t 8 = eI x ∧ t 9 = .v (.bool (decide (x ∈ who.take j))) ∧ t 19 = .sl .no (eZs who) ∧ t 20 = eI who.length ∧ t 21 = eI j ∧ j ≤ who.length
def En5K (v : PView) (who : List Int) (tag : Tag) (k : Nat) (x : Int) (t : Nat → AV) (h : Nat → Option (List AV)) : Prop := t 1 = .sl .no (eZs who) ∧ t 13 = .sl tag (eZs (membersV v)) ∧ t 14 = eI (membersV v).length ∧ t 15 = eI k ∧
  t 5 = eI (((membersV v).take k).filter fun m => decide (m ∈ who)).length ∧ t 6 = eI (k - (((membersV v).take k).filter fun m => decide (m ∈ who)).length : Int) ∧
  t 8 = eI x ∧ t 9 = .v (.bool (decide (x ∈ who)))
def En5M (v : PView) (who : List Int) (t : Nat → AV) (h : Nat → Option (List AV)) : Prop := t 5 = eI (manyV v who) ∧ t 6 = eI ((membersV v).length - manyV v who : Int)
end Go.Proofs.YtjbbfiagijjdoaaGreat

/- Plain: books. No condition. -/
set_option linter.unusedSimpArgs false
set_option linter.unusedVariables false
set_option maxRecDepth 10000
namespace Go.Proofs.YtjbbfiagijjdoaaGreat
open Go Go.Rw Go.Proofs

/-- where the first one stands for which something holds -/
def idxP {α : Type} (p : α → Bool) (l : List α) : Int := if l.findIdx p < l.length then (l.findIdx p : Int) else -1
theorem idxP_none {α : Type} {p : α → Bool} {l : List α} (h : ∀ x ∈ l, p x = false) : idxP p l = -1 := by
  unfold idxP
  have : l.findIdx p = l.length := List.findIdx_eq_length.2 h
  rw [if_neg (by omega)]
theorem idxP_some {α : Type} {p : α → Bool} {l : List α} {k : Nat} {x : α} (hx : l[k]? = some x) (hp : p x = true) (hn : ∀ y ∈ l.take k, p y = false) : idxP p l = k := by
  have hk : k < l.length := by
    rcases Nat.lt_or_ge k l.length with h | h
    · exact h
    · rw [List.getElem?_eq_none h] at hx; simp at hx
  have hxk : l[k] = x := by rw [List.getElem?_eq_getElem hk] at hx; exact Option.some.inj hx
  have e : l.findIdx p = k := by
    rw [List.findIdx_eq hk]
    refine ⟨by rw [hxk]; exact hp, fun j hj => ?_⟩
    refine hn _ ?_
    rw [List.mem_take_iff_getElem]
    exact ⟨j, by omega, rfl⟩
  unfold idxP
  rw [e, if_pos hk]
theorem take_no {α : Type} {p : α → Bool} {l : List α} {k : Nat} {x : α} (hx : l[k]? = some x) (hp : p x = false) (hn : ∀ y ∈ l.take k, p y = false) : ∀ y ∈ l.take (k + 1), p y = false := by
  intro y hy
  rw [List.take_add_one, hx] at hy
  rcases List.mem_append.1 hy with h | h
  · exact hn y h
  · simp at h; rw [h]; exact hp
/-- a key's entry, or one without a tag -/
def findE (b : List PEntry) (k : Int) : PEntry := (b.find? fun x => decide (x.key = k)).getD ⟨k, ⟨0, 0⟩, 0⟩
theorem findE_no {b : List PEntry} {k : Int} (h : ∀ x ∈ b, decide (x.key = k) = false) : findE b k = ⟨k, ⟨0, 0⟩, 0⟩ := by
  unfold findE
  have e : b.find? (fun x => decide (x.key = k)) = none := List.find?_eq_none.2 (fun x hx => by rw [h x hx]; simp)
  rw [e]
  rfl
theorem findE_yes {b : List PEntry} {k : Int} {i : Nat} {x : PEntry} (hx : b[i]? = some x) (hp : decide (x.key = k) = true) (hn : ∀ y ∈ b.take i, decide (y.key = k) = false) : findE b k = x := by
  unfold findE
  have hk : i < b.length := by
    rcases Nat.lt_or_ge i b.length with h | h
    · exact h
    · rw [List.getElem?_eq_none h] at hx; simp at hx
  have hxk : b[i] = x := by rw [List.getElem?_eq_getElem hk] at hx; exact Option.some.inj hx
  have e : b.find? (fun x => decide (x.key = k)) = some x := by
    refine List.find?_eq_some_iff_getElem.2 ⟨hp, i, hk, hxk, fun j hj => ?_⟩
    rw [hn _ (List.mem_take_iff_getElem.2 ⟨j, by omega, rfl⟩)]; rfl
  rw [e]
  rfl
theorem findE_idx (b : List PEntry) (k : Int) : (idxP (fun x : PEntry => decide (x.key = k)) b = -1 ∧ findE b k = ⟨k, ⟨0, 0⟩, 0⟩) ∨ (∃ i : Nat, ∃ x, idxP (fun x : PEntry => decide (x.key = k)) b = i ∧ b[i]? = some x ∧ findE b k = x) := by
  by_cases h : b.findIdx (fun x : PEntry => decide (x.key = k)) < b.length
  · refine .inr ⟨b.findIdx (fun x : PEntry => decide (x.key = k)), b[b.findIdx (fun x : PEntry => decide (x.key = k))], ?_, List.getElem?_eq_getElem h, ?_⟩
    · unfold idxP; rw [if_pos h]
    · refine findE_yes (List.getElem?_eq_getElem h) (List.findIdx_getElem (p := fun x : PEntry => decide (x.key = k)) (w := h)) fun y hy => ?_
      obtain ⟨j, hj, e⟩ := List.mem_take_iff_getElem.1 hy
      have := List.not_of_lt_findIdx (p := fun x : PEntry => decide (x.key = k)) (xs := b) (i := j) (by omega)
      rw [e] at this
      simpa using this
  · have hl : b.findIdx (fun x : PEntry => decide (x.key = k)) = b.length := by
      have := List.findIdx_le_length (p := fun x : PEntry => decide (x.key = k)) (xs := b)
      omega
    refine .inl ⟨?_, ?_⟩
    · unfold idxP; rw [if_neg h]
    · exact findE_no (List.findIdx_eq_length.1 hl)
/-- the newer one of two -/
def newerE (x y : PEntry) : PEntry := if lessT x.tag y.tag then y else x
def mergeE1 (a b : List PEntry) (k : Int) : List PEntry := if 0 < (newerE (findE a k) (findE b k)).tag.num then [newerE (findE a k) (findE b k)] else []
def mergeK (a b : List PEntry) : Nat → List PEntry
  | 0 => []
  | k + 1 => mergeK a b k ++ mergeE1 a b k
def mergeE (a b : List PEntry) : List PEntry := mergeK a b 4
/-- the same, as the document has it -/
def mergeD1 (a b : List PEntry) (k : Int) : List PEntry := if (newerE (findE a k) (findE b k)).tag = ⟨0, 0⟩ then [] else [newerE (findE a k) (findE b k)]
def mergeDK (a b : List PEntry) : Nat → List PEntry
  | 0 => []
  | k + 1 => mergeDK a b k ++ mergeD1 a b k
def mergeD (a b : List PEntry) : List PEntry := mergeDK a b 4
def newsE (old book : List PEntry) : List PEntry := book.filter fun x => lessT (findE old x.key).tag x.tag
def maxT (a b : PTag) : PTag := if lessT a b then b else a
theorem findE_right {b : List PEntry} {k : Int} (hb : ∀ x ∈ b, rightT x.tag = true) : rightT (findE b k).tag = true := by
  rcases findE_idx b k with ⟨_, e⟩ | ⟨i, x, _, hx, e⟩
  · rw [e]; rfl
  · rw [e]; exact hb x (List.mem_of_getElem? hx)
theorem newer_right {x y : PEntry} (hx : rightT x.tag = true) (hy : rightT y.tag = true) : rightT (newerE x y).tag = true := by
  unfold newerE; split <;> assumption
theorem right_num {t : PTag} (h : rightT t = true) : 0 < t.num ↔ ¬ t = ⟨0, 0⟩ := by
  obtain ⟨n, m⟩ := t
  simp [rightT] at h
  constructor
  · intro h1 h2; cases h2; simp at h1
  · intro h1
    rcases h.2 with h2 | h2
    · exact h2
    · subst h2
      have : n ≠ 0 := fun h3 => h1 (by rw [h3])
      simp only; omega
theorem mergeE1_le (a b : List PEntry) (k : Int) : (mergeE1 a b k).length ≤ 1 := by unfold mergeE1; split <;> simp
theorem mergeK_le (a b : List PEntry) (k : Nat) : (mergeK a b k).length ≤ k := by
  induction k with
  | zero => simp [mergeK]
  | succ k ih =>
    have := mergeE1_le a b k
    rw [mergeK, List.length_append]; omega
theorem mergeD1_le (a b : List PEntry) (k : Int) : (mergeD1 a b k).length ≤ 1 := by unfold mergeD1; split <;> simp
theorem mergeDK_le (a b : List PEntry) (k : Nat) : (mergeDK a b k).length ≤ k := by
  induction k with
  | zero => simp [mergeDK]
  | succ k ih =>
    have := mergeD1_le a b k
    rw [mergeDK, List.length_append]; omega
theorem mergeD_eq {a b : List PEntry} (ha : ∀ x ∈ a, rightT x.tag = true) (hb : ∀ x ∈ b, rightT x.tag = true) : mergeD a b = mergeE a b := by
  have e : ∀ k, mergeDK a b k = mergeK a b k := by
    intro k
    induction k with
    | zero => rfl
    | succ k ih =>
      rw [mergeDK, mergeK, ih]
      have h := right_num (newer_right (findE_right (k := k) ha) (findE_right (k := k) hb))
      unfold mergeD1 mergeE1
      by_cases h2 : (newerE (findE a k) (findE b k)).tag = ⟨0, 0⟩
      · rw [if_pos h2, if_neg (fun h3 => h.1 h3 h2)]
      · rw [if_neg h2, if_pos (h.2 h2)]
  exact e 4
end Go.Proofs.YtjbbfiagijjdoaaGreat

/- Contracts: books. No condition. -/
set_option linter.unusedSimpArgs false
set_option linter.unusedVariables false
set_option maxRecDepth 10000
namespace Go.Proofs.YtjbbfiagijjdoaaGreat
open Go Go.Rw Go.Proofs
-- a goal is never to be run by the elaborator
attribute [local irreducible] awp aops aop aopsE aeff

/-! ### book.find -/
theorem findKey_spec (x : PEntry) (b : Nat) (k : Int) : MSpec Tryz.prog 175 [.agg (eE x), .ptr b 0] (one b [eI k]) (fun r h' => r = .v (.bool (decide (x.key = k))) ∧ h' = one b [eI k]) := by
  refine MSpec.of_awp Tryz.func175 (by kernel_rfl) rfl (by rw [Tryz.results175]) Tryz.ntmps175 ?_
  simp -implicitDefEqProofs [eE]
  refine allocK.intro (fun b1 hb1 => ?_)
  have n1 : ¬ b1 = b := by rintro rfl; simp at hb1
  have n2 : ¬ b = b1 := fun h => n1 h.symm
  simp -implicitDefEqProofs [n1, n2]
def IdfI {α : Type} (rows : List α → List (List AV)) (p : α → Bool) (l : List α) (g : FuncId) (b : Nat) (c : List AV) (t : Nat → AV) (h : Nat → Option (List AV)) : Prop := ∃ k : Nat, t 0 = .sl .no (rows l) ∧ t 1 = .fn g [.ptr b 0] ∧ t 7 = eI l.length ∧ t 8 = eI k ∧ k ≤ l.length ∧ h b = some c ∧ ∀ y ∈ l.take k, p y = false
theorem indexf_entries (g : FuncId) (b : Nat) (c : List AV) (p : PEntry → Bool) (l : List PEntry) (hf : ∀ x ∈ l, MSpec Tryz.prog g [.agg (eE x), .ptr b 0] (one b c) (fun r h' => r = .v (.bool (p x)) ∧ h' = one b c)) :
    MSpec Tryz.prog 167 [.sl .no (eEs l), .fn g [.ptr b 0]] (one b c) (fun r h' => r = eI (idxP p l) ∧ h' = one b c) := by
  refine MSpec.of_awp Tryz.func167 (by kernel_rfl) rfl (by rw [Tryz.results167]) Tryz.ntmps167 ?_
  simp -implicitDefEqProofs
  intro _
  refine loopK.intro (IdfI eEs p l g b c) (fun t => l.length - natOf (t 8)) ?_ ?_
  · exact ⟨0, by simp, by simp, by simp, by simp, by omega, by simp, by simp⟩
  rintro t hh ⟨k, g0, g1, g7, g8, hk, hb, hn⟩
  by_cases hlt : k < l.length
  · have hlt' : (k : Int) < (l.length : Int) := by omega
    obtain ⟨x, hx⟩ : ∃ x, l[k]? = some x := ⟨l[k], by simp [hlt]⟩
    have hw : IntKind.i64.wrap ((k : Int) + 1) = ((k + 1 : Nat) : Int) := by rw [w64 (by omega) (by omega)]; omega
    simp -implicitDefEqProofs [g0, g1, g7, g8, hlt', hx, eE]
    refine CallK.one (hf x (List.mem_of_getElem? hx)) (by simp [eE]) (by simp [hb, Weak.refl]) ?_
    cases hp : p x
    · simp -implicitDefEqProofs [g0, g1, g7, g8, hb, hw]
      exact ⟨⟨k + 1, by simp [g0], by simp [g1], by simp [g7], by simp, by omega, by simp, take_no hx hp hn⟩, by omega⟩
    · simp -implicitDefEqProofs [g0, g1, g7, g8, hb, hw, idxP_some hx hp hn, Weak.refl]
  · have hlt' : ¬ (k : Int) < (l.length : Int) := by omega
    rw [List.take_of_length_le (by omega)] at hn
    simp -implicitDefEqProofs [g7, g8, hlt', hb, idxP_none hn, Weak.refl]
theorem find_spec (l : List PEntry) (k : Int) : ASpec Tryz.prog 138 [.sl .no (eEs l), eI k] (· = .agg (eE (findE l k))) := by
  refine ASpec.of_awp Tryz.func138 (by kernel_rfl) rfl (by rw [Tryz.results138]) Tryz.ntmps138 ?_
  simp -implicitDefEqProofs
  refine allocK.intro (fun b1 hb1 => ?_)
  simp -implicitDefEqProofs
  refine allocK.intro (fun b2 hb2 => ?_)
  have n12 : ¬ b1 = b2 := by rintro rfl; simp at hb2
  have n21 : ¬ b2 = b1 := fun h => n12 h.symm
  simp -implicitDefEqProofs [n12, n21]
  refine CallK.one (indexf_entries 175 b1 [eI k] (fun x => decide (x.key = k)) l (fun x _ => findKey_spec x b1 k)) rfl (by simp [n12, Weak.refl]) ?_
  rcases findE_idx l k with ⟨e1, e2⟩ | ⟨i, x, e1, hx, e2⟩
  · rw [e1, e2]
    simp -implicitDefEqProofs [n12, n21, eE]
  · rw [e1, e2]
    have hi : ¬ (i : Int) < 0 := by omega
    simp -implicitDefEqProofs [n12, n21, hi, hx, eE]

/-! ### book.Merge -/
def MgbI (a b : List PEntry) (t : Nat → AV) (_ : Nat → Option (List AV)) : Prop := ∃ (k : Nat) (tag : Tag), t 0 = .sl .no (eEs a) ∧ t 1 = .sl .no (eEs b) ∧ t 5 = .sl tag (eEs (mergeK a b k)) ∧ t 9 = eI k ∧ k ≤ 4 ∧ appOK tag 46 4
def MgbM (a b : List PEntry) (n : Nat) (t : Nat → AV) (_ : Nat → Option (List AV)) : Prop := ∃ tag : Tag, t n = .sl tag (eEs (mergeE a b))
theorem merge_spec (a b : List PEntry) : ASpec Tryz.prog 99 [.sl .no (eEs a), .sl .no (eEs b)] (fun r => ∃ tag, r = .sl tag (eEs (mergeE a b))) := by
  refine ASpec.of_awp Tryz.func99 (by kernel_rfl) rfl (by rw [Tryz.results99]) Tryz.ntmps99 ?_
  simp -implicitDefEqProofs
  refine loopK.post (MgbI a b) (fun t => 4 - natOf (t 9)) (MgbM a b 5) ?_ ?_ ?_
  · exact ⟨0, .nil, by simp, by simp, by simp [mergeK], by simp, by omega, by simp⟩
  · rintro t hh ⟨k, tag, g0, g1, g5, g9, hk, gt⟩
    by_cases hlt : k < 4
    · have hlt' : (k : Int) < 4 := by omega
      have hw : IntKind.i64.wrap ((k : Int) + 1) = ((k + 1 : Nat) : Int) := by rw [w64 (by omega) (by omega)]; omega
      have hl := mergeK_le a b k
      simp -implicitDefEqProofs [g0, g1, g9, hlt']
      refine CallK.eq (find_spec a k) ?_
      simp -implicitDefEqProofs [g0, g1, g9, hlt']
      refine CallK.eq (find_spec b k) ?_
      have hs : mergeK a b (k + 1) = mergeK a b k ++ (if 0 < (newerE (findE a k) (findE b k)).tag.num then [newerE (findE a k) (findE b k)] else []) := rfl
      generalize findE a k = x at *
      generalize findE b k = y at *
      simp -implicitDefEqProofs [eE]
      refine allocK.intro (fun b1 hb1 => ?_)
      simp -implicitDefEqProofs
      refine allocK.intro (fun b2 hb2 => ?_)
      have n12 : ¬ b1 = b2 := by rintro rfl; simp at hb2
      have n21 : ¬ b2 = b1 := fun h => n12 h.symm
      simp -implicitDefEqProofs [n12, n21, eE]
      refine CallK.with (lessT_spec x.tag y.tag) (by simp [eT]) ?_
      cases hx : lessT x.tag y.tag
      · rw [show newerE x y = x by simp [newerE, hx]] at hs
        by_cases hp : 0 < x.tag.num
        · rw [if_pos hp] at hs
          simp -implicitDefEqProofs [g5, gt, g9, n12, n21, hp, hw]
          exact ⟨by omega, ⟨k + 1, appTag tag 46 4 [eE x], by simp [g0], by simp [g1], by simp [hs, eEs, eE], by simp, by omega, by simp [gt]⟩, by omega⟩
        · rw [if_neg hp] at hs
          simp -implicitDefEqProofs [g5, g9, n12, n21, hp, hw]
          exact ⟨⟨k + 1, tag, by simp [g0], by simp [g1], by simp [g5, hs], by simp, by omega, gt⟩, by omega⟩
      · rw [show newerE x y = y by simp [newerE, hx]] at hs
        by_cases hp : 0 < y.tag.num
        · rw [if_pos hp] at hs
          simp -implicitDefEqProofs [g5, gt, g9, n12, n21, hp, hw]
          exact ⟨by omega, ⟨k + 1, appTag tag 46 4 [eE y], by simp [g0], by simp [g1], by simp [hs, eEs, eE], by simp, by omega, by simp [gt]⟩, by omega⟩
        · rw [if_neg hp] at hs
          simp -implicitDefEqProofs [g5, g9, n12, n21, hp, hw]
          exact ⟨⟨k + 1, tag, by simp [g0], by simp [g1], by simp [g5, hs], by simp, by omega, gt⟩, by omega⟩
    · have hlt' : ¬ (k : Int) < 4 := by omega
      obtain rfl : k = 4 := by omega
      simp -implicitDefEqProofs [g9, hlt']
      exact ⟨tag, by simp [g5, mergeE]⟩
  rintro t hh ⟨tag, g5⟩
  simp -implicitDefEqProofs [g5]
/-! ### book.News, book.Within -/
def NwbI (old book : List PEntry) (t : Nat → AV) (_ : Nat → Option (List AV)) : Prop := ∃ (k : Nat) (tag : Tag), t 0 = .sl .no (eEs old) ∧ t 5 = .sl tag (eEs (newsE old (book.take k))) ∧ t 8 = .sl .no (eEs book) ∧ t 9 = eI book.length ∧ t 10 = eI k ∧ k ≤ book.length ∧ appOK tag 46 4
def NwbM (old book : List PEntry) (n : Nat) (t : Nat → AV) (_ : Nat → Option (List AV)) : Prop := ∃ tag : Tag, t n = .sl tag (eEs (newsE old book))
theorem newsE_le (old book : List PEntry) : (newsE old book).length ≤ book.length := List.length_filter_le _ _
theorem newsE_step {old book : List PEntry} {k : Nat} {x : PEntry} (hx : book[k]? = some x) : newsE old (book.take (k + 1)) = newsE old (book.take k) ++ (if lessT (findE old x.key).tag x.tag = true then [x] else []) := by
  unfold newsE
  rw [List.take_add_one, hx, List.filter_append]
  cases h : lessT (findE old x.key).tag x.tag <;> simp [h]
theorem news_spec (old book : List PEntry) (hb : book.length ≤ 1000000000) : ASpec Tryz.prog 71 [.sl .no (eEs old), .sl .no (eEs book)] (fun r => ∃ tag, r = .sl tag (eEs (newsE old book))) := by
  refine ASpec.of_awp Tryz.func71 (by kernel_rfl) rfl (by rw [Tryz.results71]) Tryz.ntmps71 ?_
  simp -implicitDefEqProofs
  intro _
  refine loopK.post (NwbI old book) (fun t => book.length - natOf (t 10)) (NwbM old book 5) ?_ ?_ ?_
  · exact ⟨0, .nil, by simp, by simp [newsE], by simp, by simp, by simp, by omega, by simp⟩
  · rintro t hh ⟨k, tag, g0, g5, g8, g9, g10, hk, gt⟩
    by_cases hlt : k < book.length
    · have hlt' : (k : Int) < (book.length : Int) := by omega
      have hw : IntKind.i64.wrap ((k : Int) + 1) = ((k + 1 : Nat) : Int) := by rw [w64 (by omega) (by omega)]; omega
      obtain ⟨x, hx⟩ : ∃ x, book[k]? = some x := ⟨book[k], by simp [hlt]⟩
      have hs := newsE_step (old := old) hx
      have hl : (newsE old (book.take k)).length ≤ k := by
        have := newsE_le old (book.take k)
        rw [List.length_take] at this; omega
      simp -implicitDefEqProofs [g8, g9, g10, hlt', hx, eE]
      refine allocK.intro (fun b1 hb1 => ?_)
      simp -implicitDefEqProofs [g0, g8, g9, g10, hlt']
      refine regionK.intro 8 follows_mixed (by kernel_rfl) ?_
      simp -implicitDefEqProofs [g0]
      refine CallQ.eq (find_spec old x.key) ?_
      simp -implicitDefEqProofs [eE]
      refine CallQ.with (lessT_spec (findE old x.key).tag x.tag) (by simp [eT]) ?_
      cases hi : lessT (findE old x.key).tag x.tag
      · simp -implicitDefEqProofs [g10, hw]
        exact ⟨⟨k + 1, tag, by simp [g0], by simp [g5, hs, hi], by simp [g8], by simp [g9], by simp, by omega, gt⟩, by omega⟩
      · simp -implicitDefEqProofs [g5, gt, g10, hw]
        exact ⟨by omega, ⟨k + 1, appTag tag 46 4 [eE x], by simp [g0], by simp [hs, hi, eEs, eE], by simp [g8], by simp [g9], by simp, by omega, by simp [gt]⟩, by omega⟩
    · have hlt' : ¬ (k : Int) < (book.length : Int) := by omega
      rw [List.take_of_length_le (by omega)] at g5
      simp -implicitDefEqProofs [g9, g10, hlt']
      exact ⟨tag, by simp [g5]⟩
  rintro t hh ⟨tag, g5⟩
  simp -implicitDefEqProofs [g5]
/-! ### the document's -/
def Fi7I (l : List PEntry) (k : Int) (b1 : Nat) (t : Nat → AV) (h : Nat → Option (List AV)) : Prop := ∃ i : Nat, t 1 = eI k ∧ t 4 = .ptr b1 0 ∧ t 7 = .sl .no (eEs l) ∧ t 8 = eI l.length ∧ t 9 = eI i ∧ i ≤ l.length ∧ h b1 = some (eE ⟨0, ⟨0, 0⟩, 0⟩) ∧ ∀ y ∈ l.take i, decide (y.key = k) = false
theorem find7_spec (l : List PEntry) (k : Int) : ASpec Tryz.prog 76 [.sl .no (eEs l), eI k] (· = .agg (eE (findE l k))) := by
  refine ASpec.of_awp Tryz.func76 (by kernel_rfl) rfl (by rw [Tryz.results76]) Tryz.ntmps76 ?_
  simp -implicitDefEqProofs
  refine allocK.intro (fun b1 hb1 => ?_)
  simp -implicitDefEqProofs
  intro _
  refine loopK.intro (Fi7I l k b1) (fun t => l.length - natOf (t 9)) ?_ ?_
  · exact ⟨0, by simp, by simp, by simp, by simp, by simp, by omega, by simp [eE], by simp⟩
  rintro t hh ⟨i, g1, g4, g7, g8, g9, hi, hb, hn⟩
  rw [eE] at hb
  by_cases hlt : i < l.length
  · have hlt' : (i : Int) < (l.length : Int) := by omega
    have hw : IntKind.i64.wrap ((i : Int) + 1) = ((i + 1 : Nat) : Int) := by rw [w64 (by omega) (by omega)]; omega
    obtain ⟨x, hx⟩ : ∃ x, l[i]? = some x := ⟨l[i], by simp [hlt]⟩
    simp -implicitDefEqProofs [g7, g8, g9, hlt', hx, eE]
    refine allocK.intro (fun b2 hb2 => ?_)
    have n12 : ¬ b1 = b2 := by rintro rfl; simp [hb] at hb2
    have n21 : ¬ b2 = b1 := fun h => n12 h.symm
    by_cases he : x.key = k
    · rw [findE_yes hx (by simpa using he) hn]
      simp -implicitDefEqProofs [g1, g4, g7, g8, g9, hlt', n12, n21, hb, he, eE]
    · simp -implicitDefEqProofs [g1, g4, g7, g8, g9, hlt', n12, n21, hb, he, hw]
      exact ⟨⟨i + 1, by simp [g1], by simp [g4], by simp [g7], by simp [g8], by simp, by omega, by simp [n12, hb, eE], take_no hx (by simpa using he) hn⟩, by omega⟩
  · have hlt' : ¬ (i : Int) < (l.length : Int) := by omega
    rw [List.take_of_length_le (by omega)] at hn
    rw [findE_no hn]
    simp -implicitDefEqProofs [g1, g4, g8, g9, hlt', hb, eE]

def Mx6I (l : List PTag) (b1 b2 : Nat) (t : Nat → AV) (h : Nat → Option (List AV)) : Prop := ∃ i : Nat, t 2 = .ptr b1 0 ∧ t 3 = .ptr b2 0 ∧ t 13 = .sl .no (l.map eT) ∧ t 14 = eI l.length ∧ t 15 = eI i ∧ i ≤ l.length ∧ h b1 = some (eT ⟨0, 0⟩) ∧ h b2 = some (eT ((l.take i).foldl maxT (l.headD ⟨0, 0⟩)))
def Mx6M (l : List PTag) (b1 b2 : Nat) (t : Nat → AV) (h : Nat → Option (List AV)) : Prop := t 2 = .ptr b1 0 ∧ t 3 = .ptr b2 0 ∧ h b1 = some (eT ⟨0, 0⟩) ∧ h b2 = some (eT (l.foldl maxT (l.headD ⟨0, 0⟩)))
theorem max6_spec (l : List PTag) (h0 : l ≠ []) : ASpec Tryz.prog 150 [.sl .no (l.map eT)] (· = .agg (eT (l.foldl maxT (l.headD ⟨0, 0⟩)))) := by
  have hp : 0 < l.length := by
    cases l with
    | nil => exact absurd rfl h0
    | cons => simp
  obtain ⟨x0, hx0⟩ : ∃ x, l[0]? = some x := ⟨l[0], by simp [hp]⟩
  have hh0 : l.headD ⟨0, 0⟩ = x0 := by
    cases l with
    | nil => simp at hp
    | cons y l => simpa using hx0
  have hl0 : l[0]'hp = x0 := by rw [List.getElem?_eq_getElem hp] at hx0; exact Option.some.inj hx0
  refine ASpec.of_awp Tryz.func150 (by kernel_rfl) rfl (by rw [Tryz.results150]) Tryz.ntmps150 ?_
  simp -implicitDefEqProofs
  refine allocK.intro (fun b1 hb1 => ?_)
  have hz : ¬ (l.length : Int) = 0 := by omega
  simp -implicitDefEqProofs [hz]
  try intro _
  have hp' : ¬ l = [] := h0
  simp -implicitDefEqProofs [hp', hx0, eT, hp]
  refine allocK.intro (fun b2 hb2 => ?_)
  have n12 : ¬ b1 = b2 := by rintro rfl; simp at hb2
  have n21 : ¬ b2 = b1 := fun h => n12 h.symm
  simp -implicitDefEqProofs [n12, n21]
  try intro _
  refine loopK.post (Mx6I l b1 b2) (fun t => l.length - natOf (t 15)) (Mx6M l b1 b2) ?_ ?_ ?_
  · exact ⟨0, by simp, by simp, by simp [eT], by simp, by simp, by omega, by simp [n12, eT], by simp [hh0, hl0, eT, -List.headD_eq_head?_getD]⟩
  · rintro t hh ⟨i, g2, g3, g13, g14, g15, hi, k1, k2⟩
    by_cases hlt : i < l.length
    · have hlt' : (i : Int) < (l.length : Int) := by omega
      have hw : IntKind.i64.wrap ((i : Int) + 1) = ((i + 1 : Nat) : Int) := by rw [w64 (by omega) (by omega)]; omega
      obtain ⟨x, hx⟩ : ∃ x, l[i]? = some x := ⟨l[i], by simp [hlt]⟩
      have hs : (l.take (i + 1)).foldl maxT (l.headD ⟨0, 0⟩) = maxT ((l.take i).foldl maxT (l.headD ⟨0, 0⟩)) x := by
        rw [List.take_add_one, hx, List.foldl_append]; rfl
      generalize (l.take i).foldl maxT (l.headD ⟨0, 0⟩) = y at *
      rw [eT] at k1 k2
      simp -implicitDefEqProofs [g13, g14, g15, hlt', hx, eT]
      refine allocK.intro (fun b3 hb3 => ?_)
      have n13 : ¬ b1 = b3 := by rintro rfl; simp [k1] at hb3
      have n31 : ¬ b3 = b1 := fun h => n13 h.symm
      have n23 : ¬ b2 = b3 := by rintro rfl; simp [k2] at hb3
      have n32 : ¬ b3 = b2 := fun h => n23 h.symm
      simp -implicitDefEqProofs [g3, k2, n13, n31, n23, n32]
      refine CallK.with (less6_spec y x) (by simp [eT]) ?_
      cases hy : lessT y x
      · have e : maxT y x = y := by simp [maxT, hy]
        rw [e] at hs
        simp -implicitDefEqProofs [g3, g15, k2, n23, n32, hw]
        exact ⟨⟨i + 1, by simp [g2], by simp [g3], by simp [g13], by simp [g14], by simp, by omega, by simp [n13, k1, eT], by rw [hs]; simp [n23, k2, eT]⟩, by omega⟩
      · have e : maxT y x = x := by simp [maxT, hy]
        rw [e] at hs
        simp -implicitDefEqProofs [g3, g15, k2, n23, n32, hw]
        exact ⟨⟨i + 1, by simp [g2], by simp [g3], by simp [g13], by simp [g14], by simp, by omega, by simp [n12, n13, k1, eT], by rw [hs]; simp [n23, eT]⟩, by omega⟩
    · have hlt' : ¬ (i : Int) < (l.length : Int) := by omega
      rw [List.take_of_length_le (by omega)] at k2
      simp -implicitDefEqProofs [g14, g15, hlt']
      exact ⟨by simp [g2], by simp [g3], k1, k2⟩
  rintro t hh ⟨g2, g3, k1, k2⟩
  generalize l.foldl maxT (l.headD ⟨0, 0⟩) = y at *
  rw [eT] at k1 k2
  simp -implicitDefEqProofs [g2, g3, k1, k2, n12, n21, eT]
theorem lessT_self (a : PTag) : lessT a a = false := by rw [lessT_eq]; simp
theorem max6_two (a b : PTag) : ASpec Tryz.prog 150 [.sl .no [eT a, eT b]] (· = .agg (eT (maxT a b))) := by
  have h := max6_spec [a, b] (by simp)
  have e : [a, b].foldl maxT ([a, b].headD ⟨0, 0⟩) = maxT a b := by
    have e1 : maxT a a = a := by simp [maxT, lessT_self]
    simp [e1]
  rwa [e] at h
theorem ne_two {a b c d : Int} (h : ¬ (a = c ∧ b = d)) : (!a == c || !b == d) = true := by
  by_cases h1 : a = c
  · have h2 : ¬ b = d := fun h2 => h ⟨h1, h2⟩
    simp [h2]
  · simp [h1]
def Mg7I (a b : List PEntry) (t : Nat → AV) (_ : Nat → Option (List AV)) : Prop := ∃ (k : Nat) (tag : Tag), t 0 = .sl .no (eEs a) ∧ t 1 = .sl .no (eEs b) ∧ t 5 = .sl tag (eEs (mergeDK a b k)) ∧ t 6 = eI k ∧ k ≤ 4 ∧ appOK tag 46 4
def Mg7M (a b : List PEntry) (t : Nat → AV) (_ : Nat → Option (List AV)) : Prop := ∃ tag : Tag, t 5 = .sl tag (eEs (mergeD a b))
theorem merge7_spec (a b : List PEntry) : ASpec Tryz.prog 91 [.sl .no (eEs a), .sl .no (eEs b)] (fun r => ∃ tag, r = .sl tag (eEs (mergeD a b))) := by
  refine ASpec.of_awp Tryz.func91 (by kernel_rfl) rfl (by rw [Tryz.results91]) Tryz.ntmps91 ?_
  simp -implicitDefEqProofs
  refine bsK.std ?_
  simp -implicitDefEqProofs
  refine loopK.post (Mg7I a b) (fun t => 4 - natOf (t 6)) (Mg7M a b) ?_ ?_ ?_
  · exact ⟨0, _, by simp, by simp, by simp [mergeDK]; rfl, by simp, by omega, by simp⟩
  · rintro t hh ⟨k, tag, g0, g1, g5, g6, hk, gt⟩
    by_cases hlt : k < 4
    · have hlt' : (k : Int) < 4 := by omega
      have hw : IntKind.i64.wrap ((k : Int) + 1) = ((k + 1 : Nat) : Int) := by rw [w64 (by omega) (by omega)]; omega
      have hl := mergeDK_le a b k
      simp -implicitDefEqProofs [g0, g1, g6, hlt']
      refine CallK.eq (find7_spec a k) ?_
      simp -implicitDefEqProofs [g0, g1, g6, hlt']
      refine CallK.eq (find7_spec b k) ?_
      have hs : mergeDK a b (k + 1) = mergeDK a b k ++ (if (newerE (findE a k) (findE b k)).tag = ⟨0, 0⟩ then [] else [newerE (findE a k) (findE b k)]) := rfl
      generalize findE a k = x at *
      generalize findE b k = y at *
      simp -implicitDefEqProofs [eE]
      refine allocK.intro (fun b1 hb1 => ?_)
      simp -implicitDefEqProofs
      refine allocK.intro (fun b2 hb2 => ?_)
      have n12 : ¬ b1 = b2 := by rintro rfl; simp at hb2
      have n21 : ¬ b2 = b1 := fun h => n12 h.symm
      simp -implicitDefEqProofs [n12, n21, eE]
      refine regionK.intro 9 follows_mixed (by kernel_rfl) ?_
      simp -implicitDefEqProofs [n12, n21, eE]
      refine CallQ.with (max6_two x.tag y.tag) (by simp [eT]) ?_
      have en : ∀ z : PTag, (z = ⟨0, 0⟩) ↔ (z.num = 0 ∧ z.node = 0) := by
        rintro ⟨n, m⟩; simp
      cases hx : lessT x.tag y.tag
      · have e1 : maxT x.tag y.tag = x.tag := by simp [maxT, hx]
        rw [show newerE x y = x by simp [newerE, hx]] at hs
        rw [e1]
        by_cases hp : x.tag = ⟨0, 0⟩
        · have hp2 := (en _).1 hp
          rw [if_pos hp] at hs
          simp -implicitDefEqProofs [g5, gt, g6, n12, n21, eT, hp2.1, hp2.2, hw]
          exact ⟨⟨k + 1, tag, by simp [g0], by simp [g1], by simp [g5, hs], by simp, by omega, gt⟩, by omega⟩
        · have hp2 := fun h => hp ((en _).2 h)
          rw [if_neg hp] at hs
          simp -implicitDefEqProofs [g5, gt, g6, n12, n21, eT, ne_two hp2, hw]
          exact ⟨by omega, ⟨k + 1, appTag tag 46 4 [eE x], by simp [g0], by simp [g1], by simp [hs, eEs, eE], by simp, by omega, by simp [gt]⟩, by omega⟩
      · have e1 : maxT x.tag y.tag = y.tag := by simp [maxT, hx]
        have e2 : ¬ (y.tag.num = x.tag.num ∧ y.tag.node = x.tag.node) := by
          rintro ⟨h1, h2⟩
          rw [lessT_eq] at hx
          simp [h1, h2] at hx
        rw [show newerE x y = y by simp [newerE, hx]] at hs
        rw [e1]
        by_cases hp : y.tag = ⟨0, 0⟩
        · have hp2 := (en _).1 hp
          rw [hp2.1, hp2.2] at e2
          rw [if_pos hp] at hs
          simp -implicitDefEqProofs [g5, gt, g6, n12, n21, eT, hp2.1, hp2.2, ne_two e2, hw]
          exact ⟨⟨k + 1, tag, by simp [g0], by simp [g1], by simp [g5, hs], by simp, by omega, gt⟩, by omega⟩
        · have hp2 := fun h => hp ((en _).2 h)
          rw [if_neg hp] at hs
          simp -implicitDefEqProofs [g5, gt, g6, n12, n21, eT, ne_two hp2, ne_two e2, hw]
          exact ⟨by omega, ⟨k + 1, appTag tag 46 4 [eE y], by simp [g0], by simp [g1], by simp [hs, eEs, eE], by simp, by omega, by simp [gt]⟩, by omega⟩
    · have hlt' : ¬ (k : Int) < 4 := by omega
      obtain rfl : k = 4 := by omega
      simp -implicitDefEqProofs [g6, hlt']
      exact ⟨tag, by simp [g5, mergeD]⟩
  rintro t hh ⟨tag, g5⟩
  simp -implicitDefEqProofs [g5]
end Go.Proofs.YtjbbfiagijjdoaaGreat

/- Plain: cells. No condition. -/
set_option linter.unusedSimpArgs false
set_option linter.unusedVariables false
set_option maxRecDepth 10000
namespace Go.Proofs.YtjbbfiagijjdoaaGreat
open Go Go.Rw Go.Proofs

/-- what a node wrote -/
def ofC (l : List PCell) (n : Int) : Option PView := (l.find? fun c => decide (c.node = n)).map (·.change)
theorem idxP_cases {α : Type} (p : α → Bool) (l : List α) : (idxP p l = -1 ∧ ∀ x ∈ l, p x = false) ∨ (∃ i : Nat, ∃ x, idxP p l = i ∧ l[i]? = some x ∧ p x = true ∧ ∀ y ∈ l.take i, p y = false) := by
  by_cases h : l.findIdx p < l.length
  · refine .inr ⟨l.findIdx p, l[l.findIdx p], ?_, List.getElem?_eq_getElem h, List.findIdx_getElem (w := h), fun y hy => ?_⟩
    · unfold idxP; rw [if_pos h]
    · obtain ⟨j, hj, e⟩ := List.mem_take_iff_getElem.1 hy
      have := List.not_of_lt_findIdx (p := p) (xs := l) (i := j) (by omega)
      rw [e] at this
      simpa using this
  · have hl : l.findIdx p = l.length := by
      have := List.findIdx_le_length (p := p) (xs := l)
      omega
    refine .inl ⟨?_, List.findIdx_eq_length.1 hl⟩
    unfold idxP; rw [if_neg h]
theorem ofC_no {l : List PCell} {n : Int} (h : ∀ x ∈ l, decide (x.node = n) = false) : ofC l n = none := by
  unfold ofC
  have e : l.find? (fun c => decide (c.node = n)) = none := List.find?_eq_none.2 (fun x hx => by rw [h x hx]; simp)
  rw [e]; rfl
theorem ofC_yes {l : List PCell} {n : Int} {i : Nat} {x : PCell} (hx : l[i]? = some x) (hp : decide (x.node = n) = true) (hn : ∀ y ∈ l.take i, decide (y.node = n) = false) : ofC l n = some x.change := by
  unfold ofC
  have hk : i < l.length := by
    rcases Nat.lt_or_ge i l.length with h | h
    · exact h
    · rw [List.getElem?_eq_none h] at hx; simp at hx
  have hxk : l[i] = x := by rw [List.getElem?_eq_getElem hk] at hx; exact Option.some.inj hx
  have e : l.find? (fun c => decide (c.node = n)) = some x := by
    refine List.find?_eq_some_iff_getElem.2 ⟨hp, i, hk, hxk, fun j hj => ?_⟩
    rw [hn _ (List.mem_take_iff_getElem.2 ⟨j, by omega, rfl⟩)]; rfl
  rw [e]; rfl
def ofA (l : List PCell) (n : Int) : AV := .tup [.agg (eV ((ofC l n).getD ⟨0, 0⟩)), .v (.bool (ofC l n).isSome)]
def newsC (old l : List PCell) : List PCell := l.filter fun c => !(ofC old c.node).isSome
/-- did a node write two things? -/
def clash1 (b : List PCell) (c : PCell) : Bool := match ofC b c.node with | some v => !decide (v = c.change) | none => false
def clashC (a b : List PCell) : Bool := a.any (clash1 b)
/-- the cells of both, as the document has it -/
def mergeC1 (a b : List PCell) (n : Int) : List PCell := match ofC a n with | some v => [⟨n, v⟩] | none => match ofC b n with | some v => [⟨n, v⟩] | none => []
def mergeCK (a b : List PCell) : Nat → List PCell
  | 0 => []
  | k + 1 => mergeCK a b k ++ mergeC1 a b k
def mergeC (a b : List PCell) : List PCell := mergeCK a b 6
theorem mergeC1_le (a b : List PCell) (n : Int) : (mergeC1 a b n).length ≤ 1 := by
  unfold mergeC1
  split
  · simp
  · split <;> simp
theorem mergeCK_le (a b : List PCell) (k : Nat) : (mergeCK a b k).length ≤ k := by
  induction k with
  | zero => simp [mergeCK]
  | succ k ih =>
    have := mergeC1_le a b k
    rw [mergeCK, List.length_append]; omega
end Go.Proofs.YtjbbfiagijjdoaaGreat

/- Contracts: cells. No condition. -/
set_option linter.unusedSimpArgs false
set_option linter.unusedVariables false
set_option maxRecDepth 10000
namespace Go.Proofs.YtjbbfiagijjdoaaGreat
open Go Go.Rw Go.Proofs
-- a goal is never to be run by the elaborator
attribute [local irreducible] awp aops aop aopsE aeff

/-! ### cells.Of -/
theorem ofKey_spec (x : PCell) (b : Nat) (k : Int) : MSpec Tryz.prog 161 [.agg (eC x), .ptr b 0] (one b [eI k]) (fun r h' => r = .v (.bool (decide (x.node = k))) ∧ h' = one b [eI k]) := by
  refine MSpec.of_awp Tryz.func161 (by kernel_rfl) rfl (by rw [Tryz.results161]) Tryz.ntmps161 ?_
  simp -implicitDefEqProofs [eC]
  refine allocK.intro (fun b1 hb1 => ?_)
  have n1 : ¬ b1 = b := by rintro rfl; simp at hb1
  have n2 : ¬ b = b1 := fun h => n1 h.symm
  simp -implicitDefEqProofs [n1, n2]
theorem indexf_cells (g : FuncId) (b : Nat) (c : List AV) (p : PCell → Bool) (l : List PCell) (hf : ∀ x ∈ l, MSpec Tryz.prog g [.agg (eC x), .ptr b 0] (one b c) (fun r h' => r = .v (.bool (p x)) ∧ h' = one b c)) :
    MSpec Tryz.prog 160 [.sl .no (eCs l), .fn g [.ptr b 0]] (one b c) (fun r h' => r = eI (idxP p l) ∧ h' = one b c) := by
  refine MSpec.of_awp Tryz.func160 (by kernel_rfl) rfl (by rw [Tryz.results160]) Tryz.ntmps160 ?_
  simp -implicitDefEqProofs
  intro _
  refine loopK.intro (IdfI eCs p l g b c) (fun t => l.length - natOf (t 8)) ?_ ?_
  · exact ⟨0, by simp, by simp, by simp, by simp, by omega, by simp, by simp⟩
  rintro t hh ⟨k, g0, g1, g7, g8, hk, hb, hn⟩
  by_cases hlt : k < l.length
  · have hlt' : (k : Int) < (l.length : Int) := by omega
    obtain ⟨x, hx⟩ : ∃ x, l[k]? = some x := ⟨l[k], by simp [hlt]⟩
    have hw : IntKind.i64.wrap ((k : Int) + 1) = ((k + 1 : Nat) : Int) := by rw [w64 (by omega) (by omega)]; omega
    simp -implicitDefEqProofs [g0, g1, g7, g8, hlt', hx, eC]
    refine CallK.one (hf x (List.mem_of_getElem? hx)) (by simp [eC]) (by simp [hb, Weak.refl]) ?_
    cases hp : p x
    · simp -implicitDefEqProofs [g0, g1, g7, g8, hb, hw]
      exact ⟨⟨k + 1, by simp [g0], by simp [g1], by simp [g7], by simp, by omega, by simp, take_no hx hp hn⟩, by omega⟩
    · simp -implicitDefEqProofs [g0, g1, g7, g8, hb, hw, idxP_some hx hp hn, Weak.refl]
  · have hlt' : ¬ (k : Int) < (l.length : Int) := by omega
    rw [List.take_of_length_le (by omega)] at hn
    simp -implicitDefEqProofs [g7, g8, hlt', hb, idxP_none hn, Weak.refl]
theorem ofC_spec (l : List PCell) (k : Int) : ASpec Tryz.prog 106 [.sl .no (eCs l), eI k] (· = ofA l k) := by
  refine ASpec.of_awp Tryz.func106 (by kernel_rfl) rfl (by rw [Tryz.results106]) Tryz.ntmps106 ?_
  simp -implicitDefEqProofs
  refine allocK.intro (fun b1 hb1 => ?_)
  simp -implicitDefEqProofs
  refine allocK.intro (fun b2 hb2 => ?_)
  have n12 : ¬ b1 = b2 := by rintro rfl; simp at hb2
  have n21 : ¬ b2 = b1 := fun h => n12 h.symm
  simp -implicitDefEqProofs [n12, n21]
  refine CallK.one (indexf_cells 161 b1 [eI k] (fun x => decide (x.node = k)) l (fun x _ => ofKey_spec x b1 k)) rfl (by simp [n12, Weak.refl]) ?_
  rcases idxP_cases (fun x : PCell => decide (x.node = k)) l with ⟨e1, e2⟩ | ⟨i, x, e1, hx, e2, e3⟩
  · rw [e1, ofA, ofC_no e2]
    simp -implicitDefEqProofs [n12, n21, eV]
  · rw [e1, ofA, ofC_yes hx e2 e3]
    have hi : ¬ (i : Int) < 0 := by omega
    simp -implicitDefEqProofs [n12, n21, hi, hx, eC, eV]
/-! ### cells.Clash -/
theorem clashKey_spec (x : PCell) (b : Nat) (l : List PCell) : MSpec Tryz.prog 120 [.agg (eC x), .ptr b 0] (one b [.sl .no (eCs l)]) (fun r h' => r = .v (.bool (clash1 l x)) ∧ h' = one b [.sl .no (eCs l)]) := by
  refine MSpec.of_awp Tryz.func120 (by kernel_rfl) rfl (by rw [Tryz.results120]) Tryz.ntmps120 ?_
  simp -implicitDefEqProofs [eC]
  refine allocK.intro (fun b1 hb1 => ?_)
  have n1 : ¬ b1 = b := by rintro rfl; simp at hb1
  have n2 : ¬ b = b1 := fun h => n1 h.symm
  simp -implicitDefEqProofs [n1, n2]
  refine CallK.eq (ofC_spec l x.node) ?_
  rw [ofA]
  simp -implicitDefEqProofs [eV]
  refine allocK.intro (fun b2 hb2 => ?_)
  have n3 : ¬ b2 = b := by rintro rfl; simp [n2] at hb2
  have n4 : ¬ b = b2 := fun h => n3 h.symm
  have n5 : ¬ b1 = b2 := by rintro rfl; simp at hb2
  have n6 : ¬ b2 = b1 := fun h => n5 h.symm
  cases ho : ofC l x.node with
  | none => simp -implicitDefEqProofs [n1, n2, n3, n4, n5, n6, clash1, ho]
  | some v =>
    have e : (v = x.change) ↔ (v.add = x.change.add ∧ v.del = x.change.del) := by
      obtain ⟨p, q⟩ := v
      obtain ⟨n, ⟨p2, q2⟩⟩ := x
      simp
    by_cases h : v = x.change
    · have h2 := e.1 h
      simp -implicitDefEqProofs [n1, n2, n3, n4, n5, n6, h2.1, h2.2, h, clash1, ho]
    · have h2 := fun h3 => h (e.2 h3)
      simp -implicitDefEqProofs [n1, n2, n3, n4, n5, n6, h2, h, clash1, ho]
      by_cases q : v.add = x.change.add
      · exact .inr fun q2 => h2 ⟨q, q2⟩
      · exact .inl q
theorem idx_any {α : Type} (p : α → Bool) (l : List α) : (0 ≤ idxP p l) ↔ l.any p = true := by
  rcases idxP_cases p l with ⟨e1, e2⟩ | ⟨i, x, e1, hx, e2, e3⟩
  · rw [e1]
    have : l.any p = false := by rw [List.any_eq_false]; intro x hx; rw [e2 x hx]; simp
    simp [this]
  · rw [e1]
    have : l.any p = true := by rw [List.any_eq_true]; exact ⟨x, List.mem_of_getElem? hx, e2⟩
    simp [this]
theorem containsf_cells (g : FuncId) (b : Nat) (c : List AV) (p : PCell → Bool) (l : List PCell) (hf : ∀ x ∈ l, MSpec Tryz.prog g [.agg (eC x), .ptr b 0] (one b c) (fun r h' => r = .v (.bool (p x)) ∧ h' = one b c)) :
    MSpec Tryz.prog 119 [.sl .no (eCs l), .fn g [.ptr b 0]] (one b c) (fun r h' => r = .v (.bool (l.any p)) ∧ h' = one b c) := by
  refine MSpec.of_awp Tryz.func119 (by kernel_rfl) rfl (by rw [Tryz.results119]) Tryz.ntmps119 ?_
  simp -implicitDefEqProofs
  refine CallK.one (indexf_cells g b c p l hf) rfl (by simp [Weak.refl]) ?_
  have h := idx_any p l
  cases ha : l.any p
  · rw [ha] at h
    have h' : ¬ 0 ≤ idxP p l := fun h2 => by simpa using h.1 h2
    simp -implicitDefEqProofs [h', ha, Weak.refl]
  · rw [ha] at h
    simp -implicitDefEqProofs [h.2 rfl, ha, Weak.refl]
theorem clash_spec (a b : List PCell) : ASpec Tryz.prog 61 [.sl .no (eCs a), .sl .no (eCs b)] (· = .v (.bool (clashC a b))) := by
  refine ASpec.of_awp Tryz.func61 (by kernel_rfl) rfl (by rw [Tryz.results61]) Tryz.ntmps61 ?_
  simp -implicitDefEqProofs
  refine allocK.intro (fun b1 hb1 => ?_)
  simp -implicitDefEqProofs
  refine CallK.one (containsf_cells 120 b1 [.sl .no (eCs b)] (clash1 b) a (fun x _ => clashKey_spec x b1 b)) rfl (by simp [Weak.refl]) ?_
  simp -implicitDefEqProofs [clashC]
/-! ### the document's -/
def Fc7I (l : List PCell) (k : Int) (b1 : Nat) (t : Nat → AV) (h : Nat → Option (List AV)) : Prop := ∃ i : Nat, t 1 = eI k ∧ t 4 = .ptr b1 0 ∧ t 5 = .v (.bool false) ∧ t 8 = .sl .no (eCs l) ∧ t 9 = eI l.length ∧ t 10 = eI i ∧ i ≤ l.length ∧ h b1 = some [eI 0, eI 0] ∧ ∀ y ∈ l.take i, decide (y.node = k) = false
theorem of10_spec (l : List PCell) (k : Int) : ASpec Tryz.prog 74 [.sl .no (eCs l), eI k] (· = ofA l k) := by
  refine ASpec.of_awp Tryz.func74 (by kernel_rfl) rfl (by rw [Tryz.results74]) Tryz.ntmps74 ?_
  simp -implicitDefEqProofs
  refine allocK.intro (fun b1 hb1 => ?_)
  simp -implicitDefEqProofs
  intro _
  refine loopK.intro (Fc7I l k b1) (fun t => l.length - natOf (t 10)) ?_ ?_
  · exact ⟨0, by simp, by simp, by simp, by simp, by simp, by simp, by omega, by simp, by simp⟩
  rintro t hh ⟨i, g1, g4, g5, g7, g8, g9, hi, hb, hn⟩
  by_cases hlt : i < l.length
  · have hlt' : (i : Int) < (l.length : Int) := by omega
    have hw : IntKind.i64.wrap ((i : Int) + 1) = ((i + 1 : Nat) : Int) := by rw [w64 (by omega) (by omega)]; omega
    obtain ⟨x, hx⟩ : ∃ x, l[i]? = some x := ⟨l[i], by simp [hlt]⟩
    simp -implicitDefEqProofs [g7, g8, g9, hlt', hx, eC]
    refine allocK.intro (fun b2 hb2 => ?_)
    have n12 : ¬ b1 = b2 := by rintro rfl; simp [hb] at hb2
    have n21 : ¬ b2 = b1 := fun h => n12 h.symm
    by_cases he : x.node = k
    · rw [ofA, ofC_yes hx (by simpa using he) hn]
      simp -implicitDefEqProofs [g1, g4, g7, g8, g9, hlt', n12, n21, hb, he, eV]
    · simp -implicitDefEqProofs [g1, g4, g7, g8, g9, hlt', n12, n21, hb, he, hw]
      exact ⟨⟨i + 1, by simp [g1], by simp [g4], by simp [g5], by simp [g7], by simp [g8], by simp, by omega, by simp [n12, hb], take_no hx (by simpa using he) hn⟩, by omega⟩
  · have hlt' : ¬ (i : Int) < (l.length : Int) := by omega
    rw [List.take_of_length_le (by omega)] at hn
    rw [ofA, ofC_no hn]
    simp -implicitDefEqProofs [g1, g4, g8, g9, hlt', hb, eV]
def Mg10I (a b : List PCell) (t : Nat → AV) (_ : Nat → Option (List AV)) : Prop := ∃ (k : Nat) (tag : Tag), t 0 = .sl .no (eCs a) ∧ t 1 = .sl .no (eCs b) ∧ t 5 = .sl tag (eCs (mergeCK a b k)) ∧ t 6 = eI k ∧ k ≤ 6 ∧ appOK tag 48 3
def Mg10M (a b : List PCell) (t : Nat → AV) (_ : Nat → Option (List AV)) : Prop := ∃ tag : Tag, t 5 = .sl tag (eCs (mergeC a b))
theorem merge10_spec (a b : List PCell) : ASpec Tryz.prog 96 [.sl .no (eCs a), .sl .no (eCs b)] (fun r => ∃ tag, r = .sl tag (eCs (mergeC a b))) := by
  refine ASpec.of_awp Tryz.func96 (by kernel_rfl) rfl (by rw [Tryz.results96]) Tryz.ntmps96 ?_
  simp -implicitDefEqProofs
  refine bsK.std ?_
  simp -implicitDefEqProofs
  refine loopK.post (Mg10I a b) (fun t => 6 - natOf (t 6)) (Mg10M a b) ?_ ?_ ?_
  · exact ⟨0, _, by simp, by simp, by simp [mergeCK]; rfl, by simp, by omega, by simp⟩
  · rintro t hh ⟨k, tag, g0, g1, g5, g6, hk, gt⟩
    by_cases hlt : k < 6
    · have hlt' : (k : Int) < 6 := by omega
      have hw : IntKind.i64.wrap ((k : Int) + 1) = ((k + 1 : Nat) : Int) := by rw [w64 (by omega) (by omega)]; omega
      have hl := mergeCK_le a b k
      simp -implicitDefEqProofs [g0, g1, g6, hlt']
      refine CallK.eq (of10_spec a k) ?_
      rw [ofA]
      simp -implicitDefEqProofs [g0, g1, g6, hlt', eV]
      refine allocK.intro (fun b1 hb1 => ?_)
      simp -implicitDefEqProofs [g0, g1, g6, hlt']
      refine CallK.eq (of10_spec b k) ?_
      rw [ofA]
      simp -implicitDefEqProofs [g0, g1, g6, hlt', eV]
      refine allocK.intro (fun b2 hb2 => ?_)
      have n12 : ¬ b1 = b2 := by rintro rfl; simp at hb2
      have n21 : ¬ b2 = b1 := fun h => n12 h.symm
      have hs : mergeCK a b (k + 1) = mergeCK a b k ++ mergeC1 a b k := rfl
      cases ha : ofC a k with
      | some v =>
        rw [mergeC1, ha] at hs
        simp -implicitDefEqProofs [g5, gt, g6, n12, n21, hw]
        exact ⟨by omega, ⟨k + 1, appTag tag 48 3 [eC ⟨k, v⟩], by simp [g0], by simp [g1], by simp [hs, eCs, eC], by simp, by omega, by simp [gt]⟩, by omega⟩
      | none =>
        cases hb : ofC b k with
        | some v =>
          rw [mergeC1, ha, hb] at hs
          simp -implicitDefEqProofs [g5, gt, g6, n12, n21, hw]
          exact ⟨by omega, ⟨k + 1, appTag tag 48 3 [eC ⟨k, v⟩], by simp [g0], by simp [g1], by simp [hs, eCs, eC], by simp, by omega, by simp [gt]⟩, by omega⟩
        | none =>
          rw [mergeC1, ha, hb] at hs
          simp -implicitDefEqProofs [g5, gt, g6, n12, n21, hw]
          exact ⟨⟨k + 1, tag, by simp [g0], by simp [g1], by simp [g5, hs], by simp, by omega, gt⟩, by omega⟩
    · have hlt' : ¬ (k : Int) < 6 := by omega
      obtain rfl : k = 6 := by omega
      simp -implicitDefEqProofs [g6, hlt']
      exact ⟨tag, by simp [g5, mergeC]⟩
  rintro t hh ⟨tag, g5⟩
  simp -implicitDefEqProofs [g5]
end Go.Proofs.YtjbbfiagijjdoaaGreat

/- Plain: rows in one object. No condition. -/
set_option linter.unusedSimpArgs false
set_option linter.unusedVariables false
set_option maxRecDepth 10000
namespace Go.Proofs.YtjbbfiagijjdoaaGreat
open Go Go.Rw Go.Proofs

theorem flat_take {α : Type} {sz : Nat} : ∀ {rows : List (List α)} {k : Nat}, (∀ r ∈ rows, r.length = sz) → k ≤ rows.length → rows.flatten.take (k * sz) = (rows.take k).flatten
  | rows, 0, _, _ => by simp
  | [], k + 1, _, h => by simp at h
  | r :: rows, k + 1, hr, h => by
    have h1 : r.length = sz := hr r (by simp)
    have h2 := flat_take (rows := rows) (k := k) (fun x hx => hr x (by simp [hx])) (by simp at h; omega)
    rw [List.flatten_cons, List.take_append, h1, List.take_succ_cons, List.flatten_cons]
    have e : (k + 1) * sz - sz = k * sz := by rw [Nat.add_mul]; omega
    rw [e, h2, List.take_of_length_le (by rw [h1, Nat.add_mul]; omega)]
theorem flat_drop {α : Type} {sz : Nat} : ∀ {rows : List (List α)} {k : Nat}, (∀ r ∈ rows, r.length = sz) → k ≤ rows.length → rows.flatten.drop (k * sz) = (rows.drop k).flatten
  | rows, 0, _, _ => by simp
  | [], k + 1, _, h => by simp at h
  | r :: rows, k + 1, hr, h => by
    have h1 : r.length = sz := hr r (by simp)
    have h2 := flat_drop (rows := rows) (k := k) (fun x hx => hr x (by simp [hx])) (by simp at h; omega)
    rw [List.flatten_cons, List.drop_append, h1, List.drop_succ_cons]
    have e : (k + 1) * sz - sz = k * sz := by rw [Nat.add_mul]; omega
    rw [e, h2, List.drop_of_length_le (by rw [h1, Nat.add_mul]; omega), List.nil_append]
theorem flat_len {α : Type} {sz : Nat} : ∀ {rows : List (List α)}, (∀ r ∈ rows, r.length = sz) → rows.flatten.length = rows.length * sz
  | [], _ => by simp
  | r :: rows, hr => by
    have h1 : r.length = sz := hr r (by simp)
    have h2 := flat_len (rows := rows) (fun x hx => hr x (by simp [hx]))
    rw [List.flatten_cons, List.length_append, h1, h2, List.length_cons, Nat.add_mul]; omega
/-- rows lie one behind the other -/
theorem flat_row {α : Type} {sz : Nat} {rows : List (List α)} {sp : List α} {k : Nat} {r : List α} (hr : ∀ r ∈ rows, r.length = sz) (hk : rows[k]? = some r) :
    ((rows.flatten ++ sp).drop (k * sz)).take sz = r := by
  have hlt : k < rows.length := by
    rcases Nat.lt_or_ge k rows.length with h | h
    · exact h
    · rw [List.getElem?_eq_none h] at hk; simp at hk
  have e : rows.drop k = r :: rows.drop (k + 1) := by
    rw [List.drop_eq_getElem_cons hlt]; rw [List.getElem?_eq_getElem hlt] at hk; rw [Option.some.inj hk]
  have hl := flat_len hr
  have h1 : r.length = sz := hr r (List.mem_of_getElem? hk)
  rw [List.drop_append_of_le_length (by rw [hl]; exact Nat.mul_le_mul_right _ (by omega)), flat_drop hr (by omega), e, List.flatten_cons, List.append_assoc, List.take_append_of_le_length (by omega), List.take_of_length_le (by omega)]
theorem flat_fits {α : Type} {sz : Nat} {rows : List (List α)} {sp : List α} {k : Nat} (hr : ∀ r ∈ rows, r.length = sz) (hk : k < rows.length) : k * sz + sz ≤ (rows.flatten ++ sp).length := by
  rw [List.length_append, flat_len hr]
  have := Nat.mul_le_mul_right sz (show k + 1 ≤ rows.length by omega)
  rw [Nat.add_mul] at this; omega
theorem flat_set {sz : Nat} {rows : List (List AV)} {sp : List AV} {k : Nat} {r : List AV} (hr : ∀ r ∈ rows, r.length = sz) (h1 : r.length = sz) (hk : k < rows.length) :
    overlay (rows.flatten ++ sp) (k * sz) r = (rows.set k r).flatten ++ sp := by
  have hl := flat_len hr
  have hm : (k + 1) * sz ≤ rows.length * sz := Nat.mul_le_mul_right sz (by omega)
  have hm2 : (k + 1) * sz = k * sz + sz := by rw [Nat.add_mul]; omega
  unfold overlay
  rw [List.take_append_of_le_length (by omega), flat_take hr (by omega), h1, ← hm2, List.drop_append_of_le_length (by omega), flat_drop hr (by omega)]
  rw [List.set_eq_take_append_cons_drop, if_pos hk]
  simp
end Go.Proofs.YtjbbfiagijjdoaaGreat

/- Contracts: lists of cells and entries, told otherwise. No condition. -/
set_option linter.unusedSimpArgs false
set_option linter.unusedVariables false
set_option maxRecDepth 10000
namespace Go.Proofs.YtjbbfiagijjdoaaGreat
open Go Go.Rw Go.Proofs
-- a goal is never to be run by the elaborator
attribute [local irreducible] awp aops aop aopsE aeff

def Sm10I (a b : List PCell) (t : Nat → AV) (_ : Nat → Option (List AV)) : Prop := ∃ k : Nat, t 0 = .sl .no (eCs a) ∧ t 1 = .sl .no (eCs b) ∧ t 12 = .v (.int .i64 a.length) ∧ t 13 = .v (.int .i64 k) ∧ k ≤ a.length ∧ a.take k = b.take k
theorem same10_spec (a b : List PCell) : ASpec Tryz.prog 39 [.sl .no (eCs a), .sl .no (eCs b)] (· = .v (.bool (decide (a = b)))) := by
  refine ASpec.of_awp Tryz.func39 (by kernel_rfl) rfl (by rw [Tryz.results39]) Tryz.ntmps39 ?_
  simp -implicitDefEqProofs
  intro h1 h2
  by_cases hl : a.length = b.length
  · simp -implicitDefEqProofs [hl]
    intro _
    refine loopK.intro (Sm10I a b) (fun t => a.length - natOf (t 13)) ?_ ?_
    · exact ⟨0, by simp, by simp, by simp [hl], by simp, by omega, by simp⟩
    rintro t hh ⟨k, g0, g1, g12, g13, hk, he⟩
    simp -implicitDefEqProofs [g12, g13]
    refine branch_dec (fun hlt => ?_) (fun hlt => ?_)
    · have hlt : k < a.length := by omega
      have hlt2 : k < b.length := by omega
      obtain ⟨x, hx⟩ : ∃ x, a[k]? = some x := ⟨a[k], by simp [hlt]⟩
      obtain ⟨y, hy⟩ : ∃ y, b[k]? = some y := ⟨b[k], by simp [hlt2]⟩
      have hj1 : IntKind.i64.wrap ((k : Int) + 1) = (k : Int) + 1 := w64 (by omega) (by omega)
      simp -implicitDefEqProofs [g13]
      refine regionK.intro 9 follows_mixed (by kernel_rfl) ?_
      simp -implicitDefEqProofs [g0, g1, g13, hx, hy, eC]
      refine branch_intro (fun hb2 => ?_) (fun hb2 => ?_)
      · have hne : x ≠ y := by rintro rfl; simp at hb2
        simp -implicitDefEqProofs
        rintro rfl
        rw [hx] at hy
        exact hne (Option.some.inj hy)
      · have hxy : x = y := by
          obtain ⟨n1, a1, d1⟩ := x
          obtain ⟨n2, a2, d2⟩ := y
          simp at hb2
          simp [hb2]
        simp -implicitDefEqProofs [g13, hj1]
        refine ⟨⟨k + 1, by simp [g0], by simp [g1], by simp [g12], by simp, by omega, ?_⟩, by omega⟩
        rw [List.take_add_one, List.take_add_one, he, hx, hy, hxy]
    · have hk' : k = a.length := by omega
      subst hk'
      simp -implicitDefEqProofs
      rw [List.take_length, hl, List.take_length] at he
      exact he
  · have hne : ¬ a = b := by rintro rfl; exact hl rfl
    have hl' : ¬ (a.length : Int) = b.length := by omega
    simp -implicitDefEqProofs [hl, hl', hne]

theorem alike7_spec (x y : PEntry) (hx : x.value < 18446744073709551616) (hy : y.value < 18446744073709551616) : ASpec Tryz.prog 86 [.agg (eE x), .agg (eE y)] (· = .v (.bool (sameE x y))) := by
  refine ASpec.of_awp Tryz.func86 (by kernel_rfl) rfl (by rw [Tryz.results86]) Tryz.ntmps86 ?_
  simp -implicitDefEqProofs [eE]
  refine allocK.intro (fun b hb => ?_)
  simp -implicitDefEqProofs
  refine allocK.intro (fun b2 hb2 => ?_)
  have hbb : ¬ b = b2 := by rintro rfl; simp at hb2
  have hbb' : ¬ b2 = b := fun h => hbb h.symm
  simp -implicitDefEqProofs [hbb, hbb']
  refine regionK.intro 21 follows_mixed (by kernel_rfl) ?_
  by_cases h1 : x.key = y.key
  · by_cases h2 : x.tag.num = y.tag.num
    · by_cases h3 : x.tag.node = y.tag.node
      · have ht : x.tag = y.tag := by
          obtain ⟨k1, ⟨n1, a1⟩, v1⟩ := x
          obtain ⟨k2, ⟨n2, a2⟩, v2⟩ := y
          simp at h2 h3
          simp [h2, h3]
        simp -implicitDefEqProofs [hbb, hbb', h1, h2, h3]
        refine CallQ.eq (bits1_spec _ hx) ?_
        simp -implicitDefEqProofs [hbb, hbb', h1, h2, h3]
        refine CallQ.eq (bits1_spec _ hy) ?_
        simp -implicitDefEqProofs [hbb, hbb', h1, h2, h3, sameE, ht]
        try omega
      · have ht : ¬ x.tag = y.tag := fun h => h3 (by rw [h])
        have e3 : (x.tag.node == y.tag.node) = false := by simpa using h3
        simp -implicitDefEqProofs [hbb, hbb', h1, h2, h3, e3, sameE, ht]
    · have ht : ¬ x.tag = y.tag := fun h => h2 (by rw [h])
      have e2 : (x.tag.num == y.tag.num) = false := by simpa using h2
      simp -implicitDefEqProofs [hbb, hbb', h1, h2, e2, sameE, ht]
  · simp -implicitDefEqProofs [hbb, hbb', h1, sameE]

def Sm7I (a b : List PEntry) (t : Nat → AV) (_ : Nat → Option (List AV)) : Prop := ∃ k : Nat, t 0 = .sl .no (eEs a) ∧ t 1 = .sl .no (eEs b) ∧ t 12 = .v (.int .i64 a.length) ∧ t 13 = .v (.int .i64 k) ∧ k ≤ a.length ∧ sameEs (a.drop k) (b.drop k) = sameEs a b
theorem same7_spec (a b : List PEntry) (ha : ∀ x ∈ a, x.value < 18446744073709551616) (hb : ∀ x ∈ b, x.value < 18446744073709551616) : ASpec Tryz.prog 36 [.sl .no (eEs a), .sl .no (eEs b)] (· = .v (.bool (sameEs a b))) := by
  refine ASpec.of_awp Tryz.func36 (by kernel_rfl) rfl (by rw [Tryz.results36]) Tryz.ntmps36 ?_
  simp -implicitDefEqProofs
  intro h1 h2
  by_cases hl : a.length = b.length
  · simp -implicitDefEqProofs [hl]
    intro _
    refine loopK.intro (Sm7I a b) (fun t => a.length - natOf (t 13)) ?_ ?_
    · exact ⟨0, by simp, by simp, by simp [hl], by simp, by omega, by simp⟩
    rintro t hh ⟨k, g0, g1, g12, g13, hk, he⟩
    simp -implicitDefEqProofs [g12, g13]
    refine branch_dec (fun hlt => ?_) (fun hlt => ?_)
    · have hlt : k < a.length := by omega
      have hlt2 : k < b.length := by omega
      obtain ⟨x, hx⟩ : ∃ x, a[k]? = some x := ⟨a[k], by simp [hlt]⟩
      obtain ⟨y, hy⟩ : ∃ y, b[k]? = some y := ⟨b[k], by simp [hlt2]⟩
      have hj1 : IntKind.i64.wrap ((k : Int) + 1) = (k : Int) + 1 := w64 (by omega) (by omega)
      have hdx : a.drop k = x :: a.drop (k + 1) := by
        rw [List.drop_eq_getElem_cons hlt]; rw [List.getElem?_eq_getElem hlt] at hx; rw [Option.some.inj hx]
      have hdy : b.drop k = y :: b.drop (k + 1) := by
        rw [List.drop_eq_getElem_cons hlt2]; rw [List.getElem?_eq_getElem hlt2] at hy; rw [Option.some.inj hy]
      rw [hdx, hdy, sameEs] at he
      simp -implicitDefEqProofs [g13]
      refine regionK.intro 10 follows_mixed (by kernel_rfl) ?_
      simp -implicitDefEqProofs [g0, g1, g13, hx, hy, eE]
      refine CallQ.with (alike7_spec x y (ha x (List.mem_of_getElem? hx)) (hb y (List.mem_of_getElem? hy))) (by simp [eE]) ?_
      cases hs : sameE x y
      · rw [hs, Bool.false_and] at he
        simp -implicitDefEqProofs [← he]
      · rw [hs, Bool.true_and] at he
        simp -implicitDefEqProofs [g13, hj1]
        exact ⟨⟨k + 1, by simp [g0], by simp [g1], by simp [g12], by simp, by omega, he⟩, by omega⟩
    · have hk' : k = a.length := by omega
      subst hk'
      rw [List.drop_length, hl, List.drop_length] at he
      simp -implicitDefEqProofs [← he, sameEs]
  · have hl' : ¬ (a.length : Int) = b.length := by omega
    have hs := sameEs_len hl
    simp -implicitDefEqProofs [hl, hl', hs]
end Go.Proofs.YtjbbfiagijjdoaaGreat

/- Contracts: lists of cells and entries that can be, told otherwise. No condition. -/
set_option linter.unusedSimpArgs false
set_option linter.unusedVariables false
set_option maxRecDepth 10000
namespace Go.Proofs.YtjbbfiagijjdoaaGreat
open Go Go.Rw Go.Proofs
-- a goal is never to be run by the elaborator
attribute [local irreducible] awp aops aop aopsE aeff

theorem popN_pos : ∀ (k n : Nat), n < 2 ^ k → popN k n = 0 → n = 0
  | 0, n, h, _ => by simp at h; exact h
  | k + 1, n, h, h0 => by
    simp only [popN] at h0
    have h1 := popN_pos k (n / 2) (by rw [Nat.pow_succ] at h; omega) (by omega)
    omega
theorem popN_zero : ∀ k : Nat, popN k 0 = 0
  | 0 => rfl
  | k + 1 => by simp [popN, popN_zero k]
theorem sizeV_zero {v : PView} (h : rightV v = true) : sizeV v = 0 ↔ v.add = 0 ∧ v.del = 0 := by
  simp [rightV] at h
  have e : sizeV v = (popN 64 v.add.toNat : Int) + popN 64 v.del.toNat := by unfold sizeV; rfl
  rw [e]
  constructor
  · intro h0
    have h1 := popN_pos 64 v.add.toNat (by omega) (by omega)
    have h2 := popN_pos 64 v.del.toNat (by omega) (by omega)
    omega
  · rintro ⟨h1, h2⟩
    rw [h1, h2]
    simp [popN_zero]

def Ck10I (l : List PCell) (t : Nat → AV) (_ : Nat → Option (List AV)) : Prop := ∃ (k : Nat) (last : Int), t 0 = .sl .no (eCs l) ∧ t 5 = .sl .no (eCs l) ∧ t 6 = eI l.length ∧ t 7 = eI k ∧ k ≤ l.length ∧ checkC last (l.drop k) = checkC (-1) l ∧ -1 ≤ last ∧ (k = 0 → last = -1) ∧ (0 < k → ∃ c, l[k - 1]? = some c ∧ c.node = last)
def Ck7I (l : List PEntry) (t : Nat → AV) (_ : Nat → Option (List AV)) : Prop := ∃ (k : Nat) (last : Int), t 0 = .sl .no (eEs l) ∧ t 5 = .sl .no (eEs l) ∧ t 6 = eI l.length ∧ t 7 = eI k ∧ k ≤ l.length ∧ checkE last (l.drop k) = checkE (-1) l ∧ -1 ≤ last ∧ (k = 0 → last = -1) ∧ (0 < k → ∃ c, l[k - 1]? = some c ∧ c.key = last)
theorem check7_spec (l : List PEntry) : ASpec Tryz.prog 110 [.sl .no (eEs l)] (· = eI (if checkE (-1) l = true then 0 else 71)) := by
  refine ASpec.of_awp Tryz.func110 (by kernel_rfl) rfl (by rw [Tryz.results110]) Tryz.ntmps110 ?_
  simp -implicitDefEqProofs
  intro hlen
  refine loopK.intro (Ck7I l) (fun t => l.length - natOf (t 7)) ?_ ?_
  · exact ⟨0, -1, by simp, by simp, by simp, by simp, by omega, by simp, by omega, fun _ => rfl, fun h => absurd h (by omega)⟩
  rintro t hh ⟨k, last, g0, g5, g6, g7, hk, hc, hl1, hl0, hlp⟩
  simp -implicitDefEqProofs [g6, g7]
  refine branch_dec (fun hlt => ?_) (fun hlt => ?_)
  · have hlt : k < l.length := by omega
    obtain ⟨c, hx⟩ : ∃ c, l[k]? = some c := ⟨l[k], by simp [hlt]⟩
    have hd : l.drop k = c :: l.drop (k + 1) := by
      rw [List.drop_eq_getElem_cons hlt]
      rw [List.getElem?_eq_getElem hlt] at hx
      injection hx with hx
      rw [hx]
    rw [hd, checkE] at hc
    have hj1 : IntKind.i64.wrap ((k : Int) + 1) = (k : Int) + 1 := w64 (by omega) (by omega)
    have bad : okE last c = false → checkE (-1) l = false := fun h => by rw [← hc, h]; rfl
    have b1 := fun h => bad (okE_1 last c h)
    have b2 := fun h => bad (okE_2 last c h)
    have b3 := fun h => bad (okE_3 last c h)
    have b4 := fun h => bad (okE_4 last c h)
    simp -implicitDefEqProofs [g5, g6, g7, hx, eE]
    refine allocK.intro (fun b hb => ?_)
    simp -implicitDefEqProofs [g5, g7, hx, eE]
    refine regionK.intro 35 follows_mixed (by kernel_rfl) ?_
    by_cases h1 : c.key < 0
    · simp -implicitDefEqProofs [h1, b1 (by omega)]
    by_cases h2 : 3 < c.key
    · simp -implicitDefEqProofs [h1, h2, b2 (by omega)]
    simp -implicitDefEqProofs [h1, h2]
    refine CallQ.with (right6_spec c.tag) (by simp [eT]) ?_
    cases h3 : rightT c.tag
    · simp -implicitDefEqProofs [h1, h2, b3 h3]
    by_cases h4 : c.tag.num = 0
    · simp -implicitDefEqProofs [h1, h2, h4, b4 h4]
    have hok : ¬ c.key ≤ last → okE last c = true := fun h => okE_5 last c h (by omega) h3 h4
    by_cases hk0 : k = 0
    · have hm := hl0 hk0
      rw [hok (by omega), Bool.true_and] at hc
      subst hk0
      have hnx : 0 < 1 → ∃ c0, l[1 - 1]? = some c0 ∧ c0.key = c.key := fun _ => ⟨c, hx, rfl⟩
      simp -implicitDefEqProofs [h1, h2, h4, g7, hj1, wr1]
      exact ⟨⟨1, c.key, by simp [g0], by simp [g5], by simp [g6], by simp, by omega, hc, by omega, fun h => absurd h (by omega), hnx⟩, by omega⟩
    · obtain ⟨p, hp, hpn⟩ := hlp (by omega)
      have w1 : IntKind.i64.wrap ((k : Int) - 1) = (k : Int) - 1 := w64 (by omega) (by omega)
      have e1 : ((k : Int) - 1).toNat = k - 1 := by omega
      have e2 : (0 : Int) ≤ (k : Int) - 1 := by omega
      have e3 : 0 < k := by omega
      have e4 : (1 : Int) ≤ (k : Int) := by omega
      by_cases h5 : c.key ≤ p.key
      · have hb1 := b1 (by omega)
        simp -implicitDefEqProofs [h1, h2, h4, g0, g7, hj1, w1, e1, e2, e3, e4, hp, eE, h5, hb1]
      · rw [hok (by omega), Bool.true_and] at hc
        have hnx : 0 < k + 1 → ∃ c0, l[k + 1 - 1]? = some c0 ∧ c0.key = c.key := fun _ => ⟨c, hx, rfl⟩
        simp -implicitDefEqProofs [h1, h2, h4, g0, g7, hj1, w1, e1, e2, e3, e4, hp, eE, h5]
        exact ⟨⟨k + 1, c.key, by simp [g0], by simp [g5], by simp [g6], by simp, by omega, hc, by omega, fun h => absurd h (by omega), hnx⟩, by omega⟩
  · have hk' : k = l.length := by omega
    subst hk'
    rw [List.drop_length, checkE] at hc
    simp -implicitDefEqProofs [← hc]
end Go.Proofs.YtjbbfiagijjdoaaGreat

/- Contracts: messages, told otherwise. No condition. -/
set_option linter.unusedSimpArgs false
set_option linter.unusedVariables false
set_option maxRecDepth 10000
namespace Go.Proofs.YtjbbfiagijjdoaaGreat
open Go Go.Rw Go.Proofs
-- a goal is never to be run by the elaborator
attribute [local irreducible] awp aops aop aopsE aeff

end Go.Proofs.YtjbbfiagijjdoaaGreat

/- Contracts: messages that can be, told otherwise. No condition. -/
set_option linter.unusedSimpArgs false
set_option linter.unusedVariables false
set_option maxRecDepth 10000
namespace Go.Proofs.YtjbbfiagijjdoaaGreat
open Go Go.Rw Go.Proofs
-- a goal is never to be run by the elaborator
attribute [local irreducible] awp aops aop aopsE aeff

end Go.Proofs.YtjbbfiagijjdoaaGreat

/- Contracts: frames of messages, told otherwise. No condition. -/
set_option linter.unusedSimpArgs false
set_option linter.unusedVariables false
set_option maxRecDepth 10000
namespace Go.Proofs.YtjbbfiagijjdoaaGreat
open Go Go.Rw Go.Proofs

def headU (m : PMsg) : List Nat := (headN m).map Int.toNat
def F11I (m : PMsg) (b : Nat) (t : Nat → AV) (h : Nat → Option (List AV)) : Prop := ∃ (k : Nat) (cur : List Nat) (tag : Tag), t 1 = .ptr b 0 ∧ t 37 = .sl .no (eCs m.cells) ∧ t 38 = eI m.cells.length ∧ t 39 = eI k ∧ t 4 = .sl tag (eU cur) ∧ appOK tag 166 1 ∧
  h b = some (eM m) ∧ k ≤ m.cells.length ∧ cur ++ numsC (m.cells.drop k) = headU m ++ numsC m.cells ∧ cur.length ≤ 7 + 2 * k
def F11M (m : PMsg) (b : Nat) (t : Nat → AV) (h : Nat → Option (List AV)) : Prop := ∃ (cur : List Nat) (tag : Tag), t 1 = .ptr b 0 ∧ t 4 = .sl tag (eU cur) ∧ appOK tag 166 1 ∧
  h b = some (eM m) ∧ cur = headU m ++ numsC m.cells ∧ cur.length ≤ 19
def F11J (m : PMsg) (t : Nat → AV) (h : Nat → Option (List AV)) : Prop := ∃ (k : Nat) (cur : List Nat) (tag : Tag), t 62 = .sl .no (eEs m.book) ∧ t 63 = eI m.book.length ∧ t 64 = eI k ∧ t 4 = .sl tag (eU cur) ∧ appOK tag 166 1 ∧
  k ≤ m.book.length ∧ cur ++ numsE (m.book.drop k) = numsM bitsF m ∧ cur.length ≤ 20 + 4 * k
end Go.Proofs.YtjbbfiagijjdoaaGreat

/- Contracts: messages are read, told otherwise. No condition. -/
set_option linter.unusedSimpArgs false
set_option linter.unusedVariables false
set_option maxRecDepth 10000
namespace Go.Proofs.YtjbbfiagijjdoaaGreat
open Go Go.Rw Go.Proofs

end Go.Proofs.YtjbbfiagijjdoaaGreat

/- Contracts: messages are read, told otherwise. No condition. -/
set_option linter.unusedSimpArgs false
set_option linter.unusedVariables false
set_option maxRecDepth 10000
namespace Go.Proofs.YtjbbfiagijjdoaaGreat
open Go Go.Rw Go.Proofs

def rowsIn (x : AV) : Nat := match x with | .sl _ rows => rows.length | _ => 0
@[simp] theorem rowsIn_sl (tag : Tag) (rows : List (List AV)) : rowsIn (.sl tag rows) = rows.length := rfl
def R11I (f body : List UInt8) (b : Nat) (t : Nat → AV) (h : Nat → Option (List AV)) : Prop := ∃ (rest : List UInt8) (cur : List Nat) (tag : Tag), t 0 = .sl .no (eB f) ∧ t 2 = .ptr b 0 ∧ t 4 = .sl .no (eB rest) ∧ t 6 = .sl tag (eU cur) ∧ appOK tag 166 1 ∧
  h b = some (eMt .nil .nil zM) ∧ cur.length ≤ 60 ∧ rest.length ≤ body.length ∧ getsF 60 body = (getsF (60 - cur.length) rest).map (cur ++ ·)
def R11M (f body : List UInt8) (b : Nat) (t : Nat → AV) (h : Nat → Option (List AV)) : Prop := ∃ (cur : List Nat) (tag : Tag), t 0 = .sl .no (eB f) ∧ t 2 = .ptr b 0 ∧ t 6 = .sl tag (eU cur) ∧
  h b = some (eMt .nil .nil zM) ∧ cur.length ≤ 60 ∧ getsF 60 body = some cur
def msgK (cur : List Nat) (k j : Nat) : PMsg := ⟨atN cur 0, atN cur 1, atN cur 2, atN cur 3, atN cur 4, viewN (atN cur 5), cellsN cur k, bookN cur j⟩
def R11C (f : List UInt8) (cur : List Nat) (b bm : Nat) (tag : Tag) (t : Nat → AV) (h : Nat → Option (List AV)) : Prop := ∃ (k : Nat) (tc : Tag), t 0 = .sl .no (eB f) ∧ t 2 = .ptr b 0 ∧ t 6 = .sl tag (eU cur) ∧ t 10 = .ptr bm 0 ∧ t 11 = eI (7 + 2 * k) ∧ t 12 = eI k ∧
  h b = some (eMt .nil .nil zM) ∧ h bm = some (eMt tc .nil (msgK cur k 0)) ∧ appOK tc 48 3 ∧ k ≤ cntC cur
def R11D (f : List UInt8) (cur : List Nat) (b bm : Nat) (tag : Tag) (t : Nat → AV) (h : Nat → Option (List AV)) : Prop := ∃ (tc : Tag), t 0 = .sl .no (eB f) ∧ t 2 = .ptr b 0 ∧ t 6 = .sl tag (eU cur) ∧ t 10 = .ptr bm 0 ∧ t 11 = eI (7 + 2 * cntC cur) ∧
  h b = some (eMt .nil .nil zM) ∧ h bm = some (eMt tc .nil (msgK cur (cntC cur) 0))
def R11E (f : List UInt8) (cur : List Nat) (b bm : Nat) (tag : Tag) (t : Nat → AV) (h : Nat → Option (List AV)) : Prop := ∃ (j : Nat) (tc te : Tag), t 0 = .sl .no (eB f) ∧ t 2 = .ptr b 0 ∧ t 6 = .sl tag (eU cur) ∧ t 10 = .ptr bm 0 ∧ t 11 = eI (posE cur + 4 * j : Nat) ∧ t 15 = eI (atN cur (7 + 2 * cntC cur)) ∧ t 16 = eI j ∧
  h b = some (eMt .nil .nil zM) ∧ h bm = some (eMt tc te (msgK cur (cntC cur) j)) ∧ appOK te 46 4 ∧ j ≤ cntE cur
def R11G (f : List UInt8) (cur : List Nat) (b bm b3 : Nat) (tag : Tag) (j : Nat) (t : Nat → AV) (h : Nat → Option (List AV)) : Prop := ∃ (tc te : Tag), t 0 = .sl .no (eB f) ∧ t 2 = .ptr b 0 ∧ t 6 = .sl tag (eU cur) ∧ t 10 = .ptr bm 0 ∧ t 11 = eI (posE cur + 4 * j : Nat) ∧ t 15 = eI (atN cur (7 + 2 * cntC cur)) ∧ t 16 = eI j ∧ t 17 = .ptr b3 0 ∧
          h b = some (eMt .nil .nil zM) ∧ h bm = some (eMt tc te (msgK cur (cntC cur) j)) ∧ appOK te 46 4 ∧ h b3 = some (eE (entryN cur (posE cur + 4 * j)))
def R11F (f : List UInt8) (cur : List Nat) (b bm : Nat) (t : Nat → AV) (h : Nat → Option (List AV)) : Prop := ∃ (tc te : Tag), t 0 = .sl .no (eB f) ∧ t 2 = .ptr b 0 ∧ t 10 = .ptr bm 0 ∧
  h b = some (eMt .nil .nil zM) ∧ h bm = some (eMt tc te (msgN cur))
end Go.Proofs.YtjbbfiagijjdoaaGreat

/- Contracts: a copy that may be written over. No condition. -/
set_option linter.unusedSimpArgs false
set_option linter.unusedVariables false
set_option maxRecDepth 10000
namespace Go.Proofs.YtjbbfiagijjdoaaGreat
open Go Go.Rw Go.Proofs
-- a goal is never to be run by the elaborator
attribute [local irreducible] awp aops aop aopsE aeff

theorem clone_cells_new (l : List PCell) (hl : l.length * 24 ≤ 140737488355328) : ASpec Tryz.prog 95 [.sl .no (eCs l)] (New 48 3 (eCs l)) := by
  refine ASpec.of_awp Tryz.func95 (by kernel_rfl) rfl (by rw [Tryz.results95]) Tryz.ntmps95 ?_
  simp -implicitDefEqProofs
  refine nilK.intro (fun h => ?_) ?_
  · simp -implicitDefEqProofs [h]; exact .inl ⟨rfl, _, by simp, rfl⟩
  · simp -implicitDefEqProofs [hl]
    by_cases h : l = []
    · subst h; exact .inl ⟨rfl, _, by simp, rfl⟩
    · have h' : eCs l ≠ [] := by simpa [eCs] using h
      exact .inr ⟨h', by rw [appTag_full h']⟩
theorem one_self (b : Nat) (c : List AV) : one b c b = some c := by simp [one_apply]
/-- a slice of one's own, so long -/
def OwnB (x : AV) (n sz : Nat) (h : Nat → Option (List AV)) : Prop := (n = 0 ∧ x = .sl .no []) ∨ ∃ b c cells, x = .sm b 0 n c ∧ h b = some cells ∧ n * sz ≤ cells.length
theorem eCs_flat (l : List PCell) : (eCs l).flatten.length = l.length * 3 := by simpa using flatten_length (eCs_one l)
/-- its object is not one of those that were there -/
def ObNe (x : AV) (b : Nat) : Prop := ∀ b' o n c, x = .sm b' o n c → ¬ b' = b
def CopyR (m : PMsg) (r : AV) (h' : Nat → Option (List AV)) : Prop := ∃ x1 x2, r = .agg [eI m.kind, eI m.frm, eI m.to, eI m.inc, eI m.seq, eI m.view.add, eI m.view.del, x1, x2] ∧ OwnB x1 m.cells.length 3 h' ∧ OwnB x2 m.book.length 4 h'
end Go.Proofs.YtjbbfiagijjdoaaGreat

/- Contracts: cells in memory of one's own. No condition. -/
set_option linter.unusedSimpArgs false
set_option linter.unusedVariables false
set_option maxRecDepth 10000
namespace Go.Proofs.YtjbbfiagijjdoaaGreat
open Go Go.Rw Go.Proofs
-- a goal is never to be run by the elaborator
attribute [local irreducible] awp aops aop aopsE aeff

theorem eCs_dead (l : List PCell) : (eCs l).flatten.map dead1 = (eCs l).flatten := by
  induction l with
  | nil => rfl
  | cons x l ih => simp [eCs, eC, dead1] at *; exact ih
theorem eCs_dead2 (l : List PCell) : (eCs l).map (List.map dead1) = eCs l := by
  induction l with
  | nil => rfl
  | cons x l ih => simp [eCs, eC, dead1] at *; try exact ih
theorem eCs_set (l : List PCell) (k : Nat) (x : PCell) : (eCs l).set k (eC x) = eCs (l.set k x) := by simp [eCs, List.map_set]
theorem cell_at {l : List PCell} {c sp : List AV} {k : Nat} {x : PCell} (hc : c = (eCs l).flatten ++ sp) (hx : l[k]? = some x) : k * 3 + 3 ≤ c.length ∧ ((c.map dead1).drop (k * 3)).take 3 = eC x := by
  have hlt : k < l.length := by
    rcases Nat.lt_or_ge k l.length with h | h
    · exact h
    · rw [List.getElem?_eq_none h] at hx; simp at hx
  rw [hc]
  refine ⟨flat_fits (eCs_one l) (by simpa using hlt), ?_⟩
  rw [List.map_append, eCs_dead]
  exact flat_row (eCs_one l) (by simp [hx])
theorem cell_set {l : List PCell} {c sp : List AV} {k : Nat} {x : PCell} (hc : c = (eCs l).flatten ++ sp) (hk : k < l.length) : overlay c (k * 3) (eC x) = (eCs (l.set k x)).flatten ++ sp := by
  rw [hc, flat_set (eCs_one l) rfl (by simpa using hk), eCs_set]
/-- two objects -/
def two (b : Nat) (c : List AV) (b2 : Nat) (c2 : List AV) : Nat → Option (List AV) := upd (one b c) b2 (some c2)
theorem sub_two {b b2 : Nat} {c c2 : List AV} {H : Nat → Option (List AV)} (h1 : H b = some c) (h2 : H b2 = some c2) : SubH (two b c b2 c2) H := by
  refine SubH.of fun k x hx => ?_
  by_cases e : k = b2
  · subst e; rw [h2]; simpa [two, upd] using hx
  · by_cases e2 : k = b
    · subst e2; rw [h1]; simpa [two, upd, one, e] using hx
    · simp [two, upd, one, e, e2] at hx
theorem two_left {b b2 : Nat} {c c2 : List AV} (h : ¬ b = b2) : two b c b2 c2 b = some c := by simp [two, upd, one, h]
theorem two_right {b b2 : Nat} {c c2 : List AV} : two b c b2 c2 b2 = some c2 := by simp [two, upd]
def IdsI (p : PCell → Bool) (l : List PCell) (cap : Nat) (g : FuncId) (b : Nat) (c : List AV) (b1 : Nat) (c1 : List AV) (t : Nat → AV) (h : Nat → Option (List AV)) : Prop := ∃ k : Nat, t 0 = .sm b1 0 l.length cap ∧ t 1 = .fn g [.ptr b 0] ∧ t 7 = eI l.length ∧ t 8 = eI k ∧ k ≤ l.length ∧ h b = some c ∧ h b1 = some c1 ∧ ∀ y ∈ l.take k, p y = false
theorem indexf_cells_sm (g : FuncId) (b : Nat) (c : List AV) (p : PCell → Bool) (l : List PCell) (b1 cap : Nat) (sp c1 : List AV) (hb : ¬ b = b1) (hc1 : c1 = (eCs l).flatten ++ sp) (hf : ∀ x ∈ l, MSpec Tryz.prog g [.agg (eC x), .ptr b 0] (one b c) (fun r h' => r = .v (.bool (p x)) ∧ h' = one b c)) :
    MSpec Tryz.prog 160 [.sm b1 0 l.length cap, .fn g [.ptr b 0]] (two b1 c1 b c) (fun r h' => r = eI (idxP p l) ∧ h' = two b1 c1 b c) := by
  refine MSpec.of_awp Tryz.func160 (by kernel_rfl) rfl (by rw [Tryz.results160]) Tryz.ntmps160 ?_
  have hb2 : ¬ b1 = b := fun h => hb h.symm
  simp -implicitDefEqProofs
  intro _
  refine loopK.intro (IdsI p l cap g b c b1 c1) (fun t => l.length - natOf (t 8)) ?_ ?_
  · exact ⟨0, by simp, by simp, by simp, by simp, by omega, by simp [two], by simp [two, hb, hb2], by simp⟩
  rintro t hh ⟨k, g0, g1, g7, g8, hk, kb, k1, hn⟩
  by_cases hlt : k < l.length
  · have hlt' : (k : Int) < (l.length : Int) := by omega
    obtain ⟨x, hx⟩ : ∃ x, l[k]? = some x := ⟨l[k], by simp [hlt]⟩
    have hw : IntKind.i64.wrap ((k : Int) + 1) = ((k + 1 : Nat) : Int) := by rw [w64 (by omega) (by omega)]; omega
    obtain ⟨q1, q2⟩ := cell_at hc1 hx
    simp -implicitDefEqProofs [g0, g1, g7, g8, hlt', hx, eC, k1, hb, hb2, q1, q2]
    refine CallK.one (hf x (List.mem_of_getElem? hx)) (by simp [eC]) (by simp [kb, Weak.refl]) ?_
    cases hp : p x
    · simp -implicitDefEqProofs [g0, g1, g7, g8, kb, k1, hw]
      exact ⟨⟨k + 1, by simp [g0], by simp [g1], by simp [g7], by simp, by omega, by simp, by simp [hb, hb2, k1], take_no hx hp hn⟩, by omega⟩
    · simp -implicitDefEqProofs [g0, g1, g7, g8, kb, k1, hw, idxP_some hx hp hn, Weak.refl]
      exact sub_two (by simp [hb2, k1]) (by simp)
  · have hlt' : ¬ (k : Int) < (l.length : Int) := by omega
    rw [List.take_of_length_le (by omega)] at hn
    simp -implicitDefEqProofs [g7, g8, hlt', kb, k1, idxP_none hn, Weak.refl]
    exact sub_two k1 kb
/-- those that stay -/
def DelI (p : PCell → Bool) (l : List PCell) (cap : Nat) (g : FuncId) (b : Nat) (c : List AV) (b1 : Nat) (sp : List AV) (t : Nat → AV) (h : Nat → Option (List AV)) : Prop := ∃ (i j : Nat) (a : List PCell), t 0 = .sm b1 0 l.length cap ∧ t 1 = .fn g [.ptr b 0] ∧ t 5 = eI i ∧ t 6 = eI j ∧ i < j ∧ j ≤ l.length ∧ h b = some c ∧ h b1 = some ((eCs a).flatten ++ sp) ∧
  a.length = l.length ∧ a.take i = (l.take j).filter (fun x => !p x) ∧ a.drop j = l.drop j
def DelM (p : PCell → Bool) (l : List PCell) (cap : Nat) (b : Nat) (c : List AV) (b1 : Nat) (sp : List AV) (t : Nat → AV) (h : Nat → Option (List AV)) : Prop := ∃ (i : Nat) (a : List PCell), t 0 = .sm b1 0 l.length cap ∧ t 5 = eI i ∧ i < l.length ∧ h b = some c ∧ h b1 = some ((eCs a).flatten ++ sp) ∧
  a.length = l.length ∧ a.take i = l.filter (fun x => !p x)
theorem delete_cells (g : FuncId) (b : Nat) (c : List AV) (p : PCell → Bool) (l : List PCell) (b1 cap : Nat) (sp : List AV) (hb : ¬ b = b1) (hl : l.length ≤ 1000000000) (hf : ∀ x ∈ l, MSpec Tryz.prog g [.agg (eC x), .ptr b 0] (one b c) (fun r h' => r = .v (.bool (p x)) ∧ h' = one b c)) :
    MSpec Tryz.prog 104 [.sm b1 0 l.length cap, .fn g [.ptr b 0]] (two b1 ((eCs l).flatten ++ sp) b c)
      (fun r h' => ∃ sp', r = .sm b1 0 (l.filter fun x => !p x).length cap ∧ h' = two b1 ((eCs (l.filter fun x => !p x)).flatten ++ sp') b c ∧ (l.filter fun x => !p x).length * 3 + sp'.length = l.length * 3 + sp.length) := by
  refine MSpec.of_awp Tryz.func104 (by kernel_rfl) rfl (by rw [Tryz.results104]) Tryz.ntmps104 ?_
  have hb2 : ¬ b1 = b := fun h => hb h.symm
  simp -implicitDefEqProofs
  refine CallK.mh (indexf_cells_sm g b c p l b1 cap sp _ hb rfl hf) rfl (sub_two (two_left hb2) two_right) ?_
  rintro _ h' H ⟨rfl, rfl⟩ - hH -
  have k1 := hH b1 _ (two_left hb2)
  have kb := hH b _ two_right
  clear hH
  rcases idxP_cases p l with ⟨e1, e2⟩ | ⟨i, x, e1, hx, e2, e3⟩
  · have ef : l.filter (fun x => !p x) = l := List.filter_eq_self.2 fun x hx => by rw [e2 x hx]; rfl
    rw [e1]
    simp -implicitDefEqProofs
    refine ⟨_, sub_two k1 kb, ?_⟩
    rw [ef]
    exact ⟨rfl, sp, rfl, rfl⟩
  · have hi : i < l.length := by
      rcases Nat.lt_or_ge i l.length with h | h
      · exact h
      · rw [List.getElem?_eq_none h] at hx; simp at hx
    have hne : ¬ (i : Int) = -1 := by omega
    have hw : IntKind.i64.wrap ((i : Int) + 1) = ((i + 1 : Nat) : Int) := by rw [w64 (by omega) (by omega)]; omega
    rw [e1]
    simp -implicitDefEqProofs [hne, hw]
    refine loopK.post (DelI p l cap g b c b1 sp) (fun t => l.length - natOf (t 6)) (DelM p l cap b c b1 sp) ?_ ?_ ?_
    · refine ⟨i, i + 1, l, by simp, by simp, by simp, by simp, by omega, by omega, kb, k1, rfl, ?_, rfl⟩
      rw [List.take_add_one, hx, List.filter_append]
      have e4 : (l.take i).filter (fun x => !p x) = l.take i := List.filter_eq_self.2 fun y hy => by rw [e3 y hy]; rfl
      simp [e4, e2]
    · clear k1 kb e1 hx e2 e3 hi hne hw
      rintro t hh ⟨i, j, a, g0, g1, g5, g6, hij, hj, kb, k1, hal, hat, had⟩
      by_cases hlt : j < l.length
      · have hlt' : (j : Int) < (l.length : Int) := by omega
        obtain ⟨x, hx⟩ : ∃ x, l[j]? = some x := ⟨l[j], by simp [hlt]⟩
        have hxa : a[j]? = some x := by
          have h1 : (a.drop j)[0]? = (l.drop j)[0]? := by rw [had]
          rw [List.getElem?_drop, List.getElem?_drop] at h1
          rw [← hx]; simpa using h1
        have hwj : IntKind.i64.wrap ((j : Int) + 1) = ((j + 1 : Nat) : Int) := by rw [w64 (by omega) (by omega)]; omega
        have hwi : IntKind.i64.wrap ((i : Int) + 1) = ((i + 1 : Nat) : Int) := by rw [w64 (by omega) (by omega)]; omega
        have hst : (l.take (j + 1)).filter (fun x => !p x) = (l.take j).filter (fun x => !p x) ++ (if p x = true then [] else [x]) := by
          rw [List.take_add_one, hx, List.filter_append]
          cases h : p x <;> simp [h]
        have hd1 : a.drop (j + 1) = l.drop (j + 1) := by
          rw [← List.drop_drop, had, List.drop_drop]
        have fit := flat_fits (sp := sp) (eCs_one a) (k := i) (by simp; omega)
        have set := cell_set (c := (eCs a).flatten ++ sp) (l := a) (sp := sp) (x := x) rfl (k := i) (by omega)
        generalize hc1 : (eCs a).flatten ++ sp = c1 at *
        obtain ⟨q1, q2⟩ := cell_at hc1.symm hxa
        have hbf : (eC x).length = 3 := rfl
        have set : c1.take (i * 3) ++ AV.v (.int .i64 x.node) :: AV.v (.int .i64 x.change.add) :: AV.v (.int .i64 x.change.del) :: c1.drop (i * 3 + 3) = (eCs (a.set i x)).flatten ++ sp := by simpa [overlay, eC] using set
        simp -implicitDefEqProofs [g0, g1, g6, hlt', k1, q1, q2, eC, hlt]
        intro _
        refine allocK.intro (fun b2 hb3 => ?_)
        have n1 : ¬ b2 = b := by rintro rfl; rw [kb] at hb3; simp at hb3
        have n2 : ¬ b = b2 := fun h => n1 h.symm
        have n3 : ¬ b2 = b1 := by rintro rfl; rw [k1] at hb3; simp at hb3
        have n4 : ¬ b1 = b2 := fun h => n3 h.symm
        simp -implicitDefEqProofs [g1, n1, n2, n3, n4]
        refine CallK.one (hf x (List.mem_of_getElem? hx)) (by simp [eC]) (by simp [kb, n2, Weak.refl]) ?_
        cases hp : p x
        · have hii : i < l.length := by omega
          have hii' : (i : Int) < (l.length : Int) := by omega
          simp -implicitDefEqProofs [g0, g1, g5, g6, n1, n2, n3, n4, hb, hb2, k1, hwj, hwi, hii, hii', fit, set]
          refine ⟨⟨i + 1, j + 1, a.set i x, by simp [g0], by simp [g1], by simp, by simp, by omega, by omega, by simp [hb, hb2, n2], by simp, by simpa using hal, ?_, ?_⟩, by omega⟩
          · rw [hst, hp, ← hat, List.take_add_one, List.getElem?_set_self (by omega), List.take_set, List.set_eq_of_length_le (by rw [List.length_take]; omega)]
            simp
          · rw [List.drop_set_of_lt (by omega), hd1]
        · simp -implicitDefEqProofs [g0, g1, g5, g6, hwj]
          refine ⟨⟨i, j + 1, a, by simp [g0], by simp [g1], by simp [g5], by simp, by omega, by omega, by simp, by simp [hb, hb2, n4, k1, hc1], hal, ?_, hd1⟩, by omega⟩
          rw [hst, hp]; simpa using hat
      · have hlt' : ¬ (j : Int) < (l.length : Int) := by omega
        simp -implicitDefEqProofs [g0, g6, hlt']
        intro _
        refine ⟨i, a, by simp [g0], by simp [g5], by omega, kb, k1, hal, ?_⟩
        rw [hat, List.take_of_length_le (by omega)]
    clear k1 kb e1 hx e2 e3 hi hne hw
    rintro t hh ⟨i, a, g0, g5, hi, kb, k1, hal, hat⟩
    have hi' : (i : Int) < (l.length : Int) := by omega
    have fit := flat_len (rows := eCs a) (eCs_one a)
    have hfl : i * 3 + (l.length - i) * 3 ≤ ((eCs a).flatten ++ sp).length := by
      rw [List.length_append, fit, eCs_length]; omega
    simp -implicitDefEqProofs [g0, g5, hi, hi', k1]
    refine clearSm (e := 48) (sz := 3) (by_ := 24) (z := [eI 0, eI 0, eI 0]) (by simp) (by simp) rfl (b := b1) (o := i * 3) (n := l.length - i) (c := cap - i) (by simp) k1 hfl (fun zs hz => ?_)
    have hkl : (l.filter fun x => !p x).length = i := by rw [← hat, List.length_take]; omega
    have hov : overlay ((eCs a).flatten ++ sp) (i * 3) zs = (eCs (l.filter fun x => !p x)).flatten ++ (zs ++ sp) := by
      have e1 := flat_take (rows := eCs a) (eCs_one a) (k := i) (by simp; omega)
      unfold overlay
      rw [List.take_append_of_le_length (by rw [fit, eCs_length]; omega), e1, List.append_assoc, show i * 3 + zs.length = (eCs a).flatten.length by rw [fit, eCs_length, hz]; omega, List.drop_left, ← hat]
      simp [eCs]
    generalize hq : overlay ((eCs a).flatten ++ sp) (i * 3) zs = q at *
    have fin : ∃ sp', q = (eCs (l.filter fun x => !p x)).flatten ++ sp' ∧ (l.filter fun x => !p x).length * 3 + sp'.length = l.length * 3 + sp.length := ⟨_, hov, by rw [hkl, List.length_append, hz]; omega⟩
    obtain ⟨sp', e1, e2⟩ := fin
    by_cases h0 : 0 < i
    · have hile : (i : Int) ≤ (l.length : Int) := by omega
      simp -implicitDefEqProofs [g0, g5, h0, hi, hi', Nat.le_of_lt hi]
      exact ⟨two b1 q b c, sub_two (by simp [hb, hb2]) (by simp [hb, hb2, kb]), hkl.symm, sp', by rw [e1], e2⟩
    · obtain rfl : i = 0 := by omega
      simp -implicitDefEqProofs [g0, g5, hi, hi']
      exact ⟨two b1 q b c, sub_two (by simp [hb, hb2]) (by simp [hb, hb2, kb]), hkl.symm, sp', by rw [e1], e2⟩
theorem delete_none (g : FuncId) (b : Nat) (c : List AV) : MSpec Tryz.prog 104 [.sl .no (eCs []), .fn g [.ptr b 0]] (one b c) (fun r h' => r = .sl .no (eCs []) ∧ h' = one b c) := by
  refine MSpec.of_awp Tryz.func104 (by kernel_rfl) rfl (by rw [Tryz.results104]) Tryz.ntmps104 ?_
  simp -implicitDefEqProofs
  refine CallK.one (indexf_cells g b c (fun _ => false) [] (fun x hx => absurd hx (by simp))) rfl (by simp [Weak.refl]) ?_
  simp -implicitDefEqProofs [idxP_none, Weak.refl]
theorem newsKey_spec (x : PCell) (b : Nat) (old : List PCell) : MSpec Tryz.prog 105 [.agg (eC x), .ptr b 0] (one b [.sl .no (eCs old)]) (fun r h' => r = .v (.bool (ofC old x.node).isSome) ∧ h' = one b [.sl .no (eCs old)]) := by
  refine MSpec.of_awp Tryz.func105 (by kernel_rfl) rfl (by rw [Tryz.results105]) Tryz.ntmps105 ?_
  simp -implicitDefEqProofs [eC]
  refine allocK.intro (fun b1 hb1 => ?_)
  have n1 : ¬ b1 = b := by rintro rfl; simp at hb1
  have n2 : ¬ b = b1 := fun h => n1 h.symm
  simp -implicitDefEqProofs [n1, n2]
  refine CallK.eq (ofC_spec old x.node) ?_
  rw [ofA]
  simp -implicitDefEqProofs [eV]
  refine allocK.intro (fun b2 hb2 => ?_)
  have n3 : ¬ b2 = b := by rintro rfl; simp [n2] at hb2
  have n4 : ¬ b = b2 := fun h => n3 h.symm
  have n5 : ¬ b1 = b2 := by rintro rfl; simp at hb2
  have n6 : ¬ b2 = b1 := fun h => n5 h.symm
  simp -implicitDefEqProofs [n1, n2, n3, n4, n5, n6]
theorem chunks_cells (l : List PCell) (sp : List AV) : chunks ((eCs l).flatten ++ sp) (eCs l) 3 := by
  refine ⟨eCs_one l, ?_, ?_, ?_⟩
  · rw [show (eCs l).length * 3 = (eCs l).flatten.length by rw [eCs_flat]; simp, List.take_left, eCs_dead]
  · rw [List.length_append, eCs_flat]; simp
  · intro r hr x hx
    obtain ⟨c, _, rfl⟩ := List.mem_map.1 hr
    simp [eC] at hx
    rcases hx with rfl | rfl | rfl <;> rfl
theorem newsC_spec (old l : List PCell) (hl : l.length ≤ 1000000000) : ASpec Tryz.prog 46 [.sl .no (eCs old), .sl .no (eCs l)] (fun r => ∃ tag, r = .sl tag (eCs (newsC old l))) := by
  refine ASpec.of_awpS Tryz.func46 (by kernel_rfl) rfl (by rw [Tryz.results46]) Tryz.ntmps46 ?_
  simp -implicitDefEqProofs
  refine allocK.intro (fun b1 hb1 => ?_)
  simp -implicitDefEqProofs
  refine CallK.thaw (clone_cells_new l (by omega)) rfl ?_
  rintro r (⟨h0, tag, htag, rfl⟩ | ⟨hne, rfl⟩)
  · left
    have hl0 : l = [] := by simpa [eCs] using h0
    simp -implicitDefEqProofs [h0]
    refine CallK.one (delete_none 105 b1 [.sl .no (eCs old)]) (by simp) (by simp [Weak.refl]) ?_
    simp -implicitDefEqProofs
    refine shiftK.skip ?_
    simp -implicitDefEqProofs [newsC, hl0]
  · right
    refine ⟨_, _, _, _, rfl, hne, .inl rfl, fun b3 cap spare hb3 hcap hsp => ?_⟩
    have n1 : ¬ b1 = b3 := by rintro rfl; simp at hb3
    have n1' : ¬ b3 = b1 := fun h => n1 h.symm
    have ed := eCs_dead2 l
    have fc := eCs_flat l
    simp -implicitDefEqProofs [n1, n1', ed]
    refine CallK.mh (delete_cells 105 b1 [.sl .no (eCs old)] (fun c => (ofC old c.node).isSome) l b3 cap (spare.map AV.v) n1 hl (fun x _ => newsKey_spec x b1 old)) (by simp) (sub_two (by simp) (by simp [n1])) ?_
    rintro _ h' H ⟨sp', rfl, rfl, hlen⟩ - hH -
    have k3 := hH b3 _ (two_left n1')
    simp -implicitDefEqProofs
    refine shiftK.freeze (b := b3) (len := (newsC old l).length) (cap := cap) 4 48 (eCs (newsC old l)) (by simp [newsC]) k3 (chunks_cells _ _) (by simp) ?_ ?_
    · rw [List.length_append, eCs_flat, hlen, List.length_map]
      simp at hsp
      omega
    simp -implicitDefEqProofs [newsC]
end Go.Proofs.YtjbbfiagijjdoaaGreat

/- Contracts: a list in memory of one's own is sorted (ropeway/api.Cell). Printed by sort/gen.py. No condition. -/
set_option linter.unusedSimpArgs false
set_option linter.unusedVariables false
set_option maxRecDepth 10000
namespace Go.Proofs.YtjbbfiagijjdoaaGreat
open Go Go.Rw Go.Proofs
-- a goal is never to be run by the elaborator
attribute [local irreducible] awp aops aop aopsE aeff

instance : Inhabited PCell := ⟨⟨0, ⟨0, 0⟩⟩⟩
theorem rowsC_dead (l : List PCell) : (l.map eC).flatten.map dead1 = (l.map eC).flatten := by
  induction l with
  | nil => rfl
  | cons x l ih => simp [eC, dead1] at *; try exact ih
theorem rowsC_one (l : List PCell) : ∀ r ∈ l.map eC, r.length = 3 := by
  intro r hr
  obtain ⟨c, _, rfl⟩ := List.mem_map.1 hr
  rfl
/-- a list in memory, and what lies behind it -/
def memC (d : Array PCell) (sp : List AV) : List AV := (d.toList.map eC).flatten ++ sp
theorem get_bang {α : Type} [Inhabited α] {d : Array α} {k : Nat} (h : k < d.size) : d.toList[k]? = some d[k]! := by
  rw [Array.getElem?_toList, Array.getElem?_eq_getElem h, getElem!_pos d k h]
theorem memC_at {d : Array PCell} {sp : List AV} {k : Nat} (h : k < d.size) : k * 3 + 3 ≤ (memC d sp).length ∧ (((memC d sp).map dead1).drop (k * 3)).take 3 = eC d[k]! := by
  refine ⟨flat_fits (rowsC_one _) (by simpa using h), ?_⟩
  unfold memC
  rw [List.map_append, rowsC_dead]
  refine flat_row (rowsC_one _) ?_
  rw [List.getElem?_map, get_bang h]; rfl
theorem memC_set {d : Array PCell} {sp : List AV} {k : Nat} {x : PCell} (h : k < d.size) : overlay (memC d sp) (k * 3) (eC x) = memC (d.setIfInBounds k x) sp := by
  unfold memC
  rw [flat_set (rowsC_one _) rfl (by simpa using h)]
  simp [List.map_set]
def ltC (cm : PCell → PCell → Int) (x y : PCell) : Bool := decide (cm x y < 0)
theorem swp_allC {Q : PCell → Prop} {d : Array PCell} {i j : Nat} (hi : i < d.size) (hj : j < d.size) (h : ∀ k < d.size, Q d[k]!) : ∀ k < (Go.Sort.swp d i j).size, Q (Go.Sort.swp d i j)[k]! := by
  intro k hk
  rw [Go.Sort.swp_get d hi hj]
  rw [Go.Sort.swp_size] at hk
  split
  · exact h _ hi
  · split
    · exact h _ hj
    · exact h _ hk

def InsIC (cm : PCell → PCell → Int) (Q : PCell → Prop) (n cap a b b1 : Nat) (sp : List AV) (g : FuncId) (D : Array PCell) (t : Nat → AV) (h : Nat → Option (List AV)) : Prop := ∃ (i : Nat) (d : Array PCell), t 0 = .sm b1 0 n cap ∧ t 1 = eI a ∧ t 2 = eI b ∧ t 3 = .fn g [] ∧ t 8 = eI i ∧ h b1 = some (memC d sp) ∧ d.size = n ∧ a + 1 ≤ i ∧ i ≤ max b (a + 1) ∧ Go.Sort.insOuter (ltC cm) a b i d = D ∧ ∀ k < d.size, Q d[k]!
def InsJC (cm : PCell → PCell → Int) (Q : PCell → Prop) (n cap a b b1 : Nat) (sp : List AV) (g : FuncId) (i : Nat) (D : Array PCell) (t : Nat → AV) (h : Nat → Option (List AV)) : Prop := ∃ (j : Nat) (d : Array PCell), t 0 = .sm b1 0 n cap ∧ t 1 = eI a ∧ t 2 = eI b ∧ t 3 = .fn g [] ∧ t 8 = eI i ∧ t 9 = eI j ∧ h b1 = some (memC d sp) ∧ d.size = n ∧ a ≤ j ∧ j ≤ i ∧ Go.Sort.insInner (ltC cm) a j d = D ∧ ∀ k < d.size, Q d[k]!
theorem insertionC (cm : PCell → PCell → Int) (Q : PCell → Prop) (g : FuncId) (hg : ∀ x y, Q x → Q y → ASpec Tryz.prog g [.agg (eC x), .agg (eC y)] (· = eI (cm x y))) (d : Array PCell) (hq : ∀ k < d.size, Q d[k]!) (sp : List AV) (b1 cap a b : Nat) (hb : b ≤ d.size) (hl : d.size ≤ 1000000000) (ha : a ≤ d.size) :
    MSpec Tryz.prog 212 [.sm b1 0 d.size cap, eI a, eI b, .fn g []] (one b1 (memC d sp)) (fun r h' => h' = one b1 (memC (Go.Sort.insertionSort (ltC cm) d a b) sp)) := by
  refine MSpec.of_awp Tryz.func212 (by kernel_rfl) rfl (by rw [Tryz.results212]) Tryz.ntmps212 ?_
  have hwa : IntKind.i64.wrap ((a : Int) + 1) = ((a + 1 : Nat) : Int) := by rw [w64 (by omega) (by omega)]; omega
  simp -implicitDefEqProofs [hwa]
  refine loopK.intro (InsIC cm Q d.size cap a b b1 sp g (Go.Sort.insertionSort (ltC cm) d a b)) (fun t => b - natOf (t 8)) ?_ ?_
  · exact ⟨a + 1, d, by simp, by simp, by simp, by simp, by simp, by simp, rfl, by omega, by omega, rfl, hq⟩
  · generalize Go.Sort.insertionSort (ltC cm) d a b = D
    clear hq
    rintro t hh ⟨i, d2, g0, g1, g2, g3, g8, k1, hs, hi1, hi2, hD, hq⟩
    by_cases hlt : i < b
    · have hlt' : (i : Int) < (b : Int) := by omega
      have hwi : IntKind.i64.wrap ((i : Int) + 1) = ((i + 1 : Nat) : Int) := by rw [w64 (by omega) (by omega)]; omega
      rw [Go.Sort.insOuter, if_pos hlt] at hD
      simp -implicitDefEqProofs [g0, g2, g8, hlt']
      refine loopK.intro (InsJC cm Q d.size cap a b b1 sp g i (Go.Sort.insInner (ltC cm) a i d2)) (fun t => natOf (t 9)) ?_ ?_
      · exact ⟨i, d2, by simp [g0], by simp [g1], by simp [g2], by simp [g3], by simp [g8], by simp, by simp [k1], hs, by omega, by omega, rfl, hq⟩
      · generalize Go.Sort.insInner (ltC cm) a i d2 = D2 at hD ⊢
        have hO := hD
        have hm8 : natOf (t 8) = i := by rw [g8]; simp
        rw [hm8]
        clear g0 g1 g2 g3 g8 k1 hs hD hq hm8
        rintro t hh ⟨j, d2, g0, g1, g2, g3, g8, g9, k1, hs, hj1, hj2, hD, hq⟩
        by_cases hja : a < j
        · obtain ⟨m, rfl⟩ : ∃ m, j = m + 1 := ⟨j - 1, by omega⟩
          have hja' : (a : Int) < (m : Int) + 1 := by omega
          have hw1 : IntKind.i64.wrap ((m : Int) + 1 - 1) = (m : Int) := by rw [w64 (by omega) (by omega)]; omega
          obtain ⟨q1, q2⟩ := memC_at (d := d2) (sp := sp) (k := m + 1) (by omega)
          obtain ⟨q3, q4⟩ := memC_at (d := d2) (sp := sp) (k := m) (by omega)
          have z1 : m + 1 < d.size := by omega
          have z2 : m < d.size := by omega
          have z1' : (m : Int) + 1 < (d.size : Int) := by omega
          have z2' : (m : Int) < (d.size : Int) := by omega
          have s1 := memC_set (d := d2) (sp := sp) (k := m + 1) (x := d2[m]!) (by omega)
          have s2 := memC_set (d := d2.setIfInBounds (m + 1) d2[m]!) (sp := sp) (k := m) (x := d2[m + 1]!) (by simp; omega)
          have e1 : (d2.setIfInBounds (m + 1) d2[m]!).setIfInBounds m d2[m + 1]! = Go.Sort.swp d2 (m + 1) m := rfl
          have fits2 := flat_fits (sp := sp) (rowsC_one (d2.setIfInBounds (m + 1) d2[m]!).toList) (k := m) (by simp; omega)
          change m * 3 + 3 ≤ (memC (d2.setIfInBounds (m + 1) d2[m]!) sp).length at fits2
          rw [e1] at s2
          rw [Go.Sort.insInner] at hD
          have hqs := swp_allC (Q := Q) (d := d2) (i := m + 1) (j := m) (by omega) (by omega) hq
          have hx := hg d2[m + 1]! d2[m]! (hq _ (by omega)) (hq _ (by omega))
          have hlt2 : ltC cm d2[m + 1]! d2[m]! = decide (cm d2[m + 1]! d2[m]! < 0) := rfl
          have hss : (Go.Sort.swp d2 (m + 1) m).size = d.size := by rw [Go.Sort.swp_size, hs]
          generalize memC (d2.setIfInBounds (m + 1) d2[m]!) sp = c2 at *
          generalize hc1 : memC d2 sp = c1 at *
          generalize hsw : Go.Sort.swp d2 (m + 1) m = d3 at *
          generalize hc3 : memC d3 sp = c3 at *
          generalize d2[m + 1]! = x at *
          generalize d2[m]! = y at *
          simp [overlay, eC] at s1 s2
          have hw0 : IntKind.i64.wrap (m : Int) = (m : Int) := by rw [w64 (by omega) (by omega)]
          have z3 : (0 : Int) ≤ (m : Int) + 1 := by omega
          simp -implicitDefEqProofs [g0, g1, g3, g9]
          refine regionK.intro 17 follows_mixed (by kernel_rfl) ?_
          simp -implicitDefEqProofs [g0, g1, g3, g9, hja, hja', hw0, hw1, z1, z2, z1', z2', z3, k1, q1, q2, q3, q4, eC]
          refine CallQ.with hx (by simp [eC]) ?_
          by_cases hcm : cm x y < 0
          · rw [hlt2] at hD
            simp [hcm, hja] at hD
            simp -implicitDefEqProofs [hcm]
            refine regionK.modes [b1] [.r, .r, .q, .q, .q, .r, .r, .r, .r, .r, .q, .q, .q, .r, .r, .l, .r, .l] follows_mixed (by kernel_rfl) ?_
            simp -implicitDefEqProofs [g0, g9, hw0, hw1, z1, z2, z1', z2', z3, k1, q1, q2, q3, q4, s1, s2, fits2, eC]
            exact ⟨m, d3, by simp [g0], by simp [g1], by simp [g2], by simp [g3], by simp [g8], by simp, by simp [hc3], hss, by omega, by omega, hD, hqs⟩
          · rw [hlt2] at hD
            simp [hcm] at hD
            subst hD
            simp -implicitDefEqProofs [hcm, g8, hwi]
            exact ⟨⟨i + 1, d2, by simp [g0], by simp [g1], by simp [g2], by simp [g3], by simp, by rw [hc1]; exact k1, hs, by omega, by omega, hO, hq⟩, by omega⟩
        · have hja' : ¬ (a : Int) < (j : Int) := by omega
          have hd : d2 = D2 := by
            rw [← hD]
            cases j with
            | zero => rfl
            | succ m => rw [Go.Sort.insInner]; simp [show ¬ (m + 1 > a) by omega]
          subst hd
          simp -implicitDefEqProofs [g0, g1, g3, g9]
          refine regionK.intro 17 follows_mixed (by kernel_rfl) ?_
          simp -implicitDefEqProofs [g0, g1, g3, g9, hja, hja', g8, hwi]
          exact ⟨⟨i + 1, d2, by simp [g0], by simp [g1], by simp [g2], by simp [g3], by simp, k1, hs, by omega, by omega, hO, hq⟩, by omega⟩
    · have hlt' : ¬ (i : Int) < (b : Int) := by omega
      rw [Go.Sort.insOuter, if_neg hlt] at hD
      subst hD
      simp -implicitDefEqProofs [g0, g2, g8, hlt', k1, Weak.refl]
end Go.Proofs.YtjbbfiagijjdoaaGreat

/- Contracts: a list in memory of one's own is sorted (ropeway/api.View). Printed by sort/gen.py. No condition. -/
set_option linter.unusedSimpArgs false
set_option linter.unusedVariables false
set_option maxRecDepth 10000
namespace Go.Proofs.YtjbbfiagijjdoaaGreat
open Go Go.Rw Go.Proofs
-- a goal is never to be run by the elaborator
attribute [local irreducible] awp aops aop aopsE aeff

instance : Inhabited PView := ⟨⟨0, 0⟩⟩
theorem rowsV_dead (l : List PView) : (l.map eV).flatten.map dead1 = (l.map eV).flatten := by
  induction l with
  | nil => rfl
  | cons x l ih => simp [eV, dead1] at *; try exact ih
theorem rowsV_one (l : List PView) : ∀ r ∈ l.map eV, r.length = 2 := by
  intro r hr
  obtain ⟨c, _, rfl⟩ := List.mem_map.1 hr
  rfl
/-- a list in memory, and what lies behind it -/
def memV (d : Array PView) (sp : List AV) : List AV := (d.toList.map eV).flatten ++ sp
theorem memV_at {d : Array PView} {sp : List AV} {k : Nat} (h : k < d.size) : k * 2 + 2 ≤ (memV d sp).length ∧ (((memV d sp).map dead1).drop (k * 2)).take 2 = eV d[k]! := by
  refine ⟨flat_fits (rowsV_one _) (by simpa using h), ?_⟩
  unfold memV
  rw [List.map_append, rowsV_dead]
  refine flat_row (rowsV_one _) ?_
  rw [List.getElem?_map, get_bang h]; rfl
theorem memV_set {d : Array PView} {sp : List AV} {k : Nat} {x : PView} (h : k < d.size) : overlay (memV d sp) (k * 2) (eV x) = memV (d.setIfInBounds k x) sp := by
  unfold memV
  rw [flat_set (rowsV_one _) rfl (by simpa using h)]
  simp [List.map_set]
def ltV (cm : PView → PView → Int) (x y : PView) : Bool := decide (cm x y < 0)
theorem swp_allV {Q : PView → Prop} {d : Array PView} {i j : Nat} (hi : i < d.size) (hj : j < d.size) (h : ∀ k < d.size, Q d[k]!) : ∀ k < (Go.Sort.swp d i j).size, Q (Go.Sort.swp d i j)[k]! := by
  intro k hk
  rw [Go.Sort.swp_get d hi hj]
  rw [Go.Sort.swp_size] at hk
  split
  · exact h _ hi
  · split
    · exact h _ hj
    · exact h _ hk

def InsIV (cm : PView → PView → Int) (Q : PView → Prop) (n cap a b b1 : Nat) (sp : List AV) (g : FuncId) (D : Array PView) (t : Nat → AV) (h : Nat → Option (List AV)) : Prop := ∃ (i : Nat) (d : Array PView), t 0 = .sm b1 0 n cap ∧ t 1 = eI a ∧ t 2 = eI b ∧ t 3 = .fn g [] ∧ t 8 = eI i ∧ h b1 = some (memV d sp) ∧ d.size = n ∧ a + 1 ≤ i ∧ i ≤ max b (a + 1) ∧ Go.Sort.insOuter (ltV cm) a b i d = D ∧ ∀ k < d.size, Q d[k]!
def InsJV (cm : PView → PView → Int) (Q : PView → Prop) (n cap a b b1 : Nat) (sp : List AV) (g : FuncId) (i : Nat) (D : Array PView) (t : Nat → AV) (h : Nat → Option (List AV)) : Prop := ∃ (j : Nat) (d : Array PView), t 0 = .sm b1 0 n cap ∧ t 1 = eI a ∧ t 2 = eI b ∧ t 3 = .fn g [] ∧ t 8 = eI i ∧ t 9 = eI j ∧ h b1 = some (memV d sp) ∧ d.size = n ∧ a ≤ j ∧ j ≤ i ∧ Go.Sort.insInner (ltV cm) a j d = D ∧ ∀ k < d.size, Q d[k]!
theorem insertionV (cm : PView → PView → Int) (Q : PView → Prop) (g : FuncId) (hg : ∀ x y, Q x → Q y → ASpec Tryz.prog g [.agg (eV x), .agg (eV y)] (· = eI (cm x y))) (d : Array PView) (hq : ∀ k < d.size, Q d[k]!) (sp : List AV) (b1 cap a b : Nat) (hb : b ≤ d.size) (hl : d.size ≤ 1000000000) (ha : a ≤ d.size) :
    MSpec Tryz.prog 177 [.sm b1 0 d.size cap, eI a, eI b, .fn g []] (one b1 (memV d sp)) (fun r h' => h' = one b1 (memV (Go.Sort.insertionSort (ltV cm) d a b) sp)) := by
  refine MSpec.of_awp Tryz.func177 (by kernel_rfl) rfl (by rw [Tryz.results177]) Tryz.ntmps177 ?_
  have hwa : IntKind.i64.wrap ((a : Int) + 1) = ((a + 1 : Nat) : Int) := by rw [w64 (by omega) (by omega)]; omega
  simp -implicitDefEqProofs [hwa]
  refine loopK.intro (InsIV cm Q d.size cap a b b1 sp g (Go.Sort.insertionSort (ltV cm) d a b)) (fun t => b - natOf (t 8)) ?_ ?_
  · exact ⟨a + 1, d, by simp, by simp, by simp, by simp, by simp, by simp, rfl, by omega, by omega, rfl, hq⟩
  · generalize Go.Sort.insertionSort (ltV cm) d a b = D
    clear hq
    rintro t hh ⟨i, d2, g0, g1, g2, g3, g8, k1, hs, hi1, hi2, hD, hq⟩
    by_cases hlt : i < b
    · have hlt' : (i : Int) < (b : Int) := by omega
      have hwi : IntKind.i64.wrap ((i : Int) + 1) = ((i + 1 : Nat) : Int) := by rw [w64 (by omega) (by omega)]; omega
      rw [Go.Sort.insOuter, if_pos hlt] at hD
      simp -implicitDefEqProofs [g0, g2, g8, hlt']
      refine loopK.intro (InsJV cm Q d.size cap a b b1 sp g i (Go.Sort.insInner (ltV cm) a i d2)) (fun t => natOf (t 9)) ?_ ?_
      · exact ⟨i, d2, by simp [g0], by simp [g1], by simp [g2], by simp [g3], by simp [g8], by simp, by simp [k1], hs, by omega, by omega, rfl, hq⟩
      · generalize Go.Sort.insInner (ltV cm) a i d2 = D2 at hD ⊢
        have hO := hD
        have hm8 : natOf (t 8) = i := by rw [g8]; simp
        rw [hm8]
        clear g0 g1 g2 g3 g8 k1 hs hD hq hm8
        rintro t hh ⟨j, d2, g0, g1, g2, g3, g8, g9, k1, hs, hj1, hj2, hD, hq⟩
        by_cases hja : a < j
        · obtain ⟨m, rfl⟩ : ∃ m, j = m + 1 := ⟨j - 1, by omega⟩
          have hja' : (a : Int) < (m : Int) + 1 := by omega
          have hw1 : IntKind.i64.wrap ((m : Int) + 1 - 1) = (m : Int) := by rw [w64 (by omega) (by omega)]; omega
          obtain ⟨q1, q2⟩ := memV_at (d := d2) (sp := sp) (k := m + 1) (by omega)
          obtain ⟨q3, q4⟩ := memV_at (d := d2) (sp := sp) (k := m) (by omega)
          have z1 : m + 1 < d.size := by omega
          have z2 : m < d.size := by omega
          have z1' : (m : Int) + 1 < (d.size : Int) := by omega
          have z2' : (m : Int) < (d.size : Int) := by omega
          have s1 := memV_set (d := d2) (sp := sp) (k := m + 1) (x := d2[m]!) (by omega)
          have s2 := memV_set (d := d2.setIfInBounds (m + 1) d2[m]!) (sp := sp) (k := m) (x := d2[m + 1]!) (by simp; omega)
          have e1 : (d2.setIfInBounds (m + 1) d2[m]!).setIfInBounds m d2[m + 1]! = Go.Sort.swp d2 (m + 1) m := rfl
          have fits2 := flat_fits (sp := sp) (rowsV_one (d2.setIfInBounds (m + 1) d2[m]!).toList) (k := m) (by simp; omega)
          change m * 2 + 2 ≤ (memV (d2.setIfInBounds (m + 1) d2[m]!) sp).length at fits2
          rw [e1] at s2
          rw [Go.Sort.insInner] at hD
          have hqs := swp_allV (Q := Q) (d := d2) (i := m + 1) (j := m) (by omega) (by omega) hq
          have hx := hg d2[m + 1]! d2[m]! (hq _ (by omega)) (hq _ (by omega))
          have hlt2 : ltV cm d2[m + 1]! d2[m]! = decide (cm d2[m + 1]! d2[m]! < 0) := rfl
          have hss : (Go.Sort.swp d2 (m + 1) m).size = d.size := by rw [Go.Sort.swp_size, hs]
          generalize memV (d2.setIfInBounds (m + 1) d2[m]!) sp = c2 at *
          generalize hc1 : memV d2 sp = c1 at *
          generalize hsw : Go.Sort.swp d2 (m + 1) m = d3 at *
          generalize hc3 : memV d3 sp = c3 at *
          generalize d2[m + 1]! = x at *
          generalize d2[m]! = y at *
          simp [overlay, eV] at s1 s2
          have hw0 : IntKind.i64.wrap (m : Int) = (m : Int) := by rw [w64 (by omega) (by omega)]
          have z3 : (0 : Int) ≤ (m : Int) + 1 := by omega
          simp -implicitDefEqProofs [g0, g1, g3, g9]
          refine regionK.intro 17 follows_mixed (by kernel_rfl) ?_
          simp -implicitDefEqProofs [g0, g1, g3, g9, hja, hja', hw0, hw1, z1, z2, z1', z2', z3, k1, q1, q2, q3, q4, eV]
          refine CallQ.with hx (by simp [eV]) ?_
          by_cases hcm : cm x y < 0
          · rw [hlt2] at hD
            simp [hcm, hja] at hD
            simp -implicitDefEqProofs [hcm]
            refine regionK.modes [b1] [.r, .r, .q, .q, .q, .r, .r, .r, .r, .r, .q, .q, .q, .r, .r, .l, .r, .l] follows_mixed (by kernel_rfl) ?_
            simp -implicitDefEqProofs [g0, g9, hw0, hw1, z1, z2, z1', z2', z3, k1, q1, q2, q3, q4, s1, s2, fits2, eV]
            exact ⟨m, d3, by simp [g0], by simp [g1], by simp [g2], by simp [g3], by simp [g8], by simp, by simp [hc3], hss, by omega, by omega, hD, hqs⟩
          · rw [hlt2] at hD
            simp [hcm] at hD
            subst hD
            simp -implicitDefEqProofs [hcm, g8, hwi]
            exact ⟨⟨i + 1, d2, by simp [g0], by simp [g1], by simp [g2], by simp [g3], by simp, by rw [hc1]; exact k1, hs, by omega, by omega, hO, hq⟩, by omega⟩
        · have hja' : ¬ (a : Int) < (j : Int) := by omega
          have hd : d2 = D2 := by
            rw [← hD]
            cases j with
            | zero => rfl
            | succ m => rw [Go.Sort.insInner]; simp [show ¬ (m + 1 > a) by omega]
          subst hd
          simp -implicitDefEqProofs [g0, g1, g3, g9]
          refine regionK.intro 17 follows_mixed (by kernel_rfl) ?_
          simp -implicitDefEqProofs [g0, g1, g3, g9, hja, hja', g8, hwi]
          exact ⟨⟨i + 1, d2, by simp [g0], by simp [g1], by simp [g2], by simp [g3], by simp, k1, hs, by omega, by omega, hO, hq⟩, by omega⟩
    · have hlt' : ¬ (i : Int) < (b : Int) := by omega
      rw [Go.Sort.insOuter, if_neg hlt] at hD
      subst hD
      simp -implicitDefEqProofs [g0, g2, g8, hlt', k1, Weak.refl]
end Go.Proofs.YtjbbfiagijjdoaaGreat

/- Contracts: swaps, reversing and heaps of views in memory of one's own. No condition. Printed by sort/v1.py. -/
set_option linter.unusedSimpArgs false
set_option linter.unusedVariables false
set_option maxRecDepth 10000
namespace Go.Proofs.YtjbbfiagijjdoaaGreat
open Go Go.Rw Go.Proofs
-- a goal is never to be run by the elaborator
attribute [local irreducible] awp aops aop aopsE aeff

theorem swapV {d : Array PView} {sp : List AV} {i j : Nat} (hi : i < d.size) (hj : j < d.size) : ∃ c2, (i * 2 + 2 ≤ (memV d sp).length ∧ (((memV d sp).map dead1).drop (i * 2)).take 2 = eV d[i]!) ∧ (j * 2 + 2 ≤ (memV d sp).length ∧ (((memV d sp).map dead1).drop (j * 2)).take 2 = eV d[j]!) ∧
    (memV d sp).take (i * 2) ++ eI d[j]!.add :: eI d[j]!.del :: (memV d sp).drop (i * 2 + 2) = c2 ∧ j * 2 + 2 ≤ c2.length ∧ c2.take (j * 2) ++ eI d[i]!.add :: eI d[i]!.del :: c2.drop (j * 2 + 2) = memV (Go.Sort.swp d i j) sp := by
  have s1 := memV_set (d := d) (sp := sp) (k := i) (x := d[j]!) hi
  have s2 : overlay (memV (d.setIfInBounds i d[j]!) sp) (j * 2) (eV d[i]!) = memV (Go.Sort.swp d i j) sp := memV_set (by simpa using hj)
  have f2 := flat_fits (sp := sp) (rowsV_one (d.setIfInBounds i d[j]!).toList) (k := j) (by simpa using hj)
  change j * 2 + 2 ≤ (memV (d.setIfInBounds i d[j]!) sp).length at f2
  exact ⟨_, memV_at hi, memV_at hj, by simpa [overlay, eV] using s1, f2, by simpa [overlay, eV] using s2⟩

def RevV (Q : PView → Prop) (n cap b1 : Nat) (sp : List AV) (D : Array PView) (t : Nat → AV) (h : Nat → Option (List AV)) : Prop := ∃ (i j : Nat) (d : Array PView), t 0 = .sm b1 0 n cap ∧ t 8 = eI i ∧ t 9 = eI j ∧ h b1 = some (memV d sp) ∧ d.size = n ∧ i ≤ n ∧ j < n ∧ Go.Sort.reverseLoop i j d = D ∧ ∀ k < d.size, Q d[k]!
theorem reverseV (Q : PView → Prop) (g : FuncId) (d : Array PView) (hq : ∀ k < d.size, Q d[k]!) (sp : List AV) (b1 cap a b : Nat) (h1 : 1 ≤ b) (hb : b ≤ d.size) (hl : d.size ≤ 1000000000) (ha : a ≤ d.size) :
    MSpec Tryz.prog 181 [.sm b1 0 d.size cap, eI a, eI b, .fn g []] (one b1 (memV d sp)) (fun r h' => h' = one b1 (memV (Go.Sort.reverseRange d a b) sp)) := by
  refine MSpec.of_awp Tryz.func181 (by kernel_rfl) rfl (by rw [Tryz.results181]) Tryz.ntmps181 ?_
  have hwb : IntKind.i64.wrap ((b : Int) - 1) = ((b - 1 : Nat) : Int) := by rw [w64 (by omega) (by omega)]; omega
  simp -implicitDefEqProofs [hwb]
  refine loopK.intro (RevV Q d.size cap b1 sp (Go.Sort.reverseRange d a b)) (fun t => natOf (t 9)) ?_ ?_
  · exact ⟨a, b - 1, d, by simp, by simp, by simp, by simp, rfl, by omega, by omega, rfl, hq⟩
  · generalize Go.Sort.reverseRange d a b = D
    clear hq hwb
    rintro t hh ⟨i, j, d2, g0, g8, g9, k1, hs, hi, hj, hD, hq⟩
    by_cases hlt : i < j
    · have hlt' : (i : Int) < (j : Int) := by omega
      rw [Go.Sort.reverseLoop, if_pos hlt] at hD
      have hwi : IntKind.i64.wrap ((i : Int) + 1) = ((i + 1 : Nat) : Int) := by rw [w64 (by omega) (by omega)]; omega
      have hwj : IntKind.i64.wrap ((j : Int) - 1) = ((j - 1 : Nat) : Int) := by rw [w64 (by omega) (by omega)]; omega
      have z1 : i < d.size := by omega
      have z2 : j < d.size := by omega
      have z1' : (i : Int) < (d.size : Int) := by omega
      have z2' : (j : Int) < (d.size : Int) := by omega
      obtain ⟨c2, ⟨q1, q2⟩, ⟨q3, q4⟩, s1, f2, s2⟩ := swapV (d := d2) (sp := sp) (i := i) (j := j) (by omega) (by omega)
      have hss : (Go.Sort.swp d2 (i) (j)).size = d.size := by rw [Go.Sort.swp_size, hs]
      have hqs := swp_allV (Q := Q) (d := d2) (i := i) (j := j) (by omega) (by omega) hq
      generalize hc1 : memV d2 sp = c1 at *
      generalize hsw : Go.Sort.swp d2 (i) (j) = d3 at *
      generalize hc3 : memV d3 sp = c3 at *
      generalize d2[i]! = x at *
      generalize d2[j]! = y at *
      simp -implicitDefEqProofs [g0, g8, g9, hlt']
      refine regionK.modes [b1] [.r, .r, .q, .q, .r, .r, .r, .r, .q, .q, .q, .r, .r, .l, .r, .l] follows_mixed (by kernel_rfl) ?_
      simp -implicitDefEqProofs [g0, g8, g9, z1, z2, z1', z2', k1, q1, q2, q3, q4, s1, s2, f2, eV, hwi, hwj]
      exact ⟨⟨i + 1, j - 1, d3, by simp [g0], by simp, by simp, by simp [hc3], hss, by omega, by omega, hD, hqs⟩, by omega⟩
    · have hlt' : ¬ (i : Int) < (j : Int) := by omega
      rw [Go.Sort.reverseLoop, if_neg hlt] at hD
      subst hD
      simp -implicitDefEqProofs [g8, g9, hlt', k1, Weak.refl]

theorem siftDown_stop {d : Array PView} {cm : PView → PView → Int} {hi first root : Nat} (h : ¬ 2 * root + 1 < hi) : Go.Sort.siftDown (ltV cm) hi first root d = d := by
  rw [Go.Sort.siftDown, dif_pos (by omega)]
theorem siftDown_go {d : Array PView} {cm : PView → PView → Int} {hi first root ch : Nat} (h : 2 * root + 1 < hi) (hc : ch = if 2 * root + 2 < hi && ltV cm d[first + (2 * root + 1)]! d[first + (2 * root + 2)]! then 2 * root + 2 else 2 * root + 1) :
    Go.Sort.siftDown (ltV cm) hi first root d = if ltV cm d[first + root]! d[first + ch]! then Go.Sort.siftDown (ltV cm) hi first ch (Go.Sort.swp d (first + root) (first + ch)) else d := by
  rw [Go.Sort.siftDown, dif_neg (by omega)]
  have e1 : 2 * root + 1 + 1 = 2 * root + 2 := rfl
  have e2 : first + (2 * root + 1) + 1 = first + (2 * root + 2) := by omega
  rw [e1, e2]
  by_cases h2 : (2 * root + 2 < hi && ltV cm d[first + (2 * root + 1)]! d[first + (2 * root + 2)]!) = true
  · have h3 : 2 * root + 2 < hi := by simp at h2; exact h2.1
    rw [if_pos (by simpa using h2)]
    rw [if_pos h2] at hc; subst hc
    rw [dif_pos h3]
    cases ltV cm d[first + root]! d[first + (2 * root + 2)]! <;> simp
  · rw [if_neg (by simpa using h2)]
    rw [if_neg h2] at hc; subst hc
    cases ltV cm d[first + root]! d[first + (2 * root + 1)]! <;> simp
def SiftI (cm : PView → PView → Int) (Q : PView → Prop) (n cap hi first b1 : Nat) (sp : List AV) (g : FuncId) (D : Array PView) (t : Nat → AV) (h : Nat → Option (List AV)) : Prop := ∃ (root : Nat) (d : Array PView), t 0 = .sm b1 0 n cap ∧ t 2 = eI hi ∧ t 3 = eI first ∧ t 4 = .fn g [] ∧ t 10 = eI root ∧ h b1 = some (memV d sp) ∧ d.size = n ∧ root ≤ n ∧ Go.Sort.siftDown (ltV cm) hi first root d = D ∧ ∀ k < d.size, Q d[k]!
theorem siftV (cm : PView → PView → Int) (Q : PView → Prop) (g : FuncId) (hg : ∀ x y, Q x → Q y → ASpec Tryz.prog g [.agg (eV x), .agg (eV y)] (· = eI (cm x y))) (d : Array PView) (hq : ∀ k < d.size, Q d[k]!) (sp : List AV) (b1 cap lo hi first : Nat) (hf : first + hi ≤ d.size) (hlo : lo ≤ d.size) (hl : d.size ≤ 1000000000) :
    MSpec Tryz.prog 205 [.sm b1 0 d.size cap, eI lo, eI hi, eI first, .fn g []] (one b1 (memV d sp)) (fun r h' => h' = one b1 (memV (Go.Sort.siftDown (ltV cm) hi first lo d) sp)) := by
  refine MSpec.of_awp Tryz.func205 (by kernel_rfl) rfl (by rw [Tryz.results205]) Tryz.ntmps205 ?_
  simp -implicitDefEqProofs
  refine loopK.intro (SiftI cm Q d.size cap hi first b1 sp g (Go.Sort.siftDown (ltV cm) hi first lo d)) (fun t => hi - natOf (t 10)) ?_ ?_
  · exact ⟨lo, d, by simp, by simp, by simp, by simp, by simp, by simp, rfl, by omega, rfl, hq⟩
  · generalize Go.Sort.siftDown (ltV cm) hi first lo d = D
    clear hq
    rintro t hh ⟨root, d2, g0, g2, g3, g4, g10, k1, hs, hr, hD, hq⟩
    have hw1 : IntKind.i64.wrap (2 * (root : Int)) = 2 * (root : Int) := by rw [w64 (by omega) (by omega)]
    have hw2 : IntKind.i64.wrap (2 * (root : Int) + 1) = 2 * (root : Int) + 1 := by rw [w64 (by omega) (by omega)]
    by_cases h1 : 2 * root + 1 < hi
    · have h1' : ¬ (hi : Int) ≤ 2 * (root : Int) + 1 := by omega
      have hw5 : IntKind.i64.wrap (2 * (root : Int) + 1 + 1) = 2 * (root : Int) + 1 + 1 := by rw [w64 (by omega) (by omega)]
      simp -implicitDefEqProofs [g2, g10, hw1, hw2, h1']
      refine regionK.intro 22 follows_mixed (by kernel_rfl) ?_
      by_cases h2 : 2 * root + 2 < hi
      · have h2' : 2 * (root : Int) + 1 + 1 < (hi : Int) := by omega
        have hwa : IntKind.i64.wrap ((first : Int) + (2 * (root : Int) + 1)) = ((first + (2 * root + 1) : Nat) : Int) := by rw [w64 (by omega) (by omega)]; omega
        have hwb : IntKind.i64.wrap (((first + (2 * root + 1) : Nat) : Int) + 1) = ((first + (2 * root + 2) : Nat) : Int) := by rw [w64 (by omega) (by omega)]; omega
        have hxc := hg d2[first + (2 * root + 1)]! d2[first + (2 * root + 2)]! (hq _ (by omega)) (hq _ (by omega))
        have hlc : ltV cm d2[first + (2 * root + 1)]! d2[first + (2 * root + 2)]! = decide (cm d2[first + (2 * root + 1)]! d2[first + (2 * root + 2)]! < 0) := rfl
        obtain ⟨u1, u2⟩ := memV_at (d := d2) (sp := sp) (k := first + (2 * root + 1)) (by omega)
        obtain ⟨u3, u4⟩ := memV_at (d := d2) (sp := sp) (k := first + (2 * root + 2)) (by omega)
        have y1 : first + (2 * root + 1) < d.size := by omega
        have y2 : first + (2 * root + 2) < d.size := by omega
        rw [siftDown_go h1 rfl, hlc] at hD
        generalize hpa : first + (2 * root + 1) = pa at *
        generalize hpb : first + (2 * root + 2) = pb at *
        have y1' : (pa : Int) < (d.size : Int) := by omega
        have y2' : (pb : Int) < (d.size : Int) := by omega
        simp -implicitDefEqProofs [g0, g2, g3, g4, g10, hw5, h2', hwa, hwb, k1, u1, u2, u3, u4, y1, y2, y1', y2', eV]
        refine CallQ.with hxc (by simp [eV]) ?_
        by_cases hcm : cm d2[pa]! d2[pb]! < 0
        · simp only [hcm, h2, decide_true, Bool.and_self, if_true] at hD
          clear hxc hlc u1 u2 u3 u4 y1 y2 y1' y2' hwa hwb
          simp -implicitDefEqProofs [hcm, hw5]
          obtain ⟨ch, hch⟩ : ∃ ch : Nat, ch = 2 * root + 2 := ⟨_, rfl⟩
          rw [← hch] at hD
          have hrc : root < ch := by omega
          have hci : ch < hi := by omega
          have g11 : ((2 * (root : Int) + 1 + 1 : Int)) = (ch : Int) := by omega
          simp -implicitDefEqProofs [g11]
          have hne : first + root < d.size := by omega
          have hxr := hg d2[first + root]! d2[first + ch]! (hq _ (by omega)) (hq _ (by omega))
          have hlr : ltV cm d2[first + root]! d2[first + ch]! = decide (cm d2[first + root]! d2[first + ch]! < 0) := rfl
          have hw3 : IntKind.i64.wrap ((first : Int) + (root : Int)) = ((first + root : Nat) : Int) := by rw [w64 (by omega) (by omega)]; omega
          have hw4 : IntKind.i64.wrap ((first : Int) + (ch : Int)) = ((first + ch : Nat) : Int) := by rw [w64 (by omega) (by omega)]; omega
          have z1 : first + root < d.size := by omega
          have z2 : first + ch < d.size := by omega
          rw [hlr] at hD
          obtain ⟨c2, ⟨q1, q2⟩, ⟨q3, q4⟩, s1, f2, s2⟩ := swapV (d := d2) (sp := sp) (i := first + root) (j := first + ch) (by omega) (by omega)
          have hss : (Go.Sort.swp d2 (first + root) (first + ch)).size = d.size := by rw [Go.Sort.swp_size, hs]
          have hqs := swp_allV (Q := Q) (d := d2) (i := first + root) (j := first + ch) (by omega) (by omega) hq
          generalize hc1 : memV d2 sp = c1 at *
          generalize hsw : Go.Sort.swp d2 (first + root) (first + ch) = d3 at *
          generalize hc3 : memV d3 sp = c3 at *
          generalize d2[first + root]! = x at *
          generalize d2[first + ch]! = y at *
          generalize first + root = p at *
          generalize first + ch = q at *
          have z1' : (p : Int) < (d.size : Int) := by omega
          have z2' : (q : Int) < (d.size : Int) := by omega
          refine regionK.intro 16 follows_mixed (by kernel_rfl) ?_
          simp -implicitDefEqProofs [g0, g3, g4, g10, g11, hw3, hw4, z1, z2, z1', z2', k1, q1, q2, q3, q4, eV]
          refine CallQ.with hxr (by simp [eV]) ?_
          by_cases hcr : cm x y < 0
          · simp [hcr] at hD
            simp -implicitDefEqProofs [hcr]
            refine regionK.modes [b1] [.r, .r, .r, .r, .q, .q, .q, .q, .r, .r, .r, .r, .r, .r, .q, .q, .q, .q, .q, .r, .r, .l, .r, .l] follows_mixed (by kernel_rfl) ?_
            simp -implicitDefEqProofs [g0, g3, g4, g10, g11, hw3, hw4, z1, z2, z1', z2', k1, q1, q2, q3, q4, s1, s2, f2, eV]
            exact ⟨⟨ch, d3, by simp [g0], by simp [g2], by simp [g3], by simp [g4], by simp, by simp [hc3], hss, by omega, hD, hqs⟩, by omega⟩
          · simp [hcr] at hD
            subst hD
            simp -implicitDefEqProofs [hcr, hc1, k1, Weak.refl]
        · simp only [hcm, h2, decide_true, decide_false, Bool.and_false, Bool.false_eq_true, if_false] at hD
          clear hxc hlc u1 u2 u3 u4 y1 y2 y1' y2' hwa hwb
          simp -implicitDefEqProofs [hcm]
          obtain ⟨ch, hch⟩ : ∃ ch : Nat, ch = 2 * root + 1 := ⟨_, rfl⟩
          rw [← hch] at hD
          have hrc : root < ch := by omega
          have hci : ch < hi := by omega
          have g11 : ((2 * (root : Int) + 1 : Int)) = (ch : Int) := by omega
          simp -implicitDefEqProofs [g11]
          have hne : first + root < d.size := by omega
          have hxr := hg d2[first + root]! d2[first + ch]! (hq _ (by omega)) (hq _ (by omega))
          have hlr : ltV cm d2[first + root]! d2[first + ch]! = decide (cm d2[first + root]! d2[first + ch]! < 0) := rfl
          have hw3 : IntKind.i64.wrap ((first : Int) + (root : Int)) = ((first + root : Nat) : Int) := by rw [w64 (by omega) (by omega)]; omega
          have hw4 : IntKind.i64.wrap ((first : Int) + (ch : Int)) = ((first + ch : Nat) : Int) := by rw [w64 (by omega) (by omega)]; omega
          have z1 : first + root < d.size := by omega
          have z2 : first + ch < d.size := by omega
          rw [hlr] at hD
          obtain ⟨c2, ⟨q1, q2⟩, ⟨q3, q4⟩, s1, f2, s2⟩ := swapV (d := d2) (sp := sp) (i := first + root) (j := first + ch) (by omega) (by omega)
          have hss : (Go.Sort.swp d2 (first + root) (first + ch)).size = d.size := by rw [Go.Sort.swp_size, hs]
          have hqs := swp_allV (Q := Q) (d := d2) (i := first + root) (j := first + ch) (by omega) (by omega) hq
          generalize hc1 : memV d2 sp = c1 at *
          generalize hsw : Go.Sort.swp d2 (first + root) (first + ch) = d3 at *
          generalize hc3 : memV d3 sp = c3 at *
          generalize d2[first + root]! = x at *
          generalize d2[first + ch]! = y at *
          generalize first + root = p at *
          generalize first + ch = q at *
          have z1' : (p : Int) < (d.size : Int) := by omega
          have z2' : (q : Int) < (d.size : Int) := by omega
          refine regionK.intro 16 follows_mixed (by kernel_rfl) ?_
          simp -implicitDefEqProofs [g0, g3, g4, g10, g11, hw3, hw4, z1, z2, z1', z2', k1, q1, q2, q3, q4, eV]
          refine CallQ.with hxr (by simp [eV]) ?_
          by_cases hcr : cm x y < 0
          · simp [hcr] at hD
            simp -implicitDefEqProofs [hcr]
            refine regionK.modes [b1] [.r, .r, .r, .r, .q, .q, .q, .q, .r, .r, .r, .r, .r, .r, .q, .q, .q, .q, .q, .r, .r, .l, .r, .l] follows_mixed (by kernel_rfl) ?_
            simp -implicitDefEqProofs [g0, g3, g4, g10, g11, hw3, hw4, z1, z2, z1', z2', k1, q1, q2, q3, q4, s1, s2, f2, eV]
            exact ⟨⟨ch, d3, by simp [g0], by simp [g2], by simp [g3], by simp [g4], by simp, by simp [hc3], hss, by omega, hD, hqs⟩, by omega⟩
          · simp [hcr] at hD
            subst hD
            simp -implicitDefEqProofs [hcr, hc1, k1, Weak.refl]
      · have h2' : ¬ 2 * (root : Int) + 1 + 1 < (hi : Int) := by omega
        rw [siftDown_go h1 rfl] at hD
        simp only [h2, decide_false, Bool.false_and, Bool.false_eq_true, if_false] at hD
        simp -implicitDefEqProofs [g0, g2, g3, g4, g10, hw5, h2']
        obtain ⟨ch, hch⟩ : ∃ ch : Nat, ch = 2 * root + 1 := ⟨_, rfl⟩
        rw [← hch] at hD
        have hrc : root < ch := by omega
        have hci : ch < hi := by omega
        have g11 : ((2 * (root : Int) + 1 : Int)) = (ch : Int) := by omega
        simp -implicitDefEqProofs [g11]
        have hne : first + root < d.size := by omega
        have hxr := hg d2[first + root]! d2[first + ch]! (hq _ (by omega)) (hq _ (by omega))
        have hlr : ltV cm d2[first + root]! d2[first + ch]! = decide (cm d2[first + root]! d2[first + ch]! < 0) := rfl
        have hw3 : IntKind.i64.wrap ((first : Int) + (root : Int)) = ((first + root : Nat) : Int) := by rw [w64 (by omega) (by omega)]; omega
        have hw4 : IntKind.i64.wrap ((first : Int) + (ch : Int)) = ((first + ch : Nat) : Int) := by rw [w64 (by omega) (by omega)]; omega
        have z1 : first + root < d.size := by omega
        have z2 : first + ch < d.size := by omega
        rw [hlr] at hD
        obtain ⟨c2, ⟨q1, q2⟩, ⟨q3, q4⟩, s1, f2, s2⟩ := swapV (d := d2) (sp := sp) (i := first + root) (j := first + ch) (by omega) (by omega)
        have hss : (Go.Sort.swp d2 (first + root) (first + ch)).size = d.size := by rw [Go.Sort.swp_size, hs]
        have hqs := swp_allV (Q := Q) (d := d2) (i := first + root) (j := first + ch) (by omega) (by omega) hq
        generalize hc1 : memV d2 sp = c1 at *
        generalize hsw : Go.Sort.swp d2 (first + root) (first + ch) = d3 at *
        generalize hc3 : memV d3 sp = c3 at *
        generalize d2[first + root]! = x at *
        generalize d2[first + ch]! = y at *
        generalize first + root = p at *
        generalize first + ch = q at *
        have z1' : (p : Int) < (d.size : Int) := by omega
        have z2' : (q : Int) < (d.size : Int) := by omega
        refine regionK.intro 16 follows_mixed (by kernel_rfl) ?_
        simp -implicitDefEqProofs [g0, g3, g4, g10, g11, hw3, hw4, z1, z2, z1', z2', k1, q1, q2, q3, q4, eV]
        refine CallQ.with hxr (by simp [eV]) ?_
        by_cases hcr : cm x y < 0
        · simp [hcr] at hD
          simp -implicitDefEqProofs [hcr]
          refine regionK.modes [b1] [.r, .r, .r, .r, .q, .q, .q, .q, .r, .r, .r, .r, .r, .r, .q, .q, .q, .q, .q, .r, .r, .l, .r, .l] follows_mixed (by kernel_rfl) ?_
          simp -implicitDefEqProofs [g0, g3, g4, g10, g11, hw3, hw4, z1, z2, z1', z2', k1, q1, q2, q3, q4, s1, s2, f2, eV]
          exact ⟨⟨ch, d3, by simp [g0], by simp [g2], by simp [g3], by simp [g4], by simp, by simp [hc3], hss, by omega, hD, hqs⟩, by omega⟩
        · simp [hcr] at hD
          subst hD
          simp -implicitDefEqProofs [hcr, hc1, k1, Weak.refl]
    · have h1' : (hi : Int) ≤ 2 * (root : Int) + 1 := by omega
      rw [siftDown_stop h1] at hD
      subst hD
      simp -implicitDefEqProofs [g2, g10, hw1, hw2, h1', k1, Weak.refl]
end Go.Proofs.YtjbbfiagijjdoaaGreat

/- Contracts: lists that are put together and sorted in memory of one's own. No condition. -/
set_option linter.unusedSimpArgs false
set_option linter.unusedVariables false
set_option maxRecDepth 10000
namespace Go.Proofs.YtjbbfiagijjdoaaGreat
open Go Go.Rw Go.Proofs
-- a goal is never to be run by the elaborator
attribute [local irreducible] awp aops aop aopsE aeff

theorem grow_cells (n : Nat) (h0 : 0 < n) (hn : n ≤ 1000000000) : MSpec Tryz.prog 193 [.mn, eI n] (fun _ => none) (fun r h' => ∃ b c spare, r = .sm b 0 0 c ∧ h' = one b spare ∧ spare.length = c * 3 ∧ n ≤ c) := by
  refine MSpec.of_awp Tryz.func193 (by kernel_rfl) rfl (by rw [Tryz.results193]) Tryz.ntmps193 ?_
  have hlt : ¬ (n : Int) < 0 := by omega
  simp -implicitDefEqProofs [hlt]
  refine capMn (e := (48, 3, 24)) (by simp) (by simp) ?_
  have hw : IntKind.i64.wrap (n : Int) = (n : Int) := by rw [w64 (by omega) (by omega)]
  have h0' : (0 : Int) < (n : Int) := by omega
  have hw0 : IntKind.i64.wrap 0 = 0 := by decide
  simp -implicitDefEqProofs [hw, hw0, h0, h0']
  refine capMn (e := (48, 3, 24)) (by simp) (by simp) ?_
  simp -implicitDefEqProofs
  refine zerosMn (e := 48) (sz := 3) (by_ := 24) (ku := .i64) (z := [eI 0, eI 0, eI 0]) n (by decide) (by simp) (by simp) (by simp) rfl (by omega) (by simp) (by simp) h0 (by omega) (by omega) fun b c spare hb hc hsp => ?_
  simp -implicitDefEqProofs
  exact ⟨one b spare, SubH_one.2 (by simp [Weak.refl]), b, c, ⟨rfl, rfl⟩, spare, rfl, hsp, hc⟩

/-- lists of cells as rows -/
def eCss (ls : List (List PCell)) : List (List AV) := ls.map fun l => [.sl .no (eCs l)]
@[simp] theorem eCss_length (ls : List (List PCell)) : (eCss ls).length = ls.length := by simp [eCss]
@[simp] theorem eCss_get (ls : List (List PCell)) (i : Nat) : (eCss ls)[i]? = (ls[i]?).map fun l => [.sl .no (eCs l)] := by simp [eCss]
theorem take_flat {α : Type} {ls : List (List α)} {k : Nat} {l : List α} (h : ls[k]? = some l) : (ls.take (k + 1)).flatten = (ls.take k).flatten ++ l := by
  rw [List.take_add_one, h, List.flatten_append]; simp
theorem flat_le {α : Type} (ls : List (List α)) (k : Nat) : (ls.take k).flatten.length ≤ ls.flatten.length := by
  have : ls.flatten = (ls.take k).flatten ++ (ls.drop k).flatten := by rw [← List.flatten_append, List.take_append_drop]
  rw [this, List.length_append]; omega
def CatI (ls : List (List PCell)) (t : Nat → AV) (_ : Nat → Option (List AV)) : Prop := ∃ k : Nat, t 0 = .sl .no (eCss ls) ∧ t 3 = eI (ls.take k).flatten.length ∧ t 9 = .sl .no (eCss ls) ∧ t 10 = eI ls.length ∧ t 11 = eI k ∧ k ≤ ls.length
def CatM (ls : List (List PCell)) (t : Nat → AV) (_ : Nat → Option (List AV)) : Prop := t 0 = .sl .no (eCss ls) ∧ t 3 = eI ls.flatten.length
def CatJ (ls : List (List PCell)) (t : Nat → AV) (h : Nat → Option (List AV)) : Prop := ∃ (k b c : Nat) (sp : List AV), t 6 = .sm b 0 (ls.take k).flatten.length c ∧ t 25 = .sl .no (eCss ls) ∧ t 26 = eI ls.length ∧ t 27 = eI k ∧ k ≤ ls.length ∧ h b = some ((eCs (ls.take k).flatten).flatten ++ sp) ∧ (ls.take k).flatten.length * 3 + sp.length = c * 3
def CatN (ls : List (List PCell)) (t : Nat → AV) (h : Nat → Option (List AV)) : Prop := ∃ (b c : Nat) (sp : List AV), t 6 = .sm b 0 ls.flatten.length c ∧ h b = some ((eCs ls.flatten).flatten ++ sp) ∧ ls.flatten.length * 3 + sp.length = c * 3
theorem concat_cells (ls : List (List PCell)) (h0 : 0 < ls.flatten.length) (hn : ls.flatten.length ≤ 1000000000) :
    MSpec Tryz.prog 155 [.sl .no (eCss ls)] (fun _ => none) (fun r h' => ∃ b c sp, r = .sm b 0 ls.flatten.length c ∧ h' = one b ((eCs ls.flatten).flatten ++ sp) ∧ ls.flatten.length * 3 + sp.length = c * 3) := by
  refine MSpec.of_awp Tryz.func155 (by kernel_rfl) rfl (by rw [Tryz.results155]) Tryz.ntmps155 ?_
  simp -implicitDefEqProofs
  intro hll
  refine loopK.post (CatI ls) (fun t => ls.length - natOf (t 11)) (CatM ls) ?_ ?_ ?_
  · exact ⟨0, by simp, by simp, by simp, by simp, by simp, by omega⟩
  · rintro t hh ⟨k, g0, g3, g9, g10, g11, hk⟩
    by_cases hlt : k < ls.length
    · have hlt' : (k : Int) < (ls.length : Int) := by omega
      obtain ⟨l, hx⟩ : ∃ l, ls[k]? = some l := ⟨ls[k], by simp [hlt]⟩
      have hw : IntKind.i64.wrap ((k : Int) + 1) = ((k + 1 : Nat) : Int) := by rw [w64 (by omega) (by omega)]; omega
      have hf := take_flat hx
      have hle := flat_le ls (k + 1)
      have hle2 : (ls.take (k + 1)).flatten.length = (ls.take k).flatten.length + l.length := by rw [hf, List.length_append]
      generalize hm : (ls.take k).flatten.length = m at *
      generalize hm2 : (ls.take (k + 1)).flatten.length = m2 at *
      have hw2 : IntKind.i64.wrap ((m : Int) + (l.length : Int)) = (m2 : Int) := by rw [w64 (by omega) (by omega)]; omega
      have hge : ¬ (m2 : Int) < 0 := by omega
      simp -implicitDefEqProofs [g3, g9, g10, g11, hlt', hx, hw2, hge]
      intro _
      simp -implicitDefEqProofs [g3, g9, g10, g11, hlt', hx, hw, hw2, hge]
      exact ⟨⟨k + 1, by simp [g0], by rw [hm2]; simp, by simp [g9], by simp [g10], by simp, by omega⟩, by omega⟩
    · have hlt' : ¬ (k : Int) < (ls.length : Int) := by omega
      rw [List.take_of_length_le (by omega)] at g3
      simp -implicitDefEqProofs [g10, g11, hlt']
      exact ⟨by simp [g0], by simp [g3]⟩
  rintro t hh ⟨g0, g3⟩
  generalize hN : ls.flatten.length = N at *
  simp -implicitDefEqProofs [g0, g3]
  refine CallK.known (args' := [.mn, eI N]) (by simp [argN]) ?_
  refine CallK.fresh (grow_cells N h0 hn) rfl ?_
  rintro _ h' H ⟨b, c, spare, rfl, rfl, hsp, hc⟩ - hH -
  have k1 := hH b _ (one_self _ _)
  clear hH
  simp -implicitDefEqProofs [g0]
  intro _
  refine loopK.post (CatJ ls) (fun t => ls.length - natOf (t 27)) (CatN ls) ?_ ?_ ?_
  · exact ⟨0, b, c, spare, by simp, by simp [g0], by simp, by simp, by omega, by simp [k1], by simp [hsp]⟩
  · clear k1 hc hsp
    rintro t hh ⟨k, b, c, sp, g6, g25, g26, g27, hk, k1, hsp⟩
    by_cases hlt : k < ls.length
    · have hlt' : (k : Int) < (ls.length : Int) := by omega
      obtain ⟨l, hx⟩ : ∃ l, ls[k]? = some l := ⟨ls[k], by simp [hlt]⟩
      have hw : IntKind.i64.wrap ((k : Int) + 1) = ((k + 1 : Nat) : Int) := by rw [w64 (by omega) (by omega)]; omega
      have hf := take_flat hx
      have hle := flat_le ls (k + 1)
      have hle2 : (ls.take (k + 1)).flatten.length = (ls.take k).flatten.length + l.length := by rw [hf, List.length_append]
      have hcl : ((eCs (ls.take k).flatten).flatten ++ sp).length = c * 3 := by rw [List.length_append, eCs_flat]; exact hsp
      have htk : (((eCs (ls.take k).flatten).flatten ++ sp).take ((ls.take k).flatten.length * 3)).map dead1 = (eCs (ls.take k).flatten).flatten := by
        rw [← eCs_flat, List.take_left, eCs_dead]
      have hdl := eCs_dead l
      generalize hm : (ls.take k).flatten.length = m at *
      generalize hm2 : (ls.take (k + 1)).flatten.length = m2 at *
      generalize hA : (eCs (ls.take k).flatten).flatten ++ sp = A at *
      simp -implicitDefEqProofs [g6, g25, g26, g27, hlt', hx, k1, hcl]
      refine ⟨by omega, growSmK.intro fun b' c' spare hb' hc' hsp' => ?_⟩
      have hsp2 : m2 * 3 + spare.length = c' * 3 := by simp at hsp'; omega
      have hfin : (A.take (m * 3)).map dead1 ++ (eCs l).flatten.map dead1 ++ spare = (eCs (ls.take (k + 1)).flatten).flatten ++ spare := by
        rw [htk, hdl, hf]; simp [eCs]
      rw [hfin]
      have hml : m + l.length = m2 := by omega
      simp -implicitDefEqProofs [g27, hw, hml]
      exact ⟨⟨k + 1, b', c', spare, by rw [hm2]; simp [hml], by simp [g25], by simp [g26], by simp, by omega, by simp, by rw [hm2]; exact hsp2⟩, by omega⟩
    · have hlt' : ¬ (k : Int) < (ls.length : Int) := by omega
      rw [List.take_of_length_le (by omega)] at g6 k1 hsp
      simp -implicitDefEqProofs [g26, g27, hlt']
      exact ⟨b, c, sp, by simp [g6, -List.length_flatten], k1, hsp⟩
  rintro t hh ⟨b, c, sp, g6, k1, hsp⟩
  rw [hN] at g6
  simp -implicitDefEqProofs [g6]
  exact ⟨one b ((eCs ls.flatten).flatten ++ sp), SubH_one.2 (by simp [k1, Weak.refl]), b, c, ⟨rfl, rfl⟩, sp, rfl, by omega⟩

theorem pdqsmall (cm : PCell → PCell → Int) (Q : PCell → Prop) (g : FuncId) (hg : ∀ x y, Q x → Q y → ASpec Tryz.prog g [.agg (eC x), .agg (eC y)] (· = eI (cm x y))) (d : Array PCell) (hq : ∀ k < d.size, Q d[k]!) (sp : List AV) (b1 cap : Nat) (hl : d.size ≤ 12) (lim : Int) :
    MSpec Tryz.prog 194 [.sm b1 0 d.size cap, eI 0, eI d.size, eI lim, .fn g []] (one b1 (memC d sp)) (fun r h' => h' = one b1 (memC (Go.Sort.insertionSort (ltC cm) d 0 d.size) sp)) := by
  refine MSpec.of_awp Tryz.func194 (by kernel_rfl) rfl (by rw [Tryz.results194]) Tryz.ntmps194 ?_
  have hw : IntKind.i64.wrap ((d.size : Int)) = (d.size : Int) := by rw [w64 (by omega) (by omega)]
  have hle : (d.size : Int) ≤ 12 := by omega
  simp -implicitDefEqProofs
  refine loopK.intro (fun t h => t 0 = .sm b1 0 d.size cap ∧ t 1 = eI 0 ∧ t 2 = eI d.size ∧ t 4 = .fn g [] ∧ h b1 = some (memC d sp)) (fun _ => 0) ?_ ?_
  · simp
  rintro t hh ⟨g0, g1, g2, g4, k1⟩
  simp -implicitDefEqProofs [g0, g1, g2, g4, hw, hle, hl]
  refine CallK.mh (insertionC cm Q g hg d hq sp b1 cap 0 d.size (by omega) (by omega) (by omega)) (by simp) (SubH_one.2 (by simp [k1, Weak.refl])) ?_
  rintro r h' H rfl - hH -
  have k2 := hH b1 _ (one_self _ _)
  simp -implicitDefEqProofs [k2, Weak.refl]
theorem mergeKey_spec (x y : PCell) : ASpec Tryz.prog 157 [.agg (eC x), .agg (eC y)] (· = eI (cmpI x.node y.node)) := by
  refine ASpec.of_awp Tryz.func157 (by kernel_rfl) rfl (by rw [Tryz.results157]) Tryz.ntmps157 ?_
  simp -implicitDefEqProofs [eC]
  refine allocK.intro (fun b1 hb1 => ?_)
  simp -implicitDefEqProofs
  refine allocK.intro (fun b2 hb2 => ?_)
  have n12 : ¬ b1 = b2 := by rintro rfl; simp at hb2
  have n21 : ¬ b2 = b1 := fun h => n12 h.symm
  simp -implicitDefEqProofs [n12, n21]
  refine CallK.eq (compare_int x.node y.node) ?_
  simp -implicitDefEqProofs
theorem bitsLen_spec (n : Nat) (h : n < 18446744073709551616) : ASpec Tryz.prog 145 [.v (.int .u64 n)] (· = .v (.int .i64 (Lib.bitLen n : Nat))) := by
  refine ASpec.of_awp Tryz.func145 (by kernel_rfl) rfl (by rw [Tryz.results145]) Tryz.ntmps145 ?_
  simp -implicitDefEqProofs
  refine CallK.eq (len64_spec n h) ?_
  simp -implicitDefEqProofs
def nodeCmp (x y : PCell) : Int := cmpI x.node y.node
theorem sortsmall (d : Array PCell) (sp : List AV) (b1 cap : Nat) (hl : d.size ≤ 12) :
    MSpec Tryz.prog 156 [.sm b1 0 d.size cap, .fn 157 []] (one b1 (memC d sp)) (fun r h' => h' = one b1 (memC (Go.Sort.insertionSort (ltC nodeCmp) d 0 d.size) sp)) := by
  refine MSpec.of_awp Tryz.func156 (by kernel_rfl) rfl (by rw [Tryz.results156]) Tryz.ntmps156 ?_
  simp -implicitDefEqProofs
  intro _
  have hw : IntKind.u64.wrap ((d.size : Int)) = (d.size : Int) := by
    simp [IntKind.wrap, IntKind.bits, IntKind.signed]; omega
  simp -implicitDefEqProofs [hw]
  refine CallK.eq (bitsLen_spec d.size (by omega)) ?_
  simp -implicitDefEqProofs
  refine CallK.mh (pdqsmall nodeCmp (fun _ => True) 157 (fun x y _ _ => mergeKey_spec x y) d (fun _ _ => trivial) sp b1 cap hl _) (by simp; rfl) (SubH_one.2 (by simp [Weak.refl])) ?_
  rintro r h' H rfl - hH -
  have k2 := hH b1 _ (one_self _ _)
  simp -implicitDefEqProofs [k2, Weak.refl]
/-- the cells of both, sorted by their nodes -/
def mergeS (a b : List PCell) : List PCell := (Go.Sort.insertionSort (ltC nodeCmp) (a ++ newsC a b).toArray 0 (a ++ newsC a b).toArray.size).toList
theorem ins_len (lt : PCell → PCell → Bool) (d : Array PCell) (a b : Nat) : (Go.Sort.insertionSort lt d a b).size = d.size := by
  have inner : ∀ j (d : Array PCell), (Go.Sort.insInner lt a j d).size = d.size := by
    intro j
    induction j with
    | zero => intro d; rfl
    | succ j ih =>
      intro d
      rw [Go.Sort.insInner]
      split
      · rw [ih, Go.Sort.swp_size]
      · rfl
  have outer : ∀ m i (d : Array PCell), b - i = m → (Go.Sort.insOuter lt a b i d).size = d.size := by
    intro m
    induction m with
    | zero => intro i d h; rw [Go.Sort.insOuter, if_neg (by omega)]
    | succ m ih =>
      intro i d h
      rw [Go.Sort.insOuter, if_pos (by omega), ih _ _ (by omega), inner]
  exact outer _ _ d rfl
theorem cmerge_spec (a b : List PCell) (ha : (a ++ newsC a b).length ≤ 12) (h0 : 0 < (a ++ newsC a b).length) (hb : b.length ≤ 1000000000) : ASpec Tryz.prog 101 [.sl .no (eCs a), .sl .no (eCs b)] (fun r => ∃ tag, r = .sl tag (eCs (mergeS a b))) := by
  refine ASpec.of_awpS Tryz.func101 (by kernel_rfl) rfl (by rw [Tryz.results101]) Tryz.ntmps101 ?_
  simp -implicitDefEqProofs
  refine CallK.via (newsC_spec a b hb) rfl ?_
  rintro _ ⟨tag, rfl⟩
  simp -implicitDefEqProofs
  have hc := concat_cells [a, newsC a b] (by simpa using h0) (by simp at ha ⊢; omega)
  refine CallK.fresh hc (by simp [eCss]) ?_
  rintro _ h' H ⟨b1, c, sp, rfl, rfl, hsp⟩ - hH -
  have k1 := hH b1 _ (one_self _ _)
  clear hH hc
  rw [show [a, newsC a b].flatten = a ++ newsC a b by simp] at *
  have em : (eCs (a ++ newsC a b)).flatten ++ sp = memC (a ++ newsC a b).toArray sp := rfl
  rw [em] at k1
  have hlen : (mergeS a b).length = (a ++ newsC a b).length := by
    unfold mergeS
    rw [Array.length_toList, ins_len]; simp
  have hss := sortsmall (a ++ newsC a b).toArray sp b1 c (by simpa using ha)
  have em2 : memC (Go.Sort.insertionSort (ltC nodeCmp) (a ++ newsC a b).toArray 0 (a ++ newsC a b).toArray.size) sp = (eCs (mergeS a b)).flatten ++ sp := rfl
  rw [em2, List.size_toArray] at hss
  generalize mergeS a b = m at *
  generalize a ++ newsC a b = l at *
  simp -implicitDefEqProofs
  refine CallK.mh hss rfl (SubH_one.2 (by simp [k1, Weak.refl])) ?_
  rintro r h' H2 rfl - hH -
  have k2 := hH b1 _ (one_self _ _)
  clear hH
  simp -implicitDefEqProofs
  refine shiftK.freeze (b := b1) (len := l.length) (cap := c) 4 48 (eCs m) (by simp) k2 (chunks_cells _ _) (by simp [hlen]) ?_ ?_
  · rw [List.length_append, eCs_flat, hlen]; exact hsp
  simp -implicitDefEqProofs
end Go.Proofs.YtjbbfiagijjdoaaGreat

/- Contracts: random words, patterns broken. No condition. Printed by sort/v2.py. -/
set_option linter.unusedSimpArgs false
set_option linter.unusedVariables false
set_option maxRecDepth 10000
namespace Go.Proofs.YtjbbfiagijjdoaaGreat
open Go Go.Rw Go.Proofs
-- a goal is never to be run by the elaborator
attribute [local irreducible] awp aops aop aopsE aeff

/-- the number of a word of 64 bits -/
def n64 (x : BitVec 64) : Int := (x.toNat : Int)
theorem w64u_nat (n : Nat) (h : n < 18446744073709551616) : IntKind.u64.wrap (n : Int) = n := wu64 (by omega) (by omega)
theorem ofInt_n64 (x : BitVec 64) : BitVec.ofInt 64 (n64 x) = x := by
  rw [n64, BitVec.ofInt_natCast]; simp
theorem bx_xor (x y : BitVec 64) : bitOp .xor .u64 (n64 x) (n64 y) = n64 (x ^^^ y) := by
  have : bitOp .xor .u64 (n64 x) (n64 y) = IntKind.u64.wrap ((BitVec.ofInt 64 (n64 x) ^^^ BitVec.ofInt 64 (n64 y)).toNat : Int) := rfl
  rw [this, ofInt_n64, ofInt_n64]
  exact w64u_nat _ (x ^^^ y).isLt
theorem bx_and (x y : BitVec 64) : bitOp .and .u64 (n64 x) (n64 y) = n64 (x &&& y) := by
  have : bitOp .and .u64 (n64 x) (n64 y) = IntKind.u64.wrap ((BitVec.ofInt 64 (n64 x) &&& BitVec.ofInt 64 (n64 y)).toNat : Int) := rfl
  rw [this, ofInt_n64, ofInt_n64]
  exact w64u_nat _ (x &&& y).isLt
theorem bx_shr (x : BitVec 64) (k : Nat) : Int.fdiv (n64 x) (2 ^ k) = n64 (x >>> k) := by
  rw [Int.fdiv_eq_ediv_of_nonneg _ (Int.pow_nonneg (by omega))]
  simp only [n64, BitVec.toNat_ushiftRight, Nat.shiftRight_eq_div_pow]
  norm_cast
theorem bx_shl (x : BitVec 64) (k : Nat) : IntKind.u64.wrap (n64 x * 2 ^ k) = n64 (x <<< k) := by
  have hw : ∀ z : Int, IntKind.u64.wrap z = z % 18446744073709551616 := fun z => by simp [IntKind.wrap, IntKind.bits, IntKind.signed]
  have h64 : (2 : Nat) ^ 64 = 18446744073709551616 := rfl
  rw [hw, n64, n64, BitVec.toNat_shiftLeft, Nat.shiftLeft_eq, h64, Int.natCast_emod, Int.natCast_mul, Int.natCast_pow]
  rfl
theorem an_shl13 (x : BitVec 64) : aNum .shl (.int .u64 (n64 x)) (.int .u64 13) = some (.int .u64 (n64 (x <<< 13))) := by
  rw [aNum_shl _ _ _ _ (by decide)]; exact congrArg (fun z => some (Value.int .u64 z)) (bx_shl x 13)
theorem an_shl17 (x : BitVec 64) : aNum .shl (.int .u64 (n64 x)) (.int .u64 17) = some (.int .u64 (n64 (x <<< 17))) := by
  rw [aNum_shl _ _ _ _ (by decide)]; exact congrArg (fun z => some (Value.int .u64 z)) (bx_shl x 17)
theorem an_shr7 (x : BitVec 64) : aNum .shr (.int .u64 (n64 x)) (.int .u64 7) = some (.int .u64 (n64 (x >>> 7))) := by
  rw [aNum_shr _ _ _ _ (by decide)]; exact congrArg (fun z => some (Value.int .u64 z)) (bx_shr x 7)
/-- a random word as a value -/
def eR64 (r : UInt64) : AV := .v (.int .u64 (n64 r.toBitVec))
theorem xor_next (r : UInt64) : (Go.Sort.xorNext r).toBitVec = ((((r.toBitVec ^^^ (r.toBitVec <<< 13)) ^^^ ((r.toBitVec ^^^ (r.toBitVec <<< 13)) >>> 7))) ^^^ ((((r.toBitVec ^^^ (r.toBitVec <<< 13)) ^^^ ((r.toBitVec ^^^ (r.toBitVec <<< 13)) >>> 7))) <<< 17)) := by
  simp [Go.Sort.xorNext]
theorem xorshift_spec (r : UInt64) (b : Nat) : MSpec Tryz.prog 207 [.ptr b 0] (one b [eR64 r]) (fun x h' => x = eR64 (Go.Sort.xorNext r) ∧ h' = one b [eR64 (Go.Sort.xorNext r)]) := by
  refine MSpec.of_awp Tryz.func207 (by kernel_rfl) rfl (by rw [Tryz.results207]) Tryz.ntmps207 ?_
  have e : eR64 (Go.Sort.xorNext r) = .v (.int .u64 (n64 (Go.Sort.xorNext r).toBitVec)) := rfl
  rw [e, xor_next, eR64]
  generalize r.toBitVec = x
  simp -implicitDefEqProofs
  refine regionK.modes [] [.r, .r, .r, .r, .r, .r, .r, .r, .r, .s] follows_mixed (by kernel_rfl) ?_
  simp -implicitDefEqProofs [an_shl13, bx_xor]
  refine regionK.modes [] [.r, .r, .r, .r, .r, .r, .r, .r, .r, .s] follows_mixed (by kernel_rfl) ?_
  simp -implicitDefEqProofs [an_shr7, bx_xor]
  refine regionK.modes [] [.r, .r, .r, .r, .r, .r, .r, .r, .r, .s] follows_mixed (by kernel_rfl) ?_
  simp -implicitDefEqProofs [an_shl17, bx_xor, Weak.refl]
theorem bitsLen_eq (n : Nat) (hn : n < 2 ^ 64) : Go.Sort.bitsLen n = Lib.bitLen n := by
  induction n using Nat.strongRecOn with
  | ind n ih =>
    by_cases h : n = 0
    · subst h; decide
    · rw [Lib.bitLen_half n h hn, ← ih (n / 2) (by omega) (by omega)]
      unfold Go.Sort.bitsLen
      rw [if_neg h, Nat.log2_def]
      by_cases h2 : n / 2 = 0
      · rw [if_pos h2, if_neg (by omega)]
      · rw [if_neg h2, if_pos (by omega)] <;> omega
theorem bitsLen_le {n : Nat} (h0 : 0 < n) : 1 <<< Go.Sort.bitsLen n ≤ 2 * n := by
  rw [Nat.shiftLeft_eq, Nat.one_mul]
  exact Go.Sort.two_pow_bitsLen_le h0
theorem nextPow_spec (n : Nat) (h0 : 0 < n) (h : n ≤ 1000000000) : ASpec Tryz.prog 206 [eI n] (· = .v (.int .u64 ((1 <<< Go.Sort.bitsLen n : Nat) : Int))) := by
  refine ASpec.of_awp Tryz.func206 (by kernel_rfl) rfl (by rw [Tryz.results206]) Tryz.ntmps206 ?_
  have hw : IntKind.u64.wrap (n : Int) = (n : Int) := w64u_nat n (by omega)
  simp -implicitDefEqProofs [hw]
  refine CallK.with (bitsLen_spec n (by omega)) (by simp) ?_
  have hb := bitsLen_le h0
  rw [bitsLen_eq n (by omega)] at *
  have h3 : Lib.bitLen n ≤ 64 := Lib.bitLen_le n 64 (by omega) (by omega)
  have h2 : aNum .shl (.int .u64 1) (.int .i64 (Lib.bitLen n : Int)) = some (.int .u64 ((1 <<< Lib.bitLen n : Nat) : Int)) := by
    rw [aNum_shl _ _ _ _ (by omega), ← w64u_nat (1 <<< Lib.bitLen n) (by omega), Int.toNat_natCast]
    have : min (Lib.bitLen n) IntKind.u64.bits = Lib.bitLen n := Nat.min_eq_left h3
    rw [this, Nat.shiftLeft_eq]
    simp
  simp -implicitDefEqProofs [h2]

def brk (a length modulus : Nat) : Nat → Nat → UInt64 × Array PView → Array PView
  | 0, _, st => st.2
  | n + 1, idx, st => brk a length modulus n (idx + 1) (Go.Sort.breakStep a length modulus st idx)
theorem break_small {d : Array PView} {a b : Nat} (h : ¬ 8 ≤ b - a) : Go.Sort.breakPatterns d a b = d := by
  unfold Go.Sort.breakPatterns; rw [if_neg h]
theorem break_big {d : Array PView} {a b : Nat} (h : 8 ≤ b - a) : Go.Sort.breakPatterns d a b = brk a (b - a) (1 <<< Go.Sort.bitsLen (b - a)) 3 (a + (b - a) / 4 * 2 - 1) (UInt64.ofNat (b - a), d) := by
  unfold Go.Sort.breakPatterns; rw [if_pos h]; rfl
def BrkI (Q : PView → Prop) (n cap a b len w m b1 b2 : Nat) (sp : List AV) (D : Array PView) (t : Nat → AV) (h : Nat → Option (List AV)) : Prop := ∃ (k q : Nat) (r : UInt64) (d : Array PView), q = a + w * 2 - 1 + k ∧ t 0 = .sm b1 0 n cap ∧ t 1 = eI a ∧ t 8 = eI len ∧ t 9 = .ptr b2 0 ∧ t 10 = .v (.int .u64 (m : Int)) ∧ t 11 = eI q ∧ h b1 = some (memV d sp) ∧ h b2 = some [eR64 r] ∧ d.size = n ∧ k ≤ 3 ∧ brk a len m (3 - k) q (r, d) = D ∧ ∀ k < d.size, Q d[k]!
theorem and_lt (r : UInt64) (m : Nat) (h0 : 0 < m) (hm : m ≤ 18446744073709551616) : bitOp .and .u64 (n64 r.toBitVec) ((m - 1 : Nat) : Int) = ((r.toNat &&& (m - 1) : Nat) : Int) := by
  have e : ((m - 1 : Nat) : Int) = n64 (BitVec.ofNat 64 (m - 1)) := by
    rw [n64, BitVec.toNat_ofNat, Nat.mod_eq_of_lt (by omega)]
  rw [e, bx_and, n64, BitVec.toNat_and, BitVec.toNat_ofNat, Nat.mod_eq_of_lt (by omega)]
  rfl
theorem breakV (Q : PView → Prop) (g : FuncId) (d : Array PView) (hq : ∀ k < d.size, Q d[k]!) (sp : List AV) (b1 cap a b : Nat) (hab : a ≤ b) (hb : b ≤ d.size) (hl : d.size ≤ 1000000000) :
    MSpec Tryz.prog 179 [.sm b1 0 d.size cap, eI a, eI b, .fn g []] (one b1 (memV d sp)) (fun r h' => h' = one b1 (memV (Go.Sort.breakPatterns d a b) sp)) := by
  refine MSpec.of_awp Tryz.func179 (by kernel_rfl) rfl (by rw [Tryz.results179]) Tryz.ntmps179 ?_
  have hw1 : IntKind.i64.wrap ((b : Int) - (a : Int)) = ((b - a : Nat) : Int) := by rw [w64 (by omega) (by omega)] <;> omega
  simp -implicitDefEqProofs [hw1]
  by_cases h8 : 8 ≤ b - a
  · have h8' : (8 : Int) ≤ ((b - a : Nat) : Int) := by omega
    rw [break_big h8]
    obtain ⟨len, hlen⟩ : ∃ len, len = b - a := ⟨_, rfl⟩
    rw [← hlen] at h8 h8' ⊢
    have hwu : IntKind.u64.wrap (len : Int) = (len : Int) := w64u_nat len (by omega)
    obtain ⟨w, hw4⟩ : ∃ w, w = len / 4 := ⟨_, rfl⟩
    rw [← hw4]
    have hq4 : IntKind.i64.wrap ((len : Int) / 4) = (w : Int) := by rw [w64 (by omega) (by omega)] <;> omega
    have hq5 : IntKind.i64.wrap ((w : Int) * 2) = (w : Int) * 2 := by rw [w64 (by omega) (by omega)] <;> omega
    have hq6 : IntKind.i64.wrap ((a : Int) + (w : Int) * 2) = (a : Int) + (w : Int) * 2 := by rw [w64 (by omega) (by omega)] <;> omega
    have hq7 : IntKind.i64.wrap ((a : Int) + (w : Int) * 2 - 1) = ((a + w * 2 - 1 : Nat) : Int) := by rw [w64 (by omega) (by omega)] <;> omega
    have hm2 := bitsLen_le (n := len) (by omega)
    have hm0 : 0 < 1 <<< Go.Sort.bitsLen len := by rw [Nat.shiftLeft_eq, Nat.one_mul]; exact Nat.two_pow_pos _
    have hnp := nextPow_spec len (by omega) (by omega)
    generalize 1 <<< Go.Sort.bitsLen len = m at *
    have e0 : AV.v (.int .u64 (len : Int)) = eR64 (UInt64.ofNat len) := by
      have hh : (UInt64.ofNat len).toBitVec.toNat = len := by
        show (UInt64.ofNat len).toNat = len
        rw [UInt64.toNat_ofNat', Nat.mod_eq_of_lt (by omega)]
      rw [eR64, n64, hh]
    simp -implicitDefEqProofs [h8', hwu]
    refine allocK.intro (fun b2 hb2 => ?_)
    have n21 : ¬ b2 = b1 := by rintro rfl; simp at hb2
    have n12 : ¬ b1 = b2 := fun h => n21 h.symm
    simp -implicitDefEqProofs [n12, n21, h8', hwu]
    refine CallK.with hnp (by simp) ?_
    simp -implicitDefEqProofs [n12, n21, hq4, hq5, hq6, hq7]
    refine loopK.intro (BrkI Q d.size cap a b len w m b1 b2 sp (brk a len m 3 (a + w * 2 - 1) (UInt64.ofNat len, d))) (fun t => a + w * 2 + 3 - natOf (t 11)) ?_ ?_
    · exact ⟨0, _, _, d, rfl, by simp, by simp, by simp, by simp, by simp, by simp, by simp [n12], by simp [n21, n12]; exact e0, rfl, by omega, rfl, hq⟩
    · generalize brk a len m 3 (a + w * 2 - 1) (UInt64.ofNat len, d) = D
      clear hq hnp hw1 e0
      rintro t hh ⟨k, q, r, d2, hqk, g0, g1, g8, g9, g10, g11, k1, k2, hs, hk, hD, hq⟩
      have hqa : IntKind.i64.wrap ((a : Int) + (w : Int) * 2 + 1) = (a : Int) + (w : Int) * 2 + 1 := by rw [w64 (by omega) (by omega)] <;> omega
      by_cases hlt : k < 3
      · obtain ⟨st, hst⟩ : ∃ st, st = 3 - (k + 1) := ⟨_, rfl⟩
        have e3 : 3 - k = st + 1 := by omega
        rw [e3, brk, Go.Sort.breakStep] at hD
        have hlt' : (q : Int) ≤ (a : Int) + (w : Int) * 2 + 1 := by omega
        have hwi : IntKind.i64.wrap ((q : Int) + 1) = ((q + 1 : Nat) : Int) := by rw [w64 (by omega) (by omega)] <;> omega
        have hmu : IntKind.u64.wrap ((m : Int) - 1) = ((m - 1 : Nat) : Int) := by rw [wu64 (by omega) (by omega)] <;> omega
        simp -implicitDefEqProofs [g0, g1, g8, g9, g10, g11, hq4, hq5, hq6, hqa, hlt']
        refine CallK.one (xorshift_spec r b2) rfl (by simp [k2, Weak.refl]) ?_
        generalize Go.Sort.xorNext r = r2 at *
        have hand := and_lt r2 m hm0 (by omega)
        have hle := Nat.and_le_right (n := r2.toNat) (m := m - 1)
        generalize r2.toNat &&& (m - 1) = o at *
        have hwo : IntKind.i64.wrap (o : Int) = (o : Int) := by rw [w64 (by omega) (by omega)]
        have z1 : q < d.size := by omega
        have main : ∀ o2 : Nat, o2 < len → True := fun _ _ => trivial
        by_cases hge : len ≤ o
        · have hge' : (len : Int) ≤ (o : Int) := by omega
          have hws : IntKind.i64.wrap ((o : Int) - (len : Int)) = ((o - len : Nat) : Int) := by rw [w64 (by omega) (by omega)] <;> omega
          simp only [ge_iff_le, hge, if_true] at hD
          simp -implicitDefEqProofs [g0, g1, g8, g9, g10, g11, hmu, eR64, hand, hwo, hge', hws]
          have hol : o - len < len := by omega
          generalize o - len = o2 at *
          clear hge hge' hws
          have hwo2 : IntKind.i64.wrap ((a : Int) + (o2 : Int)) = ((a + o2 : Nat) : Int) := by rw [w64 (by omega) (by omega)] <;> omega
          have z2 : a + o2 < d.size := by omega
          obtain ⟨c2, ⟨q1, q2⟩, ⟨q3, q4⟩, s1, f2, s2⟩ := swapV (d := d2) (sp := sp) (i := q) (j := a + o2) (by omega) (by omega)
          have hss : (Go.Sort.swp d2 (q) (a + o2)).size = d.size := by rw [Go.Sort.swp_size, hs]
          have hqs := swp_allV (Q := Q) (d := d2) (i := q) (j := a + o2) (by omega) (by omega) hq
          generalize hc1 : memV d2 sp = c1 at *
          generalize hsw : Go.Sort.swp d2 (q) (a + o2) = d3 at *
          generalize hc3 : memV d3 sp = c3 at *
          generalize d2[q]! = x at *
          generalize d2[a + o2]! = y at *
          generalize a + o2 = p at *
          have z1' : (p : Int) < (d.size : Int) := by omega
          have z2' : (q : Int) < (d.size : Int) := by omega
          refine regionK.modes [b1] [.r, .r, .q, .q, .q, .q, .r, .r, .r, .r, .r, .r, .q, .q, .q, .r, .r, .l, .r, .l] follows_mixed (by kernel_rfl) ?_
          simp -implicitDefEqProofs [g0, g1, g8, g9, g10, g11, hwo2, z1, z2, z1', z2', n12, n21, k1, q1, q2, q3, q4, s1, s2, f2, eV, hwi]
          exact ⟨⟨k + 1, q + 1, r2, d3, by omega, by simp [g0], by simp [g1], by simp [g8], by simp [g9], by simp [g10], by simp, by simp [hc3], by simp [n12, n21, eR64], hss, by omega, by rw [← hst]; exact hD, hqs⟩, by omega⟩
        · have hge' : ¬ (len : Int) ≤ (o : Int) := by omega
          simp only [ge_iff_le, hge, if_false] at hD
          simp -implicitDefEqProofs [g0, g1, g8, g9, g10, g11, hmu, eR64, hand, hwo, hge']
          have hol : o < len := by omega
          generalize o = o2 at *
          clear hge hge'
          have hwo2 : IntKind.i64.wrap ((a : Int) + (o2 : Int)) = ((a + o2 : Nat) : Int) := by rw [w64 (by omega) (by omega)] <;> omega
          have z2 : a + o2 < d.size := by omega
          obtain ⟨c2, ⟨q1, q2⟩, ⟨q3, q4⟩, s1, f2, s2⟩ := swapV (d := d2) (sp := sp) (i := q) (j := a + o2) (by omega) (by omega)
          have hss : (Go.Sort.swp d2 (q) (a + o2)).size = d.size := by rw [Go.Sort.swp_size, hs]
          have hqs := swp_allV (Q := Q) (d := d2) (i := q) (j := a + o2) (by omega) (by omega) hq
          generalize hc1 : memV d2 sp = c1 at *
          generalize hsw : Go.Sort.swp d2 (q) (a + o2) = d3 at *
          generalize hc3 : memV d3 sp = c3 at *
          generalize d2[q]! = x at *
          generalize d2[a + o2]! = y at *
          generalize a + o2 = p at *
          have z1' : (p : Int) < (d.size : Int) := by omega
          have z2' : (q : Int) < (d.size : Int) := by omega
          refine regionK.modes [b1] [.r, .r, .q, .q, .q, .q, .r, .r, .r, .r, .r, .r, .q, .q, .q, .r, .r, .l, .r, .l] follows_mixed (by kernel_rfl) ?_
          simp -implicitDefEqProofs [g0, g1, g8, g9, g10, g11, hwo2, z1, z2, z1', z2', n12, n21, k1, q1, q2, q3, q4, s1, s2, f2, eV, hwi]
          exact ⟨⟨k + 1, q + 1, r2, d3, by omega, by simp [g0], by simp [g1], by simp [g8], by simp [g9], by simp [g10], by simp, by simp [hc3], by simp [n12, n21, eR64], hss, by omega, by rw [← hst]; exact hD, hqs⟩, by omega⟩
      · have hlt' : ¬ (q : Int) ≤ (a : Int) + (w : Int) * 2 + 1 := by omega
        obtain rfl : k = 3 := by omega
        simp only [Nat.sub_self, brk] at hD
        subst hD
        simp -implicitDefEqProofs [g0, g1, g8, g11, hq4, hq5, hq6, hqa, hlt', k1, Weak.refl]
  · have h8' : ¬ (8 : Int) ≤ ((b - a : Nat) : Int) := by omega
    rw [break_small h8]
    simp -implicitDefEqProofs [h8', Weak.refl]
end Go.Proofs.YtjbbfiagijjdoaaGreat

/- Contracts: the middle of some, the pivot. No condition. Printed by sort/v2.py. -/
set_option linter.unusedSimpArgs false
set_option linter.unusedVariables false
set_option maxRecDepth 10000
namespace Go.Proofs.YtjbbfiagijjdoaaGreat
open Go Go.Rw Go.Proofs
-- a goal is never to be run by the elaborator
attribute [local irreducible] awp aops aop aopsE aeff

theorem order2_in {cm : PView → PView → Int} {d : Array PView} {a b s n : Nat} (ha : a < n) (hb : b < n) : (Go.Sort.order2 (ltV cm) d a b s).1 < n ∧ (Go.Sort.order2 (ltV cm) d a b s).2.1 < n ∧ (Go.Sort.order2 (ltV cm) d a b s).2.2 ≤ s + 1 := by
  unfold Go.Sort.order2; split <;> simp <;> omega
theorem order2V (cm : PView → PView → Int) (Q : PView → Prop) (g : FuncId) (hg : ∀ x y, Q x → Q y → ASpec Tryz.prog g [.agg (eV x), .agg (eV y)] (· = eI (cm x y))) (d : Array PView) (hq : ∀ k < d.size, Q d[k]!) (sp : List AV) (b1 b2 cap a b s : Nat) (n12 : ¬ b1 = b2) (ha : a < d.size) (hb : b < d.size) (hs : s ≤ 1000) (hl : d.size ≤ 1000000000) :
    MSpec Tryz.prog 222 [.sm b1 0 d.size cap, eI a, eI b, .ptr b2 0, .fn g []] (two b1 (memV d sp) b2 [eI s]) (fun r h' => r = .tup [eI (Go.Sort.order2 (ltV cm) d a b s).1, eI (Go.Sort.order2 (ltV cm) d a b s).2.1] ∧ h' = two b1 (memV d sp) b2 [eI (Go.Sort.order2 (ltV cm) d a b s).2.2]) := by
  refine MSpec.of_awp Tryz.func222 (by kernel_rfl) rfl (by rw [Tryz.results222]) Tryz.ntmps222 ?_
  have n21 : ¬ b2 = b1 := fun h => n12 h.symm
  have hx := hg d[b]! d[a]! (hq _ hb) (hq _ ha)
  have hlt : ltV cm d[b]! d[a]! = decide (cm d[b]! d[a]! < 0) := rfl
  obtain ⟨q1, q2⟩ := memV_at (d := d) (sp := sp) (k := b) hb
  obtain ⟨q3, q4⟩ := memV_at (d := d) (sp := sp) (k := a) ha
  have z1' : (b : Int) < (d.size : Int) := by omega
  have z2' : (a : Int) < (d.size : Int) := by omega
  have hw : IntKind.i64.wrap ((s : Int) + 1) = ((s + 1 : Nat) : Int) := by rw [w64 (by omega) (by omega)] <;> omega
  unfold Go.Sort.order2
  rw [hlt]
  generalize d[b]! = x at *
  generalize d[a]! = y at *
  have t1 := two_left (b := b1) (b2 := b2) (c := memV d sp) (c2 := [eI s]) n12
  have t2 := two_right (b := b1) (b2 := b2) (c := memV d sp) (c2 := [eI s])
  generalize two b1 (memV d sp) b2 [eI s] = h0 at *
  generalize memV d sp = c1 at *
  simp -implicitDefEqProofs
  refine regionK.intro 11 follows_mixed (by kernel_rfl) ?_
  simp -implicitDefEqProofs [ha, hb, z1', z2', t1, t2, q1, q2, q3, q4, eV]
  refine CallQ.with hx (by simp [eV]) ?_
  by_cases hcm : cm x y < 0
  · simp -implicitDefEqProofs [hcm, t1, t2, hw, n12, n21, Weak.refl]
    exact sub_two (by simp [n12, t1]) (by simp)
  · simp -implicitDefEqProofs [hcm, t1, t2, n12, n21, Weak.refl]
    exact sub_two t1 t2
theorem median_in {cm : PView → PView → Int} {d : Array PView} {a b c s n : Nat} (ha : a < n) (hb : b < n) (hc : c < n) : (Go.Sort.median (ltV cm) d a b c s).1 < n ∧ (Go.Sort.median (ltV cm) d a b c s).2 ≤ s + 3 := by
  unfold Go.Sort.median
  have h1 := order2_in (cm := cm) (d := d) (s := s) ha hb
  have h2 := order2_in (cm := cm) (d := d) (s := (Go.Sort.order2 (ltV cm) d a b s).2.2) h1.2.1 hc
  have h3 := order2_in (cm := cm) (d := d) (s := (Go.Sort.order2 (ltV cm) d (Go.Sort.order2 (ltV cm) d a b s).2.1 c (Go.Sort.order2 (ltV cm) d a b s).2.2).2.2) h1.1 h2.1
  simp only
  exact ⟨h3.2.1, by omega⟩
theorem medianV (cm : PView → PView → Int) (Q : PView → Prop) (g : FuncId) (hg : ∀ x y, Q x → Q y → ASpec Tryz.prog g [.agg (eV x), .agg (eV y)] (· = eI (cm x y))) (d : Array PView) (hq : ∀ k < d.size, Q d[k]!) (sp : List AV) (b1 b2 cap a b c s : Nat) (n12 : ¬ b1 = b2) (ha : a < d.size) (hb : b < d.size) (hc : c < d.size) (hs : s ≤ 900) (hl : d.size ≤ 1000000000) :
    MSpec Tryz.prog 209 [.sm b1 0 d.size cap, eI a, eI b, eI c, .ptr b2 0, .fn g []] (two b1 (memV d sp) b2 [eI s]) (fun r h' => r = eI (Go.Sort.median (ltV cm) d a b c s).1 ∧ h' = two b1 (memV d sp) b2 [eI (Go.Sort.median (ltV cm) d a b c s).2]) := by
  refine MSpec.of_awp Tryz.func209 (by kernel_rfl) rfl (by rw [Tryz.results209]) Tryz.ntmps209 ?_
  have n21 : ¬ b2 = b1 := fun h => n12 h.symm
  have m1 := order2_in (cm := cm) (d := d) (s := s) ha hb
  have e1 := order2V cm Q g hg d hq sp b1 b2 cap a b s n12 ha hb (by omega) hl
  unfold Go.Sort.median
  generalize Go.Sort.order2 (ltV cm) d a b s = r1 at *
  have m2 := order2_in (cm := cm) (d := d) (s := r1.2.2) m1.2.1 hc
  have e2 := order2V cm Q g hg d hq sp b1 b2 cap r1.2.1 c r1.2.2 n12 m1.2.1 hc (by omega) hl
  simp only
  generalize Go.Sort.order2 (ltV cm) d r1.2.1 c r1.2.2 = r2 at *
  have m3 := order2_in (cm := cm) (d := d) (s := r2.2.2) m1.1 m2.1
  have e3 := order2V cm Q g hg d hq sp b1 b2 cap r1.1 r2.1 r2.2.2 n12 m1.1 m2.1 (by omega) hl
  generalize Go.Sort.order2 (ltV cm) d r1.1 r2.1 r2.2.2 = r3 at *
  obtain ⟨x1, y1, s1⟩ := r1
  obtain ⟨x2, y2, s2⟩ := r2
  obtain ⟨x3, y3, s3⟩ := r3
  simp only at *
  have t1 := two_left (b := b1) (b2 := b2) (c := memV d sp) (c2 := [eI s]) n12
  have t2 := two_right (b := b1) (b2 := b2) (c := memV d sp) (c2 := [eI s])
  generalize two b1 (memV d sp) b2 [eI s] = h0 at t1 t2 ⊢
  simp -implicitDefEqProofs
  refine CallK.mh e1 (by simp) (sub_two t1 t2) ?_
  rintro r h' H ⟨rfl, rfl⟩ - hH -
  have k1 := hH b1 _ (two_left n12)
  have k2 := hH b2 _ two_right
  simp -implicitDefEqProofs
  refine CallK.mh e2 (by simp) (sub_two k1 k2) ?_
  rintro r h' H2 ⟨rfl, rfl⟩ - hH -
  have k3 := hH b1 _ (two_left n12)
  have k4 := hH b2 _ two_right
  simp -implicitDefEqProofs
  refine CallK.mh e3 (by simp) (sub_two k3 k4) ?_
  rintro r h' H3 ⟨rfl, rfl⟩ - hH -
  have k5 := hH b1 _ (two_left n12)
  have k6 := hH b2 _ two_right
  simp -implicitDefEqProofs
  exact sub_two k5 k6
theorem medAdjV (cm : PView → PView → Int) (Q : PView → Prop) (g : FuncId) (hg : ∀ x y, Q x → Q y → ASpec Tryz.prog g [.agg (eV x), .agg (eV y)] (· = eI (cm x y))) (d : Array PView) (hq : ∀ k < d.size, Q d[k]!) (sp : List AV) (b1 b2 cap a s : Nat) (n12 : ¬ b1 = b2) (h0 : 1 ≤ a) (ha : a + 1 < d.size) (hs : s ≤ 900) (hl : d.size ≤ 1000000000) :
    MSpec Tryz.prog 208 [.sm b1 0 d.size cap, eI a, .ptr b2 0, .fn g []] (two b1 (memV d sp) b2 [eI s]) (fun r h' => r = eI (Go.Sort.medianAdjacent (ltV cm) d a s).1 ∧ h' = two b1 (memV d sp) b2 [eI (Go.Sort.medianAdjacent (ltV cm) d a s).2]) := by
  refine MSpec.of_awp Tryz.func208 (by kernel_rfl) rfl (by rw [Tryz.results208]) Tryz.ntmps208 ?_
  have e1 := medianV cm Q g hg d hq sp b1 b2 cap (a - 1) a (a + 1) s n12 (by omega) (by omega) ha hs hl
  have hw1 : IntKind.i64.wrap ((a : Int) - 1) = ((a - 1 : Nat) : Int) := by rw [w64 (by omega) (by omega)] <;> omega
  have hw2 : IntKind.i64.wrap ((a : Int) + 1) = ((a + 1 : Nat) : Int) := by rw [w64 (by omega) (by omega)] <;> omega
  unfold Go.Sort.medianAdjacent
  generalize Go.Sort.median (ltV cm) d (a - 1) a (a + 1) s = m at *
  have t1 := two_left (b := b1) (b2 := b2) (c := memV d sp) (c2 := [eI s]) n12
  have t2 := two_right (b := b1) (b2 := b2) (c := memV d sp) (c2 := [eI s])
  generalize two b1 (memV d sp) b2 [eI s] = h0 at t1 t2 ⊢
  simp -implicitDefEqProofs [hw1, hw2]
  refine CallK.mh e1 (by simp) (sub_two t1 t2) ?_
  rintro r h' H ⟨rfl, rfl⟩ - hH -
  simp -implicitDefEqProofs
  exact sub_two (hH b1 _ (two_left n12)) (hH b2 _ two_right)
def hintN : Go.Sort.Hint → Nat
  | .unknown => 0
  | .increasing => 1
  | .decreasing => 2
def ChM (cm : PView → PView → Int) (n cap a b b1 b2 : Nat) (g : FuncId) (d : Array PView) (sp : List AV) (D : Nat × Nat) (t : Nat → AV) (h : Nat → Option (List AV)) : Prop := ∃ i j k s : Nat, t 0 = .sm b1 0 n cap ∧ t 3 = .fn g [] ∧ t 11 = .ptr b2 0 ∧ t 12 = eI i ∧ t 13 = eI j ∧ t 14 = eI k ∧ h b1 = some (memV d sp) ∧ h b2 = some [eI s] ∧ i < n ∧ j < n ∧ k < n ∧ s ≤ 9 ∧ Go.Sort.median (ltV cm) d i j k s = D
theorem choose_eq {cm : PView → PView → Int} {d : Array PView} {a b : Nat} (h8 : 8 ≤ b - a) : ∃ D : Nat × Nat, Go.Sort.choosePivot (ltV cm) d a b = (D.1, if D.2 = 0 then .increasing else if D.2 = 12 then .decreasing else .unknown) ∧
    (¬ 50 ≤ b - a → Go.Sort.median (ltV cm) d (a + (b - a) / 4 * 1) (a + (b - a) / 4 * 2) (a + (b - a) / 4 * 3) 0 = D) ∧
    (50 ≤ b - a → Go.Sort.median (ltV cm) d (Go.Sort.medianAdjacent (ltV cm) d (a + (b - a) / 4 * 1) 0).1 (Go.Sort.medianAdjacent (ltV cm) d (a + (b - a) / 4 * 2) (Go.Sort.medianAdjacent (ltV cm) d (a + (b - a) / 4 * 1) 0).2).1
      (Go.Sort.medianAdjacent (ltV cm) d (a + (b - a) / 4 * 3) (Go.Sort.medianAdjacent (ltV cm) d (a + (b - a) / 4 * 2) (Go.Sort.medianAdjacent (ltV cm) d (a + (b - a) / 4 * 1) 0).2).2).1 (Go.Sort.medianAdjacent (ltV cm) d (a + (b - a) / 4 * 3) (Go.Sort.medianAdjacent (ltV cm) d (a + (b - a) / 4 * 2) (Go.Sort.medianAdjacent (ltV cm) d (a + (b - a) / 4 * 1) 0).2).2).2 = D) := by
  unfold Go.Sort.choosePivot
  by_cases h : 50 ≤ b - a
  · exact ⟨_, by simp only [ge_iff_le, h8, h, if_true], fun h2 => absurd h h2, fun _ => rfl⟩
  · exact ⟨_, by simp only [ge_iff_le, h8, h, if_true, if_false], fun _ => rfl, fun h2 => absurd h2 h⟩
theorem choosePivotV (cm : PView → PView → Int) (Q : PView → Prop) (g : FuncId) (hg : ∀ x y, Q x → Q y → ASpec Tryz.prog g [.agg (eV x), .agg (eV y)] (· = eI (cm x y))) (d : Array PView) (hq : ∀ k < d.size, Q d[k]!) (sp : List AV) (b1 cap a b : Nat) (h8 : 8 ≤ b - a) (hb : b ≤ d.size) (hl : d.size ≤ 1000000000) :
    MSpec Tryz.prog 180 [.sm b1 0 d.size cap, eI a, eI b, .fn g []] (one b1 (memV d sp)) (fun r h' => r = .tup [eI (Go.Sort.choosePivot (ltV cm) d a b).1, eI (hintN (Go.Sort.choosePivot (ltV cm) d a b).2)] ∧ h' = one b1 (memV d sp)) := by
  refine MSpec.of_awp Tryz.func180 (by kernel_rfl) rfl (by rw [Tryz.results180]) Tryz.ntmps180 ?_
  obtain ⟨D, hD, hS, hB⟩ := choose_eq (cm := cm) (d := d) h8
  rw [hD]
  have hw1 : IntKind.i64.wrap ((b : Int) - (a : Int)) = ((b - a : Nat) : Int) := by rw [w64 (by omega) (by omega)] <;> omega
  obtain ⟨len, hlen⟩ : ∃ len, len = b - a := ⟨_, rfl⟩
  rw [← hlen] at h8 hw1 hS hB
  obtain ⟨w, hw4⟩ : ∃ w, w = len / 4 := ⟨_, rfl⟩
  rw [← hw4] at hS hB
  have hq4 : IntKind.i64.wrap ((len : Int) / 4) = (w : Int) := by rw [w64 (by omega) (by omega)] <;> omega
  have hm0 : IntKind.i64.wrap (w : Int) = (w : Int) := by rw [w64 (by omega) (by omega)] <;> omega
  have hm1 : IntKind.i64.wrap ((w : Int) * 1) = (w : Int) := by rw [w64 (by omega) (by omega)] <;> omega
  have hm2 : IntKind.i64.wrap ((w : Int) * 2) = (w : Int) * 2 := by rw [w64 (by omega) (by omega)] <;> omega
  have hm3 : IntKind.i64.wrap ((w : Int) * 3) = (w : Int) * 3 := by rw [w64 (by omega) (by omega)] <;> omega
  have hp1 : IntKind.i64.wrap ((a : Int) + (w : Int)) = ((a + w * 1 : Nat) : Int) := by rw [w64 (by omega) (by omega)] <;> omega
  have hp2 : IntKind.i64.wrap ((a : Int) + (w : Int) * 2) = ((a + w * 2 : Nat) : Int) := by rw [w64 (by omega) (by omega)] <;> omega
  have hp3 : IntKind.i64.wrap ((a : Int) + (w : Int) * 3) = ((a + w * 3 : Nat) : Int) := by rw [w64 (by omega) (by omega)] <;> omega
  have r1 : a + w * 1 + 1 < d.size := by omega
  have r2 : a + w * 2 + 1 < d.size := by omega
  have r3 : a + w * 3 + 1 < d.size := by omega
  have l1 : 50 ≤ len → 1 ≤ a + w * 1 := by omega
  have l2 : 50 ≤ len → 1 ≤ a + w * 2 := by omega
  have l3 : 50 ≤ len → 1 ≤ a + w * 3 := by omega
  generalize hi1 : a + w * 1 = i at *
  generalize hi2 : a + w * 2 = j at *
  generalize hi3 : a + w * 3 = k at *
  have h8' : (8 : Int) ≤ (len : Int) := by omega
  simp -implicitDefEqProofs [hw1]
  refine allocK.intro (fun b2 hb2 => ?_)
  have n21 : ¬ b2 = b1 := by rintro rfl; simp at hb2
  have n12 : ¬ b1 = b2 := fun h => n21 h.symm
  have e50 : decide ((50 : Int) ≤ (len : Int)) = decide (50 ≤ len) := by by_cases h : 50 ≤ len <;> simp [h] <;> omega
  simp -implicitDefEqProofs [n12, n21, hw1, hq4, hm0, hm1, hm2, hm3, hp1, hp2, hp3, h8', e50]
  refine branch_join (ChM cm d.size cap a b b1 b2 g d sp D) (fun hb => ?_) (fun hb => ?_) ?_
  · have h50 : 50 ≤ len := by simpa using hb
    have hB := hB h50
    have v1 := median_in (cm := cm) (d := d) (a := i - 1) (b := i) (c := i + 1) (s := 0) (n := d.size) (by omega) (by omega) (by omega)
    change (Go.Sort.medianAdjacent (ltV cm) d i 0).1 < d.size ∧ (Go.Sort.medianAdjacent (ltV cm) d i 0).2 ≤ 0 + 3 at v1
    have e1 := medAdjV cm Q g hg d hq sp b1 b2 cap i 0 n12 (l1 h50) r1 (by omega) hl
    generalize Go.Sort.medianAdjacent (ltV cm) d i 0 = m1 at *
    have v2 := median_in (cm := cm) (d := d) (a := j - 1) (b := j) (c := j + 1) (s := m1.2) (n := d.size) (by omega) (by omega) (by omega)
    change (Go.Sort.medianAdjacent (ltV cm) d j m1.2).1 < d.size ∧ (Go.Sort.medianAdjacent (ltV cm) d j m1.2).2 ≤ m1.2 + 3 at v2
    have e2 := medAdjV cm Q g hg d hq sp b1 b2 cap j m1.2 n12 (l2 h50) r2 (by omega) hl
    generalize Go.Sort.medianAdjacent (ltV cm) d j m1.2 = m2 at *
    have v3 := median_in (cm := cm) (d := d) (a := k - 1) (b := k) (c := k + 1) (s := m2.2) (n := d.size) (by omega) (by omega) (by omega)
    change (Go.Sort.medianAdjacent (ltV cm) d k m2.2).1 < d.size ∧ (Go.Sort.medianAdjacent (ltV cm) d k m2.2).2 ≤ m2.2 + 3 at v3
    have e3 := medAdjV cm Q g hg d hq sp b1 b2 cap k m2.2 n12 (l3 h50) r3 (by omega) hl
    generalize Go.Sort.medianAdjacent (ltV cm) d k m2.2 = m3 at *
    simp -implicitDefEqProofs [n12, n21]
    refine CallK.mh e1 (by simp) (sub_two (by simp [n12, n21]) (by simp [n12, n21])) ?_
    rintro r h' H ⟨rfl, rfl⟩ - hH -
    have k1 := hH b1 _ (two_left n12)
    have k2 := hH b2 _ two_right
    simp -implicitDefEqProofs
    refine CallK.mh e2 (by simp) (sub_two k1 k2) ?_
    rintro r h' H2 ⟨rfl, rfl⟩ - hH -
    have k3 := hH b1 _ (two_left n12)
    have k4 := hH b2 _ two_right
    simp -implicitDefEqProofs
    refine CallK.mh e3 (by simp) (sub_two k3 k4) ?_
    rintro r h' H3 ⟨rfl, rfl⟩ - hH -
    have k5 := hH b1 _ (two_left n12)
    have k6 := hH b2 _ two_right
    simp -implicitDefEqProofs
    exact ⟨m1.1, m2.1, m3.1, m3.2, by simp, by simp, by simp, by simp, by simp, by simp, by simpa using k5, by simpa using k6, by omega, by omega, by omega, by omega, hB⟩
  · have h50 : ¬ 50 ≤ len := by simpa using hb
    simp -implicitDefEqProofs
    exact ⟨i, j, k, 0, by simp, by simp, by simp, by simp, by simp, by simp, by simp [n12, n21], by simp [n12, n21], by omega, by omega, by omega, by omega, hS h50⟩
  · clear hS hB
    rintro t hh ⟨i, j, k, s, g0, g3, g11, g12, g13, g14, k1, k2, hi, hj, hk, hs, hD⟩
    have e1 := medianV cm Q g hg d hq sp b1 b2 cap i j k s n12 hi hj hk (by omega) hl
    rw [hD] at e1
    have hD2 := (median_in (cm := cm) (d := d) (s := s) hi hj hk).2
    rw [hD] at hD2
    obtain ⟨p, w⟩ := D
    simp only at *
    simp -implicitDefEqProofs [g0, g3, g11, g12, g13, g14]
    refine CallK.mh e1 (by simp) (sub_two k1 k2) ?_
    rintro r h' H ⟨rfl, rfl⟩ - hH -
    have k1 := hH b1 _ (two_left n12)
    have k2 := hH b2 _ two_right
    simp -implicitDefEqProofs [g11, k2]
    by_cases w0 : w = 0
    · subst w0
      simp -implicitDefEqProofs [hintN, k1, Weak.refl]
    · have w0' : ¬ (w : Int) = 0 := by omega
      by_cases w12 : w = 12
      · subst w12
        simp -implicitDefEqProofs [hintN, k1, Weak.refl]
      · have w12' : ¬ (w : Int) = 12 := by omega
        simp -implicitDefEqProofs [w0, w0', w12, w12', hintN, k1, Weak.refl]
end Go.Proofs.YtjbbfiagijjdoaaGreat
