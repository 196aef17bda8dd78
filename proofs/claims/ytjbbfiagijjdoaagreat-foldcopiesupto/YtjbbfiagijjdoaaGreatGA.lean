/- Parts of the proof: what is used by the law. No condition. -/
import Derived.Lib.BitFns
import Derived.Test.YtjbbfiagijjdoaaGreatRwR
set_option linter.unusedSimpArgs false
set_option linter.unusedVariables false
/- Plain functions on bytes: forms of numbers. No condition. -/
set_option linter.unusedSimpArgs false
set_option linter.unusedVariables false
namespace Go.Proofs.YtjbbfiagijjdoaaGreat
open Go Go.Proofs

/-- how many bytes a number has -/
def sizeN (n : Nat) : Nat := (Lib.bitLen n + 7) / 8
/-- k bytes of a number, the highest first -/
def dig : Nat → Nat → List UInt8
  | 0, _ => []
  | k + 1, n => UInt8.ofNat (n / 256 ^ k) :: dig k n
def formF (n : Nat) : List UInt8 := UInt8.ofNat (sizeN n) :: dig (sizeN n) n
def forms (ns : List Nat) : List UInt8 := ns.flatMap formF

@[simp] theorem dig_length (k n : Nat) : (dig k n).length = k := by
  induction k with
  | zero => rfl
  | succ k ih => simp [dig, ih]
@[simp] theorem forms_nil : forms [] = [] := rfl
/-- the number of bytes, the highest first -/
def valN (l : List UInt8) : Nat := l.foldl (fun n x => n * 256 + x.toNat) 0
/-- the number with which bytes begin, and the rest -/
def getF (l : List UInt8) : Option (Nat × List UInt8) :=
  match l with
  | [] => none
  | x :: r => if x.toNat > 8 ∨ x.toNat > r.length then none else if sizeN (valN (r.take x.toNat)) = x.toNat then some (valN (r.take x.toNat), r.drop x.toNat) else none

end Go.Proofs.YtjbbfiagijjdoaaGreat

/- Plain functions on bytes: sums and frames. No condition. -/
set_option linter.unusedSimpArgs false
set_option linter.unusedVariables false
namespace Go.Proofs.YtjbbfiagijjdoaaGreat
open Go Go.Proofs

/-- one bit of a sum -/
def crcBit (c : BitVec 32) : BitVec 32 := (c >>> 1) ^^^ (3988292384#32 &&& -(c &&& 1#32))
def crcBits : Nat → BitVec 32 → BitVec 32
  | 0, c => c
  | k + 1, c => crcBits k (crcBit c)
def crcByte (c : BitVec 32) (x : UInt8) : BitVec 32 := crcBits 8 (c ^^^ BitVec.ofNat 32 x.toNat)
def crcL (c : BitVec 32) (l : List UInt8) : BitVec 32 := l.foldl crcByte c
def crcOf (l : List UInt8) : BitVec 32 := ~~~ (crcL (BitVec.allOnes 32) l)
/-- a sum's bytes -/
def tailF (c : BitVec 32) : List UInt8 := [UInt8.ofNat c.toNat, UInt8.ofNat (c.toNat / 256), UInt8.ofNat (c.toNat / 65536), UInt8.ofNat (c.toNat / 16777216)]
def sealF (l : List UInt8) : List UInt8 := l ++ tailF (crcOf l)
def openF (f : List UInt8) : Option (List UInt8) := if f.length < 4 then none else if tailF (crcOf (f.take (f.length - 4))) = f.drop (f.length - 4) then some (f.take (f.length - 4)) else none

@[simp] theorem crcL_nil (c : BitVec 32) : crcL c [] = c := rfl
@[simp] theorem crcL_cons (c : BitVec 32) (x : UInt8) (l : List UInt8) : crcL c (x :: l) = crcL (crcByte c x) l := rfl
@[simp] theorem tailF_length (c : BitVec 32) : (tailF c).length = 4 := rfl
@[simp] theorem sealF_length (l : List UInt8) : (sealF l).length = l.length + 4 := by simp [sealF]
end Go.Proofs.YtjbbfiagijjdoaaGreat

/- Plain data: sets of changes, tags, entries, cells, messages. No condition. -/
set_option linter.unusedSimpArgs false
set_option linter.unusedVariables false
namespace Go.Proofs.YtjbbfiagijjdoaaGreat
open Go Go.Proofs

structure PView where
  add : Int
  del : Int
  deriving DecidableEq
structure PTag where
  num : Int
  node : Int
  deriving DecidableEq
structure PEntry where
  key : Int
  tag : PTag
  value : Nat
  deriving DecidableEq
structure PCell where
  node : Int
  change : PView
  deriving DecidableEq
structure PMsg where
  kind : Int
  frm : Int
  to : Int
  inc : Int
  seq : Int
  view : PView
  cells : List PCell
  book : List PEntry
  deriving DecidableEq

def betweenB (n least most : Int) : Bool := decide (least ≤ n ∧ n ≤ most)
def rightV (v : PView) : Bool := decide ((0 ≤ v.add ∧ v.add < 64) ∧ 0 ≤ v.del ∧ v.del < 64)
def rightT (t : PTag) : Bool := decide ((0 ≤ t.num ∧ t.num ≤ 1000000 ∧ 0 ≤ t.node ∧ t.node < 6) ∧ (0 < t.num ∨ t.node = 0))
def nameV (v : PView) : Int := v.add * 64 + v.del
/-- the bits in one form -/
def cleanB (nan : Nat → Bool) (b : Nat) : Nat := if nan b then 9221120237041090561 else b
/-- how many bits are set -/
def popN : Nat → Nat → Nat
  | 0, _ => 0
  | k + 1, n => n % 2 + popN k (n / 2)
def sizeV (v : PView) : Int := (popN 64 v.add.toNat : Int) + popN 64 v.del.toNat
def okC (last : Int) (c : PCell) : Bool := decide (last < c.node) && decide (c.node < 6) && rightV c.change && !decide (sizeV c.change = 0)
def checkC : Int → List PCell → Bool
  | _, [] => true
  | last, c :: l => okC last c && checkC c.node l
def okE (last : Int) (x : PEntry) : Bool := decide (last < x.key) && decide (x.key < 4) && rightT x.tag && !decide (x.tag.num = 0)
def checkE : Int → List PEntry → Bool
  | _, [] => true
  | last, x :: l => okE last x && checkE x.key l
theorem okE_1 (last : Int) (c : PEntry) (h : c.key ≤ last) : okE last c = false := by
  have : ¬ last < c.key := by omega
  simp [okE, this]
theorem okE_2 (last : Int) (c : PEntry) (h : 4 ≤ c.key) : okE last c = false := by
  have : ¬ c.key < 4 := by omega
  simp [okE, this]
theorem okE_3 (last : Int) (c : PEntry) (h : rightT c.tag = false) : okE last c = false := by
  simp [okE, h]
theorem okE_4 (last : Int) (c : PEntry) (h : c.tag.num = 0) : okE last c = false := by
  simp [okE, h]
theorem okE_5 (last : Int) (c : PEntry) (h1 : ¬ c.key ≤ last) (h2 : ¬ 4 ≤ c.key) (h3 : rightT c.tag = true) (h4 : ¬ c.tag.num = 0) : okE last c = true := by
  have h5 : last < c.key := by omega
  have h6 : c.key < 4 := by omega
  simp [okE, h5, h6, h3, h4]
/-- the message can be -/
def rightM (m : PMsg) : Bool :=
  betweenB m.kind 0 7 && betweenB m.frm 0 5 && betweenB m.to 0 5 && betweenB m.inc 1 1000000 && betweenB m.seq 1 1000000 &&
  (decide (m.cells = []) || decide (m.kind = 1) || decide (m.kind = 5)) && (decide (m.book = []) || decide (m.kind = 3) || decide (m.kind = 6)) &&
  rightV m.view && checkC (-1) m.cells && checkE (-1) m.book
attribute [irreducible] sizeV
end Go.Proofs.YtjbbfiagijjdoaaGreat

/- Plain functions: the numbers of a message. No condition. -/
set_option linter.unusedSimpArgs false
set_option linter.unusedVariables false
namespace Go.Proofs.YtjbbfiagijjdoaaGreat
open Go Go.Proofs

theorem nameV_lt {v : PView} (h : rightV v = true) : 0 ≤ nameV v ∧ nameV v < 4096 := by
  simp [rightV] at h
  unfold nameV; omega
theorem okE_of {last : Int} {c : PEntry} (h : okE last c = true) : last < c.key ∧ c.key < 4 ∧ rightT c.tag = true ∧ c.tag.num ≠ 0 := by
  simp [okE] at h
  exact ⟨h.1.1.1, h.1.1.2, h.1.2, h.2⟩
structure RightM (m : PMsg) : Prop where
  kind : 0 ≤ m.kind ∧ m.kind ≤ 7
  frm : 0 ≤ m.frm ∧ m.frm ≤ 5
  to : 0 ≤ m.to ∧ m.to ≤ 5
  inc : 1 ≤ m.inc ∧ m.inc ≤ 1000000
  seq : 1 ≤ m.seq ∧ m.seq ≤ 1000000
  view : rightV m.view = true
  clen : m.cells.length ≤ 6
  blen : m.book.length ≤ 4
  cells : ∀ c ∈ m.cells, 0 ≤ c.node ∧ c.node < 6 ∧ rightV c.change = true
  book : ∀ c ∈ m.book, 0 ≤ c.key ∧ c.key < 4 ∧ rightT c.tag = true
/-- the numbers of a message -/
def numC (c : PCell) : List Int := [c.node, nameV c.change]
def numE (bits : Nat → Nat) (x : PEntry) : List Nat := [x.key.toNat, x.tag.num.toNat, x.tag.node.toNat, bits x.value]
def headN (m : PMsg) : List Int := [m.kind, m.frm, m.to, m.inc, m.seq, nameV m.view, (m.cells.length : Int)]
def numsM (bits : Nat → Nat) (m : PMsg) : List Nat := (headN m).map Int.toNat ++ m.cells.flatMap (fun c => (numC c).map Int.toNat) ++ [m.book.length] ++ m.book.flatMap (numE bits)
def frameF (bits : Nat → Nat) (m : PMsg) : List UInt8 := sealF (forms (numsM bits m))
@[simp] theorem forms_append (a b : List Nat) : forms (a ++ b) = forms a ++ forms b := by simp [forms]
end Go.Proofs.YtjbbfiagijjdoaaGreat

/- Plain functions: bytes that are read, number by number. No condition. -/
set_option linter.unusedSimpArgs false
set_option linter.unusedVariables false
namespace Go.Proofs.YtjbbfiagijjdoaaGreat
open Go Go.Proofs

/-- bytes that are read: the rest, and whether something was wrong -/
abbrev Rd := List UInt8 × Bool
def rdBits (r : Rd) : Nat × Rd := match getF r.1 with
  | some (n, l) => if r.2 = true then (0, (r.1, true)) else (n, (l, false))
  | none => (0, (r.1, true))
def rdInt (r : Rd) : Int × Rd := if 1000000 < (rdBits r).1 then (0, ((rdBits r).2.1, true)) else (((rdBits r).1 : Int), (rdBits r).2)
def viewN (n : Int) : PView := if 0 ≤ n ∧ n < 4096 then ⟨n / 64, n % 64⟩ else ⟨0, 0⟩
def rdView (r : Rd) : PView × Rd := (viewN (rdInt r).1, ((rdInt r).2.1, (rdInt r).2.2 || !decide (0 ≤ (rdInt r).1 ∧ (rdInt r).1 < 4096)))
def rdMany (most : Int) (r : Rd) : Int × Rd := if most < (rdInt r).1 then (0, ((rdInt r).2.1, true)) else rdInt r
def rdSt (r : Rd) : Nat → Rd
  | 0 => r
  | k + 1 => (rdInt (rdSt r k)).2
def rdVal (r : Rd) (k : Nat) : Int := (rdInt (rdSt r k)).1
def rdCell (r : Rd) : PCell × Rd := (⟨(rdInt r).1, (rdView (rdInt r).2).1⟩, (rdView (rdInt r).2).2)
def rdEntry (cl : Nat → Nat) (r : Rd) : PEntry × Rd :=
  (⟨(rdInt r).1, ⟨(rdInt (rdInt r).2).1, (rdInt (rdInt (rdInt r).2).2).1⟩, cl (rdBits (rdInt (rdInt (rdInt r).2).2).2).1⟩,
   ((rdBits (rdInt (rdInt (rdInt r).2).2).2).2.1, (rdBits (rdInt (rdInt (rdInt r).2).2).2).2.2 || !decide (cl (cl (rdBits (rdInt (rdInt (rdInt r).2).2).2).1) = (rdBits (rdInt (rdInt (rdInt r).2).2).2).1)))
def rdL {α : Type} (f : Rd → α × Rd) : Nat → Rd → List α × Rd
  | 0, r => ([], r)
  | k + 1, r => ((rdL f k r).1 ++ [(f (rdL f k r).2).1], (f (rdL f k r).2).2)
def msgAt (r : Rd) (k : Nat) (v : PView) (cs : List PCell) (es : List PEntry) : PMsg := ⟨if 0 < k then rdVal r 0 else 0, if 1 < k then rdVal r 1 else 0, if 2 < k then rdVal r 2 else 0, if 3 < k then rdVal r 3 else 0, if 4 < k then rdVal r 4 else 0, v, cs, es⟩
def rdV (r : Rd) : PView × Rd := rdView (rdSt r 5)
def rdNC (r : Rd) : Int × Rd := rdMany 6 (rdV r).2
def rdCs (r : Rd) : List PCell × Rd := rdL rdCell (rdNC r).1.toNat (rdNC r).2
def rdNE (r : Rd) : Int × Rd := rdMany 4 (rdCs r).2
def rdEs (cl : Nat → Nat) (r : Rd) : List PEntry × Rd := rdL (rdEntry cl) (rdNE r).1.toNat (rdNE r).2
def rdMsg (cl : Nat → Nat) (r : Rd) : PMsg := msgAt r 5 (rdV r).1 (rdCs r).1 (rdEs cl r).1
def readF (cl : Nat → Nat) (frame : List UInt8) : Option PMsg := match openF frame with
  | none => none
  | some b => if (rdEs cl (b, false)).2.2 = true ∨ 0 < (rdEs cl (b, false)).2.1.length ∨ rightM (rdMsg cl (b, false)) = false then none else some (rdMsg cl (b, false))

end Go.Proofs.YtjbbfiagijjdoaaGreat

/- Plain functions: bits side by side are turned. No condition. -/
set_option linter.unusedSimpArgs false
set_option linter.unusedVariables false
namespace Go.Proofs.YtjbbfiagijjdoaaGreat
open Go Go.Proofs

/-- one bit is turned -/
def flipBit (l : List UInt8) (i : Nat) : List UInt8 := l.modify (i / 8) fun x => x ^^^ UInt8.ofNat (2 ^ (i % 8))
def burstK (l : List UInt8) (at_ : Nat) (mask : BitVec 32) : Nat → List UInt8
  | 0 => l
  | k + 1 => if mask.getLsbD k = true then flipBit (burstK l at_ mask k) (at_ + k) else burstK l at_ mask k
def wide (mask : BitVec 32) : Nat := Lib.bitLen mask.toNat
def burstF (l : List UInt8) (at_ : Int) (mask : BitVec 32) : List UInt8 :=
  if at_ < 0 ∨ (0 < wide mask ∧ 8 * (l.length : Int) - wide mask < at_) then l else burstK l at_.toNat mask (wide mask)
@[simp] theorem flipBit_length (l : List UInt8) (i : Nat) : (flipBit l i).length = l.length := by simp [flipBit]
@[simp] theorem burstK_length (l : List UInt8) (a : Nat) (m : BitVec 32) (k : Nat) : (burstK l a m k).length = l.length := by
  induction k with
  | zero => rfl
  | succ k ih => simp only [burstK]; split <;> simp [ih]
@[simp] theorem burstF_length (l : List UInt8) (a : Int) (m : BitVec 32) : (burstF l a m).length = l.length := by
  unfold burstF; split <;> simp
end Go.Proofs.YtjbbfiagijjdoaaGreat

/- Plain laws: what is written as numbers is read as them; messages there and back. No condition. -/
set_option linter.unusedSimpArgs false
set_option linter.unusedVariables false
namespace Go.Proofs.YtjbbfiagijjdoaaGreat
open Go Go.Proofs

theorem viewN_name {v : PView} (h : rightV v = true) : viewN (nameV v) = v := by
  have h1 := nameV_lt h
  simp [rightV] at h
  simp only [viewN, h1, and_self, if_true]
  obtain ⟨a, d⟩ := v
  simp only [nameV] at *
  congr 1 <;> omega
def cleanE (cl : Nat → Nat) (x : PEntry) : PEntry := ⟨x.key, x.tag, cl x.value⟩
def cleanM (cl : Nat → Nat) (m : PMsg) : PMsg := ⟨m.kind, m.frm, m.to, m.inc, m.seq, m.view, m.cells, m.book.map (cleanE cl)⟩
end Go.Proofs.YtjbbfiagijjdoaaGreat

/- Plain laws: how long a message's frame is; unlike messages have unlike frames. No condition. -/
set_option linter.unusedSimpArgs false
set_option linter.unusedVariables false
namespace Go.Proofs.YtjbbfiagijjdoaaGreat
open Go Go.Proofs

end Go.Proofs.YtjbbfiagijjdoaaGreat

/- Plain laws: the sum finds every burst of at most 32 bits. No condition. -/
set_option linter.unusedSimpArgs false
set_option linter.unusedVariables false
namespace Go.Proofs.YtjbbfiagijjdoaaGreat
open Go Go.Proofs

def bit1 (b : Bool) : BitVec 32 := if b = true then 1#32 else 0#32
def poly (b : Bool) : BitVec 32 := if b = true then 3988292384#32 else 0#32
/-- bits in turn -/
def crcStep (c : BitVec 32) (b : Bool) : BitVec 32 := crcBit (c ^^^ bit1 b)
def crcS (c : BitVec 32) (bs : List Bool) : BitVec 32 := bs.foldl crcStep c
@[simp] theorem crcS_nil (c : BitVec 32) : crcS c [] = c := rfl
@[simp] theorem crcS_cons (c : BitVec 32) (b : Bool) (l : List Bool) : crcS c (b :: l) = crcS (crcStep c b) l := rfl
def bitsN (k n : Nat) : List Bool := (List.range k).map n.testBit
@[simp] theorem bitsN_length (k n : Nat) : (bitsN k n).length = k := by simp [bitsN]
def toBits (l : List UInt8) : List Bool := l.flatMap fun x => bitsN 8 x.toNat
@[simp] theorem toBits_nil : toBits [] = [] := rfl
theorem toBits_cons (x : UInt8) (l : List UInt8) : toBits (x :: l) = bitsN 8 x.toNat ++ toBits l := rfl
@[simp] theorem toBits_length : ∀ l : List UInt8, (toBits l).length = 8 * l.length
  | [] => rfl
  | x :: l => by rw [toBits_cons, List.length_append, bitsN_length, toBits_length l, List.length_cons]; omega
end Go.Proofs.YtjbbfiagijjdoaaGreat
