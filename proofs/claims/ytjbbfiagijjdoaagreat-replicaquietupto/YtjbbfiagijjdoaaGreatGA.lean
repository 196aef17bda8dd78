/- Parts of the proof: what is used by the law. No condition. -/
import Derived.Lib.BitFns
import Derived.Test.YtjbbfiagijjdoaaGreatRwR
set_option linter.unusedSimpArgs false
set_option linter.unusedVariables false
/- Plain functions on bytes: forms of numbers. No condition. -/
set_option linter.unusedSimpArgs false
set_option linter.unusedVariables false
namespace Go.Proofs.YtjbbfiagijjdoaaGreat
open Go Go.Proofs

/-- how many bytes a number has -/
def sizeN (n : Nat) : Nat := (Lib.bitLen n + 7) / 8
/-- k bytes of a number, the highest first -/
def dig : Nat → Nat → List UInt8
  | 0, _ => []
  | k + 1, n => UInt8.ofNat (n / 256 ^ k) :: dig k n
def formF (n : Nat) : List UInt8 := UInt8.ofNat (sizeN n) :: dig (sizeN n) n
def forms (ns : List Nat) : List UInt8 := ns.flatMap formF

@[simp] theorem dig_length (k n : Nat) : (dig k n).length = k := by
  induction k with
  | zero => rfl
  | succ k ih => simp [dig, ih]
theorem formF_length (n : Nat) : (formF n).length = sizeN n + 1 := by simp [formF]
theorem sizeN_le {n : Nat} (h : n < 18446744073709551616) : sizeN n ≤ 8 := by
  have := Lib.bitLen_le n 64 (by omega) h
  unfold sizeN; omega
@[simp] theorem forms_nil : forms [] = [] := rfl
theorem forms_cons (n : Nat) (ns : List Nat) : forms (n :: ns) = formF n ++ forms ns := rfl
theorem forms_length {ns : List Nat} (h : ∀ n ∈ ns, n < 18446744073709551616) : (forms ns).length ≤ 9 * ns.length := by
  induction ns with
  | nil => simp [forms]
  | cons n ns ih =>
    have h1 := sizeN_le (h n (by simp))
    have h2 := ih (fun m hm => h m (by simp [hm]))
    rw [forms_cons]
    simp only [List.length_append, formF_length, List.length_cons]
    omega
/-- the number of bytes, the highest first -/
def valN (l : List UInt8) : Nat := l.foldl (fun n x => n * 256 + x.toNat) 0
/-- the number with which bytes begin, and the rest -/
def getF (l : List UInt8) : Option (Nat × List UInt8) :=
  match l with
  | [] => none
  | x :: r => if x.toNat > 8 ∨ x.toNat > r.length then none else if sizeN (valN (r.take x.toNat)) = x.toNat then some (valN (r.take x.toNat), r.drop x.toNat) else none

theorem valN_snoc (l : List UInt8) (x : UInt8) : valN (l ++ [x]) = valN l * 256 + x.toNat := by simp [valN]
theorem foldN_lt (l : List UInt8) : ∀ n : Nat, l.foldl (fun n x => n * 256 + x.toNat) n < (n + 1) * 256 ^ l.length := by
  induction l with
  | nil => intro n; simp
  | cons x l ih =>
    intro n
    have h1 := ih (n * 256 + x.toNat)
    have h2 := x.toNat_lt
    have h3 : (n * 256 + x.toNat + 1) * 256 ^ l.length ≤ ((n + 1) * 256) * 256 ^ l.length := Nat.mul_le_mul_right _ (by omega)
    simp only [List.foldl_cons, List.length_cons, Nat.pow_succ]
    have h4 : (n + 1) * (256 ^ l.length * 256) = ((n + 1) * 256) * 256 ^ l.length := by rw [Nat.mul_comm (256 ^ l.length), ← Nat.mul_assoc]
    omega
theorem valN_lt (l : List UInt8) : valN l < 256 ^ l.length := by
  have := foldN_lt l 0
  simpa [valN] using this
end Go.Proofs.YtjbbfiagijjdoaaGreat

/- Plain functions on bytes: sums and frames. No condition. -/
set_option linter.unusedSimpArgs false
set_option linter.unusedVariables false
namespace Go.Proofs.YtjbbfiagijjdoaaGreat
open Go Go.Proofs

/-- one bit of a sum -/
def crcBit (c : BitVec 32) : BitVec 32 := (c >>> 1) ^^^ (3988292384#32 &&& -(c &&& 1#32))
def crcBits : Nat → BitVec 32 → BitVec 32
  | 0, c => c
  | k + 1, c => crcBits k (crcBit c)
def crcByte (c : BitVec 32) (x : UInt8) : BitVec 32 := crcBits 8 (c ^^^ BitVec.ofNat 32 x.toNat)
def crcL (c : BitVec 32) (l : List UInt8) : BitVec 32 := l.foldl crcByte c
def crcOf (l : List UInt8) : BitVec 32 := ~~~ (crcL (BitVec.allOnes 32) l)
/-- a sum's bytes -/
def tailF (c : BitVec 32) : List UInt8 := [UInt8.ofNat c.toNat, UInt8.ofNat (c.toNat / 256), UInt8.ofNat (c.toNat / 65536), UInt8.ofNat (c.toNat / 16777216)]
def sealF (l : List UInt8) : List UInt8 := l ++ tailF (crcOf l)
def openF (f : List UInt8) : Option (List UInt8) := if f.length < 4 then none else if tailF (crcOf (f.take (f.length - 4))) = f.drop (f.length - 4) then some (f.take (f.length - 4)) else none

@[simp] theorem crcL_nil (c : BitVec 32) : crcL c [] = c := rfl
@[simp] theorem crcL_cons (c : BitVec 32) (x : UInt8) (l : List UInt8) : crcL c (x :: l) = crcL (crcByte c x) l := rfl
theorem crcL_append (c : BitVec 32) (l m : List UInt8) : crcL c (l ++ m) = crcL (crcL c l) m := by simp [crcL, List.foldl_append]
@[simp] theorem tailF_length (c : BitVec 32) : (tailF c).length = 4 := rfl
@[simp] theorem sealF_length (l : List UInt8) : (sealF l).length = l.length + 4 := by simp [sealF]
theorem openF_seal (l : List UInt8) : openF (sealF l) = some l := by
  simp [openF, sealF]
theorem openF_some {f l : List UInt8} (h : openF f = some l) : f = sealF l := by
  unfold openF at h
  split at h
  · simp at h
  · split at h
    · rename_i h1
      obtain rfl := Option.some.inj h
      rw [sealF, h1, List.take_append_drop]
    · simp at h
end Go.Proofs.YtjbbfiagijjdoaaGreat

/- Plain data: sets of changes, tags, entries, cells, messages. No condition. -/
set_option linter.unusedSimpArgs false
set_option linter.unusedVariables false
namespace Go.Proofs.YtjbbfiagijjdoaaGreat
open Go Go.Proofs

structure PView where
  add : Int
  del : Int
  deriving DecidableEq
structure PTag where
  num : Int
  node : Int
  deriving DecidableEq
structure PEntry where
  key : Int
  tag : PTag
  value : Nat
  deriving DecidableEq
structure PCell where
  node : Int
  change : PView
  deriving DecidableEq
structure PMsg where
  kind : Int
  frm : Int
  to : Int
  inc : Int
  seq : Int
  view : PView
  cells : List PCell
  book : List PEntry
  deriving DecidableEq

def betweenB (n least most : Int) : Bool := decide (least ≤ n ∧ n ≤ most)
def rightV (v : PView) : Bool := decide ((0 ≤ v.add ∧ v.add < 64) ∧ 0 ≤ v.del ∧ v.del < 64)
def rightT (t : PTag) : Bool := decide ((0 ≤ t.num ∧ t.num ≤ 1000000 ∧ 0 ≤ t.node ∧ t.node < 6) ∧ (0 < t.num ∨ t.node = 0))
def nameV (v : PView) : Int := v.add * 64 + v.del
/-- the bits in one form -/
def cleanB (nan : Nat → Bool) (b : Nat) : Nat := if nan b then 9221120237041090561 else b
/-- how many bits are set -/
def popN : Nat → Nat → Nat
  | 0, _ => 0
  | k + 1, n => n % 2 + popN k (n / 2)
def sizeV (v : PView) : Int := (popN 64 v.add.toNat : Int) + popN 64 v.del.toNat
def okC (last : Int) (c : PCell) : Bool := decide (last < c.node) && decide (c.node < 6) && rightV c.change && !decide (sizeV c.change = 0)
def checkC : Int → List PCell → Bool
  | _, [] => true
  | last, c :: l => okC last c && checkC c.node l
def okE (last : Int) (x : PEntry) : Bool := decide (last < x.key) && decide (x.key < 4) && rightT x.tag && !decide (x.tag.num = 0)
def checkE : Int → List PEntry → Bool
  | _, [] => true
  | last, x :: l => okE last x && checkE x.key l
theorem okC_1 (last : Int) (c : PCell) (h : c.node ≤ last) : okC last c = false := by
  have : ¬ last < c.node := by omega
  simp [okC, this]
theorem okC_2 (last : Int) (c : PCell) (h : 6 ≤ c.node) : okC last c = false := by
  have : ¬ c.node < 6 := by omega
  simp [okC, this]
theorem okC_3 (last : Int) (c : PCell) (h : rightV c.change = false) : okC last c = false := by
  simp [okC, h]
theorem okC_4 (last : Int) (c : PCell) (h : sizeV c.change = 0) : okC last c = false := by
  simp [okC, h]
theorem okC_5 (last : Int) (c : PCell) (h1 : ¬ c.node ≤ last) (h2 : ¬ 6 ≤ c.node) (h3 : rightV c.change = true) (h4 : ¬ sizeV c.change = 0) : okC last c = true := by
  have h5 : last < c.node := by omega
  have h6 : c.node < 6 := by omega
  simp [okC, h5, h6, h3, h4]
theorem okE_1 (last : Int) (c : PEntry) (h : c.key ≤ last) : okE last c = false := by
  have : ¬ last < c.key := by omega
  simp [okE, this]
theorem okE_2 (last : Int) (c : PEntry) (h : 4 ≤ c.key) : okE last c = false := by
  have : ¬ c.key < 4 := by omega
  simp [okE, this]
theorem okE_3 (last : Int) (c : PEntry) (h : rightT c.tag = false) : okE last c = false := by
  simp [okE, h]
theorem okE_4 (last : Int) (c : PEntry) (h : c.tag.num = 0) : okE last c = false := by
  simp [okE, h]
theorem okE_5 (last : Int) (c : PEntry) (h1 : ¬ c.key ≤ last) (h2 : ¬ 4 ≤ c.key) (h3 : rightT c.tag = true) (h4 : ¬ c.tag.num = 0) : okE last c = true := by
  have h5 : last < c.key := by omega
  have h6 : c.key < 4 := by omega
  simp [okE, h5, h6, h3, h4]
/-- the message can be -/
def rightM (m : PMsg) : Bool :=
  betweenB m.kind 0 7 && betweenB m.frm 0 5 && betweenB m.to 0 5 && betweenB m.inc 1 1000000 && betweenB m.seq 1 1000000 &&
  (decide (m.cells = []) || decide (m.kind = 1) || decide (m.kind = 5)) && (decide (m.book = []) || decide (m.kind = 3) || decide (m.kind = 6)) &&
  rightV m.view && checkC (-1) m.cells && checkE (-1) m.book
attribute [irreducible] sizeV
end Go.Proofs.YtjbbfiagijjdoaaGreat

/- Plain functions: the numbers of a message. No condition. -/
set_option linter.unusedSimpArgs false
set_option linter.unusedVariables false
namespace Go.Proofs.YtjbbfiagijjdoaaGreat
open Go Go.Proofs

theorem nameV_lt {v : PView} (h : rightV v = true) : 0 ≤ nameV v ∧ nameV v < 4096 := by
  simp [rightV] at h
  unfold nameV; omega
theorem okC_of {last : Int} {c : PCell} (h : okC last c = true) : last < c.node ∧ c.node < 6 ∧ rightV c.change = true ∧ sizeV c.change ≠ 0 := by
  simp [okC] at h
  exact ⟨h.1.1.1, h.1.1.2, h.1.2, h.2⟩
theorem okE_of {last : Int} {c : PEntry} (h : okE last c = true) : last < c.key ∧ c.key < 4 ∧ rightT c.tag = true ∧ c.tag.num ≠ 0 := by
  simp [okE] at h
  exact ⟨h.1.1.1, h.1.1.2, h.1.2, h.2⟩
theorem checkC_len : ∀ {l : List PCell} {last : Int}, -1 ≤ last → last ≤ 5 → checkC last l = true → (l.length : Int) ≤ 5 - last
  | [], _, _, h, _ => by simp; omega
  | c :: l, last, h1, h2, h => by
    simp only [checkC, Bool.and_eq_true] at h
    obtain ⟨q1, q2, _⟩ := okC_of h.1
    have := checkC_len (l := l) (last := c.node) (by omega) (by omega) h.2
    simp only [List.length_cons]; omega
theorem checkE_len : ∀ {l : List PEntry} {last : Int}, -1 ≤ last → last ≤ 3 → checkE last l = true → (l.length : Int) ≤ 3 - last
  | [], _, _, h, _ => by simp; omega
  | c :: l, last, h1, h2, h => by
    simp only [checkE, Bool.and_eq_true] at h
    obtain ⟨q1, q2, _⟩ := okE_of h.1
    have := checkE_len (l := l) (last := c.key) (by omega) (by omega) h.2
    simp only [List.length_cons]; omega
theorem checkC_mem : ∀ {l : List PCell} {last : Int}, -1 ≤ last → checkC last l = true → ∀ c ∈ l, 0 ≤ c.node ∧ c.node < 6 ∧ rightV c.change = true
  | [], _, _, _ => by simp
  | c :: l, last, h1, h => by
    simp only [checkC, Bool.and_eq_true] at h
    obtain ⟨q1, q2, q3, _⟩ := okC_of h.1
    intro x hx
    rcases List.mem_cons.1 hx with rfl | hx
    · exact ⟨by omega, q2, q3⟩
    · exact checkC_mem (by omega) h.2 x hx
theorem checkE_mem : ∀ {l : List PEntry} {last : Int}, -1 ≤ last → checkE last l = true → ∀ c ∈ l, 0 ≤ c.key ∧ c.key < 4 ∧ rightT c.tag = true
  | [], _, _, _ => by simp
  | c :: l, last, h1, h => by
    simp only [checkE, Bool.and_eq_true] at h
    obtain ⟨q1, q2, q3, _⟩ := okE_of h.1
    intro x hx
    rcases List.mem_cons.1 hx with rfl | hx
    · exact ⟨by omega, q2, q3⟩
    · exact checkE_mem (by omega) h.2 x hx
theorem rightT_of {t : PTag} (h : rightT t = true) : 0 ≤ t.num ∧ t.num ≤ 1000000 ∧ 0 ≤ t.node ∧ t.node < 6 := by
  simp [rightT] at h
  omega
structure RightM (m : PMsg) : Prop where
  kind : 0 ≤ m.kind ∧ m.kind ≤ 7
  frm : 0 ≤ m.frm ∧ m.frm ≤ 5
  to : 0 ≤ m.to ∧ m.to ≤ 5
  inc : 1 ≤ m.inc ∧ m.inc ≤ 1000000
  seq : 1 ≤ m.seq ∧ m.seq ≤ 1000000
  view : rightV m.view = true
  clen : m.cells.length ≤ 6
  blen : m.book.length ≤ 4
  cells : ∀ c ∈ m.cells, 0 ≤ c.node ∧ c.node < 6 ∧ rightV c.change = true
  book : ∀ c ∈ m.book, 0 ≤ c.key ∧ c.key < 4 ∧ rightT c.tag = true
theorem rightM_of {m : PMsg} (h : rightM m = true) : RightM m := by
  simp only [rightM, Bool.and_eq_true, betweenB, decide_eq_true_eq] at h
  obtain ⟨⟨⟨⟨⟨⟨⟨⟨⟨h1, h2⟩, h3⟩, h4⟩, h5⟩, h6⟩, h7⟩, h8⟩, h9⟩, h10⟩ := h
  have l1 := checkC_len (by omega) (by omega) h9
  have l2 := checkE_len (by omega) (by omega) h10
  exact ⟨h1, h2, h3, h4, h5, h8, by omega, by omega, checkC_mem (by omega) h9, checkE_mem (by omega) h10⟩

/-- the numbers of a message -/
def numC (c : PCell) : List Int := [c.node, nameV c.change]
def numE (bits : Nat → Nat) (x : PEntry) : List Nat := [x.key.toNat, x.tag.num.toNat, x.tag.node.toNat, bits x.value]
def headN (m : PMsg) : List Int := [m.kind, m.frm, m.to, m.inc, m.seq, nameV m.view, (m.cells.length : Int)]
def numsM (bits : Nat → Nat) (m : PMsg) : List Nat := (headN m).map Int.toNat ++ m.cells.flatMap (fun c => (numC c).map Int.toNat) ++ [m.book.length] ++ m.book.flatMap (numE bits)
def frameF (bits : Nat → Nat) (m : PMsg) : List UInt8 := sealF (forms (numsM bits m))
@[simp] theorem forms_append (a b : List Nat) : forms (a ++ b) = forms a ++ forms b := by simp [forms]
end Go.Proofs.YtjbbfiagijjdoaaGreat

/- Plain functions: bytes that are read, number by number. No condition. -/
set_option linter.unusedSimpArgs false
set_option linter.unusedVariables false
namespace Go.Proofs.YtjbbfiagijjdoaaGreat
open Go Go.Proofs

/-- bytes that are read: the rest, and whether something was wrong -/
abbrev Rd := List UInt8 × Bool
def rdBits (r : Rd) : Nat × Rd := match getF r.1 with
  | some (n, l) => if r.2 = true then (0, (r.1, true)) else (n, (l, false))
  | none => (0, (r.1, true))
def rdInt (r : Rd) : Int × Rd := if 1000000 < (rdBits r).1 then (0, ((rdBits r).2.1, true)) else (((rdBits r).1 : Int), (rdBits r).2)
def viewN (n : Int) : PView := if 0 ≤ n ∧ n < 4096 then ⟨n / 64, n % 64⟩ else ⟨0, 0⟩
def rdView (r : Rd) : PView × Rd := (viewN (rdInt r).1, ((rdInt r).2.1, (rdInt r).2.2 || !decide (0 ≤ (rdInt r).1 ∧ (rdInt r).1 < 4096)))
def rdMany (most : Int) (r : Rd) : Int × Rd := if most < (rdInt r).1 then (0, ((rdInt r).2.1, true)) else rdInt r
def rdSt (r : Rd) : Nat → Rd
  | 0 => r
  | k + 1 => (rdInt (rdSt r k)).2
def rdVal (r : Rd) (k : Nat) : Int := (rdInt (rdSt r k)).1
def rdCell (r : Rd) : PCell × Rd := (⟨(rdInt r).1, (rdView (rdInt r).2).1⟩, (rdView (rdInt r).2).2)
def rdEntry (cl : Nat → Nat) (r : Rd) : PEntry × Rd :=
  (⟨(rdInt r).1, ⟨(rdInt (rdInt r).2).1, (rdInt (rdInt (rdInt r).2).2).1⟩, cl (rdBits (rdInt (rdInt (rdInt r).2).2).2).1⟩,
   ((rdBits (rdInt (rdInt (rdInt r).2).2).2).2.1, (rdBits (rdInt (rdInt (rdInt r).2).2).2).2.2 || !decide (cl (cl (rdBits (rdInt (rdInt (rdInt r).2).2).2).1) = (rdBits (rdInt (rdInt (rdInt r).2).2).2).1)))
def rdL {α : Type} (f : Rd → α × Rd) : Nat → Rd → List α × Rd
  | 0, r => ([], r)
  | k + 1, r => ((rdL f k r).1 ++ [(f (rdL f k r).2).1], (f (rdL f k r).2).2)
def msgAt (r : Rd) (k : Nat) (v : PView) (cs : List PCell) (es : List PEntry) : PMsg := ⟨if 0 < k then rdVal r 0 else 0, if 1 < k then rdVal r 1 else 0, if 2 < k then rdVal r 2 else 0, if 3 < k then rdVal r 3 else 0, if 4 < k then rdVal r 4 else 0, v, cs, es⟩
def rdV (r : Rd) : PView × Rd := rdView (rdSt r 5)
def rdNC (r : Rd) : Int × Rd := rdMany 6 (rdV r).2
def rdCs (r : Rd) : List PCell × Rd := rdL rdCell (rdNC r).1.toNat (rdNC r).2
def rdNE (r : Rd) : Int × Rd := rdMany 4 (rdCs r).2
def rdEs (cl : Nat → Nat) (r : Rd) : List PEntry × Rd := rdL (rdEntry cl) (rdNE r).1.toNat (rdNE r).2
def rdMsg (cl : Nat → Nat) (r : Rd) : PMsg := msgAt r 5 (rdV r).1 (rdCs r).1 (rdEs cl r).1
def readF (cl : Nat → Nat) (frame : List UInt8) : Option PMsg := match openF frame with
  | none => none
  | some b => if (rdEs cl (b, false)).2.2 = true ∨ 0 < (rdEs cl (b, false)).2.1.length ∨ rightM (rdMsg cl (b, false)) = false then none else some (rdMsg cl (b, false))

theorem getF_len {l r : List UInt8} {n : Nat} (h : getF l = some (n, r)) : r.length < l.length ∧ n < 18446744073709551616 := by
  unfold getF at h
  split at h
  · simp at h
  · rename_i x t
    split at h
    · simp at h
    · rename_i hx
      split at h
      · rename_i hs
        simp only [Option.some.injEq, Prod.mk.injEq] at h
        obtain ⟨rfl, rfl⟩ := h
        refine ⟨by simp; omega, ?_⟩
        have g1 := valN_lt (t.take x.toNat)
        have g2 : (256 : Nat) ^ (t.take x.toNat).length ≤ 256 ^ 8 := Nat.pow_le_pow_right (by omega) (by simp; omega)
        have g3 : (256 : Nat) ^ 8 = 18446744073709551616 := by decide
        omega
      · simp at h
theorem rdBits_len (r : Rd) : (rdBits r).2.1.length ≤ r.1.length ∧ (rdBits r).1 < 18446744073709551616 := by
  unfold rdBits
  split
  · rename_i n l h
    have := getF_len h
    split <;> simp <;> omega
  · simp
theorem rdInt_len (r : Rd) : (rdInt r).2.1.length ≤ r.1.length := by
  have := (rdBits_len r).1
  unfold rdInt; split <;> exact this
theorem rdInt_lt (r : Rd) : 0 ≤ (rdInt r).1 ∧ (rdInt r).1 ≤ 1000000 := by
  unfold rdInt; split <;> simp <;> omega
theorem rdView_len (r : Rd) : (rdView r).2.1.length ≤ r.1.length := rdInt_len r
theorem rdMany_len (m : Int) (r : Rd) : (rdMany m r).2.1.length ≤ r.1.length := by
  have := rdInt_len r
  unfold rdMany; split <;> exact this
theorem rdMany_lt {m : Int} (hm : 0 ≤ m) (r : Rd) : 0 ≤ (rdMany m r).1 ∧ (rdMany m r).1 ≤ m := by
  have := rdInt_lt r
  unfold rdMany; split
  · simp; omega
  · omega
theorem rdSt_len (r : Rd) (k : Nat) : (rdSt r k).1.length ≤ r.1.length := by
  induction k with
  | zero => exact Nat.le_refl _
  | succ k ih => exact Nat.le_trans (rdInt_len _) ih
theorem rdCell_len (r : Rd) : (rdCell r).2.1.length ≤ r.1.length := Nat.le_trans (rdView_len _) (rdInt_len _)
theorem rdEntry_len (cl : Nat → Nat) (r : Rd) : (rdEntry cl r).2.1.length ≤ r.1.length :=
  Nat.le_trans (rdBits_len _).1 (Nat.le_trans (rdInt_len _) (Nat.le_trans (rdInt_len _) (rdInt_len _)))
theorem rdL_len {α : Type} {f : Rd → α × Rd} (hf : ∀ r, (f r).2.1.length ≤ r.1.length) (k : Nat) (r : Rd) : (rdL f k r).2.1.length ≤ r.1.length ∧ (rdL f k r).1.length = k := by
  induction k with
  | zero => exact ⟨Nat.le_refl _, rfl⟩
  | succ k ih => exact ⟨Nat.le_trans (hf _) ih.1, by simp [rdL, ih.2]⟩
theorem openF_len {f l : List UInt8} (h : openF f = some l) : l.length ≤ f.length := by
  rw [openF_some h]; simp
end Go.Proofs.YtjbbfiagijjdoaaGreat

/- Plain functions: bits side by side are turned. No condition. -/
set_option linter.unusedSimpArgs false
set_option linter.unusedVariables false
namespace Go.Proofs.YtjbbfiagijjdoaaGreat
open Go Go.Proofs

/-- one bit is turned -/
def flipBit (l : List UInt8) (i : Nat) : List UInt8 := l.modify (i / 8) fun x => x ^^^ UInt8.ofNat (2 ^ (i % 8))
def burstK (l : List UInt8) (at_ : Nat) (mask : BitVec 32) : Nat → List UInt8
  | 0 => l
  | k + 1 => if mask.getLsbD k = true then flipBit (burstK l at_ mask k) (at_ + k) else burstK l at_ mask k
def wide (mask : BitVec 32) : Nat := Lib.bitLen mask.toNat
def burstF (l : List UInt8) (at_ : Int) (mask : BitVec 32) : List UInt8 :=
  if at_ < 0 ∨ (0 < wide mask ∧ 8 * (l.length : Int) - wide mask < at_) then l else burstK l at_.toNat mask (wide mask)
@[simp] theorem flipBit_length (l : List UInt8) (i : Nat) : (flipBit l i).length = l.length := by simp [flipBit]
@[simp] theorem burstK_length (l : List UInt8) (a : Nat) (m : BitVec 32) (k : Nat) : (burstK l a m k).length = l.length := by
  induction k with
  | zero => rfl
  | succ k ih => simp only [burstK]; split <;> simp [ih]
@[simp] theorem burstF_length (l : List UInt8) (a : Int) (m : BitVec 32) : (burstF l a m).length = l.length := by
  unfold burstF; split <;> simp
theorem wide_le (m : BitVec 32) : wide m ≤ 32 := Lib.bitLen_le m.toNat 32 (by omega) m.isLt
end Go.Proofs.YtjbbfiagijjdoaaGreat

/- Plain laws: what is written as numbers is read as them; messages there and back. No condition. -/
set_option linter.unusedSimpArgs false
set_option linter.unusedVariables false
namespace Go.Proofs.YtjbbfiagijjdoaaGreat
open Go Go.Proofs

theorem lt_bitLen : ∀ (x : Nat), x < 2 ^ 64 → x < 2 ^ Lib.bitLen x := by
  intro x
  induction x using Nat.strongRecOn with
  | _ x ih =>
    intro h
    by_cases h0 : x = 0
    · subst h0; decide
    · have h1 := ih (x / 2) (by omega) (by omega)
      rw [Lib.bitLen_half x h0 h, Nat.pow_add]
      omega
theorem lt_sizeN {n : Nat} (h : n < 18446744073709551616) : n < 256 ^ sizeN n := by
  have h1 := lt_bitLen n h
  have h2 : (256 : Nat) ^ sizeN n = 2 ^ (8 * sizeN n) := by rw [Nat.pow_mul]
  rw [h2]
  refine Nat.lt_of_lt_of_le h1 (Nat.pow_le_pow_right (by omega) ?_)
  unfold sizeN; omega
theorem fold_dig (k n : Nat) : ∀ acc : Nat, (dig k n).foldl (fun n x => n * 256 + x.toNat) acc = acc * 256 ^ k + n % 256 ^ k := by
  induction k with
  | zero => intro acc; simp [dig, Nat.mod_one]
  | succ k ih =>
    intro acc
    have h1 : (UInt8.ofNat (n / 256 ^ k)).toNat = n / 256 ^ k % 256 := by simp
    simp only [dig, List.foldl_cons, ih, h1]
    rw [Nat.pow_succ, Nat.mod_mul, Nat.add_mul]
    have e1 : acc * 256 * 256 ^ k = acc * (256 ^ k * 256) := by rw [Nat.mul_assoc, Nat.mul_comm 256]
    have e2 : n / 256 ^ k % 256 * 256 ^ k = 256 ^ k * (n / 256 ^ k % 256) := Nat.mul_comm _ _
    omega
theorem valN_dig {n : Nat} (h : n < 18446744073709551616) : valN (dig (sizeN n) n) = n := by
  have := fold_dig (sizeN n) n 0
  rw [valN, this, Nat.zero_mul, Nat.zero_add, Nat.mod_eq_of_lt (lt_sizeN h)]
theorem getF_form {n : Nat} (h : n < 18446744073709551616) (l : List UInt8) : getF (formF n ++ l) = some (n, l) := by
  have hs := sizeN_le h
  have h1 : (UInt8.ofNat (sizeN n)).toNat = sizeN n := by simp; omega
  have h2 : (dig (sizeN n) n ++ l).take (sizeN n) = dig (sizeN n) n := by
    have : sizeN n = (dig (sizeN n) n).length := by simp
    conv => lhs; rw [this]
    simp
  have h3 : (dig (sizeN n) n ++ l).drop (sizeN n) = l := by
    have : sizeN n = (dig (sizeN n) n).length := by simp
    conv => lhs; rw [this]
    simp
  simp only [formF, List.cons_append, getF, h1]
  rw [if_neg (by simp; omega), h2, valN_dig h, if_pos rfl, h3]
/-- what is read as a number is its form -/
theorem foldN_dig : ∀ (l : List UInt8) (acc : Nat), dig l.length (l.foldl (fun n x => n * 256 + x.toNat) acc) = l
  | [], _ => rfl
  | x :: l, acc => by
    have h1 : l.foldl (fun n x => n * 256 + x.toNat) (acc * 256 + x.toNat) = (acc * 256 + x.toNat) * 256 ^ l.length + valN l := by
      have key : ∀ (l : List UInt8) (a : Nat), l.foldl (fun n x => n * 256 + x.toNat) a = a * 256 ^ l.length + valN l := by
        intro l
        induction l with
        | nil => intro a; simp [valN]
        | cons y l ih =>
          intro a
          simp only [List.foldl_cons, List.length_cons, valN]
          rw [ih, ih (0 * 256 + y.toNat), Nat.pow_succ, Nat.add_mul, Nat.add_mul]
          have : a * 256 * 256 ^ l.length = a * (256 ^ l.length * 256) := by rw [Nat.mul_assoc, Nat.mul_comm 256]
          omega
      exact key l _
    have h2 := valN_lt l
    have h3 := x.toNat_lt
    simp only [List.foldl_cons, List.length_cons, dig]
    have ih := foldN_dig l (acc * 256 + x.toNat)
    rw [ih, h1]
    have h4 : ((acc * 256 + x.toNat) * 256 ^ l.length + valN l) / 256 ^ l.length = acc * 256 + x.toNat := by
      rw [Nat.mul_comm, Nat.mul_add_div (Nat.pow_pos (by omega)), Nat.div_eq_of_lt h2, Nat.add_zero]
    rw [h4]
    congr 1
    apply UInt8.toNat_inj.1
    simp
theorem getF_some {l r : List UInt8} {n : Nat} (h : getF l = some (n, r)) : l = formF n ++ r ∧ n < 18446744073709551616 := by
  refine ⟨?_, (getF_len h).2⟩
  unfold getF at h
  split at h
  · simp at h
  · rename_i x t
    split at h
    · simp at h
    · rename_i hx
      split at h
      · rename_i hs
        simp only [Option.some.injEq, Prod.mk.injEq] at h
        obtain ⟨rfl, rfl⟩ := h
        have hl : (t.take x.toNat).length = x.toNat := by simp; omega
        have h1 := foldN_dig (t.take x.toNat) 0
        rw [hl] at h1
        simp only [formF, hs]
        have h2 : UInt8.ofNat x.toNat = x := by simp
        rw [h2]
        show x :: t = x :: (dig x.toNat (valN (t.take x.toNat)) ++ t.drop x.toNat)
        rw [show dig x.toNat (valN (t.take x.toNat)) = t.take x.toNat from h1, List.take_append_drop]
      · simp at h
theorem formF_inj {n m : Nat} {l r : List UInt8} (hn : n < 18446744073709551616) (hm : m < 18446744073709551616) (h : formF n ++ l = formF m ++ r) : n = m ∧ l = r := by
  have h1 := getF_form hn l
  rw [h, getF_form hm r] at h1
  simpa [eq_comm] using h1

theorem rdBits_form {n : Nat} (h : n < 18446744073709551616) (l : List UInt8) : rdBits (formF n ++ l, false) = (n, (l, false)) := by
  simp [rdBits, getF_form h]
theorem rdInt_form {n : Nat} (h : n ≤ 1000000) (l : List UInt8) : rdInt (formF n ++ l, false) = ((n : Int), (l, false)) := by
  have h1 : ¬ 1000000 < n := by omega
  simp [rdInt, rdBits_form (show n < 18446744073709551616 by omega), h1]
theorem rdInt_formI {n : Int} (h0 : 0 ≤ n) (h : n ≤ 1000000) (l : List UInt8) : rdInt (formF n.toNat ++ l, false) = (n, (l, false)) := by
  rw [rdInt_form (by omega)]
  have : ((n.toNat : Nat) : Int) = n := by omega
  rw [this]
theorem viewN_name {v : PView} (h : rightV v = true) : viewN (nameV v) = v := by
  have h1 := nameV_lt h
  simp [rightV] at h
  simp only [viewN, h1, and_self, if_true]
  obtain ⟨a, d⟩ := v
  simp only [nameV] at *
  congr 1 <;> omega
theorem rdView_form {v : PView} (h : rightV v = true) (l : List UInt8) : rdView (formF (nameV v).toNat ++ l, false) = (v, (l, false)) := by
  have h1 := nameV_lt h
  simp [rdView, rdInt_formI h1.1 (by omega), viewN_name h, h1]
theorem rdMany_form {n : Nat} {m : Int} (hm : m ≤ 1000000) (h : (n : Int) ≤ m) (l : List UInt8) : rdMany m (formF n ++ l, false) = ((n : Int), (l, false)) := by
  have h1 : ¬ m < (n : Int) := by omega
  simp [rdMany, rdInt_form (show n ≤ 1000000 by omega), h1]
theorem rdCell_form {c : PCell} (h0 : 0 ≤ c.node) (h1 : c.node < 6) (h2 : rightV c.change = true) (l : List UInt8) : rdCell (forms ((numC c).map Int.toNat) ++ l, false) = (c, (l, false)) := by
  simp only [numC, List.map_cons, List.map_nil, forms_cons, forms_nil, List.append_nil, List.append_assoc]
  simp [rdCell, rdInt_formI h0 (by omega), rdView_form h2]
theorem cleanB_idem (nan : Nat → Bool) (b : Nat) : cleanB nan (cleanB nan b) = cleanB nan b := by
  unfold cleanB
  by_cases h : nan b = true
  · simp [h]
  · simp [h]
def cleanE (cl : Nat → Nat) (x : PEntry) : PEntry := ⟨x.key, x.tag, cl x.value⟩
theorem rdEntry_form {cl : Nat → Nat} (hcl : ∀ b, cl (cl b) = cl b) {x : PEntry} (h0 : 0 ≤ x.key) (h1 : x.key < 4) (h2 : rightT x.tag = true) (h3 : cl x.value < 18446744073709551616) (l : List UInt8) :
    rdEntry cl (forms (numE cl x) ++ l, false) = (cleanE cl x, (l, false)) := by
  have ht := rightT_of h2
  simp only [numE, forms_cons, forms_nil, List.append_nil, List.append_assoc]
  simp [rdEntry, rdInt_formI h0 (by omega), rdInt_formI ht.1 ht.2.1, rdInt_formI ht.2.2.1 (show x.tag.node ≤ 1000000 by omega), rdBits_form h3, hcl, cleanE]
theorem rdL_cons {β : Type} (f : Rd → β × Rd) : ∀ (k : Nat) (r : Rd), rdL f (k + 1) r = ((f r).1 :: (rdL f k (f r).2).1, (rdL f k (f r).2).2)
  | 0, r => by simp [rdL]
  | k + 1, r => by
    have ih := rdL_cons f k r
    rw [rdL, ih]
    simp [rdL]
theorem rdL_forms {α β : Type} {f : Rd → β × Rd} {num : α → List Nat} {g : α → β} {ok : α → Prop} (hf : ∀ a l, ok a → f (forms (num a) ++ l, false) = (g a, (l, false))) :
    ∀ (xs : List α) (l : List UInt8), (∀ a ∈ xs, ok a) → rdL f xs.length (forms (xs.flatMap num) ++ l, false) = (xs.map g, (l, false))
  | [], l, _ => by simp [rdL]
  | a :: xs, l, hok => by
    simp only [List.length_cons, List.flatMap_cons, forms_append, List.append_assoc]
    rw [rdL_cons, hf a _ (hok a (by simp)), rdL_forms hf xs l (fun x hx => hok x (by simp [hx]))]
    simp

def cleanM (cl : Nat → Nat) (m : PMsg) : PMsg := ⟨m.kind, m.frm, m.to, m.inc, m.seq, m.view, m.cells, m.book.map (cleanE cl)⟩
theorem checkE_clean (cl : Nat → Nat) : ∀ (l : List PEntry) (last : Int), checkE last (l.map (cleanE cl)) = checkE last l
  | [], _ => rfl
  | x :: l, last => by simp only [List.map_cons, checkE]; rw [checkE_clean cl l]; rfl
theorem rightM_clean (cl : Nat → Nat) (m : PMsg) : rightM (cleanM cl m) = rightM m := by
  have e : checkE (-1) (cleanM cl m).book = checkE (-1) m.book := checkE_clean cl _ _
  by_cases hb : m.book = []
  · have hb2 : (cleanM cl m).book = [] := by simp [cleanM, hb]
    simp only [rightM, e, hb, hb2, decide_true]
    rfl
  · have hb2 : ¬ (cleanM cl m).book = [] := by simp [cleanM, hb]
    simp only [rightM, e, hb, hb2, decide_false]
    rfl

theorem read_frame {cl : Nat → Nat} (hcl : ∀ b, cl (cl b) = cl b) {m : PMsg} (hr : rightM m = true) (hfit : ∀ x ∈ m.book, cl x.value < 18446744073709551616) : readF cl (frameF cl m) = some (cleanM cl m) := by
  have R := rightM_of hr
  have hk := R.kind; have hf := R.frm; have ht := R.to; have hi := R.inc; have hs := R.seq
  have hcl6 := R.clen; have hb4 := R.blen
  have hnum : forms (numsM cl m) = formF m.kind.toNat ++ (formF m.frm.toNat ++ (formF m.to.toNat ++ (formF m.inc.toNat ++ (formF m.seq.toNat ++ (formF (nameV m.view).toNat ++ (formF m.cells.length ++ (forms (m.cells.flatMap fun c => (numC c).map Int.toNat) ++ (formF m.book.length ++ (forms (m.book.flatMap (numE cl)) ++ []))))))))) := by
    simp only [numsM, headN, List.map_cons, List.map_nil, forms_append, forms_cons, forms_nil, Int.toNat_natCast, List.append_assoc, List.append_nil, List.nil_append]
  have s1 : rdSt (forms (numsM cl m), false) 5 = (formF (nameV m.view).toNat ++ (formF m.cells.length ++ (forms (m.cells.flatMap fun c => (numC c).map Int.toNat) ++ (formF m.book.length ++ (forms (m.book.flatMap (numE cl)) ++ [])))), false) := by
    simp only [rdSt, hnum]
    rw [rdInt_formI hk.1 (by omega), rdInt_formI hf.1 (by omega), rdInt_formI ht.1 (by omega), rdInt_formI (by omega) (by omega), rdInt_formI (by omega) (by omega)]
  have v0 : rdVal (forms (numsM cl m), false) 0 = m.kind := by simp only [rdVal, rdSt, hnum]; rw [rdInt_formI hk.1 (by omega)]
  have v1 : rdVal (forms (numsM cl m), false) 1 = m.frm := by simp only [rdVal, rdSt, hnum]; rw [rdInt_formI hk.1 (by omega), rdInt_formI hf.1 (by omega)]
  have v2 : rdVal (forms (numsM cl m), false) 2 = m.to := by simp only [rdVal, rdSt, hnum]; rw [rdInt_formI hk.1 (by omega), rdInt_formI hf.1 (by omega), rdInt_formI ht.1 (by omega)]
  have v3 : rdVal (forms (numsM cl m), false) 3 = m.inc := by simp only [rdVal, rdSt, hnum]; rw [rdInt_formI hk.1 (by omega), rdInt_formI hf.1 (by omega), rdInt_formI ht.1 (by omega), rdInt_formI (by omega) (by omega)]
  have v4 : rdVal (forms (numsM cl m), false) 4 = m.seq := by simp only [rdVal, rdSt, hnum]; rw [rdInt_formI hk.1 (by omega), rdInt_formI hf.1 (by omega), rdInt_formI ht.1 (by omega), rdInt_formI (by omega) (by omega), rdInt_formI (by omega) (by omega)]
  have s2 : rdV (forms (numsM cl m), false) = (m.view, (formF m.cells.length ++ (forms (m.cells.flatMap fun c => (numC c).map Int.toNat) ++ (formF m.book.length ++ (forms (m.book.flatMap (numE cl)) ++ []))), false)) := by
    rw [rdV, s1, rdView_form R.view]
  have s3 : rdNC (forms (numsM cl m), false) = ((m.cells.length : Int), (forms (m.cells.flatMap fun c => (numC c).map Int.toNat) ++ (formF m.book.length ++ (forms (m.book.flatMap (numE cl)) ++ [])), false)) := by
    rw [rdNC, s2]; exact rdMany_form (by omega) (by omega) _
  have s4 : rdCs (forms (numsM cl m), false) = (m.cells, (formF m.book.length ++ (forms (m.book.flatMap (numE cl)) ++ []), false)) := by
    rw [rdCs, s3]
    have := rdL_forms (f := rdCell) (num := fun c => (numC c).map Int.toNat) (g := id) (ok := fun c => c ∈ m.cells) (fun a l ha => by
      obtain ⟨q1, q2, q3⟩ := R.cells a ha
      exact rdCell_form q1 q2 q3 l) m.cells (formF m.book.length ++ (forms (m.book.flatMap (numE cl)) ++ [])) (fun a h => h)
    simpa using this
  have s5 : rdNE (forms (numsM cl m), false) = ((m.book.length : Int), (forms (m.book.flatMap (numE cl)) ++ [], false)) := by
    rw [rdNE, s4]; exact rdMany_form (by omega) (by omega) _
  have s6 : rdEs cl (forms (numsM cl m), false) = (m.book.map (cleanE cl), ([], false)) := by
    rw [rdEs, s5]
    have := rdL_forms (f := rdEntry cl) (num := numE cl) (g := cleanE cl) (ok := fun c => c ∈ m.book) (fun a l ha => by
      obtain ⟨q1, q2, q3⟩ := R.book a ha
      exact rdEntry_form hcl q1 q2 q3 (hfit a ha) l) m.book [] (fun a h => h)
    simpa using this
  have hm : rdMsg cl (forms (numsM cl m), false) = cleanM cl m := by
    simp [rdMsg, msgAt, v0, v1, v2, v3, v4, s2, s4, s6, cleanM]
  rw [readF, frameF, openF_seal]
  simp only
  rw [hm, s6, rightM_clean, hr, if_neg (by simp)]
end Go.Proofs.YtjbbfiagijjdoaaGreat

/- Plain laws: how long a message's frame is; unlike messages have unlike frames. No condition. -/
set_option linter.unusedSimpArgs false
set_option linter.unusedVariables false
namespace Go.Proofs.YtjbbfiagijjdoaaGreat
open Go Go.Proofs

theorem sizeN_small {n k : Nat} (hk : 8 * k ≤ 64) (h : n < 256 ^ k) : sizeN n ≤ k := by
  have h1 : n < 2 ^ (8 * k) := by rw [Nat.pow_mul]; exact h
  have := Lib.bitLen_le n (8 * k) hk h1
  unfold sizeN; omega
theorem sizeN_pos {n : Nat} (h : 0 < n) (h2 : n < 18446744073709551616) : 1 ≤ sizeN n := by
  have h1 := lt_sizeN h2
  by_cases h0 : sizeN n = 0
  · rw [h0] at h1; simp at h1; omega
  · omega
theorem len_forms_cons (n : Nat) (l : List Nat) : (forms (n :: l)).length = sizeN n + 1 + (forms l).length := by
  rw [forms_cons, List.length_append, formF_length]
theorem len_cells : ∀ (l : List PCell), (∀ c ∈ l, 0 ≤ c.node ∧ c.node < 6 ∧ rightV c.change = true) → (forms (l.flatMap fun c => (numC c).map Int.toNat)).length ≤ 7 * l.length
  | [], _ => by simp
  | c :: l, h => by
    obtain ⟨h1, h2, h3⟩ := h c (by simp)
    have h4 := nameV_lt h3
    have ih := len_cells l (fun x hx => h x (by simp [hx]))
    have s1 : sizeN c.node.toNat ≤ 1 := sizeN_small (by omega) (by omega)
    have s2 : sizeN (nameV c.change).toNat ≤ 2 := sizeN_small (by omega) (by omega)
    rw [List.flatMap_cons, forms_append, List.length_append, List.length_cons]
    simp only [numC, List.map_cons, List.map_nil, len_forms_cons, forms_nil, List.length_nil]
    simp only [numC, List.map_cons, List.map_nil] at ih
    omega
theorem len_book (cl : Nat → Nat) : ∀ (l : List PEntry), (∀ c ∈ l, 0 ≤ c.key ∧ c.key < 4 ∧ rightT c.tag = true) → (∀ c ∈ l, cl c.value < 18446744073709551616) → (forms (l.flatMap (numE cl))).length ≤ 19 * l.length
  | [], _, _ => by simp
  | c :: l, h, hf => by
    obtain ⟨h1, h2, h3⟩ := h c (by simp)
    have h4 := rightT_of h3
    have ih := len_book cl l (fun x hx => h x (by simp [hx])) (fun x hx => hf x (by simp [hx]))
    have s1 : sizeN c.key.toNat ≤ 1 := sizeN_small (by omega) (by omega)
    have s2 : sizeN c.tag.num.toNat ≤ 3 := sizeN_small (by omega) (by omega)
    have s3 : sizeN c.tag.node.toNat ≤ 1 := sizeN_small (by omega) (by omega)
    have s4 := sizeN_le (hf c (by simp))
    rw [List.flatMap_cons, forms_append, List.length_append, List.length_cons]
    simp only [numE, len_forms_cons, forms_nil, List.length_nil]
    omega
theorem len_frame {cl : Nat → Nat} {m : PMsg} (hr : rightM m = true) (hfit : ∀ x ∈ m.book, cl x.value < 18446744073709551616) : 12 ≤ (frameF cl m).length ∧ (frameF cl m).length ≤ 40 + 7 * m.cells.length + 19 * m.book.length := by
  have R := rightM_of hr
  have hk := R.kind; have hf := R.frm; have ht := R.to; have hi := R.inc; have hs := R.seq; have hv := nameV_lt R.view
  have hcl6 := R.clen; have hb4 := R.blen
  have lc := len_cells m.cells R.cells
  have lb := len_book cl m.book R.book hfit
  have s1 : sizeN m.kind.toNat ≤ 1 := sizeN_small (by omega) (by omega)
  have s2 : sizeN m.frm.toNat ≤ 1 := sizeN_small (by omega) (by omega)
  have s3 : sizeN m.to.toNat ≤ 1 := sizeN_small (by omega) (by omega)
  have s4 : sizeN m.inc.toNat ≤ 3 := sizeN_small (by omega) (by omega)
  have s5 : sizeN m.seq.toNat ≤ 3 := sizeN_small (by omega) (by omega)
  have s6 : sizeN (nameV m.view).toNat ≤ 2 := sizeN_small (by omega) (by omega)
  have s7 : sizeN m.cells.length ≤ 1 := sizeN_small (by omega) (by omega)
  have s8 : sizeN m.book.length ≤ 1 := sizeN_small (by omega) (by omega)
  have p4 := sizeN_pos (n := m.inc.toNat) (by omega) (by omega)
  simp only [frameF, sealF_length, numsM, forms_append, List.length_append, headN, List.map_cons, List.map_nil, len_forms_cons, forms_nil, List.length_nil, Int.toNat_natCast]
  omega

theorem sameE_clean (x : PEntry) (bits : Nat → Nat) (h : ∀ b, bits (bits b) = bits b) : (decide ((cleanE bits x).key = x.key) && decide ((cleanE bits x).tag = x.tag) && decide (bits (cleanE bits x).value = bits x.value)) = true := by
  simp [cleanE, h]
end Go.Proofs.YtjbbfiagijjdoaaGreat

/- Plain laws: the sum finds every burst of at most 32 bits. No condition. -/
set_option linter.unusedSimpArgs false
set_option linter.unusedVariables false
namespace Go.Proofs.YtjbbfiagijjdoaaGreat
open Go Go.Proofs

def bit1 (b : Bool) : BitVec 32 := if b = true then 1#32 else 0#32
def poly (b : Bool) : BitVec 32 := if b = true then 3988292384#32 else 0#32
theorem crcBit_eq (c : BitVec 32) : crcBit c = (c >>> 1) ^^^ poly (c.getLsbD 0) := by
  have h : c &&& 1#32 = bit1 (c.getLsbD 0) := by
    apply BitVec.eq_of_getLsbD_eq
    intro i hi
    by_cases h0 : i = 0
    · subst h0
      rw [BitVec.getLsbD_and]
      cases c.getLsbD 0 <;> decide
    · have : (1#32).getLsbD i = false := by rw [BitVec.getLsbD_one]; simp [h0]
      cases hc : c.getLsbD 0 <;> simp [bit1, this, h0]
  unfold crcBit
  rw [h]
  cases c.getLsbD 0
  · simp [bit1, poly]
  · have : -(1#32) = BitVec.allOnes 32 := by decide
    simp only [bit1, poly, if_true, this, BitVec.and_allOnes]
theorem poly_xor (a b : Bool) : poly (a ^^ b) = poly a ^^^ poly b := by cases a <;> cases b <;> decide
theorem crcBit_xor (a b : BitVec 32) : crcBit (a ^^^ b) = crcBit a ^^^ crcBit b := by
  rw [crcBit_eq, crcBit_eq a, crcBit_eq b, BitVec.getLsbD_xor, poly_xor, BitVec.ushiftRight_xor_distrib]
  ac_rfl
theorem crcBit_one (b : Bool) : crcBit (bit1 b) = poly b := by cases b <;> decide
theorem crcBit_inj {a : BitVec 32} (h : crcBit a = 0#32) : a = 0#32 := by
  rw [crcBit_eq] at h
  have h0 : a.getLsbD 0 = false := by
    cases hb : a.getLsbD 0
    · rfl
    · have h31 := congrArg (fun x => BitVec.getLsbD x 31) h
      rw [hb] at h31
      have e : (a >>> 1).getLsbD 31 = false := by rw [BitVec.getLsbD_ushiftRight]; exact BitVec.getLsbD_of_ge _ _ (by omega)
      have e2 : (poly true).getLsbD 31 = true := by decide
      simp only [BitVec.getLsbD_xor, e, e2] at h31
      simp at h31
  rw [h0] at h
  have h1 : a >>> 1 = 0#32 := by simpa [poly] using h
  apply BitVec.eq_of_getLsbD_eq
  intro i hi
  cases i with
  | zero => rw [h0]; simp
  | succ i =>
    have h2 := congrArg (fun x => BitVec.getLsbD x i) h1
    simp only [BitVec.getLsbD_ushiftRight] at h2
    rw [Nat.add_comm] at h2
    rw [h2]; simp
theorem crcBits_xor (k : Nat) : ∀ a b : BitVec 32, crcBits k (a ^^^ b) = crcBits k a ^^^ crcBits k b := by
  induction k with
  | zero => intro a b; rfl
  | succ k ih => intro a b; simp only [crcBits]; rw [crcBit_xor, ih]
theorem crcBits_inj (k : Nat) : ∀ {a : BitVec 32}, crcBits k a = 0#32 → a = 0#32 := by
  induction k with
  | zero => intro a h; exact h
  | succ k ih => intro a h; exact crcBit_inj (ih h)

/-- bits in turn -/
def crcStep (c : BitVec 32) (b : Bool) : BitVec 32 := crcBit (c ^^^ bit1 b)
def crcS (c : BitVec 32) (bs : List Bool) : BitVec 32 := bs.foldl crcStep c
@[simp] theorem crcS_nil (c : BitVec 32) : crcS c [] = c := rfl
@[simp] theorem crcS_cons (c : BitVec 32) (b : Bool) (l : List Bool) : crcS c (b :: l) = crcS (crcStep c b) l := rfl
theorem crcS_append (c : BitVec 32) (l m : List Bool) : crcS c (l ++ m) = crcS (crcS c l) m := by simp [crcS, List.foldl_append]
def bitsN (k n : Nat) : List Bool := (List.range k).map n.testBit
@[simp] theorem bitsN_length (k n : Nat) : (bitsN k n).length = k := by simp [bitsN]
theorem bitsN_get (k n i : Nat) : (bitsN k n)[i]? = if i < k then some (n.testBit i) else none := by
  unfold bitsN
  by_cases h : i < k
  · simp [h]
  · simp [h]
theorem bitsN_add (a b n : Nat) : bitsN (a + b) n = bitsN a n ++ bitsN b (n / 2 ^ a) := by
  unfold bitsN
  rw [List.range_add, List.map_append, List.map_map]
  congr 1
  apply List.map_congr_left
  intro i _
  simp [Nat.testBit_div_two_pow]
  rw [Nat.add_comm]
theorem bitsN_mod (k n : Nat) : bitsN k (n % 2 ^ k) = bitsN k n := by
  unfold bitsN
  apply List.map_congr_left
  intro i hi
  simp only [List.mem_range] at hi
  simp [Nat.testBit_mod_two_pow, hi]
theorem crcS_bits : ∀ (k : Nat) (c v : BitVec 32), v.toNat < 2 ^ k → crcBits k (c ^^^ v) = crcS c (bitsN k v.toNat)
  | 0, c, v, h => by
    have : v = 0#32 := by apply BitVec.eq_of_toNat_eq; simp at h ⊢; omega
    subst this
    simp [crcBits, bitsN]
  | k + 1, c, v, h => by
    have hv : crcBit v = poly (v.getLsbD 0) ^^^ (v >>> 1) := by rw [crcBit_eq]; ac_rfl
    have hn : (v >>> 1).toNat = v.toNat / 2 := by simp [Nat.shiftRight_eq_div_pow]
    have ih := crcS_bits k (crcStep c (v.getLsbD 0)) (v >>> 1) (by rw [hn]; rw [Nat.pow_succ] at h; omega)
    rw [show k + 1 = 1 + k by omega, bitsN_add, crcS_append, Nat.pow_one, ← hn]
    have e1 : bitsN 1 v.toNat = [v.getLsbD 0] := rfl
    rw [e1]
    simp only [crcS_cons, crcS_nil]
    rw [← ih, show 1 + k = k + 1 by omega]
    simp only [crcBits]
    rw [crcBit_xor, hv, crcStep, crcBit_xor, crcBit_one, BitVec.xor_assoc]
def toBits (l : List UInt8) : List Bool := l.flatMap fun x => bitsN 8 x.toNat
@[simp] theorem toBits_nil : toBits [] = [] := rfl
theorem toBits_cons (x : UInt8) (l : List UInt8) : toBits (x :: l) = bitsN 8 x.toNat ++ toBits l := rfl
theorem toBits_append (l m : List UInt8) : toBits (l ++ m) = toBits l ++ toBits m := by simp [toBits]
@[simp] theorem toBits_length : ∀ l : List UInt8, (toBits l).length = 8 * l.length
  | [] => rfl
  | x :: l => by rw [toBits_cons, List.length_append, bitsN_length, toBits_length l, List.length_cons]; omega
theorem toBits_get : ∀ (l : List UInt8) (j : Nat), (toBits l)[j]? = (l[j / 8]?).map fun x => x.toNat.testBit (j % 8)
  | [], j => by simp
  | x :: l, j => by
    rw [toBits_cons]
    by_cases h : j < 8
    · rw [List.getElem?_append_left (by simp [h]), bitsN_get, if_pos h]
      have e1 : j / 8 = 0 := by omega
      have e2 : j % 8 = j := by omega
      simp [e1, e2]
    · rw [List.getElem?_append_right (by simp; omega), bitsN_length, toBits_get l (j - 8)]
      have e1 : j / 8 = (j - 8) / 8 + 1 := by omega
      have e2 : j % 8 = (j - 8) % 8 := by omega
      rw [e1, e2, List.getElem?_cons_succ]
theorem crcL_toBits : ∀ (l : List UInt8) (c : BitVec 32), crcL c l = crcS c (toBits l)
  | [], c => rfl
  | x :: l, c => by
    rw [crcL_cons, toBits_cons, crcS_append, crcL_toBits l]
    congr 1
    have hx := x.toNat_lt
    have := crcS_bits 8 c (BitVec.ofNat 32 x.toNat) (by simp; omega)
    rw [crcByte, this]
    congr 2
    simp
theorem toBits_tail (w : BitVec 32) : toBits (tailF w) = bitsN 32 w.toNat := by
  have hb : ∀ n : Nat, bitsN 8 (UInt8.ofNat n).toNat = bitsN 8 n := fun n => by
    rw [UInt8.toNat_ofNat']; exact bitsN_mod 8 n
  have h1 := bitsN_add 8 24 w.toNat
  have h2 := bitsN_add 8 16 (w.toNat / 2 ^ 8)
  have h3 := bitsN_add 8 8 (w.toNat / 2 ^ 8 / 2 ^ 8)
  have h4 : bitsN 32 w.toNat = bitsN 8 w.toNat ++ (bitsN 8 (w.toNat / 2 ^ 8) ++ (bitsN 8 (w.toNat / 2 ^ 8 / 2 ^ 8) ++ bitsN 8 (w.toNat / 2 ^ 8 / 2 ^ 8 / 2 ^ 8))) := by
    rw [← h3, ← h2, ← h1]
  rw [tailF, h4]
  simp only [toBits_cons, toBits_nil, List.append_nil, hb, Nat.div_div_eq_div_mul]
/-- whole sums have one rest -/
theorem crcL_seal (l : List UInt8) : crcL (BitVec.allOnes 32) (sealF l) = crcBits 32 (BitVec.allOnes 32) := by
  rw [sealF, crcL_append, crcL_toBits (tailF _), toBits_tail, ← crcS_bits 32 _ _ (BitVec.isLt _), crcOf]
  congr 1
  apply BitVec.eq_of_getLsbD_eq
  intro i hi
  rw [BitVec.getLsbD_xor, BitVec.getLsbD_not, BitVec.getLsbD_allOnes]
  simp [hi]
theorem crcS_xor : ∀ (x y : List Bool) (c d : BitVec 32), x.length = y.length → crcS c x ^^^ crcS d y = crcS (c ^^^ d) (List.zipWith xor x y)
  | [], [], c, d, _ => by simp
  | a :: x, b :: y, c, d, h => by
    simp only [crcS_cons, List.zipWith_cons_cons]
    rw [crcS_xor x y _ _ (by simpa using h)]
    congr 1
    rw [crcStep, crcStep, crcStep, ← crcBit_xor]
    congr 1
    have : bit1 (a ^^ b) = bit1 a ^^^ bit1 b := by cases a <;> cases b <;> decide
    rw [this]
    ac_rfl
theorem crcS_falses (k : Nat) : ∀ c : BitVec 32, crcS c (List.replicate k false) = crcBits k c := by
  induction k with
  | zero => intro c; rfl
  | succ k ih => intro c; rw [List.replicate_succ, crcS_cons, ih]; simp [crcBits, crcStep, bit1]
theorem crcBits_zero (k : Nat) : crcBits k 0#32 = 0#32 := by
  have := crcBits_xor k 0#32 0#32
  simpa using this
theorem toBits_flip (l : List UInt8) (i j : Nat) : (toBits (flipBit l i))[j]? = ((toBits l)[j]?).map fun b => b ^^ decide (i = j) := by
  rw [toBits_get, toBits_get, flipBit, List.getElem?_modify]
  cases hl : l[j / 8]? with
  | none => simp
  | some x =>
    simp only [Option.map_eq_map, Option.map_some]
    congr 1
    by_cases hq : i / 8 = j / 8
    · rw [if_pos hq, UInt8.toNat_xor, Nat.testBit_xor]
      congr 1
      have hlt : 2 ^ (i % 8) < 256 := Nat.pow_lt_pow_right (a := 2) (n := 8) (by omega) (by omega)
      rw [UInt8.toNat_ofNat', Nat.mod_eq_of_lt hlt, Nat.testBit_two_pow]
      have : (i % 8 = j % 8) ↔ i = j := by omega
      simp [this]
    · rw [if_neg hq]
      have : ¬ i = j := by rintro rfl; exact hq rfl
      simp [this]
theorem toBits_burst (l : List UInt8) (a : Nat) (m : BitVec 32) (j : Nat) : ∀ k, (toBits (burstK l a m k))[j]? = ((toBits l)[j]?).map fun b => b ^^ (decide (a ≤ j) && decide (j < a + k) && m.getLsbD (j - a))
  | 0 => by
    have : ¬ (a ≤ j ∧ j < a) := by omega
    have h2 : (decide (a ≤ j) && decide (j < a + 0)) = false := by simp
    simp only [h2, Bool.false_and, Bool.xor_false, burstK]
    simp
  | k + 1 => by
    have ih := toBits_burst l a m j k
    simp only [burstK]
    by_cases hj : j = a + k
    · subst hj
      have e1 : (decide (a ≤ a + k) && decide (a + k < a + k)) = false := by simp
      have e2 : (decide (a ≤ a + k) && decide (a + k < a + (k + 1))) = true := by simp
      have e3 : a + k - a = k := by omega
      simp only [e1, e2, e3, Bool.false_and, Bool.true_and, Bool.xor_false] at ih ⊢
      split
      · rename_i h
        rw [toBits_flip, ih]
        simp [h, Function.comp_def]
      · rename_i h
        rw [ih]
        simp [h]
    · have e : decide (j < a + (k + 1)) = decide (j < a + k) := by
        have : (j < a + (k + 1)) ↔ (j < a + k) := by omega
        simp [this]
      rw [e]
      split
      · rw [toBits_flip, ih]
        have : ¬ a + k = j := fun h => hj h.symm
        simp [this, Function.comp_def]
      · exact ih
theorem burst_diff (l : List UInt8) (a : Nat) (m : BitVec 32) (h : a + wide m ≤ 8 * l.length) :
    List.zipWith xor (toBits (burstK l a m (wide m))) (toBits l) = List.replicate a false ++ (bitsN (wide m) m.toNat ++ List.replicate (8 * l.length - a - wide m) false) := by
  apply List.ext_getElem?
  intro j
  rw [List.getElem?_zipWith, toBits_burst]
  by_cases hj : j < 8 * l.length
  · obtain ⟨b, hb⟩ : ∃ b, (toBits l)[j]? = some b := ⟨(toBits l)[j]'(by simpa using hj), by simp [hj]⟩
    rw [hb]
    simp only [Option.map_some]
    by_cases h1 : j < a
    · rw [List.getElem?_append_left (by simpa using h1), List.getElem?_replicate, if_pos h1]
      have : decide (a ≤ j) = false := by simp; omega
      simp [this]
    · rw [List.getElem?_append_right (by simp; omega), List.length_replicate]
      have e1 : decide (a ≤ j) = true := by simp; omega
      by_cases h2 : j < a + wide m
      · rw [List.getElem?_append_left (by simp; omega), bitsN_get, if_pos (by omega)]
        simp [e1, h2, BitVec.getLsbD]
        cases b <;> simp
      · rw [List.getElem?_append_right (by simp; omega), List.getElem?_replicate, bitsN_length, if_pos (by omega)]
        have e2 : decide (j < a + wide m) = false := by simp; omega
        simp [e1, e2]
  · have hb : (toBits l)[j]? = none := by rw [List.getElem?_eq_none]; simp; omega
    rw [hb, List.getElem?_eq_none]
    · simp
    · simp; omega
theorem lt_wide (m : BitVec 32) : m.toNat < 2 ^ wide m := lt_bitLen m.toNat (Nat.lt_trans m.isLt (by decide))
theorem burst_found (l : List UInt8) (a : Int) (m : BitVec 32) (l2 : List UInt8) (h : openF (burstF (sealF l) a m) = some l2) : burstF (sealF l) a m = sealF l := by
  have hs := openF_some h
  unfold burstF at hs ⊢
  by_cases hc : a < 0 ∨ (0 < wide m ∧ 8 * ((sealF l).length : Int) - wide m < a)
  · rw [if_pos hc]
  rw [if_neg hc] at hs ⊢
  by_cases hw : wide m = 0
  · rw [hw]; rfl
  have hfit : a.toNat + wide m ≤ 8 * (sealF l).length := by omega
  have h1 : crcL (BitVec.allOnes 32) (burstK (sealF l) a.toNat m (wide m)) = crcL (BitVec.allOnes 32) (sealF l) := by
    rw [hs, crcL_seal, crcL_seal]
  have hx := crcS_xor (toBits (burstK (sealF l) a.toNat m (wide m))) (toBits (sealF l)) (BitVec.allOnes 32) (BitVec.allOnes 32) (by simp)
  rw [← crcL_toBits, ← crcL_toBits, h1, BitVec.xor_self, BitVec.xor_self, burst_diff _ _ _ hfit, crcS_append, crcS_falses, crcBits_zero, crcS_append, crcS_falses, ← crcS_bits _ _ _ (lt_wide m)] at hx
  have h2 := crcBits_inj _ hx.symm
  have h3 := crcBits_inj _ h2
  have h4 : m = 0#32 := by simpa using h3
  subst h4
  exfalso
  apply hw
  decide
end Go.Proofs.YtjbbfiagijjdoaaGreat
