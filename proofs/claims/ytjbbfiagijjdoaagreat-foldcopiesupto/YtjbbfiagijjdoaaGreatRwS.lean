/- Parts of the proof: what is used by the law. No condition. -/
import Derived.Test.YtjbbfiagijjdoaaGreatRwO
set_option linter.unusedSimpArgs false
set_option linter.unusedVariables false
/- Laws for the walk over abstract states. No condition. -/
set_option linter.unusedSimpArgs false
set_option linter.unusedVariables false
namespace Go.Rw

theorem upd_apply {α : Type} (f : Nat → α) (i j : Nat) (x : α) : upd f i x j = if j = i then x else f j := rfl

section
variable {P : Program} {Q : AExit → ASt → Prop} {s : ASt}

theorem awp_skip : awp P .skip Q s = Q .normal s := rfl
theorem awp_region (id : Nat) (l : List Oper) : awp P (.region id l.toArray false) Q s = aops P l l s (Q .normal) := rfl
theorem awp_draw (id : Nat) (l : List Oper) : awp P (.region id l.toArray true) Q s = adraw P l.toArray s (Q .normal) := rfl
theorem awp_seq (x y : Code) : awp P (.seq x y) Q s = awp P x (fun e s' => match e with | .normal => awp P y Q s' | e => Q e s') s := rfl
theorem awp_cond (c : Operand) (x y : Code) : awp P (.cond c x y) Q s = match s.ev c with
    | .v (.bool b) => if b = true then awp P x Q s else awp P y Q s
    | _ => False := rfl
theorem awp_block (id : Nat) (c : Code) : awp P (.block id c) Q s = awp P c (fun e s' => match e with | .exit id' => if id' = id then Q .normal s' else Q (.exit id') s' | e => Q e s') s := rfl
theorem awp_exit (id : Nat) : awp P (.exit id) Q s = Q (.exit id) s := rfl
theorem awp_ret : awp P .ret Q s = Q .ret s := rfl

theorem awp_loop {c : Code} (Inv : ASt → Prop) (μ : ASt → Nat) (h0 : Shift s Inv)
    (hr : ∀ s', s'.n = s.n → Inv s' → awp P c (fun e s'' => match e with | .normal => Inv s'' ∧ μ s'' < μ s' | e => Q e s'') s') : awp P (.loop c) Q s :=
  ⟨Inv, μ, h0, hr⟩

theorem awp_mono : ∀ (c : Code) {Q Q' : AExit → ASt → Prop} {s : ASt}, (∀ e s, Q e s → Q' e s) → awp P c Q s → awp P c Q' s
  | .skip, _, _, _, h, hh => h _ _ hh
  | .region id ops draw, Q, Q', s, h, hh => by
    have hops : ∀ (l : List Oper) (s : ASt), aops P ops.toList l s (Q .normal) → aops P ops.toList l s (Q' .normal) := by
      intro l
      induction l with
      | nil => exact fun s hs => h _ _ hs
      | cons o l ih =>
        intro s hs
        simp only [aops] at *
        split at hs
        · rename_i hw; rw [if_pos hw]; exact aop_mono (fun s' => ih s') hs
        · rename_i hw; rw [if_neg hw]; exact ih _ hs
    have hd : ∀ (M : Msk) (ms : List Md) (l : List Oper) (i : Nat) (s : ASt), aopsD P M ops ms i l s (Q .normal) → aopsD P M ops ms i l s (Q' .normal) := by
      intro M ms l
      induction l with
      | nil => exact fun i s hs => h _ _ hs
      | cons o l ih =>
        intro i s hs
        simp only [aopsD] at *
        cases hm : mdAt ms i with
        | q =>
          simp only [hm] at hs ⊢
          split at hs
          · rename_i hw; rw [if_pos hw]; exact aeff_mono (fun e => ih _ _) hs
          · rename_i hw; rw [if_neg hw]; exact ih _ _ hs
        | r =>
          simp only [hm] at hs ⊢
          split at hs
          · rename_i hw; rw [if_pos hw]; exact aeff_mono (fun e => ih _ _) hs
          · rename_i hw; rw [if_neg hw]; exact ih _ _ hs
        | l =>
          simp only [hm] at hs ⊢
          split at hs
          · rename_i hw; rw [if_pos hw]; exact aloud_mono (fun s' => ih _ _) hs
          · rename_i hw; rw [if_neg hw]; exact ih _ _ hs
        | s =>
          simp only [hm] at hs ⊢
          split at hs
          · rename_i hw; rw [if_pos hw]; exact aop_mono (fun s' => ih _ _) hs
          · rename_i hw; rw [if_neg hw]; exact ih _ _ hs
    have ho : ∀ (M : Msk) (ms : List Md) (l : List Nat) (s : ASt), aopsO P M ops ms l s (Q .normal) → aopsO P M ops ms l s (Q' .normal) := by
      intro M ms l
      induction l with
      | nil => exact fun s hs => h _ _ hs
      | cons i l ih =>
        intro s hs
        simp only [aopsO] at *
        cases hi : ops[i]? with
        | none => simp only [hi] at hs ⊢; exact ih _ hs
        | some o =>
          simp only [hi] at hs ⊢
          cases hm : mdAt ms i with
          | q =>
            simp only [hm] at hs ⊢
            split at hs
            · rename_i hw; rw [if_pos hw]; exact aeff_mono (fun e => ih _) hs
            · rename_i hw; rw [if_neg hw]; exact ih _ hs
          | r =>
            simp only [hm] at hs ⊢
            split at hs
            · rename_i hw; rw [if_pos hw]; exact aeff_mono (fun e => ih _) hs
            · rename_i hw; rw [if_neg hw]; exact ih _ hs
          | l =>
            simp only [hm] at hs ⊢
            split at hs
            · rename_i hw; rw [if_pos hw]; exact aloud_mono (fun s' => ih _) hs
            · rename_i hw; rw [if_neg hw]; exact ih _ hs
          | s =>
            simp only [hm] at hs ⊢
            split at hs
            · rename_i hw; rw [if_pos hw]; exact aop_mono (fun s' => ih _) hs
            · rename_i hw; rw [if_neg hw]; exact ih _ hs
    simp only [awp] at *
    cases draw with
    | true =>
      simp only [if_true] at *
      rcases hh with ⟨M, ms, h1, h2⟩ | ⟨M, ms, l, h1, h2⟩
      · exact .inl ⟨M, ms, h1, hd _ _ _ _ _ h2⟩
      · exact .inr ⟨M, ms, l, h1, ho _ _ _ _ h2⟩
    | false => simp only [Bool.false_eq_true, if_false] at *; exact hops _ _ hh
  | .seq x y, Q, Q', s, h, hh => awp_mono x (fun e s' hq => by
      cases e with
      | normal => exact awp_mono y h hq
      | exit id => exact h _ _ hq
      | ret => exact h _ _ hq) hh
  | .cond c x y, Q, Q', s, h, hh => by
    simp only [awp] at *
    split at hh
    · split at hh
      · rename_i hb; rw [if_pos hb]; exact awp_mono x h hh
      · rename_i hb; rw [if_neg hb]; exact awp_mono y h hh
    · exact hh.elim
  | .block id c, Q, Q', s, h, hh => awp_mono c (fun e s' hq => by
      cases e with
      | normal => exact h _ _ hq
      | exit id' =>
        simp only at *
        split at hq
        · rename_i hi; rw [if_pos hi]; exact h _ _ hq
        · rename_i hi; rw [if_neg hi]; exact h _ _ hq
      | ret => exact h _ _ hq) hh
  | .loop c, Q, Q', s, h, ⟨Inv, μ, h0, hr⟩ => ⟨Inv, μ, h0, fun s' hn hi => awp_mono c (fun e s' hq => by
      cases e with
      | normal => exact hq
      | exit id => exact h _ _ hq
      | ret => exact h _ _ hq) (hr s' hn hi)⟩
  | .exit id, _, _, _, h, hh => h _ _ hh
  | .ret, _, _, _, h, hh => h _ _ hh
  | .rangeFunc .., _, _, _, _, hh => hh.elim
  | .scope _, _, _, _, _, hh => hh.elim
  | .label _, _, _, _, _, hh => hh.elim
  | .goto _, _, _, _, _, hh => hh.elim
  | .refuse _, _, _, _, _, hh => hh.elim

theorem ASpec.of_awp {f : FuncId} {fn : Func} {c : Code} {args : List AV} {R : AV → Prop} {rs : List ResultVar} {n : Nat} (hf : P.funcs[f]? = some fn) (hc : callT P f = true) (hb : fn.body = some c) (hr : fn.results.toList = rs) (hn : fn.ntmps = n)
    (h : awp P c (endQ P rs R) (enterSt n args)) : ASpec P f args R :=
  .of_awpS hf hc hb hr hn (awp_mono c (fun e s hq => by
    cases e with
    | exit id => exact hq
    | _ => exact Shift.refl hq) h)
theorem MSpec.of_awp {f : FuncId} {fn : Func} {c : Code} {args : List AV} {h : Nat → Option (List AV)} {R : AV → (Nat → Option (List AV)) → Prop} {rs : List ResultVar} {n : Nat} (hf : P.funcs[f]? = some fn) (hc : callT P f = true) (hb : fn.body = some c) (hr : fn.results.toList = rs) (hn : fn.ntmps = n)
    (hh : awp P c (endH P rs R) (enterStH n args h)) : MSpec P f args h R :=
  .of_awpS hf hc hb hr hn (awp_mono c (fun e s hq => by
    cases e with
    | exit id => exact hq
    | _ => exact Shift.refl hq) hh)

/-- cut: what holds behind the first part -/
theorem awp_cut {x y : Code} (M : ASt → Prop) (hx : awp P x (fun e s' => match e with | .normal => M s' | e => Q e s') s) (hy : ∀ s', M s' → awp P y Q s') : awp P (.seq x y) Q s :=
  awp_mono x (fun e s' h => by
    cases e with
    | normal => exact hy s' h
    | exit id => exact h
    | ret => exact h) hx

/-- a hidden continuation: the code behind is not looked at meanwhile -/
theorem awp_seq_k {x y : Code} (h : ∀ K : ASt → Prop, (∀ s', awp P y Q s' → K s') → awp P x (fun e s' => match e with | .normal => K s' | e => Q e s') s) : awp P (.seq x y) Q s :=
  h _ fun _ h => h

end

/-! ### numbers -/
theorem aNum_add (k : IntKind) (a b : Int) : aNum .add (.int k a) (.int k b) = some (.int k (k.wrap (a + b))) := by simp [aNum, isNum, Go.binOp, Op.intArith]
theorem aNum_sub (k : IntKind) (a b : Int) : aNum .sub (.int k a) (.int k b) = some (.int k (k.wrap (a - b))) := by simp [aNum, isNum, Go.binOp, Op.intArith]
theorem aNum_mul (k : IntKind) (a b : Int) : aNum .mul (.int k a) (.int k b) = some (.int k (k.wrap (a * b))) := by simp [aNum, isNum, Go.binOp, Op.intArith]
theorem aNum_quo (k : IntKind) (a b : Int) (hb : b ≠ 0) : aNum .quo (.int k a) (.int k b) = some (.int k (k.wrap (a.tdiv b))) := by simp [aNum, isNum, Go.binOp, Op.intDiv, hb]
theorem aNum_rem (k : IntKind) (a b : Int) (hb : b ≠ 0) : aNum .rem (.int k a) (.int k b) = some (.int k (a.tmod b)) := by simp [aNum, isNum, Go.binOp, Op.intDiv, hb]
theorem aNum_eql (k : IntKind) (a b : Int) : aNum .eql (.int k a) (.int k b) = some (.bool (decide (a = b))) := by simp [aNum, isNum, Go.binOp, Op.intCmp]; rfl
theorem aNum_neq (k : IntKind) (a b : Int) : aNum .neq (.int k a) (.int k b) = some (.bool (!decide (a = b))) := by simp [aNum, isNum, Go.binOp, Op.intCmp]; rfl
theorem aNum_lss (k : IntKind) (a b : Int) : aNum .lss (.int k a) (.int k b) = some (.bool (decide (a < b))) := by simp [aNum, isNum, Go.binOp, Op.intCmp]
theorem aNum_leq (k : IntKind) (a b : Int) : aNum .leq (.int k a) (.int k b) = some (.bool (decide (a ≤ b))) := by simp [aNum, isNum, Go.binOp, Op.intCmp]
theorem aNum_gtr (k : IntKind) (a b : Int) : aNum .gtr (.int k a) (.int k b) = some (.bool (decide (a > b))) := by simp [aNum, isNum, Go.binOp, Op.intCmp]
theorem aNum_geq (k : IntKind) (a b : Int) : aNum .geq (.int k a) (.int k b) = some (.bool (decide (a ≥ b))) := by simp [aNum, isNum, Go.binOp, Op.intCmp]
/-- a bitwise operator's answer -/
def bitOp (op : BinOp) (k : IntKind) (a b : Int) : Int :=
  k.wrap (match op with
    | .and => BitVec.ofInt k.bits a &&& BitVec.ofInt k.bits b
    | .or => BitVec.ofInt k.bits a ||| BitVec.ofInt k.bits b
    | .xor => BitVec.ofInt k.bits a ^^^ BitVec.ofInt k.bits b
    | _ => BitVec.ofInt k.bits a &&& ~~~ BitVec.ofInt k.bits b : BitVec k.bits).toNat
theorem aNum_and (k : IntKind) (a b : Int) : aNum .and (.int k a) (.int k b) = some (.int k (bitOp .and k a b)) := by simp [aNum, isNum, Go.binOp, Op.intBits, bitOp]
theorem aNum_or (k : IntKind) (a b : Int) : aNum .or (.int k a) (.int k b) = some (.int k (bitOp .or k a b)) := by simp [aNum, isNum, Go.binOp, Op.intBits, bitOp]
theorem aNum_xor (k : IntKind) (a b : Int) : aNum .xor (.int k a) (.int k b) = some (.int k (bitOp .xor k a b)) := by simp [aNum, isNum, Go.binOp, Op.intBits, bitOp]
theorem aNum_andNot (k : IntKind) (a b : Int) : aNum .andNot (.int k a) (.int k b) = some (.int k (bitOp .andNot k a b)) := by simp [aNum, isNum, Go.binOp, Op.intBits, bitOp]
theorem aNum_shl (k k' : IntKind) (a b : Int) (hb : 0 ≤ b) : aNum .shl (.int k a) (.int k' b) = some (.int k (k.wrap (a * 2 ^ (min b.toNat k.bits)))) := by
  have : ¬ b < 0 := by omega
  simp [aNum, isNum, Go.binOp, Op.shift, this]
theorem aNum_shr (k k' : IntKind) (a b : Int) (hb : 0 ≤ b) : aNum .shr (.int k a) (.int k' b) = some (.int k (a.fdiv (2 ^ (min b.toNat k.bits)))) := by
  have : ¬ b < 0 := by omega
  simp [aNum, isNum, Go.binOp, Op.shift, this]
theorem aNum_feq (a b : Nat) : aNum .eql (.float .f64 a) (.float .f64 b) = some (.bool (FloatKind.f64.format.order a b == some .eq)) := by simp [aNum, isNum, Go.binOp, Op.floatCmp]
theorem aNum_fne (a b : Nat) : aNum .neq (.float .f64 a) (.float .f64 b) = some (.bool (FloatKind.f64.format.order a b != some .eq)) := by simp [aNum, isNum, Go.binOp, Op.floatCmp]

theorem tdiv_pos {a b : Int} (h : 0 ≤ a) : a.tdiv b = a / b := Int.tdiv_eq_ediv_of_nonneg h
theorem tmod_pos {a b : Int} (h : 0 ≤ a) : a.tmod b = a % b := Int.tmod_eq_emod_of_nonneg h
theorem bne_false' (b : Bool) : (false != b) = b := by cases b <;> rfl
theorem bne_true' (b : Bool) : (true != b) = !b := by cases b <;> rfl

theorem aUn_not (b : Bool) : aUn .not (.v (.bool b)) = some (.v (.bool (!b))) := rfl
theorem aUn_neg (k : IntKind) (a : Int) : aUn .neg (.v (.int k a)) = some (.v (.int k (k.wrap (0 - a)))) := rfl
theorem aUn_xor_u (k : IntKind) (a : Int) (hk : k.signed = false) : aUn .xor (.v (.int k a)) = some (.v (.int k (bitOp .xor k k.max a))) := by
  simp [aUn, Op.unary, hk, Op.intBits, bitOp]

theorem w64 {x : Int} (h1 : -9223372036854775808 ≤ x) (h2 : x ≤ 9223372036854775807) : IntKind.i64.wrap x = x := IntWalk.i64_in x (by omega)
theorem wu8 {x : Int} (h1 : 0 ≤ x) (h2 : x < 256) : IntKind.u8.wrap x = x := by simp [IntKind.wrap, IntKind.bits, IntKind.signed]; omega
theorem wu32 {x : Int} (h1 : 0 ≤ x) (h2 : x < 4294967296) : IntKind.u32.wrap x = x := by simp [IntKind.wrap, IntKind.bits, IntKind.signed]; omega
theorem wu64 {x : Int} (h1 : 0 ≤ x) (h2 : x < 18446744073709551616) : IntKind.u64.wrap x = x := by simp [IntKind.wrap, IntKind.bits, IntKind.signed]; omega

/-- the number in a slot -/
def natAt (s : ASt) (i : Nat) : Nat := match s.t i with | .v (.int _ n) => n.toNat | _ => 0

theorem natAt_of {s : ASt} {i : Nat} {k : IntKind} {n : Int} (h : s.t i = .v (.int k n)) : natAt s i = n.toNat := by simp [natAt, h]

end Go.Rw
