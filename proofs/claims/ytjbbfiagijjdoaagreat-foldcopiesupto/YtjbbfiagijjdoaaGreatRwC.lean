/- Parts of the proof: what is used by the law. No condition. -/
import Derived.Test.YtjbbfiagijjdoaaGreatRwB
set_option linter.unusedSimpArgs false
set_option linter.unusedVariables false
/- The operations that only yield a value: they are right. No condition. -/
set_option linter.unusedSimpArgs false
set_option linter.unusedVariables false
namespace Go.Rw
section
variable {P : Program} {w : World} {I : Imm}

theorem aNum_run {op : BinOp} {t : TypeId} {a b v : Value} (h : aNum op a b = some v) : (Go.binOp op t a b).run P w = .ok v w := by
  unfold aNum at h
  split at h
  · rename_i hn
    have key : Go.binOp op t a b = Go.binOp op 0 a b := by
      cases a <;> cases b <;> simp [isNum] at hn <;> cases op <;> rfl
    rw [key]
    exact run_of_val h P w
  · simp at h

theorem eqGuard_num {op : BinOp} {t : TypeId} {x y : Operand} {a b : Value} (h : isNum a b = true) : eqGuard op t x y a b = pure () := by
  cases a <;> cases b <;> simp [isNum] at h <;> cases op <;> rfl

theorem aBin_sound {op : BinOp} {t : TypeId} {ox oy : Operand} {x y r : AV} {a b : Value} (hx : Rep I x a) (hy : Rep I y b) (h : aBin P op t x y = some r) :
    ∃ v, (do eqGuard op t ox oy a b; Go.binOp op t a b : Sem Value).run P w = .ok v w ∧ Rep I r v := by
  unfold aBin at h
  split at h
  · cases hx; cases hy
    rename_i p q
    split at h
    · rename_i hb
      obtain rfl := Option.some.inj h
      unfold boolT at hb
      split at hb
      · rename_i hu
        refine ⟨.bool (p == q), ?_, .v _⟩
        simp [eqGuard_at_bool, run_eql_bool w t p q hu]
      · simp at hb
    · simp at h
  · cases hx; cases hy
    rename_i p q
    split at h
    · rename_i hb
      obtain rfl := Option.some.inj h
      unfold boolT at hb
      split at hb
      · rename_i hu
        refine ⟨.bool (p != q), ?_, .v _⟩
        simp [eqGuard_at_bool, Go.binOp, run_equal_bool w t p q hu, bne]
      · simp at hb
    · simp at h
  · split at h
    · rename_i want hpn
      split at h
      · rename_i hpt
        unfold ptrT at hpt
        split at hpt
        · rename_i e hu
          have hu' : P.underlying t = some (.pointer (P.pointee t)) := by rw [hu]; simp [Program.pointee, hu]
          have heq : ∀ p : Option Addr, (Op.equal t (.pointer p) (.pointer none)).run P w = .ok p.isNone w := fun p => run_equal_pointer_nil w t p hu'
          have hb : b = .pointer none := by
            unfold isPtrNil at hpn
            split at hpn
            · cases hy; rfl
            · cases hy; rfl
            · simp at hpn
          obtain ⟨p, hp, hv⟩ : ∃ p : Option Addr, a = .pointer p ∧ r = .v (.bool (p.isNone == want)) := by
            unfold ptrV at h
            split at h
            · cases hx; simp only [Option.map_some, Option.some.injEq] at h; exact ⟨_, rfl, h.symm⟩
            · cases hx; simp only [Option.map_some, Option.some.injEq] at h; exact ⟨_, rfl, h.symm⟩
            · simp at h
          subst hb; subst hp; subst hv
          refine ⟨.bool (p.isNone == want), ?_, .v _⟩
          unfold isPtrNil at hpn
          split at hpn
          · obtain rfl := Option.some.inj hpn
            have hb : Go.binOp .eql t (.pointer p) (.pointer none) = (do let b ← Op.equal t (.pointer p) (.pointer none); pure (.bool b)) := rfl
            simp [eqGuard_at_pointer, hb, heq]
          · obtain rfl := Option.some.inj hpn
            have hb : Go.binOp .neq t (.pointer p) (.pointer none) = (do let b ← Op.equal t (.pointer p) (.pointer none); pure (.bool (!b))) := rfl
            simp [eqGuard_at_pointer, hb, heq]
          · simp at hpn
        · simp at hpt
      · simp at h
    · split at h
      · cases hx; cases hy
        cases hn : aNum op a b with
        | none => simp [hn] at h
        | some v =>
          simp [hn] at h
          subst h
          have hnum : isNum a b = true := by
            unfold aNum at hn
            split at hn
            · assumption
            · simp at hn
          exact ⟨v, by rw [eqGuard_num hnum]; simpa using aNum_run hn, .v _⟩
      · simp at h

theorem aIdx_some {i : AV} {y : Value} {n : Int} (hi : Rep I i y) (h : aIdx i = some n) : ∃ k, y = .int k n := by
  unfold aIdx at h
  split at h
  · cases hi; rename_i k m; obtain rfl := Option.some.inj h; exact ⟨k, rfl⟩
  · simp at h

theorem run_asIntOf (k : IntKind) (n : Int) : (asIntOf (.int k n)).run P w = .ok (k, n) w := rfl

theorem aindexAddr_sound {t : TypeId} {x i r : AV} {a b : Value} (hx : Rep I x a) (hi : Rep I i b) (h : aindexAddr P t x i = some r) :
    ∃ v, (Instr.indexAt t a b).run P w = .ok v w ∧ Rep I r v := by
  unfold aindexAddr at h
  cases hn : aIdx i with
  | none => simp [hn] at h
  | some n =>
    obtain ⟨k, rfl⟩ := aIdx_some hi hn
    simp only [hn] at h
    split at h
    · rename_i rows
      cases hs : slT P t with
      | none => simp [hs] at h
      | some e =>
        obtain ⟨inf, hu, hinf, hsz, _⟩ := slT_some hs
        simp only [hs] at h
        split at h
        · rename_i h0
          cases hr : rows[n.toNat]? with
          | none => simp [hr] at h
          | some row =>
            simp only [hr] at h
            split at h
            · rename_i hlen
              obtain rfl := Option.some.inj h
              have hlt : n.toNat < rows.length := by
                rcases Nat.lt_or_ge n.toNat rows.length with h' | h'
                · exact h'
                · simp [List.getElem?_eq_none h'] at hr
              cases hx with
              | nil => simp at hlt
              | empty => simp at hlt
              | sl s c ht hcap hl hss hkk hii hrr =>
                rename_i bb o cap
                refine ⟨.pointer (some ⟨bb, (o + n.toNat * e.2.1) + 0, none⟩), ?_, .ea (fun j => c n.toNat j) (fun j hj => ?_) (fun j x hx => hrr _ _ _ _ hr hx)⟩
                · have h1 : 0 ≤ n ∧ n < (rows.length : Int) := ⟨h0, by omega⟩
                  simp [Instr.indexAt, run_asIntOf, run_underlying hu, h1, run_sizeOf' hinf, hsz, Addr.add_lit]
                · have := hss _ _ hr
                  rw [← hlen, this]
                  exact hii _ _ hlt (by rw [← this]; exact hj)
            · simp at h
        · simp at h
    · rename_i bb off len
      cases hs : slT P t with
      | none => simp [hs] at h
      | some e =>
        obtain ⟨inf, hu, hinf, hsz, _⟩ := slT_some hs
        simp only [hs] at h
        split at h
        · rename_i hlt
          obtain rfl := Option.some.inj h
          cases hx
          refine ⟨_, ?_, .ptr _ _⟩
          simp [Instr.indexAt, run_asIntOf, run_underlying hu, hlt, run_sizeOf' hinf, hsz, Addr.add_lit]
        · simp at h
    · rename_i bb off
      cases hs : arT P t with
      | none => simp [hs] at h
      | some e =>
        obtain ⟨et, inf, hu, hinf, hsz⟩ := arT_some hs
        simp only [hs] at h
        split at h
        · rename_i hlt
          obtain rfl := Option.some.inj h
          cases hx
          refine ⟨_, ?_, .ptr _ _⟩
          simp [Instr.indexAt, Instr.sureAddr, run_asIntOf, run_underlying hu, hlt, run_sizeOf' hinf, hsz, Addr.add_lit]
        · simp at h
    · simp at h

def afieldAddr (P : Program) (t : TypeId) (x : AV) (f : Nat) : Option AV :=
  match fT P t f with
  | none => none
  | some o => match x with
    | .ea row off => some (.ea row (off + o))
    | .ptr b off => some (.ptr b (off + o))
    | _ => none

theorem afieldAddr_sound {t : TypeId} {f : Nat} {x r : AV} {a : Value} (hx : Rep I x a) (h : afieldAddr P t x f = some r) :
    ∃ v, (Instr.fieldAt t a f).run P w = .ok v w ∧ Rep I r v := by
  unfold afieldAddr at h
  cases hf : fT P t f with
  | none => simp [hf] at h
  | some o =>
    simp only [hf] at h
    unfold fT at hf
    split at hf
    · rename_i fs hu
      cases hg : fs[f]? with
      | none => simp [hg] at hf
      | some g =>
        simp only [hg] at hf
        cases hi : P.info? g.type with
        | none => simp [hi] at hf
        | some i =>
          simp only [hi] at hf
          split at hf
          · simp at hf
          · rename_i hz
            obtain rfl := Option.some.inj hf
            have hplace : ∀ b off, (fieldPlace ⟨b, off, none⟩ g).run P w = .ok ⟨b, off + g.offset, none⟩ w := fun b off => by
              simp [fieldPlace, run_sizeOf' hi, hz, Addr.add_lit]
            cases hx with
            | ea c h1 h2 =>
              simp only [Option.some.injEq] at h
              subst h
              refine ⟨_, ?_, by rename_i row off b o; exact Rep.ea (off := off + g.offset) c h1 h2⟩
              simp [Instr.fieldAt, run_underlying hu, hg, Instr.sureAddr, hplace, Nat.add_assoc]
            | ptr b off =>
              simp only [Option.some.injEq] at h
              subst h
              refine ⟨_, ?_, .ptr _ _⟩
              simp [Instr.fieldAt, run_underlying hu, hg, Instr.sureAddr, hplace]
            | _ => simp at h
    · simp at hf


theorem aBound_sound {d : Nat} {x : Option AV} {y : Option Value} {n : Int} (hn : x.isSome = y.isSome) (hx : ∀ a b, x = some a → y = some b → Rep I a b)
    (h : aBound d x = some n) : (y = none ∧ n = d) ∨ ∃ k, y = some (.int k n) := by
  unfold aBound at h
  split at h
  · cases y with
    | none => exact .inl ⟨rfl, (Option.some.inj h).symm⟩
    | some b => simp at hn
  · cases y with
    | none => simp at hn
    | some b =>
      have := hx _ _ rfl rfl
      cases this
      obtain rfl := Option.some.inj h
      exact .inr ⟨_, rfl⟩
  · simp at h

theorem sliceBounds_run {len cap : Nat} {lo hi : Option Value} {l h : Int} (hl : (lo = none ∧ l = 0) ∨ ∃ k, lo = some (.int k l)) (hh : (hi = none ∧ h = len) ∨ ∃ k, hi = some (.int k h))
    (h0 : 0 ≤ l) (h1 : l ≤ h) (h2 : h ≤ cap) : (Instr.sliceBounds true len cap lo hi none).run P w = .ok (l.toNat, h.toNat, cap) w := by
  have hb : ∀ (k : IntKind) (i : Int) (y : Nat) (code : BoundsCode), 0 ≤ i → i ≤ y → (Instr.sliceBound (.int k i) y code).run P w = .ok i.toNat w := fun k i y code a b => by
    simp [Instr.sliceBound, run_asIntOf, a, b]
  rcases hl with ⟨rfl, rfl⟩ | ⟨kl, rfl⟩ <;> rcases hh with ⟨rfl, rfl⟩ | ⟨kh, rfl⟩
  · simp [Instr.sliceBounds]
  · simp [Instr.sliceBounds, hb kh h cap _ (by omega) h2]
  · simp [Instr.sliceBounds, hb kl l len _ h0 h1]
  · have h3 : l ≤ ((h.toNat : Nat) : Int) := by omega
    simp [Instr.sliceBounds, hb kh h cap _ (by omega) h2, hb kl l h.toNat _ h0 h3]

theorem aslice_sound {t : TypeId} {x r : AV} {lo hi : Option AV} {a : Value} {lo' hi' : Option Value} (hx : Rep I x a)
    (hl1 : lo.isSome = lo'.isSome) (hl2 : ∀ p q, lo = some p → lo' = some q → Rep I p q) (hh1 : hi.isSome = hi'.isSome) (hh2 : ∀ p q, hi = some p → hi' = some q → Rep I p q)
    (h : aslice P t x lo hi = some r) : ∃ v, (Instr.sliceAt t a lo' hi' none).run P w = .ok v w ∧ Rep I r v := by
  unfold aslice at h
  split at h
  · rename_i _ _ tag rows e hs
    obtain ⟨inf, hu, hinf, hsz, _⟩ := slT_some hs
    split at h
    · rename_i l hb hlo hhi
      split at h
      · rename_i hc
        obtain ⟨h0, h1, h2, hrows⟩ := hc
        obtain rfl := Option.some.inj h
        cases hx with
        | nil =>
          have hh' : hb = 0 := by simp at h2; omega
          have hl' : l = 0 := by omega
          subst hh'; subst hl'
          have := sliceBounds_run (P := P) (w := w) (len := 0) (cap := 0) (aBound_sound hl1 hl2 hlo) (h := 0) (aBound_sound hh1 hh2 hhi) (by omega) (by omega) (by omega)
          refine ⟨.slice none 0 0, ?_, ?_⟩
          · simp [Instr.sliceAt, run_underlying hu, Instr.slice, this, run_sizeOf' hinf]
          · simpa using Rep.nil (I := I) .no
        | empty _ _ ad c =>
          have hh' : hb = 0 := by simp at h2; omega
          have hl' : l = 0 := by omega
          subst hh'; subst hl'
          have := sliceBounds_run (P := P) (w := w) (len := 0) (cap := c) (aBound_sound hl1 hl2 hlo) (h := 0) (aBound_sound hh1 hh2 hhi) (by omega) (by omega) (by omega)
          refine ⟨.slice (some ad) 0 c, ?_, ?_⟩
          · simp [Instr.sliceAt, run_underlying hu, Instr.slice, this, run_sizeOf' hinf, Addr.add]
          · simpa using Rep.empty (I := I) .no (by simp) ad c
        | sl s c ht hcap hlen hss hkk hii hrr =>
          rename_i b o cap
          have := sliceBounds_run (P := P) (w := w) (len := rows.length) (cap := cap) (aBound_sound hl1 hl2 hlo) (aBound_sound hh1 hh2 hhi) h0 h1 (by omega)
          have hs2 : rows ≠ [] → s = e.2.1 := fun hne => by
            cases rows with
            | nil => exact absurd rfl hne
            | cons r0 rest => rw [← hss 0 r0 rfl]; exact hrows r0 (by simp)
          have hlen' : ((rows.drop l.toNat).take (hb.toNat - l.toNat)).length = hb.toNat - l.toNat := by simp; omega
          refine ⟨.slice (some ⟨b, (if cap = l.toNat then o else o + l.toNat * e.2.1), none⟩) (hb.toNat - l.toNat) (cap - l.toNat), ?_, ?_⟩
          · simp only [Instr.sliceAt, Sem.run_bind, run_underlying hu, Result.andThen_ok, Instr.slice, this, run_sizeOf' hinf, Sem.run_pure, hsz]
            split
            · rfl
            · simp [Addr.add_lit]
          · by_cases hcl : cap = l.toNat
            · have hz : hb.toNat - l.toNat = 0 := by omega
              have hrz : (rows.drop l.toNat).take (hb.toNat - l.toNat) = [] := by rw [hz]; simp
              rw [hz, if_pos hcl]
              rw [List.take_zero]
              exact Rep.sl (rows := []) (s := 0) (fun _ _ => .nilFunc) (by simp) (by simp) (by simp) (by simp) (by simp) (by simp) (by simp)
            · rw [if_neg hcl]
              have hv : Value.slice (some ⟨b, o + l.toNat * e.2.1, none⟩) (hb.toNat - l.toNat) (cap - l.toNat) =
                  Value.slice (some ⟨b, o + l.toNat * e.2.1, none⟩) ((rows.drop l.toNat).take (hb.toNat - l.toNat)).length (cap - l.toNat) := by rw [hlen']
              rw [hv]
              refine .sl s (fun i j => c (l.toNat + i) j) (by simp) (by omega) (by omega) (fun i r hr => ?_) (fun i r j x hr hx => ?_) (fun i j hi hj => ?_) (fun i r j x hr hx => ?_)
              · simp only [List.getElem?_take, List.getElem?_drop] at hr
                split at hr
                · exact hss _ _ hr
                · simp at hr
              · simp only [List.getElem?_take, List.getElem?_drop] at hr
                split at hr
                · exact hkk _ _ _ _ hr hx
                · simp at hr
              · have hne : rows ≠ [] := by intro h; subst h; simp at h2; omega
                have h4 := hs2 hne
                subst h4
                have h5 := hii (l.toNat + i) j (by omega) hj
                rw [Nat.add_mul, ← Nat.add_assoc] at h5
                exact h5
              · simp only [List.getElem?_take, List.getElem?_drop] at hr
                split at hr
                · exact hrr _ _ _ _ hr hx
                · simp at hr
      · simp at h
    · simp at h
  · rename_i _ _ b off n cap e hs
    obtain ⟨inf, hu, hinf, hsz, _⟩ := slT_some hs
    split at h
    · rename_i l hb hlo hhi
      split at h
      · rename_i hc
        obtain ⟨h0, h1, h2⟩ := hc
        obtain rfl := Option.some.inj h
        cases hx with
        | sm _ _ _ _ hcn hln hcm =>
          have := sliceBounds_run (P := P) (w := w) (len := n) (cap := cap) (aBound_sound hl1 hl2 hlo) (aBound_sound hh1 hh2 hhi) h0 (by omega) (by omega)
          refine ⟨.slice (some ⟨b, (if cap = l.toNat then off else off + l.toNat * e.2.1), none⟩) (hb.toNat - l.toNat) (cap - l.toNat), ?_, ?_⟩
          · simp only [Instr.sliceAt, Sem.run_bind, run_underlying hu, Result.andThen_ok, Instr.slice, this, run_sizeOf' hinf, Sem.run_pure, hsz]
            split
            · rfl
            · simp [Addr.add_lit]
          · have hne : ¬ cap = l.toNat := by omega
            rw [if_neg hne]
            exact .sm _ _ _ _ (by omega) (by simp only [maxLen] at *; omega) (by omega)
      · split at h
        · rename_i hc
          obtain ⟨h0, h1, h2⟩ := hc
          cases hx with
          | sm _ _ _ _ hcn hln hcm =>
            have := sliceBounds_run (P := P) (w := w) (len := n) (cap := cap) (aBound_sound hl1 hl2 hlo) (aBound_sound hh1 hh2 hhi) h0 (by omega) (by omega)
            refine ⟨.slice (some ⟨b, (if cap = l.toNat then off else off + l.toNat * e.2.1), none⟩) (hb.toNat - l.toNat) (cap - l.toNat), ?_, ?_⟩
            · simp only [Instr.sliceAt, Sem.run_bind, run_underlying hu, Result.andThen_ok, Instr.slice, this, run_sizeOf' hinf, Sem.run_pure, hsz]
              split
              · rfl
              · simp [Addr.add_lit]
            · split at h
              · rename_i hl0
                obtain rfl := Option.some.inj h
                subst h1; subst hl0
                simp only [Int.toNat_zero, Nat.zero_mul, Nat.add_zero, ite_self, Nat.sub_zero]
                exact .sm _ _ _ _ (by omega) (by omega) hcm
              · obtain rfl := Option.some.inj h
                subst h1
                rw [Nat.sub_self]
                exact .empty .no (by simp) _ _
        · simp at h
    · simp at h
  · rename_i _ _ e hs
    obtain ⟨inf, hu, hinf, hsz, _⟩ := slT_some hs
    split at h
    · rename_i l hb hlo hhi
      split at h
      · rename_i hc
        obtain ⟨rfl, rfl⟩ := hc
        obtain rfl := Option.some.inj h
        cases hx with
        | mn a =>
          have := sliceBounds_run (P := P) (w := w) (len := 0) (cap := 0) (aBound_sound hl1 hl2 hlo) (aBound_sound hh1 hh2 hhi) (by omega) (by omega) (by omega)
          refine ⟨.slice a 0 0, ?_, .mn a⟩
          simp [Instr.sliceAt, Sem.run_bind, run_underlying hu, Result.andThen_ok, Instr.slice, this, run_sizeOf' hinf, Sem.run_pure, hsz]
      · simp at h
    · simp at h
  · rename_i _ _ b off hs
    split at h
    · rename_i _ _ e he
      split at h
      · rename_i hc
        obtain rfl := Option.some.inj h
        obtain ⟨et, inf, hu, hinf, hsz⟩ := arT_some he
        have h1 : lo' = none := by cases lo' with | none => rfl | some _ => simp at hl1
        have h2 : hi' = none := by cases hi' with | none => rfl | some _ => simp at hh1
        subst h1; subst h2
        cases hx with
        | ptr =>
          refine ⟨.slice (some ⟨b, off, none⟩) e.1 e.1, ?_, .sm _ _ _ _ (Nat.le_refl _) (by simp only [maxLen]; omega) (by simp only [Go.maxLen]; omega)⟩
          simp [Instr.sliceAt, run_underlying hu, Instr.sureAddr, Instr.sliceBounds, run_sizeOf' hinf, Addr.add]
      · simp at h
    · simp at h
  · simp at h

end
end Go.Rw
