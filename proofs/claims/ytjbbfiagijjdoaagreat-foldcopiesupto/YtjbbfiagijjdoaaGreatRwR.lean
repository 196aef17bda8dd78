/- Parts of the proof: what is used by the law. No condition. -/
import Derived.Test.YtjbbfiagijjdoaaGreatRwZ
set_option linter.unusedSimpArgs false
set_option linter.unusedVariables false
/- Arguments, read as plain data. No condition. -/
set_option linter.unusedSimpArgs false
set_option linter.unusedVariables false
namespace Go.Rw
open Go.ChangeShapes Go.WideShapes Go.ChangeAt Go.RowKit

/-- what a count of values must say -/
structure BulkOK {H : Type} (bk : DataW H → Nat) : Prop where
  one : ∀ d, 1 ≤ bk d
  slice : ∀ e s, (e.map bk).sum + 1 ≤ bk (.slice e s)
  agg : ∀ p, (p.map bk).sum ≤ bk (.agg p)

section
variable {H : Type} {P : Program} {bk : DataW H → Nat} {enc0 : TypeId × Value → H} {W : World}

/-- whatever is read of the type is plain data of this form -/
def Reads (P : Program) (bk : DataW H → Nat) (enc0 : TypeId × Value → H) (W : World) (t : TypeId) {α : Type} (enc : α → List AV) (good : α → Nat → Prop) : Prop :=
  ∀ (fuel : Nat) (cs : List Value) (x : DataW H × List MemPlace), DataW.trod enc0 P W 0 (fun _ => true) true fuel t cs = some x → bk x.1 ≤ maxLen → ∃ a, Reps (allI W) (enc a) cs ∧ good a (bk x.1)

theorem Reads.weaken {t : TypeId} {α β : Type} {enc : α → List AV} {enc' : β → List AV} {good : α → Nat → Prop} {good' : β → Nat → Prop} (h : Reads P bk enc0 W t enc good) (g : α → β) (he : ∀ a, enc' (g a) = enc a) (hg : ∀ a n, good a n → good' (g a) n) : Reads P bk enc0 W t enc' good' := by
  intro fuel cs x hx hb
  obtain ⟨a, h1, h2⟩ := h fuel cs x hx hb
  exact ⟨g a, by rw [he]; exact h1, hg _ _ h2⟩

theorem reps_one {I : Imm} {x : AV} {y : Value} (h : Rep I x y) : Reps I [x] [y] := ⟨rfl, fun j a b ha hb => by
  cases j with
  | zero => simp at ha hb; subst ha; subst hb; exact h
  | succ j => simp at ha⟩

theorem Reads.int {t : TypeId} {k : IntKind} (ht : P.underlying t = some (.int k)) : Reads P bk enc0 W t (fun n : Int => [.v (.int k n)]) (fun n _ => k.min ≤ n ∧ n ≤ k.max) := by
  intro fuel cs x hx _
  obtain ⟨n, rfl, rfl, hw⟩ := DataW.trod_int ht hx
  simp only [Lit.wf, Bool.and_eq_true, decide_eq_true_eq] at hw
  exact ⟨n, reps_one (.v _), hw⟩
theorem Reads.bool {t : TypeId} (ht : P.underlying t = some .bool) : Reads P bk enc0 W t (fun b : Bool => [.v (.bool b)]) (fun _ _ => True) := by
  intro fuel cs x hx _
  obtain ⟨b, rfl, rfl⟩ := DataW.trod_bool ht hx
  exact ⟨b, reps_one (.v _), trivial⟩
theorem Reads.float {t : TypeId} (ht : P.underlying t = some (.float .f64)) : Reads P bk enc0 W t (fun b : Nat => [.v (.float .f64 b)]) (fun b _ => b < 18446744073709551616) := by
  intro fuel cs x hx _
  cases fuel with
  | zero => simp [DataW.trod] at hx
  | succ n =>
    unfold DataW.trod at hx
    rw [ht] at hx
    split at hx
    case h_3 he =>
      simp only [Option.some.injEq, TypeDesc.float.injEq] at he
      subst he
      split at hx
      · rename_i hw
        obtain ⟨rfl, hw⟩ := hw
        simp only [Lit.wf, decide_eq_true_eq] at hw
        exact ⟨_, reps_one (.v _), by simpa using hw⟩
      · simp at hx
    all_goals first
      | (simp at hx; done)
      | (rename_i he; simp at he; done)
      | (rename_i he _; simp at he; done)

theorem le_sum_mem {a : Nat} : ∀ {l : List Nat}, a ∈ l → a ≤ l.sum
  | x :: l, h => by
    rcases List.mem_cons.1 h with rfl | h
    · simp
    · have := le_sum_mem h; simp only [List.sum_cons]; omega

/-- a list's elements are good, and weigh so much together -/
inductive Goods {α : Type} (good : α → Nat → Prop) : List α → Nat → Prop
  | nil (n : Nat) : Goods good [] n
  | cons {a : α} {l : List α} {m n k : Nat} (h : good a m) (h1 : 1 ≤ m) (hl : Goods good l n) (hk : m + n ≤ k) : Goods good (a :: l) k

theorem Goods.mono {α : Type} {good good' : α → Nat → Prop} (hg : ∀ a n, good a n → good' a n) {l : List α} {n : Nat} (h : Goods good l n) : Goods good' l n := by
  induction h with
  | nil n => exact .nil n
  | cons h h1 _ hk ih => exact .cons (hg _ _ h) h1 ih hk
theorem Goods.le {α : Type} {good : α → Nat → Prop} {l : List α} {n k : Nat} (h : Goods good l n) (hk : n ≤ k) : Goods good l k := by
  cases h with
  | nil => exact .nil k
  | cons h h1 hl hk' => exact .cons h h1 hl (by omega)
theorem Goods.length {α : Type} {good : α → Nat → Prop} {l : List α} {n : Nat} (h : Goods good l n) : l.length ≤ n := by
  induction h with
  | nil n => simp
  | cons h h1 _ hk ih => simp only [List.length_cons]; omega
theorem Goods.mem {α : Type} {good : α → Nat → Prop} {l : List α} {n : Nat} (h : Goods good l n) : ∀ a ∈ l, ∃ m, m ≤ n ∧ good a m := by
  induction h with
  | nil n => simp
  | cons h h1 _ hk ih =>
    intro a ha
    rcases List.mem_cons.1 ha with rfl | ha
    · exact ⟨_, by omega, h⟩
    · obtain ⟨m, h1, h2⟩ := ih a ha; exact ⟨m, by omega, h2⟩

theorem Goods.of {α : Type} {good : α → Nat → Prop} : ∀ {l : List α} {ws : List Nat}, l.length = ws.length → (∀ (i : Nat) (a : α) (w : Nat), l[i]? = some a → ws[i]? = some w → good a w ∧ 1 ≤ w) → Goods good l ws.sum
  | [], [], _, _ => .nil _
  | a :: l, w :: ws, h, hg => by
    obtain ⟨h1, h2⟩ := hg 0 a w rfl rfl
    exact .cons h1 h2 (Goods.of (by simpa using h) fun i a w ha hw => hg (i + 1) a w (by simpa using ha) (by simpa using hw)) (by simp)

theorem Reads.slice (hbk : BulkOK bk) {t e : TypeId} (ht : P.underlying t = some (.slice e)) {sz : Nat} (hsz : P.cellsOf e = sz) (hpos : 0 < sz) {α : Type} {encE : α → List AV} {good : α → Nat → Prop} (hr : Reads P bk enc0 W e encE good)
    (hc : ∀ a, ∀ x ∈ encE a, cellAV x = true) : Reads P bk enc0 W t (fun l : List α => [.sl .no (l.map encE)]) (fun l n => Goods good l n) := by
  intro fuel cs x hx hb
  rcases DataW.trod_slice ht hx with ⟨rfl, rfl⟩ | ⟨a, len, cap, elems, rest, n, rfl, rfl, rfl, _, hlc, hcm, hlen, hel, _⟩
  · exact ⟨[], reps_one (.nil .no), .nil _⟩
  · have hbs := hbk.slice (elems.map (·.1)) (rest.map (·.1))
    simp only at hb
    have hsum : ((elems.map (·.1)).map bk).sum ≤ bk (.slice (elems.map (·.1)) (rest.map (·.1))) := by omega
    rw [hsz] at hel
    have hmem : ∀ (i : Nat) (y : DataW H × List MemPlace), elems[i]? = some y → bk y.1 ≤ ((elems.map (·.1)).map bk).sum := fun i y hy => by
      have : bk y.1 ∈ (elems.map (·.1)).map bk := by simp; exact ⟨y.1, ⟨y.2, List.mem_of_getElem? hy⟩, rfl⟩
      exact le_sum_mem this
    have each : ∀ i : Fin len, ∃ (z : α) (ci : List Value), W.cells? 0 (a.add (i.val * sz)) sz = some ci ∧ Reps (allI W) (encE z) ci ∧ ∃ y, elems[i.val]? = some y ∧ good z (bk y.1) := by
      intro i
      have h1 := hel i.val i.isLt
      have h2 : elems[i.val]? = some (elems[i.val]'(by rw [hlen]; exact i.isLt)) := List.getElem?_eq_getElem _
      rw [h2] at h1
      cases hci : W.cells? 0 (a.add (i.val * sz)) sz with
      | none => rw [hci] at h1; simp at h1
      | some ci =>
        rw [hci] at h1
        simp only [Option.bind_some] at h1
        have h3 := hmem i.val _ h2
        obtain ⟨z, hz1, hz2⟩ := hr n ci _ h1 (by omega)
        exact ⟨z, ci, rfl, hz1, _, h2, hz2⟩
    obtain ⟨g, hg⟩ := Classical.axiomOfChoice each
    have hg2 : ∃ c : Fin len → List Value, ∀ i, W.cells? 0 (a.add (i.val * sz)) sz = some (c i) ∧ Reps (allI W) (encE (g i)) (c i) := by
      obtain ⟨c, hc⟩ := Classical.axiomOfChoice hg
      exact ⟨c, fun i => ⟨(hc i).1, (hc i).2.1⟩⟩
    obtain ⟨c, hcc⟩ := hg2
    have hlof : (List.ofFn g).length = len := by simp
    have hget : ∀ (i : Nat) (z : α), (List.ofFn g)[i]? = some z → ∃ h : i < len, z = g ⟨i, h⟩ := fun i z hz => by
      have hi : i < len := by
        have := lt_of_get hz
        simpa using this
      refine ⟨hi, ?_⟩
      rw [List.getElem?_eq_getElem (by simpa using hi)] at hz
      simpa using (Option.some.inj hz).symm
    refine ⟨List.ofFn g, reps_one ?_, ?_⟩
    · by_cases h0 : len = 0
      · subst h0
        have : List.ofFn g = [] := by simp
        rw [this]
        exact .empty .no (by simp) a cap
      · have hspot : a.spot = none := by
          have h1 := (hcc ⟨0, by omega⟩).1
          obtain ⟨_, h2, h3⟩ := World.cells?_some h1
          have h4 := h3 0 hpos
          have h5 : (c ⟨0, by omega⟩)[0]? = some ((c ⟨0, by omega⟩)[0]'(by omega)) := List.getElem?_eq_getElem _
          rw [h5] at h4
          have := World.cell?_spot h4
          simpa [Addr.add] using this
        obtain ⟨b, o, sp⟩ := a
        simp only at hspot
        subst hspot
        have hlm : len ≤ maxLen := by
          have h1 : elems.length ≤ ((elems.map (·.1)).map bk).sum := by
            have : ∀ l : List (DataW H), l.length ≤ (l.map bk).sum := by
              intro l
              induction l with
              | nil => simp
              | cons d l ih => have := hbk.one d; simp only [List.length_cons, List.map_cons, List.sum_cons]; omega
            simpa using this (elems.map (·.1))
          omega
        have hrl : ((List.ofFn g).map encE).length = len := by simp
        have hcell : ∀ (i : Nat) (hi : i < len) (j : Nat), j < sz → allI W b (o + i * sz + j) = (c ⟨i, hi⟩)[j]? := fun i hi j hj => by
          obtain ⟨_, h2, h3⟩ := World.cells?_some (hcc ⟨i, hi⟩).1
          have h4 := h3 j hj
          rw [Addr.add_lit, Addr.add_lit] at h4
          exact h4
        have hclen : ∀ (i : Nat) (hi : i < len), (c ⟨i, hi⟩).length = sz := fun i hi => (World.cells?_some (hcc ⟨i, hi⟩).1).2.1
        have key : Rep (allI W) (.sl .no ((List.ofFn g).map encE)) (.slice (some ⟨b, o, none⟩) ((List.ofFn g).map encE).length cap) := by
          refine .sl sz (fun i j => if hi : i < len then (c ⟨i, hi⟩).getD j undef else undef) (by simp) (by omega) (by omega) (fun i r hr => ?_) (fun i r j x hr hx => ?_) (fun i j hi hj => ?_) (fun i r j x hr hx => ?_)
          · simp only [List.getElem?_map] at hr
            cases hz : (List.ofFn g)[i]? with
            | none => simp [hz] at hr
            | some z =>
              simp [hz] at hr
              obtain ⟨hi, rfl⟩ := hget i z hz
              rw [← hr, (hcc ⟨i, hi⟩).2.1, hclen i hi]
          · simp only [List.getElem?_map] at hr
            cases hz : (List.ofFn g)[i]? with
            | none => simp [hz] at hr
            | some z =>
              simp [hz] at hr
              subst hr
              exact hc z x (List.mem_of_getElem? hx)
          · have hi' : i < len := by omega
            simp only [hi', dif_pos]
            rw [hcell i hi' j hj, List.getD_eq_getElem?_getD]
            have : j < (c ⟨i, hi'⟩).length := by rw [hclen i hi']; exact hj
            simp [this]
          · simp only [List.getElem?_map] at hr
            cases hz : (List.ofFn g)[i]? with
            | none => simp [hz] at hr
            | some z =>
              simp [hz] at hr
              obtain ⟨hi, rfl⟩ := hget i z hz
              subst hr
              simp only [hi, dif_pos]
              have h1 := (hcc ⟨i, hi⟩).2
              have h2 := lt_of_get hx
              rw [h1.1] at h2
              have h3 : (c ⟨i, hi⟩)[j]? = some ((c ⟨i, hi⟩)[j]) := List.getElem?_eq_getElem h2
              rw [List.getD_eq_getElem?_getD, h3]
              exact h1.2 j x _ hx h3
        rw [hrl] at key
        exact key
    · have h1 : Goods good (List.ofFn g) ((elems.map (·.1)).map bk).sum := by
        refine Goods.of (by simp [hlen]) fun i z w hz hw => ?_
        obtain ⟨hi, rfl⟩ := hget i z hz
        obtain ⟨_, _, _, y, hy, hgood⟩ := hg ⟨i, hi⟩
        simp only [List.getElem?_map, hy, Option.map_some, Option.some.injEq] at hw
        subst hw
        exact ⟨hgood, hbk.one _⟩
      exact h1.le hsum

/-- the fields of a struct, from a place on -/
def FReads (P : Program) (bk : DataW H → Nat) (enc0 : TypeId × Value → H) (W : World) (N : Nat) (fs : List Field) (o : Nat) {α : Type} (enc : α → List AV) (good : α → Nat → Prop) : Prop :=
  ∀ (n : Nat) (cs : List Value) (xs : List (DataW H × List MemPlace)), cs.length = N → xs.length = fs.length → (∀ (i : Nat) (f : Field), fs[i]? = some f → DataW.trod enc0 P W 0 (fun _ => true) true n f.type ((cs.drop f.offset).take (P.cellsOf f.type)) = xs[i]?) →
    (xs.map fun x => bk x.1).sum ≤ maxLen → ∃ a, Reps (allI W) (enc a) (cs.drop o) ∧ good a (xs.map fun x => bk x.1).sum

theorem FReads.nil {N : Nat} : FReads P bk enc0 W N [] N (fun _ : Unit => []) (fun _ _ => True) := by
  intro n cs xs hN hl _ _
  refine ⟨(), ?_, trivial⟩
  rw [← hN, List.drop_length]
  exact ⟨rfl, by simp⟩

theorem FReads.cons {N o sz : Nat} {f : Field} {fs : List Field} {α β : Type} {encA : α → List AV} {goodA : α → Nat → Prop} {encB : β → List AV} {goodB : β → Nat → Prop} (ho : f.offset = o) (hsz : P.cellsOf f.type = sz)
    (h1 : Reads P bk enc0 W f.type encA goodA) (h2 : FReads P bk enc0 W N fs (o + sz) encB goodB) : FReads P bk enc0 W N (f :: fs) o (fun p : α × β => encA p.1 ++ encB p.2) (fun p n => ∃ m k, m + k ≤ n ∧ goodA p.1 m ∧ goodB p.2 k) := by
  intro n cs xs hN hl hx hb
  cases xs with
  | nil => simp at hl
  | cons x xs =>
    have hx0 := hx 0 f rfl
    simp only [List.getElem?_cons_zero, ho, hsz] at hx0
    simp only [List.map_cons, List.sum_cons] at hb ⊢
    obtain ⟨a, ha, hga⟩ := h1 n _ x hx0 (by omega)
    obtain ⟨b, hb', hgb⟩ := h2 n cs xs hN (by simpa using hl) (fun i f' hf' => by have := hx (i + 1) f' (by simpa using hf'); simpa using this) (by omega)
    refine ⟨(a, b), ?_, _, _, Nat.le_refl _, hga, hgb⟩
    have : cs.drop o = (cs.drop o).take sz ++ cs.drop (o + sz) := by rw [← List.drop_drop, List.take_append_drop]
    rw [this]
    exact cell_reps ha _ _ hb'

theorem Reads.struct (hbk : BulkOK bk) {t : TypeId} {fs : Array Field} (ht : P.underlying t = some (.struct fs)) {N : Nat} (hN : P.cellsOf t = N) {α : Type} {enc : α → List AV} {good : α → Nat → Prop} (h : FReads P bk enc0 W N fs.toList 0 enc good)
    (hm : ∀ a m n, good a m → m ≤ n → good a n) : Reads P bk enc0 W t enc good := by
  intro fuel cs x hx hb
  obtain ⟨xs, n, rfl, rfl, hl, hxl, hf⟩ := DataW.trod_struct ht hx
  have h1 := hbk.agg (xs.map (·.1))
  have h2 : ((xs.map (·.1)).map bk) = xs.map fun x => bk x.1 := by rw [List.map_map]; rfl
  rw [h2] at h1
  simp only at hb
  obtain ⟨a, ha, hg⟩ := h n cs xs (by rw [hl, hN]) (by simpa using hxl) (fun i f hf' => hf i f (by simpa using hf')) (by omega)
  exact ⟨a, by simpa using ha, hm _ _ _ hg h1⟩
end
end Go.Rw
